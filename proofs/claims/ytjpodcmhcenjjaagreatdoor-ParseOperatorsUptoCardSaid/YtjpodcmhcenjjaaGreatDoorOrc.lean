/- Lemmas that the law of this claim needs (ZJ ZV VmR VmRT VmR5 VmRX VmRS ZB PsA PsB PsC PsE PsF PsG Z9). No condition. -/
import Derived.Test.YtjpodcmhcenjjaaGreatDoorOrb
import Derived.Laws.CopyRow
import Derived.Laws.MakeOwn
import Derived.RangeFuncOwn
import Derived.Lib.TrimByte
import Derived.Lib.Repeat
set_option linter.unusedVariables false
set_option linter.unusedSimpArgs false
set_option linter.unusedSectionVars false
set_option maxRecDepth 100000
set_option maxHeartbeats 64000000
section
section
namespace Go.Proofs.YtjpodcmhcenjjaaGreatDoor
structure bW where
 op:Int
 name:Nm
 n:Int
 kids:List bW
 params:List (Nm×Ty)
 alts:List (Nm×List Nm×bW)
 types:List Ty
abbrev psV:=Nm×Nm
structure qT where
 name:Nm
 vars:List psV
 hyp:Pr
 goal:Pr
structure b2H where
 vars:List Nm
 xN:List psV
 abs:List psV
 bounds:List qT
 type:Ty
 b4e:List Pr
structure kR where
 name:Nm
 params:List Nm
 body:bW
 mode:Int
 typed:Bool
 sig:b2H
structure a3K where
 name:Nm
 names:List Nm
 fields:List Ty
structure a9z where
 name:Nm
 vars:List Nm
 a5o:List psV
 cons:List a3K
structure a5p where
 name:Nm
 var:Nm
 methods:List (Nm×Ty)
structure a9A where
 cls:Nm
 type:Ty
 xN:List psV
 defs:List kR
structure a9B where
 name:Nm
 data:Nm
 result:Nm
 cases:List (Nm×List Nm×Pr)
 inv:Pr
structure a9C where
 name:Nm
 vars:List psV
 body:Pr
structure kS where
 a9D:List a9z
 a5q:List a5p
 insts:List a9A
 a9E:List a9B
 b6L:List a9C
 defs:List kR
def mD:Pr:=⟨0,[],0,[]⟩
def pC:Ty:=⟨0,[],[],[],mD,[]⟩
def a1u:bW:=⟨0,[],0,[],[],[],[]⟩
def a7Y:b2H:=⟨[],[],[],[],pC,[]⟩
def psT (op:Int)(name:Nm):Ty:=⟨op,name,[],[],mD,[]⟩
def bJ (op:Int)(kids:List bW):bW:=⟨op,[],0,kids,[],[],[]⟩
inductive mH (α:Type) where
 |ok (a:α) (at':Nat)
 |bad (line err:Int)
def aR (α:Type):=Nat→mH α
def aR.aO {α:Type}(a:α):aR α:=fun i=> .ok a i
def aR.sF {α β:Type}(x:aR α)(f:α→aR β):aR β:=fun i=>match x i with
 | .ok a j=>f a j
 | .bad n e=> .bad n e
instance:Monad aR where
 pure:=aR.aO
 bind:=aR.sF
@[simp] theorem gI {α:Type}(a:α)(i:Nat):(pure a:aR α) i= .ok a i:=rfl
theorem eC {α β:Type}(x:aR α)(f:α→aR β)(i:Nat):(x >>=f) i=match x i with
 | .ok a j=>f a j
 | .bad n e=> .bad n e:=rfl
theorem aY {α β:Type}{x:aR α}{f:α→aR β}{i j:Nat}{a:α}(h:x i= .ok a j):(x >>=f) i=f a j:=by rw [eC,h]
theorem cW {α β:Type}{x:aR α}{f:α→aR β}{i:Nat}{n e:Int}(h:x i= .bad n e):(x >>=f) i= .bad n e:=by rw [eC,h]
section
variable (kw:Nm→Bool) (andP:Pr→Pr→Pr) (rdP:List Tok→Nat→Nat→mH Pr) (l:List Tok)
def aK (i:Nat):Tok:=if i<l.length then l.getD i ⟨0,[],0,0⟩ else l.getLastD ⟨0,[],0,0⟩
def dN (t:Tok)(s:Nm):Bool:=(decide (t.kind=1)||decide (t.kind=4)||decide (t.kind=2))&&decide (t.text=s)
def jJ (t:Tok):Bool:=decide (t.kind=1)&& !kw t.text
def kT (t:Tok):Bool:=decide (t.kind=2)
def aJ (i:Nat)(s:Nm):Bool:=dN (aK l i) s
def cH {α:Type}:aR α:=fun i=> .bad (aK l i).line 14
def cM (s:Nm):aR Bool:=fun i=>if aJ l i s then .ok true (i+1) else .ok false i
def aL:List Nm→aR Unit
 |[]=>pure ()
 |s::r=>fun i=>if aJ l i s then aL r (i+1) else cH l i
def mE (ok:Tok→Bool):aR Nm:=fun i=>if ok (aK l i) then .ok (aK l i).text (i+1) else cH l i
def bN:aR Nm:=mE l (jJ kw)
def eV:aR Nm:=mE l kT
def a0H:aR Nm:=mE l fun t=>jJ kw t||kT t
def gR {α:Type}(c:Nm)(one:α→aR α):Nat→α→aR α
 |0,_=>fun _=> .bad 0 0
 |g+1,a=>fun i=>match one a i with
  | .bad n e=> .bad n e
  | .ok b j=>if aJ l j c then gR c one g b (j+1) else .ok b j
def eO {α:Type}(c:Nm)(one:α→aR α)(a:α):aR α:=gR l c one (l.length+2) a
def dF {α:Type}(c:Nat→Bool)(one:α→aR α):Nat→α→aR α
 |0,_=>fun _=> .bad 0 0
 |g+1,a=>fun i=>if c i then (match one a i with
  | .bad n e=> .bad n e
  | .ok b j=>dF c one g b j) else .ok a i
def oW {α:Type}(c:Nat→Bool)(one:α→aR α)(a:α):aR α:=dF c one (l.length+2) a
def cQ:aR Pr:=fun i=>rdP l i l.length
def cV:aR (List Nm):=do
 aL l [[40]]
 let out ← eO l [44] (fun out=>do let w ← bN kw l;pure (out++[w])) []
 aL l [[41]]
 pure out
def tX (v:Bool):aR (List psV):=eO l [44] (fun out=>do
 let b ← (if v then cM l [118] else pure false)
 let name ← (if b then pure [118] else bN kw l)
 aL l [[58]]
 let s ← a0H kw l
 pure (out++[(name,s)])) []
def jK:aR (Option Ty):=fun i=>
 if aJ l i [73,110,116] then .ok (some (psT 1 [])) (i+1)
 else if aJ l i [66,111,111,108] then .ok (some (psT 2 [])) (i+1)
 else if aJ l i [67,101,108,108] then .ok (some (psT 3 [])) (i+1)
 else if jJ kw (aK l i) then .ok (some (psT 5 (aK l i).text)) (i+1)
 else .ok none i
section
variable (ty:aR Ty)
def oB:aR Ty:=do
 aL l [[123],[118],[58]]
 let t ← ty
 if t.op=6 then cH l else do
 aL l [[124]]
 let p ← cQ rdP l
 aL l [[125]]
 pure { t with pred:=if t.pred.op=0 then p else andP t.pred p }
def a9F (i:Nat):Bool:=jJ kw (aK l i)||kT (aK l i)||aJ l i [123]||aJ l i [40]
def dZ:aR Ty:=do
 let b ← jK kw l
 match b with
 |some t=>pure t
 |none=>
  fun i=>
  if kT (aK l i) then .ok (psT 4 (aK l i).text) (i+1)
  else if aJ l i [123] then oB andP rdP l ty i
  else (do
   aL l [[40]]
   let t ← ty
   aL l [[41]]
   pure t:aR Ty) i
def mL:aR Ty:=do
 let name ← eV l
 let args ← oW l (a9F kw l) (fun out=>do let t ← dZ kw andP rdP l ty;pure (out++[t])) []
 let b ← cM l [60]
 if b then do
  let ps ← eO l [44] (fun out=>do
   aL l [[118],[46]]
   let p ← cQ rdP l
   pure (out++[p])) []
  aL l [[62]]
  pure { psT 4 name with args:=args,a5o:=ps }
 else pure { psT 4 name with args:=args }
def qE:aR Ty:=do
 aL l [[40]]
 let (ns,ts) ← (fun i=>if jJ kw (aK l i)&&dN (aK l (i+1)) [58] then
   eO l [44] (fun (out:List Nm×List Ty)=>do
    let w ← bN kw l
    aL l [[58]]
    let t ← ty
    pure (out.1++[w],out.2++[t])) ([],[]) i
  else eO l [44] (fun (out:List Nm×List Ty)=>do
    let t ← ty
    pure (out.1,out.2++[t])) ([],[]) i:aR (List Nm×List Ty))
 aL l [[41]]
 fun i=>
  if decide (ns.length=0)&&decide (ts.length=1)&& !aJ l i [45,62] then .ok (ts.headD pC) i
  else (do
   aL l [[45,62]]
   let t ← ty
   pure { psT 6 [] with names:=ns,args:=ts++[t] }:aR Ty) i
def rI:aR Ty:=do
 let b ← jK kw l
 match b with
 |some t=>pure t
 |none=>
  fun i=>
  if kT (aK l i) then mL kw andP rdP l ty i
  else if aJ l i [123] then oB andP rdP l ty i
  else qE kw l ty i
end
def rJ:Nat→aR Ty
 |0=>fun _=> .bad 0 0
 |n+1=>rI kw andP rdP l (rJ n)
def cB:aR Ty:=rJ kw andP rdP l (l.length+2)
def mM:aR (List Ty):=do
 let b ← cM l [91]
 if b then do
  let out ← eO l [44] (fun out=>do let t ← cB kw andP rdP l;pure (out++[t])) []
  aL l [[93]]
  pure out
 else pure []
section
variable (ex:Nat→aR bW)
def eN:aR (List bW):=do
 aL l [[40]]
 let out ← eO l [44] (fun out=>do let e ← ex 0;pure (out++[e])) []
 aL l [[41]]
 pure out
def sY:aR bW:=do
 let name ← bN kw l
 let b ← cM l [58]
 let ts ← (if b then do let t ← cB kw andP rdP l;pure [t] else pure []:aR (List Ty))
 aL l [[61]]
 let a ← ex 0
 aL l [[105,110]]
 let c ← ex 0
 pure { bJ 7 [a,c] with name:=name,types:=ts }
def mN:aR bW:=do
 let e ← ex 0
 aL l [[111,102],[123]]
 let alts ← eO l [59] (fun out=>do
  let c ← eV l
  let ns ← (fun i=>if aJ l i [40] then cV kw l i else .ok [] i:aR (List Nm))
  aL l [[45,62]]
  let b ← ex 0
  pure (out++[(c,ns,b)])) []
 aL l [[125]]
 pure { bJ 9 [e] with alts:=alts }
def sZ:aR bW:=do
 aL l [[40]]
 let ps ← eO l [44] (fun out=>do
  let w ← bN kw l
  let b ← cM l [58]
  let t ← (if b then cB kw andP rdP l else pure pC)
  pure (out++[(w,t)])) []
 aL l [[41],[45,62]]
 let e ← ex 0
 pure { bJ 6 [e] with params:=ps }
def rV (op:Int):aR bW:=do
 aL l [[40]]
 let e ← ex 0
 aL l [[41]]
 pure (bJ op [e])
def dI:aR bW:=do
 aL l [[40]]
 fun i=>
  if aJ l i [45]&&decide ((aK l (i+1)).kind=3)&&dN (aK l (i+2)) [41] then .ok ⟨1,[], -(aK l (i+1)).n,[],[],[],[]⟩ (i+3)
  else (do
   let e ← ex 0
   let b ← cM l [58]
   let e ← (if b then do let t ← cB kw andP rdP l;pure { bJ 26 [e] with types:=[t] } else pure e:aR bW)
   aL l [[41]]
   pure e:aR bW) i
def mV:aR bW:=fun i=>
 if (aK l i).kind=3 then .ok ⟨1,[],(aK l i).n,[],[],[],[]⟩ (i+1)
 else if aJ l i [116,114,117,101] then .ok ⟨2,[],1,[],[],[],[]⟩ (i+1)
 else if aJ l i [102,97,108,115,101] then .ok ⟨2,[],0,[],[],[],[]⟩ (i+1)
 else if aJ l i [110,101,119] then rV l ex 22 (i+1)
 else if aJ l i [103,101,116] then rV l ex 23 (i+1)
 else if aJ l i [115,101,116] then (do
  aL l [[40]]
  let a ← ex 0
  aL l [[44]]
  let b ← ex 0
  aL l [[41]]
  pure (bJ 24 [a,b]):aR bW) (i+1)
 else if jJ kw (aK l i) then
  (if !aJ l (i+1) [91]&& !aJ l (i+1) [40] then .ok { bJ 3 [] with name:=(aK l i).text } (i+1)
  else (do
   let ts ← mM kw andP rdP l
   let ks ← eN l ex
   pure { bJ 5 ks with name:=(aK l i).text,types:=ts }:aR bW) (i+1))
 else if kT (aK l i) then (do
  let ts ← mM kw andP rdP l
  let ks ← (fun j=>if aJ l j [40] then eN l ex j else .ok [] j:aR (List bW))
  pure { bJ 4 ks with name:=(aK l i).text,types:=ts }:aR bW) (i+1)
 else dI kw andP rdP l ex i
def mA:aR bW:=fun i=>if aJ l i [45] then (do let e ← ex 7;pure (bJ 15 [e]):aR bW) (i+1) else mV kw andP rdP l ex i
def cN (ops:List (Nm×Int))(one:aR bW):Nat→bW→aR bW
 |0,_=>fun _=> .bad 0 0
 |g+1,e=>fun i=>match ops.find? fun p=>aJ l i p.1 with
  |none=> .ok e i
  |some p=>match one (i+1) with
   | .bad n e=> .bad n e
   | .ok x j=>cN ops one g (bJ p.2 [e,x]) j
def pR (ops:List (Nm×Int))(one:aR bW):aR bW:=do
 let e ← one
 cN l ops one (l.length+2) e
def tA:aR bW:=pR l [([42],12),([100,105,118],13),([109,111,100],14)] (mA kw andP rdP l ex)
def bX:aR bW:=pR l [([43],10),([45],11)] (tA kw andP rdP l ex)
def kU:aR bW:=do
 let e ← bX kw andP rdP l ex
 fun i=>
  if aJ l i [61,61] then (do let x ← bX kw andP rdP l ex;pure (bJ 16 [e,x]):aR bW) (i+1)
  else if aJ l i [33,61] then (do let x ← bX kw andP rdP l ex;pure (bJ 21 [bJ 16 [e,x]]):aR bW) (i+1)
  else if aJ l i [60] then (do let x ← bX kw andP rdP l ex;pure (bJ 17 [e,x]):aR bW) (i+1)
  else if aJ l i [60,61] then (do let x ← bX kw andP rdP l ex;pure (bJ 18 [e,x]):aR bW) (i+1)
  else if aJ l i [62] then (do let x ← bX kw andP rdP l ex;pure (bJ 17 [x,e]):aR bW) (i+1)
  else if aJ l i [62,61] then (do let x ← bX kw andP rdP l ex;pure (bJ 18 [x,e]):aR bW) (i+1)
  else .ok e i
def mP:aR bW:=fun i=>if aJ l i [33] then (do let e ← ex 3;pure (bJ 21 [e]):aR bW) (i+1) else kU kw andP rdP l ex i
def a4q:aR bW:=pR l [([38,38],19)] (mP kw andP rdP l ex)
def xO:aR bW:=pR l [([124,124],20)] (a4q kw andP rdP l ex)
def sH:aR bW:=fun i=>
 if aJ l i [108,101,116] then sY kw andP rdP l ex (i+1)
 else if aJ l i [105,102] then (do
  let a ← ex 0
  aL l [[116,104,101,110]]
  let b ← ex 0
  aL l [[101,108,115,101]]
  let c ← ex 0
  pure (bJ 8 [a,b,c]):aR bW) (i+1)
 else if aJ l i [99,97,115,101] then mN kw l ex (i+1)
 else if aJ l i [102,117,110] then sZ kw andP rdP l ex (i+1)
 else if aJ l i [117,115,101] then (do
  let name ← bN kw l
  let ks ← eN l ex
  aL l [[105,110]]
  let b ← ex 0
  pure { bJ 25 (ks++[b]) with name:=name }:aR bW) (i+1)
 else xO kw andP rdP l ex i
end
def jG:Nat→Nat→aR bW
 |0,_=>fun _=> .bad 0 0
 |n+1,k=>if k=7 then mA kw andP rdP l (jG n) else if k=3 then mP kw andP rdP l (jG n) else sH kw andP rdP l (jG n)
def a2b:aR bW:=jG kw andP rdP l (l.length+2) 0
def uO:aR (List psV):=eO l [44] (fun out=>do
 let c ← eV l
 let w ← bN kw l
 pure (out++[(c,w)])) []
def uP:aR qT:=do
 let name ← bN kw l
 aL l [[40]]
 let vs ← tX kw l false
 aL l [[41]]
 let h ← cQ rdP l
 aL l [[45,62]]
 let g ← cQ rdP l
 aL l [[46]]
 pure ⟨name,vs,h,g⟩
def vF:Nat→Int→Nat→Nat
 |0,_,_=>l.length
 |g+1,d,i=>if i<l.length then (if dN (aK l i) [40] then vF g (d+1) (i+1) else if dN (aK l i) [41] then vF g (d-1) (i+1) else if dN (aK l i) [61]&&decide (d≤0) then i else vF g d (i+1)) else l.length
def a1o:aR b2H:=do
 let b ← cM l [102,111,114,97,108,108]
 let vs ← (if b then do
  let w ← bN kw l
  let ws ← oW l (fun i=>jJ kw (aK l i)) (fun out=>do let w ← bN kw l;pure (out++[w])) [w]
  aL l [[46]]
  pure ws else pure []:aR (List Nm))
 let b ← cM l [119,104,101,114,101]
 let ns ← (if b then do
  let ns ← uO kw l
  aL l [[46]]
  pure ns else pure []:aR (List psV))
 let b ← cM l [60]
 let abs ← (if b then do
  let abs ← tX kw l false
  aL l [[62],[46]]
  pure abs else pure []:aR (List psV))
 let bs ← oW l (fun i=>aJ l i [98,111,117,110,100]) (fun out=>do
  aL l [[98,111,117,110,100]]
  let b ← uP kw rdP l
  pure (out++[b])) []
 let t ← cB kw andP rdP l
 let b ← cM l [109,101,116,114,105,99]
 let ms ← (if b then (fun i=>eO l [44] (fun out=>do
  let p ← (fun j=>rdP l j (vF l (l.length+1) 0 i):aR Pr)
  pure (out++[p])) [] i) else pure []:aR (List Pr))
 pure ⟨vs,ns,abs,bs,t,ms⟩
def a0I (mode:Int):aR kR:=do
 let name ← bN kw l
 let ps ← (fun i=>if aJ l i [40] then (if dN (aK l (i+1)) [41] then .ok [] (i+2) else cV kw l i) else .ok [] i:aR (List Nm))
 pure ⟨name,ps,a1u,mode,false,a7Y⟩
def a0J (d:kR):aR (Option kR):=do
 aL l [[61]]
 let e ← a2b kw andP rdP l
 pure (some { d with body:=e })
def xP:aR (Option kR):=fun i=>
 if aJ l i [100,101,102] then (do
  let d ← a0I kw l 0
  let b ← cM l [58]
  let d ← (if b then do let s ← a1o kw andP rdP l;pure { d with typed:=true,sig:=s } else pure d:aR kR)
  a0J kw andP rdP l d:aR (Option kR)) (i+1)
 else if aJ l i [97,115,115,117,109,101] then (do
  let d ← a0I kw l 1
  aL l [[58]]
  let s ← a1o kw andP rdP l
  pure (some { d with typed:=true,sig:=s }):aR (Option kR)) (i+1)
 else if aJ l i [114,101,102,108,101,99,116] then (do
  let d ← a0I kw l 2
  aL l [[58]]
  let s ← a1o kw andP rdP l
  a0J kw andP rdP l { d with typed:=true,sig:=s }:aR (Option kR)) (i+1)
 else .ok none i
def a7D:aR a3K:=do
 let name ← eV l
 let b ← cM l [40]
 if b then do
  let (ns,ts) ← eO l [44] (fun (out:List Nm×List Ty)=>do
   let w ← bN kw l
   aL l [[58]]
   let t ← cB kw andP rdP l
   pure (out.1++[w],out.2++[t])) ([],[])
  aL l [[41]]
  pure ⟨name,ns,ts⟩
 else pure ⟨name,[],[]⟩
def a0K:aR a9z:=do
 let name ← eV l
 let vs ← oW l (fun i=>jJ kw (aK l i)) (fun out=>do let w ← bN kw l;pure (out++[w])) []
 let b ← cM l [60]
 let ps ← (if b then do
  let ps ← tX kw l false
  aL l [[62]]
  pure ps else pure []:aR (List psV))
 aL l [[61]]
 let cs ← eO l [124] (fun out=>do let c ← a7D kw andP rdP l;pure (out++[c])) []
 pure ⟨name,vs,ps,cs⟩
def wG:aR a5p:=do
 let name ← eV l
 let v ← bN kw l
 aL l [[119,105,116,104]]
 let ms ← eO l [44] (fun out=>do
  let w ← bN kw l
  aL l [[58]]
  let t ← cB kw andP rdP l
  pure (out++[(w,t)])) []
 pure ⟨name,v,ms⟩
def a2c:aR a9A:=do
 let c ← eV l
 let t ← dZ kw andP rdP l (cB kw andP rdP l)
 let b ← cM l [119,104,101,114,101]
 let ns ← (if b then uO kw l else pure [])
 aL l [[123]]
 let ds ← oW l (fun i=>aJ l i [100,101,102]) (fun out=>do
  let d ← xP kw andP rdP l
  aL l [[59]]
  pure (out++[d.getD ⟨[],[],a1u,0,false,a7Y⟩])) []
 aL l [[125]]
 pure ⟨c,t,ns,ds⟩
def a2d:aR a9B:=do
 let name ← bN kw l
 aL l [[58]]
 let d ← eV l
 aL l [[45,62]]
 let s ← a0H kw l
 aL l [[123]]
 let cs ← eO l [59] (fun out=>do
  let c ← eV l
  let ns ← (fun i=>if aJ l i [40] then cV kw l i else .ok [] i:aR (List Nm))
  aL l [[61]]
  let p ← cQ rdP l
  pure (out++[(c,ns,p)])) []
 aL l [[125]]
 let b ← cM l [105,110,118,97,114,105,97,110,116]
 let p ← (if b then cQ rdP l else pure mD)
 pure ⟨name,d,s,cs,p⟩
def a2e:aR a9C:=do
 let name ← bN kw l
 aL l [[40]]
 let vs ← tX kw l true
 aL l [[41],[58]]
 let p ← cQ rdP l
 pure ⟨name,vs,p⟩
def tY (m:kS):aR kS:=fun i=>
 if aJ l i [100,97,116,97] then (do let x ← a0K kw andP rdP l;pure { m with a9D:=m.a9D++[x] }:aR kS) (i+1)
 else if aJ l i [99,108,97,115,115] then (do let x ← wG kw andP rdP l;pure { m with a5q:=m.a5q++[x] }:aR kS) (i+1)
 else if aJ l i [105,110,115,116] then (do let x ← a2c kw andP rdP l;pure { m with insts:=m.insts++[x] }:aR kS) (i+1)
 else if aJ l i [109,101,97,115,117,114,101] then (do let x ← a2d kw rdP l;pure { m with a9E:=m.a9E++[x] }:aR kS) (i+1)
 else if aJ l i [113,117,97,108] then (do let x ← a2e kw rdP l;pure { m with b6L:=m.b6L++[x] }:aR kS) (i+1)
 else (do
  let d ← xP kw andP rdP l
  match d with
  |some d=>pure { m with defs:=m.defs++[d] }
  |none=>cH l:aR kS) i
def a0d:aR Unit:=fun i=>if (aK l i).kind=0 then .ok () i else cH l i
def a9G:aR kS:=oW l (fun i=> !decide ((aK l i).kind=0)) (fun m=>do
 let m ← tY kw andP rdP l m
 aL l [[59]]
 pure m) ⟨[],[],[],[],[],[]⟩
end
end Go.Proofs.YtjpodcmhcenjjaaGreatDoor
end
section
namespace Go.Proofs.YtjpodcmhcenjjaaGreatDoor
def oK (l:List Tok):Prop:=l≠[]∧(aK l (l.length-1)).kind=0
def aA {α:Type}(l:List Tok)(m:Nat)(x:aR α):Prop:=∀(i:Nat) (a:α) (j:Nat),i<l.length→x i= .ok a j→i+m≤j∧j<l.length
section
variable {kw:Nm→Bool} {andP:Pr→Pr→Pr} {rdP:List Tok→Nat→Nat→mH Pr} {l:List Tok} {α β:Type} {m k:Nat}
theorem aA.le {x:aR α}(h:aA l m x)(hk:k≤m):aA l k x:=fun i a j hi hx=>by have:=h i a j hi hx;omega
theorem aA.aO (a:α):aA l 0 (pure a:aR α):=fun i b j hi h=>by rw [gI] at h;cases h;omega
theorem aA.bl {x:aR α}{f:α→aR β}(hx:aA l m x)(hf:∀a,aA l 0 (f a)):aA l m (x >>=f):=fun i b j hi h=>by
 rw [eC] at h;cases hxi:x i with
 |bad n e=>rw [hxi] at h;cases h
 |ok a j'=>rw [hxi] at h;have h1:=hx i a j' hi hxi;have h2:=hf a j' b j h1.2 h;omega
theorem aA.br {x:aR α}{f:α→aR β}(hx:aA l 0 x)(hf:∀a,aA l m (f a)):aA l m (x >>=f):=fun i b j hi h=>by
 rw [eC] at h;cases hxi:x i with
 |bad n e=>rw [hxi] at h;cases h
 |ok a j'=>rw [hxi] at h;have h1:=hx i a j' hi hxi;have h2:=hf a j' b j h1.2 h;omega
theorem aA.ite {c:Prop}[Decidable c]{x y:aR α}(hx:aA l m x)(hy:aA l m y):aA l m (if c then x else y):=by
 split
 ·exact hx
 ·exact hy
theorem aA.failed:aA l m (cH l:aR α):=fun i a j hi h=>by unfold cH at h;cases h
variable (hE:oK l)
include hE
theorem kF {i:Nat}(hi:i<l.length)(h:(aK l i).kind≠0):i+1<l.length:=by
 rcases Nat.lt_or_ge (i+1) l.length with h'|h'
 ·exact h'
 ·have:i=l.length-1:=by omega
  rw [this] at h;exact absurd hE.2 h
theorem rW {t:Tok}{s:Nm}(h:dN t s=true):t.kind≠0:=by unfold dN at h;simp only [d8D,d8P,decide_eq_true_eq] at h;omega
theorem aF {i:Nat}{s:Nm}(hi:i<l.length)(h:aJ l i s=true):i+1<l.length:=kF hE hi (rW hE h)
theorem wS {i:Nat}(hi:i<l.length)(h:kT (aK l i)=true):i+1<l.length:=kF hE hi (by unfold kT at h;simp only [decide_eq_true_eq] at h;omega)
theorem a0e {i:Nat}(hi:i<l.length)(h:jJ kw (aK l i)=true):i+1<l.length:=kF hE hi (by unfold jJ at h;simp only [d8D,decide_eq_true_eq] at h;omega)
theorem aA.d6l:∀(s:List Nm),aA l s.length (aL l s)
 |[]=>aA.aO ()
 |s::r=>fun i a j hi h=>by
  unfold aL at h;split at h
  ·rename_i hs;have:=aA.d6l r (i+1) a j (aF hE hi hs) h;simp only [List.length_cons];omega
  ·unfold cH at h;cases h
theorem aA.exp (s:Nm)(r:List Nm):aA l 1 (aL l (s::r)):=(aA.d6l hE (s::r)).le (by simp only [List.length_cons];omega)
theorem aA.skip (s:Nm):aA l 0 (cM l s):=fun i a j hi h=>by
 unfold cM at h;split at h
 ·rename_i hs;have:=aF hE hi hs;cases h;omega
 ·cases h;omega
theorem aA.take {ok:Tok→Bool}(hk:∀t,ok t=true→t.kind≠0):aA l 1 (mE l ok):=fun i a j hi h=>by
 unfold mE at h;split at h
 ·rename_i hs;have:=kF hE hi (hk _ hs);cases h;omega
 ·unfold cH at h;cases h
theorem aA.word:aA l 1 (bN kw l):=aA.take hE fun t h=>by unfold jJ at h;simp only [d8D,decide_eq_true_eq] at h;omega
theorem aA.title:aA l 1 (eV l):=aA.take hE fun t h=>by unfold kT at h;simp only [decide_eq_true_eq] at h;omega
theorem aA.sort:aA l 1 (a0H kw l):=aA.take hE fun t h=>by unfold jJ kT at h;simp only [d8P,d8D,decide_eq_true_eq] at h;omega
theorem aA.loop {c:Nm}{one:α→aR α}(h1:∀a,aA l m (one a)):∀(g:Nat) (a:α),aA l m (gR l c one g a)
 |0,a=>fun i b j hi h=>by unfold gR at h;cases h
 |g+1,a=>fun i b j hi h=>by
  unfold gR at h;split at h
  ·cases h
  ·rename_i a' j' ho;have h2:=h1 a i a' j' hi ho;split at h
   ·rename_i hs;have h3:=aA.loop h1 g a' (j'+1) b j (aF hE h2.2 hs) h;omega
   ·cases h;exact h2
theorem aA.list {c:Nm}{one:α→aR α}(h1:∀a,aA l m (one a))(a:α):aA l m (eO l c one a):=aA.loop hE h1 _ a
omit hE in
theorem aA.a7Z {c:Nat→Bool}{one:α→aR α}(h1:∀a,aA l 0 (one a)):∀(g:Nat) (a:α),aA l 0 (dF c one g a)
 |0,a=>fun i b j hi h=>by unfold dF at h;cases h
 |g+1,a=>fun i b j hi h=>by
  unfold dF at h;split at h
  ·split at h
   ·cases h
   ·rename_i a' j' ho;have h2:=h1 a i a' j' hi ho;have h3:=aA.a7Z h1 g a' j' b j h2.2 h;omega
  ·cases h;omega
omit hE in
theorem aA.many {c:Nat→Bool}{one:α→aR α}(h1:∀a,aA l 0 (one a))(a:α):aA l 0 (oW l c one a):=aA.a7Z h1 _ a
theorem aA.words:aA l 1 (cV kw l):=by unfold cV;exact (aA.exp hE _ _).bl fun _=>(aA.list hE (m:=0) (fun a=>(((aA.word hE).le (by omega)).bl fun _=>aA.aO _)) _).bl fun _=>((aA.exp hE _ _).le (by omega)).bl fun _=>aA.aO _
theorem aA.vars (v:Bool):aA l 1 (tX kw l v):=by
 unfold tX;refine aA.list hE (fun a=>?_) _;refine aA.br (aA.ite (aA.skip hE _) (aA.aO _)) fun b=>?_
 refine aA.br (aA.ite (aA.aO _) ((aA.word hE).le (by omega))) fun nm=>?_
 exact (aA.exp hE _ _).bl fun _=>((aA.sort hE).le (by omega)).bl fun _=>aA.aO _
theorem a2f {i j:Nat}{t:Ty}(hi:i<l.length)(h:jK kw l i= .ok (some t) j):j=i+1∧j<l.length:=by
 unfold jK at h
 repeat' split at h
 all_goals first|cases h|skip
 all_goals rename_i hs
 all_goals first
  |exact ⟨rfl,a0e hE hi hs⟩
  |exact ⟨rfl,aF hE hi hs⟩
omit hE in
theorem sI {i j:Nat}(h:jK kw l i= .ok none j):j=i:=by
 unfold jK at h
 repeat' split at h
 all_goals first|(cases h;rfl)|cases h
theorem aA.base:aA l 0 (jK kw l):=fun i a j hi h=>by
 cases a with
 |none=>have:=sI h;omega
 |some t=>have:=a2f hE hi h;omega
section
variable {ty:aR Ty} (hty:aA l 0 ty) (hP:aA l 0 (cQ rdP l))
include hty hP
theorem aA.a5r:aA l 1 (oB andP rdP l ty):=by
 unfold oB;refine (aA.exp hE _ _).bl fun _=>hty.bl fun t=>?_
 refine aA.ite aA.failed ?_
 exact ((aA.exp hE _ _).le (by omega)).bl fun _=>hP.bl fun _=>((aA.exp hE _ _).le (by omega)).bl fun _=>aA.aO _
theorem aA.rX:aA l 1 (dZ kw andP rdP l ty):=fun i a j hi h=>by
 unfold dZ at h;rw [eC] at h;cases hb:jK kw l i with
 |bad n e=>rw [hb] at h;cases h
 |ok o j'=>
  rw [hb] at h;cases o with
  |some t=>have:=a2f hE hi hb;simp only [gI] at h;cases h;omega
  |none=>
   have:=sI hb;subst this;simp only at h;split at h
   ·rename_i hs;have:=wS hE hi hs;cases h;omega
   ·split at h
    ·exact aA.a5r hE hty hP _ a j hi h
    ·exact ((aA.exp hE _ _).bl fun _=>hty.bl fun _=>((aA.exp hE _ _).le (by omega)).bl fun _=>aA.aO _) _ a j hi h
theorem aA.a7E:aA l 1 (mL kw andP rdP l ty):=by
 unfold mL;refine (aA.title hE).bl fun name=>aA.bl (aA.many (fun a=>?_) _) fun args=>(aA.skip hE _).bl fun b=>aA.ite ?_ (aA.aO _)
 ·exact ((aA.rX hE hty hP).le (by omega)).bl fun _=>aA.aO _
 ·refine aA.bl (aA.list hE (fun a=>?_) _) fun _=>((aA.exp hE _ _).le (by omega)).bl fun _=>aA.aO _
  exact ((aA.exp hE _ _).le (by omega)).bl fun _=>hP.bl fun _=>aA.aO _
theorem aA.b4f:aA l 1 (qE kw l ty):=by
 unfold qE;refine (aA.exp hE _ _).bl fun _=>aA.bl (m:=0) (fun i a j hi h=>?_) fun p=>?_
 ·split at h
  ·exact aA.list hE (fun a=>((aA.word hE).le (by omega)).bl fun _=>((aA.exp hE _ _).le (by omega)).bl fun _=>hty.bl fun _=>aA.aO _) _ i a j hi h
  ·exact aA.list hE (fun a=>hty.bl fun _=>aA.aO _) _ i a j hi h
 ·refine ((aA.exp hE _ _).le (by omega)).bl fun _=>fun i a j hi h=>?_
  split at h
  ·cases h;omega
  ·exact (((aA.exp hE _ _).le (by omega:0≤1)).bl fun _=>hty.bl fun _=>aA.aO _) i a j hi h
theorem aA.b6M:aA l 1 (rI kw andP rdP l ty):=fun i a j hi h=>by
 unfold rI at h;rw [eC] at h;cases hb:jK kw l i with
 |bad n e=>rw [hb] at h;cases h
 |ok o j'=>
  rw [hb] at h;cases o with
  |some t=>have:=a2f hE hi hb;simp only [gI] at h;cases h;omega
  |none=>
   have:=sI hb;subst this;simp only at h;split at h
   ·exact aA.a7E hE hty hP _ a j hi h
   ·split at h
    ·exact aA.a5r hE hty hP _ a j hi h
    ·exact aA.b4f hE hty hP _ a j hi h
end
theorem aA.a3s (hP:aA l 0 (cQ rdP l)):∀n,aA l 1 (rJ kw andP rdP l n)
 |0=>fun i a j hi h=>by unfold rJ at h;cases h
 |n+1=>aA.b6M hE ((aA.a3s hP n).le (by omega)) hP
theorem aA.uQ (hP:aA l 0 (cQ rdP l)):aA l 1 (cB kw andP rdP l):=aA.a3s hE hP _
theorem aA.types (hP:aA l 0 (cQ rdP l)):aA l 0 (mM kw andP rdP l):=by
 unfold mM;refine (aA.skip hE _).bl fun b=>aA.ite ?_ (aA.aO _)
 exact aA.bl (aA.list hE (fun a=>((aA.uQ hE hP).le (by omega)).bl fun _=>aA.aO _) _) fun _=>((aA.exp hE _ _).le (by omega)).bl fun _=>aA.aO _
end
end Go.Proofs.YtjpodcmhcenjjaaGreatDoor
end
section
namespace Go.Proofs.YtjpodcmhcenjjaaGreatDoor
section
variable {kw:Nm→Bool} {andP:Pr→Pr→Pr} {rdP:List Tok→Nat→Nat→mH Pr} {l:List Tok} {α β:Type} {m k:Nat}
theorem aA.nxt {x:aR α}(hx:aA l 0 x){i j:Nat}{a:α}(hi:i+1<l.length)(h:x (i+1)= .ok a j):i+1≤j∧j<l.length:=by have:=hx (i+1) a j hi h;omega
variable (hE:oK l)
include hE
section
variable {ex:Nat→aR bW} (hx:∀k,aA l 1 (ex k))
include hx
theorem aA.eP:aA l 1 (eN l ex):=by unfold eN;exact (aA.exp hE _ _).bl fun _=>aA.bl (aA.list hE (fun a=>((hx 0).le (by omega)).bl fun _=>aA.aO _) _) fun _=>((aA.exp hE _ _).le (by omega)).bl fun _=>aA.aO _
theorem aA.a6y (op:Int):aA l 1 (rV l ex op):=by unfold rV;exact (aA.exp hE _ _).bl fun _=>((hx 0).le (by omega)).bl fun _=>((aA.exp hE _ _).le (by omega)).bl fun _=>aA.aO _
theorem aA.a4r:aA l 1 (mN kw l ex):=by
 unfold mN;refine (hx 0).bl fun _=>((aA.exp hE _ _).le (by omega)).bl fun _=>aA.bl (aA.list hE (fun a=>?_) _) fun _=>((aA.exp hE _ _).le (by omega)).bl fun _=>aA.aO _
 refine ((aA.title hE).le (by omega)).bl fun _=>aA.bl (fun i b j hi h=>?_) fun _=>((aA.exp hE _ _).le (by omega)).bl fun _=>((hx 0).le (by omega)).bl fun _=>aA.aO _
 split at h
 ·exact ((aA.words hE).le (by omega)) _ _ _ hi h
 ·cases h;omega
section
variable (hP:aA l 0 (cQ rdP l))
include hP
theorem aA.b9n:aA l 1 (sY kw andP rdP l ex):=by
 unfold sY;refine (aA.word hE).bl fun _=>(aA.skip hE _).bl fun _=>aA.bl (aA.ite (((aA.uQ hE hP).le (by omega)).bl fun _=>aA.aO _) (aA.aO _)) fun _=>?_
 exact ((aA.exp hE _ _).le (by omega)).bl fun _=>((hx 0).le (by omega)).bl fun _=>((aA.exp hE _ _).le (by omega)).bl fun _=>((hx 0).le (by omega)).bl fun _=>aA.aO _
theorem aA.b9o:aA l 1 (sZ kw andP rdP l ex):=by
 unfold sZ;refine (aA.exp hE _ _).bl fun _=>aA.bl (aA.list hE (fun a=>?_) _) fun _=>((aA.exp hE _ _).le (by omega)).bl fun _=>((hx 0).le (by omega)).bl fun _=>aA.aO _
 exact ((aA.word hE).le (by omega)).bl fun _=>(aA.skip hE _).bl fun _=>aA.bl (aA.ite ((aA.uQ hE hP).le (by omega)) (aA.aO _)) fun _=>aA.aO _
theorem aA.wH:aA l 1 (dI kw andP rdP l ex):=by
 unfold dI;refine (aA.exp hE _ _).bl fun _=>fun i a j hi h=>?_
 split at h
 ·rename_i hc;simp only [d8D,decide_eq_true_eq] at hc;have h2:=kF hE hi (rW hE (show dN (aK l i) [45]=true from hc.1.1));have h3:=kF hE h2 (by omega);have h4:=kF hE h3 (rW hE hc.2);cases h;omega
 ·exact (((hx 0).le (by omega:0≤1)).bl fun e=>(aA.skip hE _).bl fun b=>aA.bl (aA.ite (((aA.uQ (kw:=kw) (andP:=andP) hE hP).le (by omega:0≤1)).bl fun t=>aA.aO _) (aA.aO _)) fun e=>((aA.exp hE _ _).le (by omega:0≤1)).bl fun _=>aA.aO _) i a j hi h
theorem aA.a9H:aA l 1 (mV kw andP rdP l ex):=fun i a j hi h=>by
 unfold mV at h;split at h
 ·rename_i hk;have:=kF hE hi (by omega);cases h;omega
 split at h
 ·rename_i hs;have:=aF hE hi hs;cases h;omega
 split at h
 ·rename_i hs;have:=aF hE hi hs;cases h;omega
 split at h
 ·rename_i hs;exact ((aA.a6y hE hx _).le (by omega)).nxt (aF hE hi hs) h
 split at h
 ·rename_i hs;exact ((aA.a6y hE hx _).le (by omega)).nxt (aF hE hi hs) h
 split at h
 ·rename_i hs;exact (((aA.exp hE _ _).le (by omega:0≤1)).bl fun _=>((hx 0).le (by omega:0≤1)).bl fun _=>((aA.exp hE _ _).le (by omega:0≤1)).bl fun _=>((hx 0).le (by omega:0≤1)).bl fun _=>((aA.exp hE _ _).le (by omega:0≤1)).bl fun _=>aA.aO _).nxt (aF hE hi hs) h
 split at h
 ·rename_i hs;have hn:=a0e hE hi hs;split at h
  ·cases h;omega
  ·exact ((aA.types hE hP).bl fun _=>((aA.eP hE hx).le (by omega:0≤1)).bl fun _=>aA.aO _).nxt hn h
 split at h
 ·rename_i hs;refine ((aA.types hE hP).bl fun _=>aA.bl (m:=0) (fun i a j hi h=>?_) fun _=>aA.aO _).nxt (wS hE hi hs) h;split at h
  ·exact ((aA.eP hE hx).le (by omega)) _ _ _ hi h
  ·cases h;omega
 exact aA.wH hE hx hP _ _ _ hi h
theorem aA.unG:aA l 1 (mA kw andP rdP l ex):=fun i a j hi h=>by
 unfold mA at h;split at h
 ·rename_i hs;exact (((hx 7).le (by omega:0≤1)).bl fun _=>aA.aO _).nxt (aF hE hi hs) h
 ·exact aA.a9H hE hx hP _ _ _ hi h
omit hx hP in
theorem aA.chain {ops:List (Nm×Int)}{one:aR bW}(h1:aA l 0 one):∀(g:Nat) (e:bW),aA l 0 (cN l ops one g e)
 |0,e=>fun i b j hi h=>by unfold cN at h;cases h
 |g+1,e=>fun i b j hi h=>by
  unfold cN at h;split at h
  ·cases h;omega
  ·rename_i p hp;have hs:aJ l i p.1=true:=List.find?_some (p:=fun p:Nm×Int=>aJ l i p.1) hp;split at h
   ·cases h
   ·rename_i x j' ho;have h2:=h1.nxt (aF hE hi hs) ho;have h3:=aA.chain h1 g _ j' b j h2.2 h;omega
omit hx hP in
theorem aA.lvl {ops:List (Nm×Int)}{one:aR bW}(h1:aA l 1 one):aA l 1 (pR l ops one):=by unfold pR;exact h1.bl fun _=>aA.chain hE (h1.le (by omega)) _ _
theorem aA.b6N:aA l 1 (tA kw andP rdP l ex):=aA.lvl hE (aA.unG hE hx hP)
theorem aA.a1w:aA l 1 (bX kw andP rdP l ex):=aA.lvl hE (aA.b6N hE hx hP)
theorem aA.yC:aA l 1 (kU kw andP rdP l ex):=by
 unfold kU;refine (aA.a1w hE hx hP).bl fun e=>fun i a j hi h=>?_
 repeat' split at h
 all_goals first
  |(cases h;omega)
  |(rename_i hs
    have:=(((aA.a1w hE hx hP).le (by omega:0≤1)).bl fun _=>aA.aO _).nxt (aF hE hi hs) h;omega)
theorem aA.a0L:aA l 1 (mP kw andP rdP l ex):=fun i a j hi h=>by
 unfold mP at h;split at h
 ·rename_i hs;exact (((hx 3).le (by omega:0≤1)).bl fun _=>aA.aO _).nxt (aF hE hi hs) h
 ·exact aA.yC hE hx hP _ _ _ hi h
theorem aA.orG:aA l 1 (xO kw andP rdP l ex):=aA.lvl hE (aA.lvl hE (aA.a0L hE hx hP))
theorem aA.exG:aA l 1 (sH kw andP rdP l ex):=fun i a j hi h=>by
 unfold sH at h;split at h
 ·rename_i hs;exact ((aA.b9n hE hx hP).le (by omega)).nxt (aF hE hi hs) h
 split at h
 ·rename_i hs;exact (((hx 0).le (by omega:0≤1)).bl fun _=>((aA.exp hE _ _).le (by omega:0≤1)).bl fun _=>((hx 0).le (by omega:0≤1)).bl fun _=>((aA.exp hE _ _).le (by omega:0≤1)).bl fun _=>((hx 0).le (by omega:0≤1)).bl fun _=>aA.aO _).nxt (aF hE hi hs) h
 split at h
 ·rename_i hs;exact ((aA.a4r hE hx).le (by omega)).nxt (aF hE hi hs) h
 split at h
 ·rename_i hs;exact ((aA.b9o hE hx hP).le (by omega)).nxt (aF hE hi hs) h
 split at h
 ·rename_i hs;exact (((aA.word hE).le (by omega:0≤1)).bl fun _=>((aA.eP hE hx).le (by omega:0≤1)).bl fun _=>((aA.exp hE _ _).le (by omega:0≤1)).bl fun _=>((hx 0).le (by omega:0≤1)).bl fun _=>aA.aO _).nxt (aF hE hi hs) h
 exact aA.orG hE hx hP _ _ _ hi h
end
end
theorem aA.exF (hP:aA l 0 (cQ rdP l)):∀n k,aA l 1 (jG kw andP rdP l n k)
 |0,k=>fun i a j hi h=>by unfold jG at h;cases h
 |n+1,k=>by unfold jG;exact aA.ite (aA.unG hE (aA.exF hP n) hP) (aA.ite (aA.a0L hE (aA.exF hP n) hP) (aA.exG hE (aA.exF hP n) hP))
theorem aA.expr (hP:aA l 0 (cQ rdP l)):aA l 1 (a2b kw andP rdP l):=aA.exF hE hP _ _
end
end Go.Proofs.YtjpodcmhcenjjaaGreatDoor
end
section
namespace Go.Proofs.YtjpodcmhcenjjaaGreatDoor
section
variable {kw:Nm→Bool} {andP:Pr→Pr→Pr} {rdP:List Tok→Nat→Nat→mH Pr} {l:List Tok} {α β:Type} {m k:Nat}
variable (hE:oK l)
include hE
theorem aA.xN:aA l 1 (uO kw l):=by unfold uO;exact aA.list hE (fun a=>(aA.title hE).bl fun _=>((aA.word hE).le (by omega)).bl fun _=>aA.aO _) _
theorem aA.head (mode:Int):aA l 1 (a0I kw l mode):=by
 unfold a0I;refine (aA.word hE).bl fun name=>aA.bl (m:=0) (fun i a j hi h=>?_) fun _=>aA.aO _
 split at h
 ·rename_i hs;have h1:=aF hE hi hs;split at h
  ·rename_i hf;have h2:=kF hE h1 (rW hE hf);cases h;omega
  ·exact ((aA.words hE).le (by omega)) _ _ _ hi h
 ·cases h;omega
variable (hP:aA l 0 (cQ rdP l))
include hP
theorem aA.bound:aA l 1 (uP kw rdP l):=by unfold uP;exact (aA.word hE).bl fun _=>((aA.exp hE _ _).le (by omega)).bl fun _=>((aA.vars hE _).le (by omega)).bl fun _=>((aA.exp hE _ _).le (by omega)).bl fun _=>hP.bl fun _=>((aA.exp hE _ _).le (by omega)).bl fun _=>hP.bl fun _=>((aA.exp hE _ _).le (by omega)).bl fun _=>aA.aO _
theorem aA.con:aA l 1 (a7D kw andP rdP l):=by
 unfold a7D;refine (aA.title hE).bl fun _=>(aA.skip hE _).bl fun b=>aA.ite ?_ (aA.aO _)
 refine aA.bl (aA.list hE (fun a=>?_) _) fun _=>((aA.exp hE _ _).le (by omega)).bl fun _=>aA.aO _
 exact ((aA.word hE).le (by omega)).bl fun _=>((aA.exp hE _ _).le (by omega)).bl fun _=>((aA.uQ hE hP).le (by omega)).bl fun _=>aA.aO _
theorem aA.data:aA l 1 (a0K kw andP rdP l):=by
 unfold a0K;refine (aA.title hE).bl fun _=>aA.bl (aA.many (fun a=>((aA.word hE).le (by omega)).bl fun _=>aA.aO _) _) fun _=>(aA.skip hE _).bl fun b=>?_
 refine aA.bl (aA.ite (((aA.vars hE _).le (by omega)).bl fun _=>((aA.exp hE _ _).le (by omega)).bl fun _=>aA.aO _) (aA.aO _)) fun _=>((aA.exp hE _ _).le (by omega)).bl fun _=>?_
 exact aA.bl (aA.list hE (fun a=>((aA.con hE hP).le (by omega)).bl fun _=>aA.aO _) _) fun _=>aA.aO _
theorem aA.cls:aA l 1 (wG kw andP rdP l):=by
 unfold wG;refine (aA.title hE).bl fun _=>((aA.word hE).le (by omega)).bl fun _=>((aA.exp hE _ _).le (by omega)).bl fun _=>aA.bl (aA.list hE (fun a=>?_) _) fun _=>aA.aO _
 exact ((aA.word hE).le (by omega)).bl fun _=>((aA.exp hE _ _).le (by omega)).bl fun _=>((aA.uQ hE hP).le (by omega)).bl fun _=>aA.aO _
theorem aA.c4Z:aA l 1 (a2d kw rdP l):=by
 unfold a2d;refine (aA.word hE).bl fun _=>((aA.exp hE _ _).le (by omega)).bl fun _=>((aA.title hE).le (by omega)).bl fun _=>((aA.exp hE _ _).le (by omega)).bl fun _=>((aA.sort hE).le (by omega)).bl fun _=>((aA.exp hE _ _).le (by omega)).bl fun _=>?_
 refine aA.bl (aA.list hE (fun a=>?_) _) fun _=>((aA.exp hE _ _).le (by omega)).bl fun _=>(aA.skip hE _).bl fun b=>(aA.ite hP (aA.aO _)).bl fun _=>aA.aO _
 refine ((aA.title hE).le (by omega)).bl fun _=>aA.bl (m:=0) (fun i a j hi h=>?_) fun _=>((aA.exp hE _ _).le (by omega)).bl fun _=>hP.bl fun _=>aA.aO _
 split at h
 ·exact ((aA.words hE).le (by omega)) _ _ _ hi h
 ·cases h;omega
theorem aA.c5a:aA l 1 (a2e kw rdP l):=by unfold a2e;exact (aA.word hE).bl fun _=>((aA.exp hE _ _).le (by omega)).bl fun _=>((aA.vars hE _).le (by omega)).bl fun _=>((aA.exp hE _ _).le (by omega)).bl fun _=>hP.bl fun _=>aA.aO _
theorem aA.body (d:kR):aA l 1 (a0J kw andP rdP l d):=by unfold a0J;exact (aA.exp hE _ _).bl fun _=>((aA.expr hE hP).le (by omega)).bl fun _=>aA.aO _
def vP (rdP:List Tok→Nat→Nat→mH Pr)(l:List Tok):Prop:=∀e i p j,i<l.length→rdP l i e= .ok p j→i≤j∧j<l.length
omit hE hP in
theorem vP.pred (h:vP rdP l):aA l 0 (cQ rdP l):=fun i a j hi hx=>by have:=h l.length i a j hi hx;omega
end
section
variable {kw:Nm→Bool} {andP:Pr→Pr→Pr} {rdP:List Tok→Nat→Nat→mH Pr} {l:List Tok}
variable (hE:oK l) (hB:vP rdP l)
include hE hB
theorem aA.sig:aA l 1 (a1o kw andP rdP l):=by
 have hP:=hB.pred;unfold a1o;refine aA.br (aA.skip hE _) fun b=>aA.br (aA.ite (((aA.word hE).le (by omega)).bl fun _=>(aA.many (fun a=>((aA.word hE).le (by omega)).bl fun _=>aA.aO _) _).bl fun _=>((aA.exp hE _ _).le (by omega)).bl fun _=>aA.aO _) (aA.aO _)) fun _=>?_
 refine aA.br (aA.skip hE _) fun b=>aA.br (aA.ite (((aA.xN hE).le (by omega)).bl fun _=>((aA.exp hE _ _).le (by omega)).bl fun _=>aA.aO _) (aA.aO _)) fun _=>?_
 refine aA.br (aA.skip hE _) fun b=>aA.br (aA.ite (((aA.vars hE _).le (by omega)).bl fun _=>((aA.exp hE _ _).le (by omega)).bl fun _=>aA.aO _) (aA.aO _)) fun _=>?_
 refine aA.br (aA.many (fun a=>((aA.exp hE _ _).le (by omega)).bl fun _=>((aA.bound hE hP).le (by omega)).bl fun _=>aA.aO _) _) fun _=>?_
 refine (aA.uQ hE hP).bl fun _=>(aA.skip hE _).bl fun b=>aA.bl (aA.ite (fun i a j hi h=>?_) (aA.aO _)) fun _=>aA.aO _
 refine aA.list hE (m:=0) (fun a=>aA.bl (m:=0) (fun i' p j' hi' h'=>?_) fun _=>aA.aO _) _ i a j hi h;have:=hB _ _ _ _ hi' h';omega
theorem aA.defn {i j:Nat}{d:Option kR}(hi:i<l.length)(h:xP kw andP rdP l i= .ok d j):(d=none∧j=i)∨(i+1≤j∧j<l.length):=by
 have hP:=hB.pred;unfold xP at h;split at h
 ·rename_i hs;refine .inr (((((aA.head hE _).le (by omega:0≤1)).bl fun _=>(aA.skip hE _).bl fun _=>aA.bl (aA.ite (((aA.sig hE hB).le (by omega:0≤1)).bl fun _=>aA.aO _) (aA.aO _)) fun _=>((aA.body hE hP _).le (by omega:0≤1)))).nxt (aF hE hi hs) h)
 split at h
 ·rename_i hs;exact .inr ((((aA.head hE _).le (by omega:0≤1)).bl fun _=>((aA.exp hE _ _).le (by omega:0≤1)).bl fun _=>((aA.sig hE hB).le (by omega:0≤1)).bl fun _=>aA.aO _).nxt (aF hE hi hs) h)
 split at h
 ·rename_i hs;exact .inr ((((aA.head hE _).le (by omega:0≤1)).bl fun _=>((aA.exp hE _ _).le (by omega:0≤1)).bl fun _=>((aA.sig hE hB).le (by omega:0≤1)).bl fun _=>((aA.body hE hP _).le (by omega:0≤1))).nxt (aF hE hi hs) h)
 cases h;exact .inl ⟨rfl,rfl⟩
theorem aA.b9q:aA l 0 (xP kw andP rdP l):=fun i d j hi h=>by
 rcases aA.defn hE hB hi h with ⟨_,rfl⟩|h'
 ·omega
 ·omega
theorem aA.inst:aA l 1 (a2c kw andP rdP l):=by
 have hP:=hB.pred;unfold a2c;refine (aA.title hE).bl fun _=>((aA.rX hE ((aA.uQ hE hP).le (by omega)) hP).le (by omega)).bl fun _=>(aA.skip hE _).bl fun b=>(aA.ite ((aA.xN hE).le (by omega)) (aA.aO _)).bl fun _=>((aA.exp hE _ _).le (by omega)).bl fun _=>?_
 exact aA.bl (aA.many (fun a=>(aA.b9q hE hB).bl fun _=>((aA.exp hE _ _).le (by omega)).bl fun _=>aA.aO _) _) fun _=>((aA.exp hE _ _).le (by omega)).bl fun _=>aA.aO _
theorem aA.decl (m:kS):aA l 1 (tY kw andP rdP l m):=fun i a j hi h=>by
 have hP:=hB.pred;unfold tY at h;split at h
 ·rename_i hs;exact (((aA.data hE hP).le (by omega:0≤1)).bl fun _=>aA.aO _).nxt (aF hE hi hs) h
 split at h
 ·rename_i hs;exact (((aA.cls hE hP).le (by omega:0≤1)).bl fun _=>aA.aO _).nxt (aF hE hi hs) h
 split at h
 ·rename_i hs;exact (((aA.inst hE hB).le (by omega:0≤1)).bl fun _=>aA.aO _).nxt (aF hE hi hs) h
 split at h
 ·rename_i hs;exact (((aA.c4Z hE hP).le (by omega:0≤1)).bl fun _=>aA.aO _).nxt (aF hE hi hs) h
 split at h
 ·rename_i hs;exact (((aA.c5a hE hP).le (by omega:0≤1)).bl fun _=>aA.aO _).nxt (aF hE hi hs) h
 rw [eC] at h;cases hd:xP kw andP rdP l i with
 |bad n e=>rw [hd] at h;cases h
 |ok d j'=>
  rw [hd] at h;rcases aA.defn hE hB hi hd with ⟨rfl,rfl⟩|h'
  ·simp only [cH] at h;cases h
  ·cases d with
   |none=>simp only [cH] at h;cases h
   |some d=>simp only [gI] at h;cases h;exact h'
end
end Go.Proofs.YtjpodcmhcenjjaaGreatDoor
end
section
namespace Go.Proofs.YtjpodcmhcenjjaaGreatDoor
open Go Go.VM
def mF (x:psV):List D:=[.str x.1,.str x.2]
def a2g (p:Nm×Ty):List D:= .str p.1::tyC p.2
def a0f:bW→List D
 |⟨op,nm,n,ks,ps,al,ts⟩=>[.int .i64 op,.str nm,.int .i64 n,.sl (ks.map a0f),.sl (ps.map a2g),.sl (al.attach.map fun a=> .str a.1.1:: .sl (strs a.1.2.1)::a0f a.1.2.2),.sl (ts.map tyC)]
termination_by e=>SizeOf.sizeOf e
decreasing_by
 ·have:=List.sizeOf_lt_of_mem ‹_∈ks›;simp only [bW.mk.sizeOf_spec];omega
 ·obtain ⟨⟨a,b,c⟩,ha⟩:=a;have:=List.sizeOf_lt_of_mem ha;simp only [Prod.mk.sizeOf_spec] at this;simp only [bW.mk.sizeOf_spec];omega
def a8a (a:Nm×List Nm×bW):List D:= .str a.1:: .sl (strs a.2.1)::a0f a.2.2
theorem dW (e:bW):a0f e=[.int .i64 e.op,.str e.name,.int .i64 e.n,.sl (e.kids.map a0f),.sl (e.params.map a2g),.sl (e.alts.map a8a),.sl (e.types.map tyC)]:=by
 cases e;rw [a0f];simp only [List.cons.injEq,D.sl.injEq,true_and,and_true]
 first
  |exact List.attach_map_val (f:=a8a)
  |exact List.attach_map_val _ a8a
  |(conv=>rhs;rw [← List.attach_map_subtype_val ‹List (Nm×List Nm×bW)›,List.map_map]
    rfl)
def b9r (b:qT):List D:=[.str b.name,.sl (b.vars.map mF)]++rG b.hyp++rG b.goal
def d0b (s:b2H):List D:=[.sl (strs s.vars),.sl (s.xN.map mF),.sl (s.abs.map mF),.sl (s.bounds.map b9r)]++tyC s.type++[.sl (s.b4e.map rG)]
def b4g (d:kR):List D:=[.str d.name,.sl (strs d.params)]++a0f d.body++[.int .i64 d.mode,.bool d.typed]++d0b d.sig
def b2J (c:a3K):List D:=[.str c.name,.sl (strs c.names),.sl (c.fields.map tyC)]
def a9I (d:a9z):List D:=[.str d.name,.sl (strs d.vars),.sl (d.a5o.map mF),.sl (d.cons.map b2J)]
def b6O (c:a5p):List D:=[.str c.name,.str c.var,.sl (c.methods.map a2g)]
def c0T (x:a9A):List D:=[.str x.cls]++tyC x.type++[.sl (x.xN.map mF),.sl (x.defs.map b4g)]
def b6P (x:a9B):List D:=[.str x.name,.str x.data,.str x.result,.sl (x.cases.map fun c=> .str c.1:: .sl (strs c.2.1)::rG c.2.2)]++rG x.inv
def c0U (q:a9C):List D:=[.str q.name,.sl (q.vars.map mF)]++rG q.body
def a3L (m:kS):List D:=[.sl (m.a9D.map a9I),.sl (m.a5q.map b6O),.sl (m.insts.map c0T),.sl (m.a9E.map b6P),.sl (m.b6L.map c0U),.sl (m.defs.map b4g)]
end Go.Proofs.YtjpodcmhcenjjaaGreatDoor
end
end
section
section
namespace Go.VM
open Go Go.RowKit
section
variable {P:Program} {G:GT} {st:St} {Q:Exit→St→Prop}
theorem SW.pL {x y:Code}(h:SW P G x st fun e s=>match e with
  | .normal=>SW P G y s Q
  |e=>Q e s):SW P G (.seq x y) st Q:=fun base R μ a w hr=>
 wp_seq (wp_mono (h base R μ a w hr) fun e a1 w1 ⟨s,R1,μ1,q1,q2,q3⟩=>by
  cases e with
  |normal=>exact wp_mono (q1 base R1 μ1 a1 w1 q2) fun e2 a2 w2 ⟨s2,R2,μ2,p1,p2,p3⟩=>⟨s2,R2,μ2,p1,p2,q3.trans p3⟩
  |_=>exact ⟨s,R1,μ1,q1,q2,q3⟩)
theorem SW.vk {c:Code}(h:VK P G [.code c] .normal st Q):SW P G c st Q:=a1m _ _ _ (b6l h)
theorem CS.b4h {f:FuncId}{fn:Func}{c:Code}{n:Nat}{ds:List D}{r:DV}{own:Option TypeId}(hf:P.funcs[f]? =some fn)(hb:fn.body=some c)(hn:fn.ntmps=n){rs:List ResultVar}(hrs:fn.results.toList=rs)(h:SW P G c (xI ds n) fun e s=>(e= .normal∨e= .ret)∧b6c (c1Z P s rs) r∧b6d s rs own):CS P G f ds r own:=by
 subst hrs;intro w R args hg hR hl hv;refine calls_of_wp hf hb ?_
 have hrel:=Rel.init (P:=P) (G:=G) fn hg hR hl hv;rw [← hn] at h;refine wp_mono (h (vL w.heap.size) R _ _ w hrel) fun e a' w' ⟨s,R',μ',⟨he,hres,jW⟩,hr',hs⟩=>?_
 obtain ⟨r0,hres,hwk⟩:=a9j hres;obtain ⟨v,hv1,hv2⟩:=c0J hr' hres;have hpost:a'.defers=[]∧∃v,(results fn a'.tmps).run P w'= .ok v w'∧∃v' R',Ending.returned v= .returned v'∧(∀μ,TV R' μ w' v' r)∧Step (vL w.heap.size) R w R' w'∧(∀b o,R' b o→b<w'.heap.size)∧(∀e,own=some e→mX P (vL w.heap.size) R' w' e v'):=
  ⟨hr'.defers,v,hv1,v,R',rfl,fun μ=>(hv2 μ).wk hwk,hs,hr'.oP,fun e he'=>by subst he';exact b6e hr' jW hv1⟩
 rcases he with rfl|rfl
 ·exact hpost
 ·exact hpost
theorem dR (a:Act){d:Nat}(v:Value)(h:d<a.tmps.size):(a.put (some d) v).eval (.tmp d)=v:=by simp [Act.put,Act.eval,h]
theorem bU (a:Act){d x:Nat}(v:Value)(h:x≠d):(a.put (some d) v).eval (.tmp x)=a.eval (.tmp x):=by simp [Act.put,Act.eval,Array.getElem?_setIfInBounds,Ne.symm h]
theorem size_put (a:Act)(d:Option Tmp)(v:Value):(a.put d v).tmps.size=a.tmps.size:=by cases d<;>simp [Act.put]
theorem b4i (w:World)(z cs:Array Value)(e:TypeId):(w.alloc (.cells z e)).setRow w.heap.size cs=w.alloc (.cells cs e):=by
 unfold World.setRow World.alloc;cases w with
 |mk heap tape drawn os output=>
  simp only;congr 1;apply Array.ext
  ·simp
  ·intro k h1 h2;simp only [Array.getElem_modify,Array.getElem_push];split
   ·rename_i hk;subst hk;simp
   ·rename_i hk;have hk2:k<heap.size:=by simp at h2;omega
    simp [hk2]
end
end Go.VM
end
section
namespace Go.VM
open Go Go.RowKit
def oC (k n:Nat):Array Bool:=((List.range n).map fun j=>decide (j<k)).toArray
def a2h (ops:Array Oper)(m:Nat):Nat→Nat→Array Bool→Bool
 |0,_,listed=>decide (listed=oC m ops.size)
 |fuel+1,k,listed=>(Region.ready .any ops listed).contains k&&
  (match ops[k]? with
  |none=>false
  |some oi=>
   (List.range ops.size).all fun j=>j==k||listed.getD j true||gL ops ops.size j k||(match ops[j]? with
    |some oj=>oi.apart ops oj&&oS ops oi oj
    |none=>true))&&
  a2h ops m fuel (k+1) (listed.setIfInBounds k true)
def uR (ops:Array Oper)(m:Nat):Bool:=(List.range ops.size).all fun j=>decide (j<m)||(List.range m).all fun i=>gL ops ops.size j i
def c5b (ops:Array Oper)(m:Nat):Bool:=((eQ ops).isEmpty||(ops.toList.all (c1U ops)&&decide ((eQ ops).Nodup)))&&(decide (m≤ops.size)&&uR ops m)&&a2h ops m m 0 (Array.replicate ops.size false)
section
variable {P:Program} {G:GT} {st:St}
theorem a3M {k n j:Nat}(h:(oC k n).getD j true=false):k≤j∧j<n:=by
 unfold oC at h;rw [d8F] at h;by_cases hj:j<n
 ·simp [hj] at h;omega
 ·simp [hj] at h
theorem a4s {ops:Array Oper}{m j i:Nat}{o:Oper}(h:uR ops m=true)(hj:m≤j)(ho:ops[j]? =some o)(hi:i<m):gL ops ops.size j i=true:=by
 unfold uR at h;have hjs:=(d8M.1 ho).1;have h1:=d8G.1 h j (List.mem_range.2 hjs);simp only [d8P,decide_eq_true_eq] at h1;rcases h1 with h1|h1
 ·omega
 ·exact d8G.1 h1 i (List.mem_range.2 hi)
def a7F (P:Program)(G:GT)(ops:Array Oper)(m:Nat)(Q:St→Prop):Nat→Array Bool→St→Prop
 |0,listed,st=>listed=oC m ops.size∧Q st
 |fuel+1,listed,st=>Region.ready .any ops listed≠[]∧∀i∈Region.ready .any ops listed,i<m∧match ops[i]? with
  |none=>a7F P G ops m Q fuel (listed.setIfInBounds i true) st
  |some o=>kO P G true ops o (a7F P G ops m Q fuel (listed.setIfInBounds i true)) st
theorem a9J {ops:Array Oper}{m r:Nat}{Q:St→Prop}{QQ:Exit→Act→World→Prop}:∀(fuel:Nat) (listed:Array Bool) (st:St),a7F P G ops m Q fuel listed st→∀(base:cZ) (R:Nat→Nat→Prop) (μ:Nat→Nat) (a:Act) (w:World),Rel P G base R μ st a w→
  (∀s a' w' R' μ',Q s→Rel P G base R' μ' s a' w'→Step base R w R' w'→wpAny P .any ops QQ r (oC m ops.size) a' w')→wpAny P .any ops QQ (fuel+r) listed a w
 |0,_,st,h,base,R,μ,a,w,hr,hk=>by rw [Nat.zero_add,h.1];exact hk st a w R μ h.2 hr (.refl _ _ _)
 |fuel+1,listed,st,h,base,R,μ,a,w,hr,hk=>by
  rw [show fuel+1+r=(fuel+r)+1 by omega];refine ⟨fun h0=>absurd h0 h.1,fun i hi=>?_⟩;have h1:=(h.2 i hi).2;unfold wpOp;split
  ·rename_i ho;rw [ho] at h1;exact a9J fuel _ st h1 base R μ a w hr hk
  ·rename_i o ho;rw [ho] at h1;exact pQ h1 hr fun s v w' R' μ' h' hr' hs'=>a9J fuel _ s h' base R' μ' _ w' hr' fun s a' w2 R2 μ2 q1 q2 q3=>hk s a' w2 R2 μ2 q1 q2 (hs'.trans q3)
theorem a9K {listed:Array Bool}{i j:Nat}(hj:listed.getD j true=false)(hne:j≠i):(listed.setIfInBounds i true).getD j true=false:=by rw [getD_set_ne true (Ne.symm hne)];exact hj
theorem b6Q {ops:Array Oper}{m:Nat}{Q:St→Prop}{i:Nat}{oi:Oper}(him:i<m)(hT:uR ops m=true)(hA:mZ ops)(hi:ops[i]? =some oi)(hsi:(dA oi.op=true∧kB ops oi=false)∨mS oi=true):
  ∀(fuel:Nat) (listed:Array Bool) (st s:St),eR ops listed→
   (∀j oj,ops[j]? =some oj→j≠i→listed.getD j true=false→gL ops ops.size j i=false→oi.apart ops oj=true∧oS ops oi oj=true)→
   i∈Region.ready .any ops listed→oU ops listed st→Eff P G ops oi st s→
   a7F P G ops m Q fuel (listed.setIfInBounds i true) s→a7F P G ops m Q (fuel+1) listed st:=by
 have low:∀(listed:Array Bool),eR ops listed→i∈Region.ready .any ops listed→∀j∈Region.ready .any ops listed,j<m:=fun listed hcl hr j hj=>by apply Classical.byContradiction;intro hjm;obtain ⟨_,oj,hoj,hall⟩:=mem_ready.1 hj;obtain ⟨hiun,_⟩:=mem_ready.1 hr;have h1:=a4s hT (Nat.le_of_not_lt hjm) hoj him;rw [dE hcl hiun ops.size j fun o ho=>by rw [hoj] at ho;cases ho;exact hall] at h1;cases h1
 intro fuel
 induction fuel with
 |zero=>
  intro listed st s hcl _ hr _ hy H;refine ⟨fun h=>(by rw [h] at hr;cases hr),fun j hj=>⟨low listed hcl hr j hj,?_⟩⟩;by_cases hji:j=i
  ·subst hji;rw [hi];exact (dS hsi).2 ⟨s,hy,H⟩
  ·exfalso;obtain ⟨hjun,oj,hoj,hall⟩:=mem_ready.1 hj;obtain ⟨hiun,_⟩:=mem_ready.1 hr;have h1:=a9K hjun hji;rw [H.1] at h1;have h2:=a3M h1;have:=low listed hcl hr j hj;omega
 |succ fuel ih=>
  intro listed st s hcl hfree hr hI hy H;refine ⟨fun h=>(by rw [h] at hr;cases hr),fun j hj=>⟨low listed hcl hr j hj,?_⟩⟩;by_cases hji:j=i
  ·subst hji;rw [hi];exact (dS hsi).2 ⟨s,hy,H⟩
  ·have h1:=(H.2 j (ready_mono hj hji)).2;obtain ⟨hjun,oj,hoj,hall⟩:=mem_ready.1 hj;rw [hoj] at h1 ⊢;simp only at h1 ⊢;obtain ⟨hiun,oi',hoi',halli⟩:=mem_ready.1 hr;have hnot:gL ops ops.size j i=false:=dE hcl hiun _ _ fun o ho=>by rw [hoj] at ho;cases ho;exact hall
   obtain ⟨hap,hpo⟩:=hfree j oj hoj hji hjun hnot;have hsj:(dA oj.op=true∧kB ops oj=false)∨mS oj=true:=by
    by_cases hs:mS oj=true
    ·exact .inr hs
    ·refine .inl ⟨?_,?_⟩
     ·unfold oS at hpo;simp only [mS,d8P,d8D,Bool.not_eq_true'] at hpo hs;rcases hpo with ((((((h|h)|h)|h)|h)|h)|h)|h
      ·exact h.1.2
      ·exact absurd (.inl (.inl h.1.2)) hs
      ·exact h.1.1.2
      ·exact absurd (.inl (.inr h.2)) hs
      ·exact h.1.2
      ·exact absurd (.inl h.1.2) hs
      ·exact absurd (.inr h.2) hs
      ·exact (kP (G:=G) (st:=st) h.1.2).1
     ·cases hx:kB ops oj with
      |false=>rfl
      |true=>
       have hlt:i<ops.size:=(d8M.1 hi).1;rcases rT hx hoj hlt (fun e=>hji e.symm) with h'|h'
       ·have:=dE hcl hjun ops.size i fun o ho=>by rw [hoi'] at ho;cases ho;exact halli
        rw [h'] at this;cases this
       ·rw [hnot] at h';cases h'
   obtain ⟨s12,hu,hk⟩:=(dS hsj).1 h1;obtain ⟨s2,e1,e2⟩:=a5e hap hpo (fun hn d hd=>hI i oi d hi hn hiun hd) (fun hn d hd=>hI j oj d hoj hn hjun hd) hy hu;refine (dS hsj).2 ⟨s2,e1,?_⟩;refine ih (listed.setIfInBounds j true) s2 s12 (hcl.set hj) (fun k ok hk' hki hun hno=>?_) (ready_mono hr (Ne.symm hji)) (hI.step hA hoj fun k hf hn=>rM e1 hf hn) e2 ?_
   ·exact hfree k ok hk' hki (qO hun).2 hno
   ·rw [Array.setIfInBounds_comm _ _ hji];exact hk
theorem b2K {ops:Array Oper}{m:Nat}{Q:St→Prop}(hTA:uR ops m=true)(hA:mZ ops)(hT:eQ ops=[]∨∀o∈ops.toList,c1U ops o=true):∀(l:List Oper) (k:Nat) (listed:Array Bool) (st:St),k+l.length=m→(∀j,j<l.length→l[j]? =ops[k+j]?)→eR ops listed→oU ops listed st→
  a2h ops m l.length k listed=true→rF P G true ops l st Q→a7F P G ops m Q l.length listed st
 |[],_,_,_,_,_,_,_,hB,h=>⟨by simpa [a2h] using hB,h⟩
 |o::l,k,listed,st,hkm,hl,hcl,hI,hB,h=>by
  have hkm2:k<m:=by simp only [List.length_cons] at hkm;omega
  have h0:ops[k]? =some o:=by simpa using (hl 0 (by simp)).symm
  simp only [List.length_cons,a2h,d8D,h0] at hB;obtain ⟨⟨hr,hf⟩,hB'⟩:=hB;have hrk:k∈Region.ready .any ops listed:=by simpa using hr
  have hnext:∀s,oU ops (listed.setIfInBounds k true) s→rF P G true ops l s Q→a7F P G ops m Q l.length (listed.setIfInBounds k true) s:=fun s hs h=>b2K hTA hA hT l (k+1) _ s (by simp only [List.length_cons] at hkm;omega) (fun j hj=>by have:=hl (j+1) (by simpa using hj);simpa [Nat.add_assoc,Nat.add_comm 1 j] using this) (hcl.set hrk) hs hB' h
  have hspec:∀j oj,ops[j]? =some oj→j≠k→listed.getD j true=false→gL ops ops.size j k=false→o.apart ops oj=true∧oS ops o oj=true:=by intro j oj hj hne hun hno;rw [d8G] at hf;have h1:=hf j (List.mem_range.2 (d8M.1 hj).1);simp only [hj,d8P,beq_iff_eq,hne,false_or,hun,Bool.false_eq_true,hno,d8D] at h1;exact h1
  have only:(∀j oj,ops[j]? =some oj→j≠k→listed.getD j true=false→gL ops ops.size j k=false→False)→a7F P G ops m Q (l.length+1) listed st:=fun hno=>by
   have low:∀j∈Region.ready .any ops listed,j<m:=fun j hj=>by apply Classical.byContradiction;intro hjm;obtain ⟨_,oj,hoj,hall⟩:=mem_ready.1 hj;obtain ⟨hiun,_⟩:=mem_ready.1 hrk;have h1:=a4s hTA (Nat.le_of_not_lt hjm) hoj hkm2;rw [dE hcl hiun ops.size j fun o ho=>by rw [hoj] at ho;cases ho;exact hall] at h1;cases h1
   refine ⟨fun h'=>(by rw [h'] at hrk;cases hrk),fun j hj=>⟨low j hj,?_⟩⟩;by_cases hjk:j=k
   ·subst hjk;rw [h0];have hkeep:kO P G true ops o (fun s=>rF P G true ops l s Q∧oU ops (listed.setIfInBounds j true) s) st:=by
     by_cases hT0:eQ ops=[]
     ·refine eZ (fun s hs=>⟨hs,fun i oi d hi hn _ hd=>?_⟩) h;have:d∈eQ ops:=List.mem_filterMap.2 ⟨oi,by rw [Array.mem_toList_iff];exact Array.mem_of_getElem? hi,by rw [if_pos hn];exact hd⟩;rw [hT0] at this;cases this
     ·have hT:=hT.resolve_left hT0;refine eZ (fun s hs=>⟨hs.1,hI.step hA h0 hs.2⟩) (b2y hT0 (hT o (by rw [Array.mem_toList_iff];exact Array.mem_of_getElem? h0)) h)
    exact eZ (fun s hs=>hnext s hs.2 hs.1) hkeep
   ·obtain ⟨hjun,oj,hoj,hall⟩:=mem_ready.1 hj;have hnot:gL ops ops.size j k=false:=dE hcl (mem_ready.1 hrk).1 _ _ fun o' ho'=>by rw [hoj] at ho';cases ho';exact hall
    exact (hno j oj hoj hjk hjun hnot).elim
  by_cases hs:(dA o.op=true∧kB ops o=false)∨mS o=true
  ·obtain ⟨s,hd,hk⟩:=(dS hs).1 h;exact b6Q hkm2 hTA hA h0 hs l.length listed st s hcl (fun j oj hj hne hun hno=>hspec j oj hj hne hun hno) hrk hI hd (hnext _ (hI.step hA h0 fun k hf hn=>rM hd hf hn) hk)
  ·refine only fun j oj hj hne hun hno=>?_
   obtain ⟨_,hpo⟩:=hspec j oj hj hne hun hno;cases hal:kB ops o with
   |true=>
    obtain ⟨_,ok,hok,hallk⟩:=mem_ready.1 hrk;have hnot2:gL ops ops.size k j=false:=dE hcl hun _ _ fun o' ho'=>by rw [hok] at ho';cases ho';exact hallk
    rcases rT hal h0 (d8M.1 hj).1 hne with h'|h'
    ·rw [hno] at h';cases h'
    ·rw [hnot2] at h';cases h'
   |false=>
    unfold oS at hpo;simp only [mS,d8P,d8D,Bool.not_eq_true'] at hpo hs;rcases hpo with ((((((h'|h')|h')|h')|h')|h')|h')|h'
    ·exact hs (.inl ⟨h'.1.1,hal⟩)
    ·exact hs (.inl ⟨h'.1.1,hal⟩)
    ·exact hs (.inr (.inl (.inl h'.1.1.1)))
    ·exact hs (.inl ⟨h'.1,hal⟩)
    ·exact hs (.inr (.inl (.inr h'.1.1)))
    ·exact hs (.inr (.inl h'.1.1))
    ·exact hs (.inl ⟨(kP (G:=G) (st:=st) h'.1.1).1,hal⟩)
    ·exact hs (.inr (.inr h'.1.1))
theorem a9L {id:Nat}{ops:Array Oper}{m:Nat}{T:St→Prop}{Q:Exit→St→Prop}(hm:P.follows .mixedOrders=true)(hB:c5b ops m=true)(hF:a6n ops st=true)(h:rF P G true ops (ops.toList.take m) st T)(hT:∀s base R μ a w (QQ:Exit→Act→World→Prop),T s→Rel P G base R μ s a w→(∀s' a' w' R' μ',Q .normal s'→Rel P G base R' μ' s' a' w'→Step base R w R' w'→QQ .normal a' w')→wpAny P .any ops QQ (ops.size-m) (oC m ops.size) a w):SW P G (.region id ops true) st Q:=by
 intro base R μ a w hr;obtain ⟨hr',hs'⟩:=hr.drew;unfold c5b at hB;rw [d8D,d8D,d8D,decide_eq_true_eq] at hB;obtain ⟨⟨hN,hmle,hTA⟩,hB⟩:=hB;rw [d8P,List.isEmpty_iff,d8D,d8G,decide_eq_true_eq] at hN;have mem:∀ {i oi d},ops[i]? =some oi→eL oi=true→oi.dst=some d→d∈eQ ops:=fun hi hn hd=>List.mem_filterMap.2 ⟨_,by rw [Array.mem_toList_iff];exact Array.mem_of_getElem? hi,by rw [if_pos hn];exact hd⟩
 have hA:mZ ops:=fun i j oi oj d hi hj hni hnj hdi hdj=>by
  rcases hN with hN|⟨_,hN⟩
  ·have:=mem hi hni hdi;rw [hN] at this;cases this
  ·exact a9e (l:=ops.toList) (f:=fun o=>if eL o then o.dst else none) hN i j (by simpa using hi) (by simpa using hj) (by rw [if_pos hni];exact hdi) (by rw [if_pos hnj];exact hdj)
 have hI:oU ops (Array.replicate ops.size false) st:=fun j oj d hj hn _ hd=>d8G.1 hF d (mem hj hn hd)
 have hlen:(ops.toList.take m).length=m:=by simp;omega
 have h1:=b2K (P:=P) (G:=G) hTA hA (hN.imp (fun h=>h) (fun h=>h.1)) (ops.toList.take m) 0 (Array.replicate ops.size false) st (by rw [hlen];omega) (fun j hj=>by
  rw [hlen] at hj;rw [List.getElem?_take,if_pos hj];simp) (fun k hk=>by
  rcases Nat.lt_or_ge k ops.size with h'|h'
  ·simp [h'] at hk
  ·simp [Nat.not_lt.2 h'] at hk) hI (by rw [hlen];exact hB) h
 rw [hlen] at h1;refine wp_region_any hm ?_
 have h2:=a9J (r:=ops.size-m) (QQ:=fun e a' w'=>∃s' R' μ',Q e s'∧Rel P G base R' μ' s' a' w'∧Step base R w R' w') m _ st h1 base R μ a w.drew hr' fun s a' w' R' μ' q1 q2 q3=>hT s base R' μ' a' w' _ q1 q2 fun s2 a2 w2 R2 μ2 p1 p2 p3=>⟨s2,R2,μ2,p1,p2,(hs'.trans q3).trans p3⟩
 rw [show m+(ops.size-m)=ops.size by omega] at h2;exact h2
end
end Go.VM
end
section
namespace Go.VM
open Go Go.RowKit
def spl (cur:Array Value)(off:Nat)(l:List Value):Array Value:=(cur.toList.take off++l++cur.toList.drop (off+l.length)).toArray
theorem a5t {cur:Array Value}{off:Nat}{l:List Value}(h:off+l.length≤cur.size)(k:Nat):(spl cur off l)[k]? =if k<off then cur[k]? else if k<off+l.length then l[k-off]? else cur[k]? :=by unfold spl;rw [List.getElem?_toArray,a0y _ _ _ (by simpa using h)];simp
theorem a9M {cur:Array Value}{off:Nat}{l:List Value}(h:off+l.length≤cur.size):(spl cur off l).size=cur.size:=by unfold spl;simp only [List.size_toArray,List.length_append,List.length_take,List.length_drop,Array.length_toList];omega
theorem d0c {cur:Array Value}{off:Nat}{l l':List Value}(h:off+l.length≤cur.size)(hl:l'.length=l.length):spl (spl cur off l) off l'=spl cur off l':=by
 apply Array.ext_getElem?;intro k;have h1:=a9M h;rw [a5t (by rw [h1];omega),a5t h,a5t (by omega)];rw [hl];split
 ·rfl
 ·split
  ·rfl
  ·rfl
theorem d0d (a b c:List Value)(b':List Value)(h:b'.length=b.length):spl (a.toArray++b.toArray++c.toArray) a.length b'=a.toArray++b'.toArray++c.toArray:=by unfold spl;rw [h];simp
theorem setRow_setRow (w:World)(g:Nat)(a b:Array Value):(w.setRow g a).setRow g b=w.setRow g b:=by
 unfold World.setRow;cases w with
 |mk heap tape drawn os output=>
  simp only;congr 1;apply Array.ext
  ·simp
  ·intro k h1 h2;simp only [Array.getElem_modify];by_cases hk:g=k
   ·simp only [hk,if_true];generalize heap[k]'(by simpa using h1)=o;cases o<;>rfl
   ·simp [hk]
theorem a7G (w:World){g b:Nat}(hne:g≠b)(x y:Array Value):(w.setRow g x).setRow b y=(w.setRow b y).setRow g x:=by
 unfold World.setRow;cases w with
 |mk heap tape drawn os output=>
  simp only;congr 1;apply Array.ext
  ·simp
  ·intro k h1 h2;simp only [Array.getElem_modify];by_cases hk:g=k
   ·subst hk;simp [Ne.symm hne]
   ·by_cases hb:b=k
    ·subst hb;simp [hk]
    ·simp [hk,hb]
section
variable {P:Program} {G:GT} {st:St}
theorem qU {a:Act}{w:World}{o:Oper}{t:TypeId}{ad x:Operand}(ho:o.op= .store t ad x){b off:Nat}{cur:Array Value}{T:TypeId}(had:a.eval ad= .pointer (some ⟨b,off,none⟩))(hh:w.heap[b]? =some (.cells cur T (0,0)))(hsz:(a.eval x).cells.size=P.cellsOf t)(hne:P.cellsOf t≠0)(hone:∀u∈(a.eval x).cells.toList,u.oneCell'=true)(hfit:off+(a.eval x).cells.size≤cur.size):
  (execOp a.eval o).run P w= .ok .skip (w.setRow b (spl cur off (a.eval x).cells.toList)):=by
 have hst:=run_storeCells_at P b off T (a.eval x).cells.toList 0 cur w hh (by simpa using hfit) hone;simp only [Nat.add_zero] at hst;have hnn: ¬((a.eval x).cells.size≠P.cellsOf t):=by rw [hsz];simp
 unfold spl;simp only [execOp,ho,Sem.run_bind,had,Instr.storeAt,Instr.sureAddr,storeVar,Sem.run_pure,Result.andThen_ok,mT (eD hne) w,if_neg hnn,hst]
theorem a0g {a:Act}{w:World}{o:Oper}{t e:TypeId}{x i:Operand}(ho:o.op= .indexAddr t x i)(hu:P.underlying t=some (.slice e)){b n cap k:Nat}{kd:IntKind}(hx:a.eval x= .slice (some ⟨b,0,none⟩) n cap)(hi:a.eval i= .int kd (k:Int))(hk:k<n)(hs:0<P.cellsOf e):
  (execOp a.eval o).run P w= .ok (.value (.pointer (some ⟨b,k*P.cellsOf e,none⟩))) w:=by
 have hso:=mT (eD (P:=P) (t:=e) (by omega)) w;have hkn: ¬(n≤k):=by omega
 simp [execOp,ho,hx,hi,Instr.indexAt,run_underlying hu,asIntOf,hk,hso,jX]
theorem a7H {base:cZ}{R:Nat→Nat→Prop}{μ:Nat→Nat}{a:Act}{w:World}(hr:Rel P G base R μ st a w){t ty e:TypeId}(hok:gK P e=true)(hu:P.underlying t=some (.slice e)){i:Tmp}{x:Operand}{xs:List (List D)}{z0:List D}{eI:List (TypeId×List Loc)}(hsx:st.eval G (.tmp i)= .d (.sl xs))(htk:gH (.t i) st.own=some (e,eI))(hlx:∀c∈xs,c.length=P.cellsOf e)(hx:st.eval G x= .d (.sl [z0]))(hz0:z0.length=P.cellsOf e)(hbd:(xs.length+1)*(P.bytesOf e+1)≤140737488355328):
  ∃g cap cur1 w1,(Builtin.append_ #[t,t] ty #[a.eval (.tmp i),a.eval x]).run P w= .ok (.slice (some ⟨g,0,none⟩) (xs.length+1) cap) w1∧w1.heap[g]? =some (.cells cur1 e (0,0))∧xs.length*P.cellsOf e+P.cellsOf e≤cur1.size∧
   (∀k o,getKey k st.H=some o→μ k≠g∧w1.heap[μ k]? =w.heap[μ k]?)∧
   ∀(news:List Value) (c:List D),news.length=P.cellsOf e→c.length=P.cellsOf e→(∀u∈news,u.oneCell'=true)→(∀(j:Nat) (d:D),c[j]? =some d→d.one=true∧∃v,news[j]? =some v∧V R w v d)→
    ∃R1,Rel P G base R1 μ { st with own:=eI } a (w1.setRow g (spl cur1 (xs.length*P.cellsOf e) news))∧V R1 (w1.setRow g (spl cur1 (xs.length*P.cellsOf e) news)) (.slice (some ⟨g,0,none⟩) (xs.length+1) cap) (.sl (xs++[c]))∧
     a1G P base R1 μ { st with own:=eI } a (w1.setRow g (spl cur1 (xs.length*P.cellsOf e) news)) (.slice (some ⟨g,0,none⟩) (xs.length+1) cap) (.fresh e)∧Step base R w R1 (w1.setRow g (spl cur1 (xs.length*P.cellsOf e) news)):=by
 obtain ⟨ti,z,hi,hsize,hbytes,hpos,hz,hzs⟩:=uZ hok;have hb1:xs.length+1≤140737488355328:=by rw [Nat.mul_add] at hbd;omega
 have hb2:(xs.length+1)*P.bytesOf e≤140737488355328:=by rw [Nat.mul_add] at hbd;omega
 obtain ⟨ao2,capx,hv2,hrun2⟩:=b2q (ys:=[z0]) hr (by rw [hx];rfl);obtain ⟨b2,off2,size2,rfl,q1,q2,q3⟩:=hrun2 (by simp);have hsz2:size2=P.cellsOf e:=by rw [← q2 z0 (.head _),hz0]
 subst hsz2;obtain ⟨n0,m1,m2,m3,m4⟩:=a4Y q2 q3;simp only [List.length_singleton,Nat.one_mul] at m1 hv2;obtain ⟨hr',v0,vs,hv0,jW,hkeys,hvs,hap⟩:=hr.gH htk;have hsv:a.eval (.tmp i)=v0:=by
  refine hv0 _ ?_
  show a.tmps[i]? =some (a.tmps.getD i undef)
  by_cases hs:i<a.tmps.size
  ·simp [hs]
  ·have h3: ¬i<st.tmps.length:=by rw [← hr.size];exact hs
   simp [St.eval,List.getD,List.getElem?_eq_none (Nat.le_of_not_lt h3)] at hsx
 have hV:=hr.jF hsx;have hlt:∀k o,getKey k st.H=some o→μ k<w.heap.size:=fun k o hk=>(hr.gT k o hk).2.2.lt
 have hnew:∀(olds:List Value) (old:Nat),olds.length=xs.length*P.cellsOf e→(∀(i j:Nat) (c:List D) (d:D),xs[i]? =some c→c[j]? =some d→d.one=true∧∃v,olds[i*P.cellsOf e+j]? =some v∧V R w v d)→
   (Builtin.append_ #[t,t] ty #[a.eval (.tmp i),a.eval x]).run P w= .ok (.slice (some ⟨w.heap.size,0,none⟩) (xs.length+1) (grownCap w (xs.length+1) old e)) (w.drew.alloc (.cells (olds.toArray++n0.toArray++Builtin.zeroCells z.cells (grownCap w (xs.length+1) old e-(xs.length+1))) e))→
   ∃g cap cur1 w1,(Builtin.append_ #[t,t] ty #[a.eval (.tmp i),a.eval x]).run P w= .ok (.slice (some ⟨g,0,none⟩) (xs.length+1) cap) w1∧w1.heap[g]? =some (.cells cur1 e (0,0))∧xs.length*P.cellsOf e+P.cellsOf e≤cur1.size∧
   (∀k o,getKey k st.H=some o→μ k≠g∧w1.heap[μ k]? =w.heap[μ k]?)∧
   ∀(news:List Value) (c:List D),news.length=P.cellsOf e→c.length=P.cellsOf e→(∀u∈news,u.oneCell'=true)→(∀(j:Nat) (d:D),c[j]? =some d→d.one=true∧∃v,news[j]? =some v∧V R w v d)→
    ∃R1,Rel P G base R1 μ { st with own:=eI } a (w1.setRow g (spl cur1 (xs.length*P.cellsOf e) news))∧V R1 (w1.setRow g (spl cur1 (xs.length*P.cellsOf e) news)) (.slice (some ⟨g,0,none⟩) (xs.length+1) cap) (.sl (xs++[c]))∧
     a1G P base R1 μ { st with own:=eI } a (w1.setRow g (spl cur1 (xs.length*P.cellsOf e) news)) (.slice (some ⟨g,0,none⟩) (xs.length+1) cap) (.fresh e)∧Step base R w R1 (w1.setRow g (spl cur1 (xs.length*P.cellsOf e) news)):=by
  intro olds old ho1 ho2 hrun;refine ⟨w.heap.size,_,_,_,hrun,heap_alloc_new w.drew _,?_,fun k o hk=>⟨by have:=hlt k o hk;omega,Below.heap_alloc w.drew _ _ (hlt k o hk)⟩,?_⟩
  ·simp only [Array.size_append,List.size_toArray,ho1,m1];omega
  ·intro news c hn hc h1 hcn;have hsp:spl (olds.toArray++n0.toArray++Builtin.zeroCells z.cells (grownCap w (xs.length+1) old e-(xs.length+1))) (xs.length*P.cellsOf e) news=olds.toArray++news.toArray++Builtin.zeroCells z.cells (grownCap w (xs.length+1) old e-(xs.length+1)):=by have:=d0d olds n0 (Builtin.zeroCells z.cells (grownCap w (xs.length+1) old e-(xs.length+1))).toList news (by rw [hn,m1]);rw [ho1] at this;simpa using this
   rw [hsp];have hal:=b4i w.drew (olds.toArray++n0.toArray++Builtin.zeroCells z.cells (grownCap w (xs.length+1) old e-(xs.length+1))) (olds.toArray++news.toArray++Builtin.zeroCells z.cells (grownCap w (xs.length+1) old e-(xs.length+1))) e;have hhs:w.drew.heap.size=w.heap.size:=rfl;rw [hhs] at hal;rw [hal];obtain ⟨R',n1,n2,n3,n4⟩:=a4h hr' (e:=e) (z:=z) hpos hzs (xs:=xs) (ys:=[c]) (olds:=olds) (news:=news) old (by unfold maxLen;simp;omega) hlx (by simpa using hc) ho1 (by simpa using hn) ho2 (fun i j c' d hi hj=>by
    cases i with
    |zero=>simp at hi;subst hi;simpa using hcn j d hj
    |succ i=>simp at hi) _ rfl
   exact ⟨R',n1,n3,n4,n2⟩
 have hnil:xs=[]→(∃ao,v0= .slice ao 0 0)→_:=fun hx0 ⟨ao,hao⟩=>hnew [] 0 (by rw [hx0];simp) (by rw [hx0];simp) (by
  rw [hsv,hao,hv2,hx0];cases ao with
  |none=>have:=run_append_nil (P:=P) w t ty e ti z hu hi hz ⟨b2,off2,none⟩ 1 capx n0 (by rw [m1,hsize,Nat.one_mul]) m2 (by omega) (by omega) (by rw [hbytes];rw [hx0] at hb2;simp at hb2;omega);simpa using this
  |some b0=>have:=run_append_grow (P:=P) w t ty e ti z hu hi hz b0 0 0 [] (by simp) (by simp) ⟨b2,off2,none⟩ 1 capx n0 (by rw [m1,hsize,Nat.one_mul]) m2 (by omega) (by omega) (by rw [hbytes];rw [hx0] at hb2;exact growslice_fits (by omega) (by simpa using hb2));simpa using this)
 rcases jW with ⟨ao,rfl⟩|⟨g,n,cap,cur,rfl,hbg,hg,hnc,hcm,hcs,hnR⟩
 ·have hx0:xs=[]:=by obtain ⟨ao',cap',h1,_⟩:=hV.vN;rw [hsv] at h1;exact List.eq_nil_of_length_eq_zero (Value.slice.inj h1).2.1.symm
  exact hnil hx0 ⟨ao,rfl⟩
 ·obtain ⟨ao',cap',h1,_,hrunx⟩:=hV.vN;rw [hsv] at h1;cases h1;have holds:∃olds:List Value,olds.length=xs.length*P.cellsOf e∧(∀(j:Nat) (u:Value),olds[j]? =some u→w.cell? ((⟨g,0,none⟩:Addr).add j)=some u)∧
    ∀(i j:Nat) (c:List D) (d:D),xs[i]? =some c→c[j]? =some d→d.one=true∧∃v,olds[i*P.cellsOf e+j]? =some v∧V R w v d:=by
   by_cases hx0:xs=[]
   ·subst hx0;exact ⟨[],by simp,by simp,by simp⟩
   ·obtain ⟨b,o',size,hba,q1,q2,q3⟩:=hrunx hx0;cases hba;have hsz:size=P.cellsOf e:=by
     cases xs with
     |nil=>exact absurd rfl hx0
     |cons c l=>rw [← q2 c (.head _),hlx c (.head _)]
    subst hsz;obtain ⟨olds,n1,n2,_,n4⟩:=a4Y q2 q3;exact ⟨olds,n1,n2,n4⟩
  obtain ⟨olds,o1,o2,o3⟩:=holds;by_cases hroom:xs.length+1≤cap
  ·have hmul:(xs.length+1)*P.cellsOf e≤cap*P.cellsOf e:=Nat.mul_le_mul_right _ hroom;have hfit0:xs.length*P.cellsOf e+P.cellsOf e≤cur.size:=by rw [hcs];rw [Nat.add_mul,Nat.one_mul] at hmul;exact hmul
   have hfit:xs.length*P.cellsOf e+n0.length≤cur.size:=by rw [m1];exact hfit0
   have hrun:=run_append_room (P:=P) w t ty e ti hu hi g xs.length cap cur hg ⟨b2,off2,none⟩ 1 capx n0 (by rw [m1,hsize,Nat.one_mul]) m2 m3 hroom (by rw [hsize];exact hfit);rw [hsize] at hrun;have hrun2:(Builtin.append_ #[t,t] ty #[a.eval (.tmp i),a.eval x]).run P w= .ok (.slice (some ⟨g,0,none⟩) (xs.length+1) cap) (w.setRow g (spl cur (xs.length*P.cellsOf e) n0)):=by rw [hsv,hv2];exact hrun
   have hspg:bG (.slice (some ⟨g,0,none⟩) xs.length cap)=some g:=by simp [bG];omega
   have hgne:∀k o,getKey k st.H=some o→μ k≠g:=fun k o hk he=>hkeys k o hk (by rw [hspg,he])
   refine ⟨g,cap,_,_,hrun2,setRow_heap w g cur _ e _ hg,?_,fun k o hk=>⟨hgne k o hk,setRow_other w g _ _ (hgne k o hk)⟩,?_⟩
   ·rw [a9M hfit];exact hfit0
   ·intro news c hn hc h1n hcn;have hnl:news.length=n0.length:=by rw [hn,m1]
    rw [d0c hfit hnl,setRow_setRow];have hfitn:xs.length*P.cellsOf e+news.length≤cur.size:=by rw [hnl];exact hfit
    generalize hcur':spl cur (xs.length*P.cellsOf e) news=cur';have hget:∀k,cur'[k]? =if k<xs.length*P.cellsOf e then cur[k]? else if k<xs.length*P.cellsOf e+news.length then news[k-xs.length*P.cellsOf e]? else cur[k]? :=fun k=>by rw [← hcur'];exact a5t hfitn k
    obtain ⟨p1,p2,p3⟩:=hr'.c0H (g:=g) (n:=xs.length) (m:=1) (s:=P.cellsOf e) (cur':=cur') (fun k o' hk he=>hkeys k o' hk (by rw [hspg,he])) hvs (fun v' hv' hsp=>(hap v' hv').1 g hspg hsp) hbg hg hnR (fun off hoff=>by rw [hget,if_pos hoff]);have hnewg:(w.setRow g cur').heap[g]? =some (.cells cur' e (0,0)):=setRow_heap w g cur _ e _ hg
    have hcsz:cur'.size=cap*P.cellsOf e:=by rw [← hcur',a9M hfitn,hcs]
    refine ⟨_,p1,?_,?_,p2⟩
    ·have hly:∀c'∈[c],c'.length=P.cellsOf e:=by simpa using hc
     have hcell:∀(i j:Nat) (c':List D) (d:D),(xs++[c])[i]? =some c'→c'[j]? =some d→d.one=true∧∃v,(w.setRow g cur').cell? ⟨g,0+i*P.cellsOf e+j,none⟩=some v∧V R w v d:=fun i j c' d hi' hj=>by
      rw [Nat.zero_add,cell_of_row _ _ _ cur' e (0,0) hnewg,hget];by_cases hil:i<xs.length
      ·rw [d8O hil] at hi';obtain ⟨w1,v,w2,w3⟩:=o3 i j c' d hi' hj;have hlt:=(d8E.1 w2).1;have hcellv:=o2 _ v w2;rw [jX,Nat.zero_add,cell_of_row _ _ _ cur e (0,0) hg] at hcellv;rw [if_pos (by omega)];exact ⟨w1,v,hcellv,w3⟩
      ·rw [d8L (by omega)] at hi';have hi0:i=xs.length:=by have:=(d8E.1 hi').1;simp at this;omega
       subst hi0;simp at hi';subst hi';obtain ⟨w1,v,w2,w3⟩:=hcn j d hj;have hlt:=(d8E.1 w2).1;rw [if_neg (by omega),if_pos (by omega),Nat.add_sub_cancel_left];exact ⟨w1,v,w2,w3⟩
     refine .sl g 0 _ cap (P.cellsOf e) _ (fun i j=>((w.setRow g cur').cell? ⟨g,0+i*P.cellsOf e+j,none⟩).getD undef) (by simp) hroom hpos (fun c' hc'=>by simp at hc';rcases hc' with hc'|hc';exact hlx c' hc';exact hly c' (by simpa using hc')) (fun i j hi' hj=>⟨.inr ⟨rfl,?_⟩,?_⟩) (fun i j c' d hi' hj=>(hcell i j c' d hi' hj).1) (fun i j c' d hi' hj=>?_)
     ·have:(i+1)*P.cellsOf e≤(xs.length+1)*P.cellsOf e:=Nat.mul_le_mul_right _ (by omega);rw [Nat.add_mul] at this;omega
     ·have hil:i<(xs++[c]).length:=by simp;omega
      have hei:=d8H hil;have hjl:j<((xs++[c])[i]).length:=by
       have hm:(xs++[c])[i]∈xs++[c]:=List.getElem_mem hil;rw [List.mem_append] at hm;rcases hm with hm|hm
       ·rw [hlx _ hm];exact hj
       ·rw [hly _ hm];exact hj
      obtain ⟨_,v,hv,_⟩:=hcell i j _ _ hei (d8H hjl);rw [hv];rfl
     ·obtain ⟨_,v,hv,hvd⟩:=hcell i j c' d hi' hj;rw [hv];exact hvd.bL p2
    ·refine ⟨.inr ⟨g,_,cap,cur',rfl,hbg,hnewg,hroom,hcm,hcsz,fun off hoff hR=>?_⟩,fun k o' hk=>by have:=hkeys k o' hk;rw [hspg] at this;simpa [bG,show cap≠0 by omega] using this,vs,p3,fun v' hv'=>?_⟩
     ·rcases hR with hR|⟨_,hR⟩
      ·have:xs.length*P.cellsOf e≤(xs.length+1)*P.cellsOf e:=Nat.mul_le_mul_right _ (by omega);exact hnR off (by omega) hR
      ·omega
     ·have hsp2:bG (.slice (some ⟨g,0,none⟩) (xs.length+1) cap)=some g:=by simp [bG];omega
      exact ⟨fun g' hg' hg''=>(hap v' hv').1 g' (by rw [hspg, ← hsp2];exact hg') hg'',fun g' hg' hg''=>(hap v' hv').2 g' hg' (by rw [hspg, ← hsp2];exact hg'')⟩
  ·refine hnew olds cap o1 o3 ?_
   rw [hsv,hv2];exact run_append_grow (P:=P) w t ty e ti z hu hi hz ⟨g,0,none⟩ xs.length cap olds (by rw [o1,hsize]) o2 ⟨b2,off2,none⟩ 1 capx n0 (by rw [m1,hsize,Nat.one_mul]) m2 (by omega) (by omega) (by rw [hbytes];exact growslice_fits (by omega) hb2)
abbrev tl2 (s:St)(eI:List (TypeId×List Loc))(e:TypeId)(r p:Tmp)(xs:List (List D))(c:List D):St:=finish (finish { s with own:=eI } (some r) (.d (.sl (xs++[c]))) (.fresh e)) (some p) .undef .no
theorem dK {ops:Array Oper}{Q:Exit→Act→World→Prop}{i:Nat}{K:Act→World→Prop}{a a':Act}{w w':World}{o:Oper}(ho:ops[i]? =some o)(hg:o.guard=none){v:Value}(hrun:(execOp a.eval o).run P w= .ok (.value v) w'∨((execOp a.eval o).run P w= .ok .skip w'∧v=Go.undef))(ha:a.put o.dst v=a')(h:K a' w'):wpOp P ops Q i K a w:=by
 unfold wpOp;rw [ho];have hw:∀y,Region.wanted o y=true:=fun y=>by unfold Region.wanted;rw [hg]
 simp only [hw,if_true];left;unfold Oper.wp;rcases hrun with h1|⟨h1,rfl⟩
 ·rw [h1]
  show K (a.put o.dst v) w'
  rw [ha];exact h
 ·rw [h1]
  show K (a.put o.dst Go.undef) w'
  rw [ha];exact h
theorem d0e {ops:Array Oper}{i0 i1 i2 i3:Nat}{L0:Array Bool}{t e:TypeId}{s z r p q x b:Tmp}{y0 y1 y2 y3:TypeId}{p0 p1 p2 p3:String}{f0 f1 f2 f3:Array Edge}{xs:List (List D)}{z0 c:List D}{eI:List (TypeId×List Loc)}{out:Out}{Q:St→Prop}{QQ:Exit→Act→World→Prop}(h0:ops[i0]? =some ⟨some r,.call { callee:= .builtin .append,args:= #[.tmp s,.tmp z],argTypes:= #[t,t] },y0,p0,f0,none⟩)(h1:ops[i1]? =some ⟨some p,.indexAddr t (.tmp r) (.tmp q),y1,p1,f1,none⟩)(h2:ops[i2]? =some ⟨none,.store e (.tmp p) (.tmp x),y2,p2,f2,none⟩)(h3:ops[i3]? =some ⟨none,.store t (.tmp b) (.tmp r),y3,p3,f3,none⟩)(r0:Region.ready .any ops L0=[i0])(r1:Region.ready .any ops (L0.setIfInBounds i0 true)=[i1,i3])(r2:Region.ready .any ops ((L0.setIfInBounds i0 true).setIfInBounds i1 true)=[i2,i3])(r3:Region.ready .any ops ((L0.setIfInBounds i0 true).setIfInBounds i3 true)=[i1])(r4:Region.ready .any ops (((L0.setIfInBounds i0 true).setIfInBounds i1 true).setIfInBounds i2 true)=[i3])(r5:Region.ready .any ops (((L0.setIfInBounds i0 true).setIfInBounds i1 true).setIfInBounds i3 true)=[i2])(r6:Region.ready .any ops (((L0.setIfInBounds i0 true).setIfInBounds i3 true).setIfInBounds i1 true)=[i2])(r7:Region.ready .any ops ((((L0.setIfInBounds i0 true).setIfInBounds i1 true).setIfInBounds i2 true).setIfInBounds i3 true)=[])(r8:Region.ready .any ops ((((L0.setIfInBounds i0 true).setIfInBounds i1 true).setIfInBounds i3 true).setIfInBounds i2 true)=[])(r9:Region.ready .any ops ((((L0.setIfInBounds i0 true).setIfInBounds i3 true).setIfInBounds i1 true).setIfInBounds i2 true)=[])(hok:gK P e=true)(hu:P.underlying t=some (.slice e))(hne:(r≠q∧r≠x∧r≠p∧r≠b)∧p≠x∧p≠b)(hlt:r<st.tmps.length∧p<st.tmps.length)(hsx:st.eval G (.tmp s)= .d (.sl xs))(htk:gH (.t s) st.own=some (e,eI))(hlx:∀c∈xs,c.length=P.cellsOf e)(hx:st.eval G (.tmp z)= .d (.sl [z0]))(hz0:z0.length=P.cellsOf e)(hbd:(xs.length+1)*(P.bytesOf e+1)≤140737488355328)(hq:st.eval G (.tmp q)= .d (.int .i64 (xs.length:Int)))(hxv:st.eval G (.tmp x)= .d (.agg c))(hc:c.length=P.cellsOf e)(hst:pJ P G t (.tmp b) (.tmp r) (tl2 st eI e r p xs c)=some out)(hQ:Q out.st){base:cZ}{R:Nat→Nat→Prop}{μ:Nat→Nat}{a:Act}{w:World}(hr:Rel P G base R μ st a w)(hk:∀s' a' w' R' μ',Q s'→Rel P G base R' μ' s' a' w'→Step base R w R' w'→QQ .normal a' w'):wpAny P .any ops QQ 4 L0 a w:=by
 obtain ⟨⟨n1,n2,n3,n4⟩,n5,n6⟩:=hne;obtain ⟨l1,l2⟩:=hlt;have hsz:=hr.size;obtain ⟨_,_,_,_,_,hpos,_,_⟩:=uZ hok;obtain ⟨g,cap,cur1,w1,e0,hg,hfit,hobj,hnews⟩:=a7H (ty:=y0) hr hok hu (x:= .tmp z) hsx htk hlx hx hz0 hbd;obtain ⟨pc,hpc,hpc1,hpc2⟩:=(hr.jF hxv).a0v;have hone:∀u∈pc.toList,u.oneCell'=true:=fun u hu=>by
  obtain ⟨j,hj⟩:=d8U hu;have hjl:j<c.length:=by rw [← hpc1];simpa using (d8E.1 hj).1
  obtain ⟨k1,k2⟩:=hpc2 j c[j] (by simp [hjl]);have:pc.getD j Go.undef=u:=by
   have:pc[j]? =some u:=by simpa using hj
   simp [d8F,this]
  rw [this] at k2;exact k2.a4T k1
 obtain ⟨R1,hr1,hV1,hA1,hs1⟩:=hnews pc.toList c (by simpa [hpc1] using hc) hc hone (fun j d hj=>by
  obtain ⟨k1,k2⟩:=hpc2 j d hj;have hjl:j<pc.size:=by rw [hpc1];exact (d8E.1 hj).1
  refine ⟨k1,pc[j],by simp [hjl],?_⟩;simpa [d8F,hjl] using k2)
 generalize hvS:(Value.slice (some ⟨g,0,none⟩) (xs.length+1) cap)=vS at *;generalize hcur2:spl cur1 (xs.length*P.cellsOf e) pc.toList=cur2 at *;have hra:r<a.tmps.size:=by rw [hsz];exact l1
 have hpa:p<a.tmps.size:=by rw [hsz];exact l2
 have hr1':=hr1.put (dst:=some r) (.d _ _ hV1) hA1;have hr2:=hr1'.put (dst:=some p) (v:= .pointer (some ⟨g,xs.length*P.cellsOf e,none⟩)) (act:= .no) (.undef _) trivial;generalize ha1:a.put (some r) vS=a1 at *;generalize ha2:a1.put (some p) (.pointer (some ⟨g,xs.length*P.cellsOf e,none⟩))=a2 at *;have z1:a1.tmps.size=a.tmps.size:=by rw [← ha1];exact size_put _ _ _
 have v1r:a1.eval (.tmp r)=vS:=by rw [← ha1];exact dR _ _ hra
 have v1q:a1.eval (.tmp q)=a.eval (.tmp q):=by rw [← ha1];exact bU _ _ (Ne.symm n1)
 have v1x:a1.eval (.tmp x)=a.eval (.tmp x):=by rw [← ha1];exact bU _ _ (Ne.symm n2)
 have v1b:a1.eval (.tmp b)=a.eval (.tmp b):=by rw [← ha1];exact bU _ _ (Ne.symm n4)
 have v2p:a2.eval (.tmp p)= .pointer (some ⟨g,xs.length*P.cellsOf e,none⟩):=by rw [← ha2];exact dR _ _ (z1.symm▸hpa)
 have v2x:a2.eval (.tmp x)= .agg pc:=by rw [← ha2,bU _ _ (Ne.symm n5),v1x,hpc]
 have v2r:a2.eval (.tmp r)=vS:=by rw [← ha2,bU _ _ n3];exact v1r
 have v2b:a2.eval (.tmp b)=a.eval (.tmp b):=by rw [← ha2,bU _ _ (Ne.symm n6)];exact v1b
 have hstb:=hst;unfold pJ at hstb;split at hstb;rotate_left
 ·cases hstb
 rename_i kb off ys hb hys;split at hstb;rotate_left
 ·cases hstb
 rename_i cs hkb;split at hstb;rotate_left
 ·cases hstb
 rename_i hcd
 clear hstb
 have hHs:(tl2 st eI e r p xs c).H=st.H:=rfl;rw [hHs] at hkb;have hb':a2.eval (.tmp b)= .pointer (some ⟨μ kb,off,none⟩):=hr2.dQ hb;have hys1:ys.length=1:=by
  have:(tl2 st eI e r p xs c).eval G (.tmp r)= .d (.sl (xs++[c])):=by simp [St.eval,finish,List.getD,l1,List.getElem?_set,Ne.symm n3]
  rw [this] at hys;simp only [rQ,D.cells,List.map_cons,List.map_nil,d8J] at hys;rw [← hys];rfl
 obtain ⟨_,_,vs0,T0,hh0,hsz0,_⟩:=hr.gT kb _ hkb;obtain ⟨hbg,hw1b⟩:=hobj kb _ hkb;have hvc:vS.cells= #[vS]:=by rw [← hvS];rfl
 have hvo:vS.oneCell'=true:=by rw [← hvS];rfl
 have hob:w1.heap[μ kb]? =some (.cells vs0 T0 (0,0)):=hw1b.trans hh0
 generalize hX:spl vs0 off [vS]=X;have E0:(execOp a.eval ⟨some r,.call { callee:= .builtin .append,args:= #[.tmp s,.tmp z],argTypes:= #[t,t] },y0,p0,f0,none⟩).run P w= .ok (.value vS) w1:=by simp [execOp,resolve,invoke,builtin,e0]
 have E1:∀w',(execOp a1.eval ⟨some p,.indexAddr t (.tmp r) (.tmp q),y1,p1,f1,none⟩).run P w'= .ok (.value (.pointer (some ⟨g,xs.length*P.cellsOf e,none⟩))) w':=fun w'=>a0g rfl hu (v1r.trans hvS.symm) (v1q.trans (hr.sR hq)) (by omega) hpos
 have E2:∀w':World,w'.heap[g]? =some (.cells cur1 e (0,0))→(execOp a2.eval ⟨none,.store e (.tmp p) (.tmp x),y2,p2,f2,none⟩).run P w'= .ok .skip (w'.setRow g cur2):=fun w' hw'=>by have:=qU (P:=P) (a:=a2) (w:=w') (o:=⟨none,.store e (.tmp p) (.tmp x),y2,p2,f2,none⟩) rfl v2p hw' (by rw [v2x];show pc.size=_;rw [hpc1,hc]) (by omega) (by rw [v2x];exact hone) (by rw [v2x];show _+pc.size≤_;rw [hpc1,hc];exact hfit);rw [v2x] at this;have hcl:(Value.agg pc).cells=pc:=rfl;rw [hcl,hcur2] at this;exact this
 have E3:∀(ax:Act) (w':World),ax.eval (.tmp b)= .pointer (some ⟨μ kb,off,none⟩)→ax.eval (.tmp r)=vS→w'.heap[μ kb]? =some (.cells vs0 T0 (0,0))→(execOp ax.eval ⟨none,.store t (.tmp b) (.tmp r),y3,p3,f3,none⟩).run P w'= .ok .skip (w'.setRow (μ kb) X):=fun ax w' hb1 hr1 hw'=>by have:=qU (P:=P) (a:=ax) (w:=w') (o:=⟨none,.store t (.tmp b) (.tmp r),y3,p3,f3,none⟩) rfl hb1 hw' (by rw [hr1,hvc, ← hcd.1,hys1];rfl) (by omega) (by rw [hr1,hvc];simpa using hvo) (by rw [hr1,hvc];show off+1≤_;rw [hsz0];omega);rw [hr1,hvc] at this;have:(execOp ax.eval ⟨none,.store t (.tmp b) (.tmp r),y3,p3,f3,none⟩).run P w'= .ok .skip (w'.setRow (μ kb) (spl vs0 off [vS])):=this;rw [hX] at this;exact this
 have hb1:a1.eval (.tmp b)= .pointer (some ⟨μ kb,off,none⟩):=by rw [v1b, ← v2b];exact hb'
 have hgX:(w1.setRow (μ kb) X).heap[g]? =some (.cells cur1 e (0,0)):=(setRow_other w1 (μ kb) g _ (Ne.symm hbg)).trans hg
 have hbX:(w1.setRow g cur2).heap[μ kb]? =some (.cells vs0 T0 (0,0)):=(setRow_other w1 g (μ kb) _ hbg).trans hob
 have hcomm:(w1.setRow (μ kb) X).setRow g cur2=(w1.setRow g cur2).setRow (μ kb) X:=a7G w1 hbg X cur2;have hfin:QQ .normal a2 ((w1.setRow g cur2).setRow (μ kb) X):=by
  obtain ⟨v,w',R',μ',hrun,hr3,_,_,hs3⟩:=a2S (o:=⟨none,.store t (.tmp b) (.tmp r),y3,p3,f3,none⟩) rfl hst base R1 μ a2 _ hr2;rw [E3 a2 _ hb' v2r hbX] at hrun;rcases hrun with hrun|⟨hrun,_⟩
  ·cases hrun
  ·cases hrun;exact hk out.st a2 _ R' μ' hQ hr3 (hs1.trans hs3)
 refine wpAny_all r0 (by simp) fun i hi=>?_
 simp only [d8K] at hi;subst hi;refine dK h0 rfl (.inl E0) ha1 ?_
 refine wpAny_all r1 (by simp) fun j hj=>?_
 simp only [List.mem_cons,List.not_mem_nil,or_false] at hj;rcases hj with rfl|rfl
 ·refine dK h1 rfl (.inl (E1 w1)) ha2 ?_
  refine wpAny_all r2 (by simp) fun j hj=>?_
  simp only [List.mem_cons,List.not_mem_nil,or_false] at hj;rcases hj with rfl|rfl
  ·refine dK h2 rfl (.inr ⟨E2 w1 hg,rfl⟩) rfl ?_
   refine wpAny_all r4 (by simp) fun j hj=>?_
   simp only [d8K] at hj;subst hj;exact dK h3 rfl (.inr ⟨E3 a2 _ hb' v2r hbX,rfl⟩) rfl (wpAny_done r7 hfin _)
  ·refine dK h3 rfl (.inr ⟨E3 a2 _ hb' v2r hob,rfl⟩) rfl ?_
   refine wpAny_all r5 (by simp) fun j hj=>?_
   simp only [d8K] at hj;subst hj;exact dK h2 rfl (.inr ⟨E2 _ hgX,rfl⟩) rfl (wpAny_done r8 (by rw [hcomm];exact hfin) _)
 ·refine dK h3 rfl (.inr ⟨E3 a1 _ hb1 v1r hob,rfl⟩) rfl ?_
  refine wpAny_all r3 (by simp) fun j hj=>?_
  simp only [d8K] at hj;subst hj;refine dK h1 rfl (.inl (E1 _)) ha2 ?_
  refine wpAny_all r6 (by simp) fun j hj=>?_
  simp only [d8K] at hj;subst hj;exact dK h2 rfl (.inr ⟨E2 _ hgX,rfl⟩) rfl (wpAny_done r9 (by rw [hcomm];exact hfin) _)
end
end Go.VM
end
section
namespace Go.VM
open Go Go.RowKit
section
variable {P:Program} {G:GT} {st:St} {Q:Exit→St→Prop}
theorem SW.d4t {id:Nat}{c:Code}(h:SW P G c st fun e s=>match e with
  | .exit id'=>if id'=id then Q .normal s else Q (.exit id') s
  |e=>Q e s):SW P G (.block id c) st Q:=fun base R μ a w hr=>wp_block (wp_mono (h base R μ a w hr) fun e a1 w1 ⟨s,R1,μ1,q1,q2,q3⟩=>by
   cases e with
   |exit id'=>
    simp only [Exit.inBlock];simp only at q1;by_cases hid:id'=id
    ·rw [if_pos hid] at q1 ⊢;exact ⟨s,R1,μ1,q1,q2,q3⟩
    ·rw [if_neg hid] at q1 ⊢;exact ⟨s,R1,μ1,q1,q2,q3⟩
   |_=>exact ⟨s,R1,μ1,q1,q2,q3⟩)
theorem SW.d7Z {c:Code}{ι:Type}(ws:ι→List (Nat×DV))(H:ι→List (Nat×aZ))(own:ι→List (TypeId×List Loc))(m:ι→Nat)(x0:ι)(h0:wD st (mU c st (ws x0) (H x0) (own x0)))(round:∀x,SW P G c (mU c st (ws x) (H x) (own x)) fun e s=>match e with
   | .normal=>bR (fun y=>mU c st (ws y) (H y) (own y)) m x s
   |e=>Q e s):SW P G (.loop c) st Q:=by
 intro base R μ a w hr;refine wp_loop_ghost (fun n a1 w1=>∃x R1 μ1,m x=n∧Rel P G base R1 μ1 (mU c st (ws x) (H x) (own x)) a1 w1∧Step base R w R1 w1) (m x0) ⟨x0,R,μ,rfl,hr.zI h0,.refl _ _ _⟩ ?_
 rintro n a1 w1 ⟨x,R1,μ1,rfl,hr1,hs1⟩;refine wp_mono (round x base R1 μ1 a1 w1 hr1) fun e a2 w2 ⟨s,R2,μ2,q,hr2,hs2⟩=>?_
 cases e with
 |normal=>simp only at q;unfold bR at q;obtain ⟨y,hy,hlt⟩:=q;exact ⟨m y,hlt,y,R2,μ2,rfl,hr2.zI hy,hs1.trans hs2⟩
 |_=>exact ⟨s,R2,μ2,q,hr2,hs1.trans hs2⟩
theorem b9s {all:Array Oper}{rest:List Oper}{T:St→Prop}(h:VK P G [.ops true all rest] .normal st fun _ s=>T s):rF P G true all rest st T:=by simp only [VK] at h;exact h
def d4u (P:Program)(G:GT)(t e:TypeId)(s z r p q x b:Tmp)(Q:St→Prop)(st:St):Prop:=
 ∃(xs:List (List D)) (z0 c:List D) (eI:List (TypeId×List Loc)) (out:Out),(r<st.tmps.length∧p<st.tmps.length)∧st.eval G (.tmp s)= .d (.sl xs)∧gH (.t s) st.own=some (e,eI)∧(∀c∈xs,c.length=P.cellsOf e)∧st.eval G (.tmp z)= .d (.sl [z0])∧z0.length=P.cellsOf e∧
  (xs.length+1)*(P.bytesOf e+1)≤140737488355328∧st.eval G (.tmp q)= .d (.int .i64 (xs.length:Int))∧st.eval G (.tmp x)= .d (.agg c)∧c.length=P.cellsOf e∧pJ P G t (.tmp b) (.tmp r) (tl2 st eI e r p xs c)=some out∧Q out.st
def b2L (ops:Array Oper)(m:Nat):Bool:=
 let L:=oC m ops.size
 decide (ops.size=m+4)&&(Region.ready .any ops L==[m])&&(Region.ready .any ops (L.setIfInBounds m true)==[m+1,m+3])&&(Region.ready .any ops ((L.setIfInBounds m true).setIfInBounds (m+1) true)==[m+2,m+3])&&(Region.ready .any ops ((L.setIfInBounds m true).setIfInBounds (m+3) true)==[m+1])&&
 (Region.ready .any ops (((L.setIfInBounds m true).setIfInBounds (m+1) true).setIfInBounds (m+2) true)==[m+3])&&(Region.ready .any ops (((L.setIfInBounds m true).setIfInBounds (m+1) true).setIfInBounds (m+3) true)==[m+2])&&(Region.ready .any ops (((L.setIfInBounds m true).setIfInBounds (m+3) true).setIfInBounds (m+1) true)==[m+2])&&
 (Region.ready .any ops ((((L.setIfInBounds m true).setIfInBounds (m+1) true).setIfInBounds (m+2) true).setIfInBounds (m+3) true)==[])&&(Region.ready .any ops ((((L.setIfInBounds m true).setIfInBounds (m+1) true).setIfInBounds (m+3) true).setIfInBounds (m+2) true)==[])&&(Region.ready .any ops ((((L.setIfInBounds m true).setIfInBounds (m+3) true).setIfInBounds (m+1) true).setIfInBounds (m+2) true)==[])
end
end Go.VM
end
section
namespace Go.VM
open Go Go.RowKit
section
variable {P:Program} {G:GT} {st:St}
theorem Rel.alias {base:cZ}{R:Nat→Nat→Prop}{μ:Nat→Nat}{a:Act}{w:World}(hr:Rel P G base R μ st a w){t:Tmp}{k off:Nat}(hk:∃o,getKey k st.H=some o)(ht:t<a.tmps.size)(h:∀u,w.cell? ⟨μ k,off,none⟩=some u→u=a.eval (.tmp t)):
  Rel P G base R μ { st with own:=addAlias (.t t) (.c k off) st.own } a w:=by
 obtain ⟨vs,hvs⟩:=hr.own;refine ⟨hr.defers,hr.size,hr.tmps,hr.gT,hr.inj,fun c hc k' off' hl=>?_,⟨vs,by simpa [addAlias] using hvs.len,fun i c v hc hv=>?_,hvs.apart⟩,hr.sN,hr.oP,hr.base,hr.pass⟩
 ·obtain ⟨i,hi⟩:=d8U hc;obtain ⟨c',hc',_,hm⟩:=sP hi;rcases hm _ hl with hx|⟨hx,_⟩
  ·exact hr.dV c' (d8I hc') k' off' hx
  ·cases hx;exact hk
 ·obtain ⟨c',hc',he,hm⟩:=sP hc;have ho:=hvs.one i c' v hc' hv;refine ⟨fun l hl u hu=>?_,by rw [he];exact ho.own,ho.keys⟩;rcases hm l hl with hx|⟨rfl,hx⟩
  ·exact ho.dV l hx u hu
  ·have h1:=h u hu;have h2:cE a w μ (.t t)=some (a.eval (.tmp t)):=by simp [cE,Act.eval,ht]
   rw [h1];exact ho.dV _ hx _ h2
end
end Go.VM
end
section
namespace Go.VM
open Go Go.RowKit
section
variable {P:Program} {G:GT} {base:cZ} {R:Nat→Nat→Prop} {μ:Nat→Nat} {st:St} {a:Act} {w:World}
theorem b4j {o:Oper}{e:TypeId}(ho:o.op= .alloc e){z:Value}(hz:(P.info? e).bind (·.zero)=some z):(execOp a.eval o).run P w= .ok (.value (.pointer (some ⟨w.heap.size,0,none⟩))) (w.alloc (.cells z.cells e)):=by obtain ⟨i,hi,hz⟩:=d8R.1 hz;simp [execOp,ho,Instr.alloc,zeroValue,typeInfo,hi,hz,newVar,newRow]
theorem tZ {o:Oper}{t u:TypeId}{x:Operand}{i fo:Nat}(ho:o.op= .fieldAddr t x i)(hf:aM P t i=some (fo,u))(hne:P.cellsOf u≠0){b off:Nat}(hx:a.eval x= .pointer (some ⟨b,off,none⟩)):
  (execOp a.eval o).run P w= .ok (.value (.pointer (some ⟨b,off+fo,none⟩))) w:=by
 obtain ⟨fs,f,h1,h2,rfl,rfl⟩:=sS hf;obtain ⟨ti,hti⟩:∃i,P.info? f.type=some i:=by
  cases hi:P.info? f.type with
  |none=>simp [Program.cellsOf,hi] at hne
  |some i=>exact ⟨i,rfl⟩
 simp [execOp,ho,hx,Instr.fieldAt,run_underlying h1,h2,Instr.sureAddr,xD (w:=w) b off f hti hne]
end
end Go.VM
end
section
namespace Go.VM
open Go
section
variable {G:GT}
theorem c0V {P:Program}{id:Nat}{ops:Array Oper}{st:St}{Q:Exit→St→Prop}(hm:P.follows .mixedOrders=true)(h:a8Z P G ops (fun s=>Q .normal s) ops.size (Array.replicate ops.size false) st):SW P G (.region id ops true) st Q:=by intro base R μ a w hr;obtain ⟨hr',hs'⟩:=hr.drew;exact wp_region_any hm (a8w ops.size _ st h base R μ a w.drew hr' fun s a' w' R' μ' q1 q2 q3=>⟨s,R',μ',q1,q2,hs'.trans q3⟩)
abbrev lst (l:List Nat):Array Bool:=l.foldl (fun a i=>a.setIfInBounds i true) (Array.replicate 4 false)
def four (ops:Array Oper):Bool:=decide (ops.size=4)&&(Region.ready .any ops (lst [])==[0,1])&&(Region.ready .any ops (lst [0])==[1,2])&&(Region.ready .any ops (lst [1])==[0,3])&&(Region.ready .any ops (lst [0,1])==[2,3])&&(Region.ready .any ops (lst [1,0])==[2,3])
 &&(Region.ready .any ops (lst [0,2])==[1])&&(Region.ready .any ops (lst [1,3])==[0])&&(Region.ready .any ops (lst [0,1,2])==[3])&&(Region.ready .any ops (lst [0,1,3])==[2])&&(Region.ready .any ops (lst [1,0,2])==[3])&&(Region.ready .any ops (lst [1,0,3])==[2])&&(Region.ready .any ops (lst [0,2,1])==[3])&&(Region.ready .any ops (lst [1,3,0])==[2])
 &&(Region.ready .any ops (lst [0,1,2,3])==[])&&(Region.ready .any ops (lst [0,1,3,2])==[])&&(Region.ready .any ops (lst [1,0,2,3])==[])&&(Region.ready .any ops (lst [1,0,3,2])==[])&&(Region.ready .any ops (lst [0,2,1,3])==[])&&(Region.ready .any ops (lst [1,3,0,2])==[])
theorem d7r {P:Program}{id:Nat}{ops:Array Oper}{st:St}{Q:Exit→St→Prop}{o0 o1 o2 o3:Oper}(hm:P.follows .mixedOrders=true)(hB:four ops=true)(h0:ops[0]? =some o0)(h1:ops[1]? =some o1)(h2:ops[2]? =some o2)(h3:ops[3]? =some o3)(h:let V:=kO P G true ops
   let F:=fun s=>Q .normal s
   V o0 (fun s=>V o1 (fun s=>V o2 (V o3 F) s∧V o3 (V o2 F) s) s∧V o2 (V o1 (V o3 F)) s) st∧V o1 (fun s=>V o0 (fun s=>V o2 (V o3 F) s∧V o3 (V o2 F) s) s∧V o3 (V o0 (V o2 F)) s) st):SW P G (.region id ops true) st Q:=by
 simp only [four,d8D,decide_eq_true_eq,beq_iff_eq,List.foldl_cons,List.foldl_nil] at hB;obtain ⟨⟨⟨⟨⟨⟨⟨⟨⟨⟨⟨⟨⟨⟨⟨⟨⟨⟨⟨hsz,r⟩,r0⟩,r1⟩,r01⟩,r10⟩,r02⟩,r13⟩,r012⟩,r013⟩,r102⟩,r103⟩,r021⟩,r130⟩,r0123⟩,r0132⟩,r1023⟩,r1032⟩,r0213⟩,r1302⟩:=hB;refine c0V hm ?_
 rw [hsz];simp only [a8Z,r,r0,r1,r01,r10,r02,r13,r012,r013,r102,r103,r021,r130,r0123,r0132,r1023,r1032,r0213,r1302,h0,h1,h2,h3,List.forall_mem_cons,List.not_mem_nil,false_imp_iff,implies_true,and_true,true_and,reduceCtorEq];exact h
def three (ops:Array Oper):Bool:=decide (ops.size=4)&&(Region.ready .any ops (lst [])==[0,1])&&(Region.ready .any ops (lst [0])==[1,2])&&(Region.ready .any ops (lst [1])==[0])&&(Region.ready .any ops (lst [0,1])==[2])&&(Region.ready .any ops (lst [1,0])==[2])
 &&(Region.ready .any ops (lst [0,2])==[1])&&(Region.ready .any ops (lst [0,1,2])==[3])&&(Region.ready .any ops (lst [1,0,2])==[3])&&(Region.ready .any ops (lst [0,2,1])==[3])
 &&(Region.ready .any ops (lst [0,1,2,3])==[])&&(Region.ready .any ops (lst [1,0,2,3])==[])&&(Region.ready .any ops (lst [0,2,1,3])==[])
theorem b6R {P:Program}{id:Nat}{ops:Array Oper}{st:St}{Q:Exit→St→Prop}{o0 o1 o2 o3:Oper}(hm:P.follows .mixedOrders=true)(hB:three ops=true)(h0:ops[0]? =some o0)(h1:ops[1]? =some o1)(h2:ops[2]? =some o2)(h3:ops[3]? =some o3)(h:VK P G [.ops true ops [o0]] .normal st (fun _ s=>VK P G [.ops true ops [o1,o2,o3]] .normal s (fun _ s=>Q .normal s)∧VK P G [.ops true ops [o2,o1,o3]] .normal s (fun _ s=>Q .normal s))∧VK P G [.ops true ops [o1,o0,o2,o3]] .normal st (fun _ s=>Q .normal s)):SW P G (.region id ops true) st Q:=by
 simp only [VK] at h;simp only [three,d8D,decide_eq_true_eq,beq_iff_eq,List.foldl_cons,List.foldl_nil] at hB;obtain ⟨⟨⟨⟨⟨⟨⟨⟨⟨⟨⟨⟨hsz,r⟩,r0⟩,r1⟩,r01⟩,r10⟩,r02⟩,r012⟩,r102⟩,r021⟩,r0123⟩,r1023⟩,r0213⟩:=hB;refine c0V hm ?_
 rw [hsz];simp only [a8Z,r,r0,r1,r01,r10,r02,r012,r102,r021,r0123,r1023,r0213,h0,h1,h2,h3,List.forall_mem_cons,List.not_mem_nil,false_imp_iff,implies_true,and_true,true_and,reduceCtorEq];exact h
end
end Go.VM
end
section
namespace Go.VM
open Go
section
variable {P:Program} {G:GT} {base:cZ} {R:Nat→Nat→Prop} {μ:Nat→Nat} {st:St} {a:Act} {w:World}
def a0h (P:Program)(G:GT)(ops:Array Oper)(c:Nat)(Q:St→Prop):Nat→Array Bool→St→Prop
 |0,listed,st=>Region.ready .any ops listed=[]∧Q st
 |fuel+1,listed,st=>(Region.ready .any ops listed=[]→Q st)∧∀i∈Region.ready .any ops listed,match ops[i]? with
  |none=>a0h P G ops c Q fuel (listed.setIfInBounds i true) st
  |some o=>kO P G (i !=c) ops o (a0h P G ops c Q fuel (listed.setIfInBounds i true)) st
theorem a5u {ops:Array Oper}{c:Nat}{Q:St→Prop}{QQ:Exit→Act→World→Prop}:∀(fuel:Nat) (listed:Array Bool) (st:St),a0h P G ops c Q fuel listed st→∀(base:cZ) (R:Nat→Nat→Prop) (μ:Nat→Nat) (a:Act) (w:World),Rel P G base R μ st a w→
  (∀s a' w' R' μ',Q s→Rel P G base R' μ' s a' w'→Step base R w R' w'→QQ .normal a' w')→wpAny P .any ops QQ fuel listed a w
 |0,_,st,h,base,R,μ,a,w,hr,hk=>⟨h.1,hk st a w R μ h.2 hr (.refl _ _ _)⟩
 |fuel+1,listed,st,h,base,R,μ,a,w,hr,hk=>by
  refine ⟨fun h0=>hk st a w R μ (h.1 h0) hr (.refl _ _ _),fun i hi=>?_⟩;have h1:=h.2 i hi;unfold wpOp;split
  ·rename_i ho;rw [ho] at h1;exact a5u fuel _ st h1 base R μ a w hr hk
  ·rename_i o ho;rw [ho] at h1;exact pQ h1 hr fun s v w' R' μ' h' hr' hs'=>a5u fuel _ s h' base R' μ' _ w' hr' fun s a' w2 R2 μ2 q1 q2 q3=>hk s a' w2 R2 μ2 q1 q2 (hs'.trans q3)
theorem c5c {id:Nat}{ops:Array Oper}{c:Nat}{Q:Exit→St→Prop}(hm:P.follows .mixedOrders=true)(h:a0h P G ops c (fun s=>Q .normal s) ops.size (Array.replicate ops.size false) st):SW P G (.region id ops true) st Q:=by intro base R μ a w hr;obtain ⟨hr',hs'⟩:=hr.drew;exact wp_region_any hm (a5u ops.size _ st h base R μ a w.drew hr' fun s a' w' R' μ' q1 q2 q3=>⟨s,R',μ',q1,q2,hs'.trans q3⟩)
theorem b6S {ops:Array Oper}{c:Nat}{Q:St→Prop}{i:Nat}{oi:Oper}(hA:mZ ops)(hi:ops[i]? =some oi)(hic:i≠c)(hsi:(dA oi.op=true∧kB ops oi=false)∨mS oi=true):
  ∀(fuel:Nat) (listed:Array Bool) (st s:St),eR ops listed→
   (∀j oj,ops[j]? =some oj→j≠i→listed.getD j true=false→gL ops ops.size j i=false→j≠c∧oi.apart ops oj=true∧oS ops oi oj=true)→
   i∈Region.ready .any ops listed→oU ops listed st→Eff P G ops oi st s→
   a0h P G ops c Q fuel (listed.setIfInBounds i true) s→a0h P G ops c Q (fuel+1) listed st:=by
 have qi:(i !=c)=true:=by simpa using hic
 intro fuel
 induction fuel with
 |zero=>
  intro listed st s _ _ hr _ hy H;refine ⟨fun h=>(by rw [h] at hr;cases hr),fun j hj=>?_⟩;by_cases hji:j=i
  ·subst hji;rw [hi,qi];exact (dS hsi).2 ⟨s,hy,H⟩
  ·have:=ready_mono hj hji;rw [H.1] at this;cases this
 |succ fuel ih=>
  intro listed st s hcl hfree hr hI hy H;refine ⟨fun h=>(by rw [h] at hr;cases hr),fun j hj=>?_⟩;by_cases hji:j=i
  ·subst hji;rw [hi,qi];exact (dS hsi).2 ⟨s,hy,H⟩
  ·have h1:=H.2 j (ready_mono hj hji);obtain ⟨hjun,oj,hoj,hall⟩:=mem_ready.1 hj;rw [hoj] at h1 ⊢;simp only at h1 ⊢;obtain ⟨hiun,oi',hoi',halli⟩:=mem_ready.1 hr;have hnot:gL ops ops.size j i=false:=dE hcl hiun _ _ fun o ho=>by rw [hoj] at ho;cases ho;exact hall
   obtain ⟨hjc,hap,hpo⟩:=hfree j oj hoj hji hjun hnot;have qj:(j !=c)=true:=by simpa using hjc
   rw [qj] at h1 ⊢;have hsj:(dA oj.op=true∧kB ops oj=false)∨mS oj=true:=by
    by_cases hs:mS oj=true
    ·exact .inr hs
    ·refine .inl ⟨?_,?_⟩
     ·unfold oS at hpo;simp only [mS,d8P,d8D,Bool.not_eq_true'] at hpo hs;rcases hpo with ((((((h|h)|h)|h)|h)|h)|h)|h
      ·exact h.1.2
      ·exact absurd (.inl (.inl h.1.2)) hs
      ·exact h.1.1.2
      ·exact absurd (.inl (.inr h.2)) hs
      ·exact h.1.2
      ·exact absurd (.inl h.1.2) hs
      ·exact absurd (.inr h.2) hs
      ·exact (kP (G:=G) (st:=st) h.1.2).1
     ·cases hx:kB ops oj with
      |false=>rfl
      |true=>
       have hlt:i<ops.size:=(d8M.1 hi).1;rcases rT hx hoj hlt (fun e=>hji e.symm) with h'|h'
       ·have:=dE hcl hjun ops.size i fun o ho=>by rw [hoi'] at ho;cases ho;exact halli
        rw [h'] at this;cases this
       ·rw [hnot] at h';cases h'
   obtain ⟨s12,hu,hk⟩:=(dS hsj).1 h1;obtain ⟨s2,e1,e2⟩:=a5e hap hpo (fun hn d hd=>hI i oi d hi hn hiun hd) (fun hn d hd=>hI j oj d hoj hn hjun hd) hy hu;refine (dS hsj).2 ⟨s2,e1,?_⟩;refine ih (listed.setIfInBounds j true) s2 s12 (hcl.set hj) (fun k ok hk' hki hun hno=>?_) (ready_mono hr (Ne.symm hji)) (hI.step hA hoj fun k hf hn=>rM e1 hf hn) e2 ?_
   ·exact hfree k ok hk' hki (qO hun).2 hno
   ·rw [Array.setIfInBounds_comm _ _ hji];exact hk
def a1x (P:Program)(G:GT)(ops:Array Oper)(c:Nat):List Nat→St→(St→Prop)→Prop
 |[],st,K=>K st
 |i::r,st,K=>match ops[i]? with
  |some o=>kO P G (i !=c) ops o (fun s=>a1x P G ops c r s K) st
  |none=>False
def a9N (ops:Array Oper)(c:Nat)(listed:Array Bool)(i:Nat):Bool:=(Region.ready .any ops listed==[i])||((Region.ready .any ops listed).contains i&&(i !=c)&&(match ops[i]? with
 |none=>false
 |some oi=>((dA oi.op&& !kB ops oi)||mS oi)&&(List.range ops.size).all fun j=>j==i||listed.getD j true||gL ops ops.size j i||(j !=c&&(match ops[j]? with
  |some oj=>oi.apart ops oj&&oS ops oi oj
  |none=>true))))
def cD (l:List Nat)(x:Array Bool):Array Bool:=l.foldl (fun x i=>x.setIfInBounds i true) x
def a5v (ops:Array Oper)(c:Nat):List Nat→Array Bool→Bool
 |[],_=>true
 |i::r,listed=>a9N ops c listed i&&a5v ops c r (listed.setIfInBounds i true)
theorem b2M {ops:Array Oper}(h:eQ ops=[]){i:Nat}{o:Oper}{d:Tmp}(hi:ops[i]? =some o)(hn:eL o=true)(hd:o.dst=some d):False:=by have:d∈eQ ops:=List.mem_filterMap.2 ⟨o,by rw [Array.mem_toList_iff];exact Array.mem_of_getElem? hi,by rw [if_pos hn];exact hd⟩;rw [h] at this;cases this
theorem a2Y {ops:Array Oper}{c:Nat}{Q:St→Prop}(hN:eQ ops=[]):∀(l:List Nat) (listed:Array Bool) (st:St) (fuel:Nat),eR ops listed→a5v ops c l listed=true→
  a1x P G ops c l st (a0h P G ops c Q fuel (cD l listed))→(eR ops (cD l listed)→True)→a0h P G ops c Q (l.length+fuel) listed st
 |[],listed,st,fuel,_,_,h,_=>by simpa [cD,a1x] using h
 |i::l,listed,st,fuel,hcl,hB,h,_=>by
  have hA:mZ ops:=fun i j oi oj d hi _ hni _ hdi _=>(b2M hN hi hni hdi).elim
  have hI:∀listed st,oU ops listed st:=fun _ _ j oj d hj hn _ hd=>(b2M hN hj hn hd).elim
  simp only [a5v,d8D] at hB;obtain ⟨hf,hB'⟩:=hB;simp only [a1x] at h;split at h;rotate_left
  ·cases h
  rename_i o ho;have he:(i::l).length+fuel=l.length+fuel+1:=by simp only [List.length_cons];omega
  rw [he];unfold a9N at hf;rw [d8P,beq_iff_eq] at hf;have hri:i∈Region.ready .any ops listed:=by
   rcases hf with hf|hf
   ·rw [hf];exact d8K.2 rfl
   ·simp only [d8D] at hf;simpa using hf.1.1
  have hnext:∀s,a1x P G ops c l s (a0h P G ops c Q fuel (cD (i::l) listed))→a0h P G ops c Q (l.length+fuel) (listed.setIfInBounds i true) s:=fun s hs=>a2Y hN l _ s fuel (hcl.set hri) hB' hs fun _=>trivial
  rcases hf with hf|hf
  ·refine ⟨fun h'=>(by rw [h'] at hf;cases hf),fun j hj=>?_⟩;rw [hf,d8K] at hj;subst hj;rw [ho];exact eZ hnext h
  ·rw [ho] at hf;simp only [d8D,d8P,Bool.not_eq_true',bne_iff_ne,ne_eq] at hf;obtain ⟨⟨_,hic⟩,hsi,hall⟩:=hf;have qi:(i !=c)=true:=by simpa using hic
   rw [qi] at h;obtain ⟨s,hd,hk⟩:=(dS hsi).1 h;refine b6S hA ho hic hsi _ listed st s hcl (fun j oj hj hne hun hno=>?_) hri (hI _ _) hd (hnext s hk);rw [d8G] at hall;have h1:=hall j (List.mem_range.2 (d8M.1 hj).1);simp only [hj,d8P,beq_iff_eq,hne,false_or,hun,Bool.false_eq_true,hno,d8D,bne_iff_ne,ne_eq] at h1;exact h1
theorem b9t {ops:Array Oper}{c:Nat}{Q:St→Prop}{fuel:Nat}{listed:Array Bool}(h:Region.ready .any ops listed=[])(hq:Q st):a0h P G ops c Q fuel listed st:=by
 cases fuel with
 |zero=>exact ⟨h,hq⟩
 |succ n=>exact ⟨fun _=>hq,fun i hi=>by rw [h] at hi;cases hi⟩
theorem qV {ops:Array Oper}{c:Nat}{K K':St→Prop}(hk:∀s,K s→K' s):∀(l:List Nat) (st:St),a1x P G ops c l st K→a1x P G ops c l st K'
 |[],st,h=>hk st h
 |i::r,st,h=>by
  simp only [a1x] at h ⊢;split at h
  ·exact eZ (fun s hs=>qV hk r s hs) h
  ·cases h
theorem eR.cD {ops:Array Oper}{c:Nat}:∀(l:List Nat) (listed:Array Bool),eR ops listed→a5v ops c l listed=true→eR ops (VM.cD l listed)
 |[],_,hc,_=>hc
 |i::r,listed,hc,hB=>by
  simp only [a5v,d8D] at hB;have hri:i∈Region.ready .any ops listed:=by
   have hf:=hB.1;unfold a9N at hf;rw [d8P,beq_iff_eq] at hf;rcases hf with hf|hf
   ·rw [hf];exact d8K.2 rfl
   ·simp only [d8D] at hf;simpa using hf.1.1
  exact eR.cD r _ (hc.set hri) hB.2
inductive Ord where
 |none
 |call (rest:List Nat) (more:Ord)
 |op (i:Nat) (next more:Ord)
def sel (ops:Array Oper):List Nat→List Oper
 |[]=>[]
 |i::r=>match ops[i]? with
  |some o=>o::sel ops r
  |none=>sel ops r
def a8b (P:Program)(G:GT)(ops:Array Oper)(c:Nat)(K:St→Prop):Ord→St→Prop
 | .none,_=>True
 | .call rest more,st=>VK P G [.ops false ops (sel ops [c]),.ops true ops (sel ops rest)] .normal st (fun _ s=>K s)∧a8b P G ops c K more st
 | .op i next more,st=>VK P G [.ops true ops (sel ops [i])] .normal st (fun _ s=>a8b P G ops c K next s)∧a8b P G ops c K more st
def a0M (c:Nat):Ord→Nat→Bool
 | .none,_=>false
 | .call _ more,j=>decide (j=c)||a0M c more j
 | .op i _ more,j=>decide (j=i)||a0M c more j
def inB (ops:Array Oper)(c:Nat)(l:List Nat):Bool:=l.all fun i=>decide (i<ops.size)&&decide (i≠c)
def a9O (ops:Array Oper)(c:Nat):Ord→Nat→Array Bool→Bool
 | .none,_,_=>true
 | .call rest more,n,listed=>decide (c<ops.size)&&inB ops c rest&&a5v ops c rest (listed.setIfInBounds c true)&&(Region.ready .any ops (cD rest (listed.setIfInBounds c true))).isEmpty&&decide (rest.length+1≤n)&&a9O ops c more n listed
 | .op i next more,n,listed=>inB ops c [i]&&decide (2≤n)&& !(Region.ready .any ops (listed.setIfInBounds i true)).isEmpty&&((Region.ready .any ops (listed.setIfInBounds i true)).all fun j=>a0M c next j)&&a9O ops c next (n-1) (listed.setIfInBounds i true)&&a9O ops c more n listed
theorem tB {ops:Array Oper}{c:Nat}{K:St→Prop}:∀(l:List Nat) (st:St),inB ops c l=true→rF P G true ops (sel ops l) st K→a1x P G ops c l st K
 |[],st,_,h=>h
 |i::r,st,hB,h=>by
  simp only [inB,List.all_cons,d8D,decide_eq_true_eq] at hB;obtain ⟨⟨hi,hic⟩,hr⟩:=hB;have qi:(i !=c)=true:=by simpa using hic
  simp only [sel,d8V hi,rF] at h;simp only [a1x,d8V hi,qi];exact eZ (fun s hs=>tB r s hr hs) h
theorem a5w {ops:Array Oper}{c:Nat}{Q:St→Prop}(hN:eQ ops=[]):∀(T:Ord) (n:Nat) (listed:Array Bool) (st:St),eR ops listed→a9O ops c T (n+1) listed=true→a8b P G ops c Q T st→∀i∈Region.ready .any ops listed,a0M c T i=true→
  match ops[i]? with
  |none=>a0h P G ops c Q n (listed.setIfInBounds i true) st
  |some o=>kO P G (i !=c) ops o (a0h P G ops c Q n (listed.setIfInBounds i true)) st
 | .none,_,_,_,_,_,_,_,_,ha=>by cases ha
 | .call rest more,n,listed,st,hcl,hB,h,i,hi,ha=>by
  simp only [a9O,d8D,decide_eq_true_eq,List.isEmpty_iff] at hB;obtain ⟨⟨⟨⟨⟨hc,hin⟩,hs⟩,he⟩,hlen⟩,hmore⟩:=hB;simp only [a8b] at h;simp only [a0M,d8P,decide_eq_true_eq] at ha;by_cases hic:i=c
  ·subst hic;have h1:=h.1;simp only [VK,sel,d8V hc,rF] at h1;simp only [d8V hc,bne_self_eq_false];refine eZ (fun s hs'=>?_) h1;obtain ⟨k,hk⟩:=Nat.exists_eq_add_of_le (Nat.le_of_succ_le_succ hlen);rw [hk];exact a2Y hN rest _ s k (hcl.set hi) hs (qV (fun s hs=>b9t he hs) _ _ (tB rest s hin hs')) fun _=>trivial
  ·exact a5w hN more n listed st hcl hmore h.2 i hi (ha.resolve_left hic)
 | .op x next more,n,listed,st,hcl,hB,h,i,hi,ha=>by
  simp only [a9O,d8D,decide_eq_true_eq,Bool.not_eq_true',List.isEmpty_eq_false_iff,d8G] at hB;obtain ⟨⟨⟨⟨⟨hin,hn⟩,hne⟩,hall⟩,hnext⟩,hmore⟩:=hB;simp only [a8b] at h;simp only [a0M,d8P,decide_eq_true_eq] at ha;by_cases hix:i=x
  ·subst hix;have h1:=h.1;simp only [inB,List.all_cons,List.all_nil,Bool.and_true,d8D,decide_eq_true_eq] at hin;have qi:(i !=c)=true:=by simpa using hin.2
   simp only [VK,sel,d8V hin.1,rF] at h1;simp only [d8V hin.1,qi];refine eZ (fun s hs'=>?_) h1;obtain ⟨m,rfl⟩:∃m,n=m+1:=⟨n-1,by omega⟩;exact ⟨fun h'=>(hne h').elim,fun j hj=>a5w hN next m _ s (hcl.set hi) hnext hs' j hj (hall j hj)⟩
  ·exact a5w hN more n listed st hcl hmore h.2 i hi (ha.resolve_left hix)
def c5d (ops:Array Oper)(c:Nat)(anc:List Nat)(T:Ord):Bool:=(eQ ops).isEmpty&&decide (anc.length+1≤ops.size)&&inB ops c anc&&a5v ops c anc (Array.replicate ops.size false)&& !(Region.ready .any ops (cD anc (Array.replicate ops.size false))).isEmpty&&((Region.ready .any ops (cD anc (Array.replicate ops.size false))).all fun j=>a0M c T j)&&a9O ops c T (ops.size-anc.length) (cD anc (Array.replicate ops.size false))
theorem d4v {id:Nat}{ops:Array Oper}{Q:Exit→St→Prop}(c:Nat)(anc:List Nat)(T:Ord)(hm:P.follows .mixedOrders=true)(hB:c5d ops c anc T=true)(h:VK P G [.ops true ops (sel ops anc)] .normal st fun _ s=>a8b P G ops c (fun s=>Q .normal s) T s):SW P G (.region id ops true) st Q:=by
 simp only [c5d,d8D,List.isEmpty_iff,decide_eq_true_eq,Bool.not_eq_true',List.isEmpty_eq_false_iff,d8G] at hB;obtain ⟨⟨⟨⟨⟨⟨hN,hlen⟩,hin⟩,hs⟩,hne⟩,hall⟩,ht⟩:=hB;refine c5c (c:=c) hm ?_
 obtain ⟨k,hk⟩:=Nat.exists_eq_add_of_le hlen;have hcl:eR ops (Array.replicate ops.size false):=fun k hk=>by
  rcases Nat.lt_or_ge k ops.size with h'|h'
  ·simp [h'] at hk
  ·simp [Nat.not_lt.2 h'] at hk
 have e:ops.size-anc.length=k+1:=by omega
 rw [e] at ht;simp only [VK] at h;have:=a2Y (P:=P) (G:=G) (c:=c) (Q:=fun s=>Q .normal s) hN anc (Array.replicate ops.size false) st (k+1) hcl hs (qV (fun s hs'=>⟨fun h'=>(hne h').elim,fun j hj=>a5w hN T k _ s (eR.cD anc _ hcl hs) ht hs' j hj (hall j hj)⟩) _ _ (tB anc st hin h)) fun _=>trivial
 rw [show anc.length+(k+1)=ops.size by omega] at this;exact this
attribute [simp] sel a8b
theorem SW.d6n {st:St}{Q:Exit→St→Prop}{c:Code}{ι:Type}(ws:ι→List (Nat×DV))(H:ι→List (Nat×aZ))(own:ι→List (TypeId×List Loc))(m:ι→Nat)(x0:ι)(h0:wD st (mU c st (ws x0) (H x0) (own x0)))(round:∀x,SW P G c (mU c st (ws x) (H x) (own x)) fun e s=>match e with
   | .normal=>bR (fun y=>mU c st (ws y) (H y) (own y)) m x s
   |e=>Q e s):SW P G (.loop c) st Q:=by
 intro base R μ a w hr;refine wp_loop_ghost (fun n a1 w1=>∃x R1 μ1,m x=n∧Rel P G base R1 μ1 (mU c st (ws x) (H x) (own x)) a1 w1∧Step base R w R1 w1) (m x0) ⟨x0,R,μ,rfl,hr.zI h0,.refl _ _ _⟩ ?_
 rintro n a1 w1 ⟨x,R1,μ1,rfl,hr1,hs1⟩;refine wp_mono (round x base R1 μ1 a1 w1 hr1) fun e a2 w2 ⟨s,R2,μ2,q,hr2,hs2⟩=>?_
 cases e with
 |normal=>simp only at q;unfold bR at q;obtain ⟨y,hy,hlt⟩:=q;exact ⟨m y,hlt,y,R2,μ2,rfl,hr2.zI hy,hs1.trans hs2⟩
 |_=>exact ⟨s,R2,μ2,q,hr2,hs1.trans hs2⟩
theorem SW.a3N {c:Operand}{x y:Code}{st:St}{Q:Exit→St→Prop}(hc:st.eval G c= .d (.bool true))(h:SW P G x st Q):SW P G (.cond c x y) st Q:=fun base R μ a w hr=>wp_cond (hr.zX hc) (h base R μ a w hr)
theorem SW.a7I {c:Operand}{x y:Code}{st:St}{Q:Exit→St→Prop}(hc:st.eval G c= .d (.bool false))(h:SW P G y st Q):SW P G (.cond c x y) st Q:=fun base R μ a w hr=>wp_cond (hr.zX hc) (h base R μ a w hr)
end
end Go.VM
end
section
namespace Go.VM
open Go Go.RowKit
section
variable {P:Program} {G:GT} {st:St} {base:cZ} {R:Nat→Nat→Prop} {μ:Nat→Nat} {a:Act} {w:World}
abbrev wI (v:Value):List PanicEntry:=[{ v:=v,recovered:=false }]
def d6o (base:cZ)(R:Nat→Nat→Prop)(w:World)(v:Value)(e:Ending)(w':World):Prop:=∃R',e= .panicked (wI v)∧Step base R w R' w'∧∀b o,R' b o→b<w'.heap.size
def CPn (P:Program)(G:GT)(f:FuncId)(s0:St)(v:Value):Prop:=
 ∀(base:cZ) (R:Nat→Nat→Prop) (μ:Nat→Nat) (args:Array Value) (w:World),Rel P G base R μ s0 { tmps:=args,defers:=[] } w→Calls P f args w (d6o base R w v)
def a5x (P:Program)(G:GT)(f:FuncId)(d8B:List DV)(ls:List (Option Loc))(st:St)(v:Value):Prop:=
 ∀(base:cZ) (R:Nat→Nat→Prop) (μ:Nat→Nat) (a:Act) (w:World) (args:Array Value),Rel P G base R μ st a w→args.size=d8B.length→(∀(i:Nat) (d:DV),d8B[i]? =some d→TV R μ w (args.getD i undef) d)→
  (∀(i:Nat) (l:Loc),ls[i]? =some (some l)→∀u,cE a w μ l=some u→u=args.getD i undef)→Calls P f args w (d6o base R w v)
theorem a5x.d4w {f:FuncId}{s0:St}{v:Value}(hch:CPn P G f s0 v)(K:List (Nat×Nat)){d8B:List DV}{ls:List (Option Loc)}{rest:List (TypeId×List Loc)}(hfit:aQ K s0 .undef s0.H=true)(hargs:WkT d8B (aU K s0.tmps))(hH:WkH st.H (cS K s0.H))(jW:sG st st.own (s0.own.map (oA K ls))=some rest)(kn:vO st.tmps.length ls s0.own=true):
  a5x P G f d8B ls st v:=by
 simp only [aQ,d8D,decide_eq_true_eq,d8G] at hfit;obtain ⟨⟨⟨⟨⟨⟨⟨⟨kf,ks⟩,kp⟩,kt⟩,kh⟩,kl⟩,kr⟩,kd⟩,k1⟩:=hfit;intro base R μ a w args hr hl hv hloc;obtain ⟨vs,hvs⟩:=hr.own;obtain ⟨vsT,vsR,t1,t2,t3,t4,t5,t6,t7⟩:=a2a hr _ _ _ vs ⟨hvs.len,hvs.one,hvs.apart⟩ jW;have inK:∀k o,getKey k s0.H=some o→(K.any fun p=>p.1==k)=true∧aT K o=true∧(getKey k s0.H).isSome=true:=fun k o hk=>by
  have:=kh _ (gV hk)
  try simp only [d8D] at this
  exact ⟨this.1.1,this.1.2,this.2⟩
 have inst:∀k o,getKey k s0.H=some o→∃o',getKey (rk K k) st.H=some o'∧WkO o' (dC K o):=fun k o hk=>by
  have hm:=gV hk;have:∀ {l:List (Nat×aZ)},WkH st.H (cS K l)→(k,o)∈l→∃o',getKey (rk K k) st.H=some o'∧WkO o' (dC K o):=by
   intro l
   induction l with
   |nil=>intro _ h;cases h
   |cons p l ih=>
    intro hw hp;obtain ⟨h1,h2⟩:=hw;rcases List.mem_cons.1 hp with rfl|hp
    ·exact h1
    ·exact ih h2 hp
  exact this hH hm
 have big:∀k,(K.any fun p=>p.1==k)=true→100000≤k:=fun k hk=>by obtain ⟨p,h1,h2,_⟩:=xF hk;rw [← h2];exact kp p h1
 have rinj:∀k k',(K.any fun p=>p.1==k)=true→(K.any fun p=>p.1==k')=true→rk K k=rk K k'→k=k':=fun k k' h h' he=>by
  obtain ⟨p,p1,p2,p3⟩:=xF h;obtain ⟨q,q1,q2,q3⟩:=xF h';have hpq:p.2=q.2:=by rw [← p3, ← q3,he]
  have:p=q:=mC.a7x.a2V ks p1 q1 hpq;rw [← p2, ← q2,this]
 have one:∀k,(getKey k s0.H).isSome=true→∃o,getKey k s0.H=some o:=fun k hk=>by
  obtain ⟨o,ho⟩:=Option.isSome_iff_exists.1 hk;have:=k1 _ (gV ho)
  try simp only [d8D] at this
  exact Option.isSome_iff_exists.1 this.2
 let base':cZ:=⟨fun b=>w.heap.size≤b∨(∃k o,getKey k s0.H=some o∧b=μ (rk K k))∨(∃v∈vsT,bG v=some b),fun k=>μ (rk K k)⟩
 have sub:∀b,base' b→base b:=fun b hb=>by
  rcases hb with hb|⟨k,o,hk,rfl⟩|⟨v,hv,hs⟩
  ·exact hr.base b hb
  ·obtain ⟨o',ho',_⟩:=inst k o hk;exact (hr.gT _ o' ho').1
  ·obtain ⟨i,hi⟩:=d8U hv;have hil:i<(s0.own.map (oA K ls)).length:=by rw [← t1];exact (d8E.1 hi).1
   exact (t2 i _ v (d8H hil) hi).own.yH hs
 have hrel0:Rel P G base' R (fun k=>μ (rk K k)) s0 { tmps:=args,defers:=[] } w:=by
  obtain ⟨g1,g2⟩:=xH hargs;rw [pA] at g1 g2;refine ⟨rfl,by show args.size=s0.tmps.length;rw [List.length_map] at g1;omega,fun i v d hiv hid=>?_,fun k o hk=>?_,fun k k' o o' hk hk' he=>?_,fun c hc k off hl'=>?_,⟨vsT,by simpa using t1,fun i c v hc hv'=>?_,t3⟩,hr.sN.up sub,hr.oP,fun b hb=> .inl hb,fun k hk=>rfl⟩
  ·obtain ⟨d0,hd0,hcase⟩:=g2 i (bE K d) (by rw [d8N,hid];rfl);have hva:=hv i d0 hd0;have hav:args.getD i undef=v:=by simp only at hiv;simp [d8F,hiv]
   rw [hav] at hva;have hren:TV R μ w v (bE K d):=by
    rcases hcase with hc|hc|⟨hc1,hc2⟩
    ·rw [hc];exact .undef _
    ·rw [hc];exact hva
    ·rw [hc2];rw [hc1] at hva;obtain ⟨ao,rfl⟩:=hva.a4U.jI;exact .d _ _ (.emp _ _)
   exact hren.ren (μ:=μ) (fun _ _=>rfl) (kt d (d8I hid))
  ·obtain ⟨q1,q2,_⟩:=inK k o hk;obtain ⟨o',ho',hw⟩:=inst k o hk;obtain ⟨p1,p2,p3⟩:=hr.gT _ o' ho';exact ⟨.inr (.inl ⟨k,o,hk,rfl⟩),p2,(a8x hw p3).ren (fun _ _=>rfl) q2⟩
  ·obtain ⟨o1,h1,_⟩:=inst k o hk;obtain ⟨o2,h2,_⟩:=inst k' o' hk';exact rinj k k' (inK k o hk).1 (inK k' o' hk').1 (hr.inj _ _ o1 o2 h1 h2 he)
  ·have:=d8G.1 (d8G.1 kl c hc) _ hl';exact Option.isSome_iff_exists.1 this
  ·have ho:=t2 i (oA K ls c) v (by rw [d8N,hc];rfl) hv';refine ⟨fun l hl' u hu=>?_,?_,fun k o hk=>?_⟩
   ·have hn:=d8G.1 (d8G.1 kn c (d8I hc)) l hl';cases l with
    |t j=>
     simp only at hn;split at hn
     ·rename_i t hj;simp only [decide_eq_true_eq] at hn;have ht:t<a.tmps.size:=by rw [hr.size];exact hn
      have hlv:cE a w μ (.t t)=some a.tmps[t]:=by simp [cE,ht]
      have h1:=hloc j _ hj _ hlv;have h2:=ho.dV (.t t) (List.mem_filterMap.2 ⟨.t j,hl',by simp [a9r,hj]⟩) _ hlv;simp only [cE] at hu;have h3:args.getD j undef=u:=by simp [d8F,hu]
      rw [← h3, ← h1,h2]
     ·cases hn
    |c k off=>exact ho.dV (.c (rk K k) off) (List.mem_filterMap.2 ⟨.c k off,hl',rfl⟩) u hu
   ·rcases ho.own with h|⟨g,n,cap,cur,h0,h1,h2,h3,h4⟩
    ·exact .inl h
    ·by_cases hc0:cap=0
     ·subst hc0;have:n=0:=by omega
      subst this;exact .inl ⟨_,h0⟩
     ·exact .inr ⟨g,n,cap,cur,h0,.inr (.inr ⟨v,d8I hv',by rw [h0];simp [bG,hc0]⟩),h2,h3,h4⟩
   ·obtain ⟨o',ho',_⟩:=inst k o hk;exact ho.keys _ o' ho'
 exact (hch base' R (fun k=>μ (rk K k)) args w hrel0).mono fun e w' ⟨R',he,hs,hb⟩=>⟨R',he,⟨hs.below.mono sub,hs.mono,fun b o h1 h2=>sub b (hs.new b o h1 h2),hs.cells⟩,hb⟩
theorem a4u {o:Oper}{f:FuncId}{d8B:List DV}{v:Value}(hc:dD G o st=some (f,d8B))(hcs:Enters P f∧a5x P G f d8B (jH o) st v)(hr:Rel P G base R μ st a w){K:Act→World→Prop}{Q:Exit→Act→World→Prop}(h:∀R' w',Step base R w R' w'→(∀b o,R' b o→b<w'.heap.size)→Q (.panic (wI v)) a w'):o.wp P a w K Q:=by
 obtain ⟨⟨fn,hf1,hf2,hf3⟩,hcs⟩:=hcs;have hf2': ¬fn.body=none:=fun he=>by simp [he] at hf2
 have hf3': ¬fn.name= "runtime.NumGoroutine" :=by simpa using hf3
 have main:∀args:Array Value,(execOp a.eval o).run P w= .ok (.enter f args) w→args.size=d8B.length→(∀(i:Nat) (d:DV),d8B[i]? =some d→TV R μ w (args.getD i undef) d)→
   (∀(i:Nat) (l:Loc),(jH o)[i]? =some (some l)→∀u,cE a w μ l=some u→u=args.getD i undef)→o.wp P a w K Q:=fun args hexec hl hv hloc=>by
  unfold Oper.wp;rw [hexec]
  show Calls P f args w _
  refine (hcs base R μ a w args hr hl hv hloc).mono fun e w' ⟨R',he,hs,hb⟩=>?_
  subst he;exact h R' w' hs hb
 have each:∀(l:List Operand) (i:Nat) (d:DV),(l.map (st.eval G))[i]? =some d→TV R μ w ((l.map a.eval).getD i undef) d:=fun l i d hi=>by
  rw [d8N] at hi;obtain ⟨x,hx,rfl⟩:=d8C.1 hi;have:(l.map a.eval).getD i undef=a.eval x:=by simp [List.getD,hx]
  rw [this];exact hr.eval x
 have dV:∀(args:Array Operand) (vs:Array Value),jH o=args.toList.map a1F→∀(i:Nat) (l:Loc),(jH o)[i]? =some (some l)→∀u,cE a w μ l=some u→u=(args.map a.eval++vs).getD i undef:=fun args vs sO i l hi u hu=>by
  rw [sO,d8N] at hi;obtain ⟨x,hx,hxl⟩:=d8C.1 hi;cases x with
  |tmp t=>
   simp only [a1F,d8J] at hxl;subst hxl;simp only [cE] at hu;have hlt:i<args.size:=by have:=(d8E.1 hx).1;simpa using this
   have he:args[i]? =some (.tmp t):=by simpa using hx
   rw [d8F,Array.getElem?_append_left (by simpa using hlt),Array.getElem?_map,he];simp [Act.eval,hu]
  |_=>cases hxl
 unfold dD at hc;split at hc
 ·rename_i x args ts hop;have sO:jH o=args.toList.map a1F:=by simp [jH,hop]
  split at hc
  ·rename_i f' hx;simp at hc;obtain ⟨rfl,rfl⟩:=hc;refine main (args.map a.eval) ?_ (by simp) (fun i d hi=>?_) (by simpa using dV args #[] sO)
   ·simp [execOp,hop,resolve,hr.a8P hx,Deferred.ofValue,invoke,callFunc,hf1,hf2',hf3']
   ·have:=each args.toList i d hi;simpa [d8F,List.getD] using this
  ·rename_i f' cs hx;simp at hc;obtain ⟨rfl,rfl⟩:=hc;obtain ⟨vs,he,hvs,hvc⟩:=(hr.kN hx).a4W;refine main (args.map a.eval++vs) ?_ (by simp [hvs]) (fun i d hi=>?_) (dV args vs sO)
   ·simp [execOp,hop,resolve,he,Deferred.ofValue,invoke,callFunc,hf1,hf2',hf3']
   ·by_cases hlt:i<args.size
    ·rw [d8O (by simpa using hlt)] at hi;have:=each args.toList i d hi;rw [d8F,Array.getElem?_append_left (by simpa using hlt)];simpa [d8F,List.getD] using this
    ·rw [d8L (by simp;omega)] at hi;simp only [List.length_map,Array.length_toList] at hi;have:=hvc _ d hi;rw [d8F,Array.getElem?_append_right (by simp;omega)];simpa [d8F] using this
  ·cases hc
 ·cases hc
abbrev yS (st:St):St:=⟨List.replicate st.tmps.length .undef,[],[]⟩
theorem Rel.a5y (hr:Rel P G base R μ st a w){R':Nat→Nat→Prop}{w':World}(hs:Step base R w R' w')(hb:∀b o,R' b o→b<w'.heap.size):Rel P G base R' μ (yS st) a w' where
 defers:=hr.defers
 size:=by simpa using hr.size
 tmps:=fun i v d _ hd=>by
  rw [List.getElem?_replicate] at hd;split at hd
  ·simp at hd;subst hd;exact .undef _
  ·cases hd
 gT:=fun k o h=>by cases h
 inj:=fun k k' o o' h=>by cases h
 dV:=fun c hc=>by cases hc
 own:=⟨[],rfl,fun i c v h _=>by simp at h,.nil⟩
 sN:=a3q.bL hs hr.sN
 oP:=hb
 base:=fun b h=>hr.base b (Nat.le_trans hs.below.size h)
 pass:=hr.pass
def yT (P:Program)(G:GT)(ops:Array Oper)(c:Nat)(Q:Exit→St→Prop)(st:St):Prop:=match ops[c]? with
 |some o=>eA o ops st.tmps=some true∧∃f d8B v,dD G o st=some (f,d8B)∧(Enters P f∧a5x P G f d8B (jH o) st v)∧Q (.panic (wI v)) (yS st)
 |none=>False
theorem yT.ok {ops:Array Oper}{c:Nat}{Q:Exit→St→Prop}{o:Oper}(ho:ops[c]? =some o)(h:yT P G ops c Q st)(hr:Rel P G base R μ st a w){QQ:Exit→Act→World→Prop}{KK:Act→World→Prop}{KE:Prop}(hk:∀v s w' R',Q (.panic (wI v)) s→Rel P G base R' μ s a w'→Step base R w R' w'→QQ (.panic (wI v)) a w'):
  if Region.wanted o (yielded ops a.tmps) then o.wp P a w KK QQ∨(o.asks P a w∧LetsOut QQ) else KE:=by
 unfold yT at h;rw [ho] at h;obtain ⟨hw,f,d8B,v,h1,h2,h3⟩:=h;rw [zY hr hw,if_pos rfl];exact .inl (a4u h1 h2 hr fun R' w' hs hb=>hk v _ w' R' h3 (hr.a5y hs hb) hs)
def a3O (P:Program)(G:GT)(ops:Array Oper)(c:Nat)(Z:St→Prop):Nat→Array Bool→St→Prop
 |0,_,_=>False
 |fuel+1,listed,st=>Region.ready .any ops listed≠[]∧∀i∈Region.ready .any ops listed,if i=c then Z st else match ops[i]? with
  |none=>False
  |some o=>kO P G true ops o (a3O P G ops c Z fuel (listed.setIfInBounds i true)) st
theorem a5z {ops:Array Oper}{c:Nat}{Q:Exit→St→Prop}{QQ:Exit→Act→World→Prop}:∀(fuel:Nat) (listed:Array Bool) (st:St),a3O P G ops c (yT P G ops c Q) fuel listed st→∀(base:cZ) (R:Nat→Nat→Prop) (μ:Nat→Nat) (a:Act) (w:World),Rel P G base R μ st a w→
  (∀v s a' w' R' μ',Q (.panic (wI v)) s→Rel P G base R' μ' s a' w'→Step base R w R' w'→QQ (.panic (wI v)) a' w')→wpAny P .any ops QQ fuel listed a w
 |0,_,st,h,base,R,μ,a,w,hr,hk=>h.elim
 |fuel+1,listed,st,h,base,R,μ,a,w,hr,hk=>by
  refine ⟨fun h0=>(h.1 h0).elim,fun i hi=>?_⟩;have h1:=h.2 i hi;unfold wpOp;split
  ·rename_i ho;rw [ho] at h1;split at h1
   ·rename_i hic;subst hic;unfold yT at h1;rw [ho] at h1;exact h1.elim
   ·exact h1.elim
  ·rename_i o ho;rw [ho] at h1;split at h1
   ·rename_i hic;subst hic;exact yT.ok ho h1 hr fun v s w' R' q1 q2 q3=>hk v s a w' R' μ q1 q2 q3
   ·exact pQ h1 hr fun s v w' R' μ' h' hr' hs'=>a5z fuel _ s h' base R' μ' _ w' hr' fun v s a' w2 R2 μ2 q1 q2 q3=>hk v s a' w2 R2 μ2 q1 q2 (hs'.trans q3)
theorem b6T {ops:Array Oper}{c:Nat}{Z:St→Prop}{i:Nat}{oi:Oper}(hA:mZ ops)(hi:ops[i]? =some oi)(hic:i≠c)(hsi:(dA oi.op=true∧kB ops oi=false)∨mS oi=true):
  ∀(fuel:Nat) (listed:Array Bool) (st s:St),eR ops listed→
   (∀j oj,ops[j]? =some oj→j≠i→listed.getD j true=false→gL ops ops.size j i=false→j≠c∧oi.apart ops oj=true∧oS ops oi oj=true)→
   i∈Region.ready .any ops listed→oU ops listed st→Eff P G ops oi st s→
   a3O P G ops c Z fuel (listed.setIfInBounds i true) s→a3O P G ops c Z (fuel+1) listed st:=by
 intro fuel
 induction fuel with
 |zero=>intro listed st s _ _ hr _ hy H;exact H.elim
 |succ fuel ih=>
  intro listed st s hcl hfree hr hI hy H;refine ⟨fun h=>(by rw [h] at hr;cases hr),fun j hj=>?_⟩;by_cases hji:j=i
  ·subst hji;rw [if_neg hic,hi];exact (dS hsi).2 ⟨s,hy,H⟩
  ·have h1:=H.2 j (ready_mono hj hji);obtain ⟨hjun,oj,hoj,hall⟩:=mem_ready.1 hj;rw [hoj] at h1 ⊢;simp only at h1 ⊢;obtain ⟨hiun,oi',hoi',halli⟩:=mem_ready.1 hr;have hnot:gL ops ops.size j i=false:=dE hcl hiun _ _ fun o ho=>by rw [hoj] at ho;cases ho;exact hall
   obtain ⟨hjc,hap,hpo⟩:=hfree j oj hoj hji hjun hnot;rw [if_neg hjc] at h1 ⊢;have hsj:(dA oj.op=true∧kB ops oj=false)∨mS oj=true:=by
    by_cases hs:mS oj=true
    ·exact .inr hs
    ·refine .inl ⟨?_,?_⟩
     ·unfold oS at hpo;simp only [mS,d8P,d8D,Bool.not_eq_true'] at hpo hs;rcases hpo with ((((((h|h)|h)|h)|h)|h)|h)|h
      ·exact h.1.2
      ·exact absurd (.inl (.inl h.1.2)) hs
      ·exact h.1.1.2
      ·exact absurd (.inl (.inr h.2)) hs
      ·exact h.1.2
      ·exact absurd (.inl h.1.2) hs
      ·exact absurd (.inr h.2) hs
      ·exact (kP (G:=G) (st:=st) h.1.2).1
     ·cases hx:kB ops oj with
      |false=>rfl
      |true=>
       have hlt:i<ops.size:=(d8M.1 hi).1;rcases rT hx hoj hlt (fun e=>hji e.symm) with h'|h'
       ·have:=dE hcl hjun ops.size i fun o ho=>by rw [hoi'] at ho;cases ho;exact halli
        rw [h'] at this;cases this
       ·rw [hnot] at h';cases h'
   obtain ⟨s12,hu,hk⟩:=(dS hsj).1 h1;obtain ⟨s2,e1,e2⟩:=a5e hap hpo (fun hn d hd=>hI i oi d hi hn hiun hd) (fun hn d hd=>hI j oj d hoj hn hjun hd) hy hu;refine (dS hsj).2 ⟨s2,e1,?_⟩;refine ih (listed.setIfInBounds j true) s2 s12 (hcl.set hj) (fun k ok hk' hki hun hno=>?_) (ready_mono hr (Ne.symm hji)) (hI.step hA hoj fun k hf hn=>rM e1 hf hn) e2 ?_
   ·exact hfree k ok hk' hki (qO hun).2 hno
   ·rw [Array.setIfInBounds_comm _ _ hji];exact hk
theorem a2Z {ops:Array Oper}{c:Nat}{Z:St→Prop}(hN:eQ ops=[]):∀(l:List Nat) (listed:Array Bool) (st:St) (fuel:Nat),eR ops listed→inB ops c l=true→a5v ops c l listed=true→
  a1x P G ops c l st (a3O P G ops c Z fuel (cD l listed))→a3O P G ops c Z (l.length+fuel) listed st
 |[],listed,st,fuel,_,_,_,h=>by simpa [cD,a1x] using h
 |i::l,listed,st,fuel,hcl,hin,hB,h=>by
  have hA:mZ ops:=fun i j oi oj d hi _ hni _ hdi _=>(b2M hN hi hni hdi).elim
  have hI:∀listed st,oU ops listed st:=fun _ _ j oj d hj hn _ hd=>(b2M hN hj hn hd).elim
  simp only [a5v,d8D] at hB;obtain ⟨hf,hB'⟩:=hB;simp only [inB,List.all_cons,d8D,decide_eq_true_eq] at hin;obtain ⟨⟨_,hic⟩,hin'⟩:=hin;have qi:(i !=c)=true:=by simpa using hic
  simp only [a1x] at h;split at h;rotate_left
  ·cases h
  rename_i o ho;rw [qi] at h;have he:(i::l).length+fuel=l.length+fuel+1:=by simp only [List.length_cons];omega
  rw [he];unfold a9N at hf;rw [d8P,beq_iff_eq] at hf;have hri:i∈Region.ready .any ops listed:=by
   rcases hf with hf|hf
   ·rw [hf];exact d8K.2 rfl
   ·simp only [d8D] at hf;simpa using hf.1.1
  have hnext:∀s,a1x P G ops c l s (a3O P G ops c Z fuel (cD (i::l) listed))→a3O P G ops c Z (l.length+fuel) (listed.setIfInBounds i true) s:=fun s hs=>a2Z hN l _ s fuel (hcl.set hri) hin' hB' hs
  rcases hf with hf|hf
  ·refine ⟨fun h'=>(by rw [h'] at hf;cases hf),fun j hj=>?_⟩;rw [hf,d8K] at hj;subst hj;rw [if_neg hic,ho];exact eZ hnext h
  ·rw [ho] at hf;simp only [d8D,d8P,Bool.not_eq_true',bne_iff_ne,ne_eq] at hf;obtain ⟨⟨_,hic⟩,hsi,hall⟩:=hf;obtain ⟨s,hd,hk⟩:=(dS hsi).1 h;refine b6T hA ho hic hsi _ listed st s hcl (fun j oj hj hne hun hno=>?_) hri (hI _ _) hd (hnext s hk);rw [d8G] at hall;have h1:=hall j (List.mem_range.2 (d8M.1 hj).1);simp only [hj,d8P,beq_iff_eq,hne,false_or,hun,Bool.false_eq_true,hno,d8D,bne_iff_ne,ne_eq] at h1;exact h1
def a1p (P:Program)(G:GT)(ops:Array Oper)(Z:St→Prop):Ord→St→Prop
 | .none,_=>True
 | .call _ more,st=>Z st∧a1p P G ops Z more st
 | .op i next more,st=>VK P G [.ops true ops (sel ops [i])] .normal st (fun _ s=>a1p P G ops Z next s)∧a1p P G ops Z more st
theorem a2i {ops:Array Oper}{c:Nat}{Z:St→Prop}:∀(T:Ord) (n:Nat) (listed:Array Bool) (st:St),a9O ops c T (n+1) listed=true→a1p P G ops Z T st→∀i∈Region.ready .any ops listed,a0M c T i=true→
  if i=c then Z st else match ops[i]? with
  |none=>False
  |some o=>kO P G true ops o (a3O P G ops c Z n (listed.setIfInBounds i true)) st
 | .none,_,_,_,_,_,_,_,ha=>by cases ha
 | .call rest more,n,listed,st,hB,h,i,hi,ha=>by
  simp only [a9O,d8D] at hB;simp only [a1p] at h;simp only [a0M,d8P,decide_eq_true_eq] at ha;by_cases hic:i=c
  ·rw [if_pos hic];exact h.1
  ·exact a2i more n listed st hB.2 h.2 i hi (ha.resolve_left hic)
 | .op x next more,n,listed,st,hB,h,i,hi,ha=>by
  simp only [a9O,d8D,decide_eq_true_eq,Bool.not_eq_true',List.isEmpty_eq_false_iff,d8G] at hB;obtain ⟨⟨⟨⟨⟨hin,hn⟩,hne⟩,hall⟩,hnext⟩,hmore⟩:=hB;simp only [a1p] at h;simp only [a0M,d8P,decide_eq_true_eq] at ha;by_cases hix:i=x
  ·subst hix;have h1:=h.1;simp only [inB,List.all_cons,List.all_nil,Bool.and_true,d8D,decide_eq_true_eq] at hin;simp only [VK,sel,d8V hin.1,rF] at h1;rw [if_neg hin.2];simp only [d8V hin.1];refine eZ (fun s hs'=>?_) h1;obtain ⟨m,rfl⟩:∃m,n=m+1:=⟨n-1,by omega⟩;exact ⟨hne,fun j hj=>a2i next m _ s hnext hs' j hj (hall j hj)⟩
  ·exact a2i more n listed st hmore h.2 i hi (ha.resolve_left hix)
theorem d0f {id:Nat}{ops:Array Oper}{Q:Exit→St→Prop}(c:Nat)(anc:List Nat)(T:Ord)(hm:P.follows .mixedOrders=true)(hB:c5d ops c anc T=true)(h:VK P G [.ops true ops (sel ops anc)] .normal st fun _ s=>a1p P G ops (yT P G ops c Q) T s):SW P G (.region id ops true) st Q:=by
 simp only [c5d,d8D,List.isEmpty_iff,decide_eq_true_eq,Bool.not_eq_true',List.isEmpty_eq_false_iff,d8G] at hB;obtain ⟨⟨⟨⟨⟨⟨hN,hlen⟩,hin⟩,hs⟩,hne⟩,hall⟩,ht⟩:=hB;obtain ⟨k,hk⟩:=Nat.exists_eq_add_of_le hlen;have hcl:eR ops (Array.replicate ops.size false):=fun k hk=>by
  rcases Nat.lt_or_ge k ops.size with h'|h'
  ·simp [h'] at hk
  ·simp [Nat.not_lt.2 h'] at hk
 have e:ops.size-anc.length=k+1:=by omega
 rw [e] at ht;simp only [VK] at h;have:=a2Z (P:=P) (G:=G) (c:=c) (Z:=yT P G ops c Q) hN anc (Array.replicate ops.size false) st (k+1) hcl hin hs (qV (fun s hs'=>⟨hne,fun j hj=>a2i T k _ s ht hs' j hj (hall j hj)⟩) _ _ (tB anc st hin h));rw [show anc.length+(k+1)=ops.size by omega] at this;intro base R μ a w hr;obtain ⟨hr',hs'⟩:=hr.drew;exact wp_region_any hm (a5z ops.size _ st this base R μ a w.drew hr' fun v s a' w' R' μ' q1 q2 q3=>⟨s,R',μ',q1,q2,hs'.trans q3⟩)
theorem CPn.a3I {f:FuncId}{fn:Func}{c:Code}{n:Nat}{s0:St}{v:Value}(hf:P.funcs[f]? =some fn)(hb:fn.body=some c)(hn:fn.ntmps=n)(hT:(s0.own.all fun c=>c.2.all fun l=>match l with| .t i=>decide (i<s0.tmps.length)|_=>true)=true)(h:SW P G c ⟨s0.tmps++List.replicate (n-s0.tmps.length) (.cT []),s0.H,s0.own⟩ fun e _=>e= .panic (wI v)):CPn P G f s0 v:=by
 intro base R μ args w hr;refine calls_of_wp hf hb ?_
 have hsz:args.size=s0.tmps.length:=hr.size;have hrel:Rel P G base R μ ⟨s0.tmps++List.replicate (n-s0.tmps.length) (.cT []),s0.H,s0.own⟩ { tmps:=args++Array.replicate (fn.ntmps-args.size) undef,defers:=[] } w:=by
  refine ⟨rfl,by simp [hsz,hn],fun i v d hiv hid=>?_,hr.gT,hr.inj,hr.dV,?_,hr.sN,hr.oP,hr.base,hr.pass⟩
  ·simp only at hid;by_cases hi:i<s0.tmps.length
   ·rw [d8O hi] at hid;rw [Array.getElem?_append_left (by omega)] at hiv;exact hr.tmps i v d hiv hid
   ·rw [d8L (by omega),List.getElem?_replicate] at hid;split at hid<;>simp at hid;subst hid;rw [Array.getElem?_append_right (by omega),Array.getElem?_replicate] at hiv;split at hiv<;>simp at hiv;subst hiv;exact .cT #[] [] rfl (by simp)
  ·obtain ⟨vs,hl,h1,hap⟩:=hr.own;refine ⟨vs,hl,fun i c v hc hv=>?_,hap⟩;have ho:=h1 i c v hc hv;refine ⟨fun l hl u hu=>?_,ho.own,ho.keys⟩;cases l with
   |t j=>have hj:=d8G.1 (d8G.1 hT c (d8I hc)) _ hl;simp only [decide_eq_true_eq] at hj;simp only [cE] at hu;rw [Array.getElem?_append_left (by omega)] at hu;exact ho.dV _ hl u hu
   |c k off=>exact ho.dV _ hl u hu
 refine wp_mono (h base R μ _ w hrel) fun e a' w' ⟨s,R',μ',he,hr',hs⟩=>?_
 subst he;exact ⟨hr'.defers,R',rfl,hs,hr'.oP⟩
attribute [simp] a1p
end
end Go.VM
end
end
section
namespace Go.VM
open Go Go.RowKit
section
variable {P:Program} {G:GT} {st:St} {base:cZ} {R:Nat→Nat→Prop} {μ:Nat→Nat} {a:Act} {w:World}
abbrev Ends:=Sum (DV×List (Nat×aZ)×List (TypeId×List Loc)) Value
def CX (P:Program)(G:GT)(f:FuncId)(s0:St):Ends→Prop
 | .inl s1=>CH P G f s0 ⟨[s1.1],s1.2.1,s1.2.2⟩
 | .inr v=>CPn P G f s0 v
def tM (P:Program)(G:GT)(f:FuncId)(d8B:List DV)(ls:List (Option Loc))(dst:Option Tmp)(st:St)(K:St→Prop)(Q:Exit→St→Prop)(x0:Bool):Prop:=
 Enters P f∧(x0=true→∃s',mC P G f d8B ls st dst s'∧K s')∧(x0=false→∃v,a5x P G f d8B ls st v∧Q (.panic (wI v)) (yS st))
def xQ (P:Program)(G:GT)(all:Array Oper)(l:List Oper)(K:List Oper→St→Prop)(Q:Exit→St→Prop)(x0:Bool)(st:St):Prop:=match l with
 |[]=>False
 |o::rest=>match eA o all st.tmps,gP G o st,dD G o st with
  |some true,none,some (f,d8B)=>tM P G f d8B (jH o) o.dst st (K rest) Q x0
  |_,_,_=>False
theorem a7J {all:Array Oper}{o:Oper}{rest:List Oper}{K:List Oper→St→Prop}{Q:Exit→St→Prop}{x0:Bool}(h:xQ P G all (o::rest) K Q x0 st):
  ∃f d8B,eA o all st.tmps=some true∧gP G o st=none∧dD G o st=some (f,d8B)∧tM P G f d8B (jH o) o.dst st (K rest) Q x0:=by
 unfold xQ at h;simp only at h;split at h
 ·rename_i f d8B h1 h2 h3;exact ⟨f,d8B,h1,h2,h3,h⟩
 ·exact h.elim
theorem xQ.pan {ops:Array Oper}{c:Nat}{o:Oper}{rest:List Oper}{K:List Oper→St→Prop}{Q:Exit→St→Prop}(ho:ops[c]? =some o)(h:xQ P G ops (o::rest) K Q false st):yT P G ops c Q st:=by obtain ⟨f,d8B,h2,_,h4,he,_,h5⟩:=a7J h;obtain ⟨v,h6,h7⟩:=h5 rfl;unfold yT;rw [ho];exact ⟨h2,f,d8B,v,h4,⟨he,h6⟩,h7⟩
theorem xQ.ret {all:Array Oper}{o:Oper}{rest:List Oper}{K:List Oper→St→Prop}{Q:Exit→St→Prop}(h:xQ P G all (o::rest) K Q true st):kO P G false all o (K rest) st:=by obtain ⟨f,d8B,h2,h3,h4,he,h5,_⟩:=a7J h;obtain ⟨s',h6,h7⟩:=h5 rfl;unfold kO;rw [h2,h3,h4];simp only [pP,Bool.false_and,yJ,Bool.false_eq_true,if_false];exact ⟨s',⟨he,h6⟩,h7⟩
def LW (P:Program)(G:GT)(all:Array Oper)(l:List Oper)(st:St)(Q:Exit→St→Prop):Prop:=
 ∀(base:cZ) (R:Nat→Nat→Prop) (μ:Nat→Nat) (a:Act) (w:World),Rel P G base R μ st a w→∀QQ:Exit→Act→World→Prop,(∀e s a' w' R' μ',Q e s→Rel P G base R' μ' s a' w'→Step base R w R' w'→QQ e a' w')→wpList P all QQ l a w
theorem LW.vk {all:Array Oper}{l:List Oper}{Q:Exit→St→Prop}(h:VK P G [.ops false all l] .normal st Q):LW P G all l st Q:=by intro base R μ a w hr QQ hk;simp only [VK] at h;exact b3Q all _ l st (fun s=>Q .normal s) h base R μ a w hr fun s a' w' R' μ' q1 q2 q3=>hk _ s a' w' R' μ' q1 q2 q3
theorem d6p {x0:Bool}(all:Array Oper)(Q:Exit→St→Prop)(l2:List Oper)(hl:x0=false→∃(c:Nat) (o:Oper) (rest:List Oper),l2=o::rest∧all[c]? =some o):∀(l:List Oper) (st:St),rF P G false all l st (fun s=>xQ P G all l2 (fun r s=>LW P G all r s Q) Q x0 s)→∀(base:cZ) (R:Nat→Nat→Prop) (μ:Nat→Nat) (a:Act) (w:World),Rel P G base R μ st a w→
  ∀QQ:Exit→Act→World→Prop,(∀e s a' w' R' μ',Q e s→Rel P G base R' μ' s a' w'→Step base R w R' w'→QQ e a' w')→wpList P all QQ (l++l2) a w
 |[],st,h,base,R,μ,a,w,hr,QQ,hk=>by
  have h:xQ P G all l2 (fun r s=>LW P G all r s Q) Q x0 st:=h
  show wpList P all QQ l2 a w
  cases l2 with
  |nil=>exact h.elim
  |cons o rest=>
   unfold wpList;cases x0 with
   |false=>obtain ⟨c,o',rest',he,hc⟩:=hl rfl;cases he;exact yT.ok hc (h.pan hc) hr fun v s w' R' q1 q2 q3=>hk _ s a w' R' μ q1 q2 q3
   |true=>
    refine pQ h.ret hr fun s v w' R' μ' h' hr' hs'=>?_
    exact h' base R' μ' _ w' hr' QQ fun e s2 a2 w2 R2 μ2 q1 q2 q3=>hk e s2 a2 w2 R2 μ2 q1 q2 (hs'.trans q3)
 |x::l,st,h,base,R,μ,a,w,hr,QQ,hk=>by
  show wpList P all QQ (x::(l++l2)) a w
  unfold wpList;exact pQ h hr fun s v w' R' μ' h' hr' hs'=>d6p all Q l2 hl l s h' base R' μ' _ w' hr' QQ fun e s a' w2 R2 μ2 q1 q2 q3=>hk e s a' w2 R2 μ2 q1 q2 (hs'.trans q3)
theorem LW.at {all:Array Oper}{l:List Oper}{Q:Exit→St→Prop}(c k:Nat)(x0:Bool)(hk:l[c]? =all[k]?)(hk2:∃o,l[c]? =some o)(h:VK P G [.ops false all (l.take c)] .normal st fun _ s=>xQ P G all (l.drop c) (fun r s=>LW P G all r s Q) Q x0 s):LW P G all l st Q:=by
 intro base R μ a w hr QQ hkk;simp only [VK] at h;rw [← List.take_append_drop c l];refine d6p all Q (l.drop c) (fun h0=>?_) _ st h base R μ a w hr QQ hkk;obtain ⟨o,ho⟩:=hk2;refine ⟨k,o,l.drop (c+1),?_,by rw [← hk,ho]⟩;have hlt:=(d8E.1 ho).1;rw [d8Q hlt];rw [d8H hlt] at ho;cases ho
 rfl
theorem LW.app {all:Array Oper}{l:List Oper}{Q:Exit→St→Prop}(c:Nat)(h:VK P G [.ops false all (l.take c)] .normal st fun _ s=>LW P G all (l.drop c) s Q):LW P G all l st Q:=by
 intro base R μ a w hr QQ hk;simp only [VK] at h;have main:∀(l1:List Oper) (st:St),rF P G false all l1 st (fun s=>LW P G all (l.drop c) s Q)→∀(R:Nat→Nat→Prop) (μ:Nat→Nat) (a:Act) (w:World),Rel P G base R μ st a w→
   (∀e s a' w' R' μ',Q e s→Rel P G base R' μ' s a' w'→Step base R w R' w'→QQ e a' w')→wpList P all QQ (l1++l.drop c) a w:=by
  intro l1
  induction l1 with
  |nil=>intro st h R μ a w hr hk;exact h base R μ a w hr QQ hk
  |cons x l1 ih=>
   intro st h R μ a w hr hk
   show wpList P all QQ (x::(l1++l.drop c)) a w
   unfold wpList;exact pQ h hr fun s v w' R' μ' h' hr' hs'=>ih s h' R' μ' _ w' hr' fun e s a' w2 R2 μ2 q1 q2 q3=>hk e s a' w2 R2 μ2 q1 q2 (hs'.trans q3)
 have:=main (l.take c) st h R μ a w hr hk
 rwa [List.take_append_drop] at this
theorem SW.lw {id:Nat}{ops:Array Oper}{Q:Exit→St→Prop}(h:LW P G ops ops.toList st Q):SW P G (.region id ops false) st Q:=fun base R μ a w hr=>wp_region_list (h base R μ a w hr _ fun e s a' w' R' μ' q1 q2 q3=>⟨s,R',μ',q1,q2,q3⟩)
theorem LW.b9u {all:Array Oper}{T y1 y2:TypeId}{td:TypeDesc}{d x:Tmp}{p1 p2:String}{f1 f2:Array Edge}{n e:Int}{Q:Exit→St→Prop}(hu:P.underlying T=some td)(hn:(match td with| .interface _=>false|_=>true)=true)(hd:d<st.tmps.length)(hx:st.eval G (.tmp x)= .d (.agg [.int .i64 n,.int .i64 e]))(h:Q (.panic (wI (.iface T (.agg #[.int .i64 n,.int .i64 e])))) (yS st)):
  LW P G all [⟨some d,.makeInterface T (.tmp x),y1,p1,f1,none⟩,⟨none,.panic (.tmp d),y2,p2,f2,none⟩] st Q:=by
 intro base R μ a w hr QQ hk;obtain ⟨pc,hpc,hpc1,hpc2⟩:=(hr.jF hx).a0v;have e0:=(hpc2 0 _ rfl).2.qL;have e1:=(hpc2 1 _ rfl).2.qL;have hpcE:pc= #[.int .i64 n,.int .i64 e]:=by
  have hs:pc.size=2:=by simpa using hpc1
  apply Array.ext
  ·simpa using hs
  ·intro i h1 h2;simp only [d8F] at e0 e1;have h3:i<2:=by omega
   match i,h1,h3 with
   |0,h1,_=>simpa [h1] using e0
   |1,h1,_=>simpa [h1] using e1
 have hda:d<a.tmps.size:=by rw [hr.size];exact hd
 have hrun:(Instr.makeInterface T (.agg pc)).run P w= .ok (.iface T (.agg pc)) w:=by
  unfold Instr.makeInterface;rw [Sem.run_bind,run_underlying hu];simp only [Result.andThen_ok];split
  ·simp at hn
  ·rfl
 have hw:∀(o:Oper) y,o.guard=none→Region.wanted o y=true:=fun o y hg=>by unfold Region.wanted;rw [hg]
 unfold wpList;rw [if_pos (hw _ _ rfl)];left;unfold Oper.wp;have e2:(execOp a.eval ⟨some d,.makeInterface T (.tmp x),y1,p1,f1,none⟩).run P w= .ok (.value (.iface T (.agg pc))) w:=by simp [execOp,hpc,hrun]
 rw [e2]
 show wpList P all QQ _ (a.put (some d) (.iface T (.agg pc))) w
 unfold wpList;rw [if_pos (hw _ _ rfl)];left;unfold Oper.wp;have e3:(execOp (a.put (some d) (.iface T (.agg pc))).eval ⟨none,.panic (.tmp d),y2,p2,f2,none⟩).run P w= .halt (.panic (.iface T (.agg pc))) w:=by simp [execOp,dR _ _ hda,Instr.panic,goPanic]
 rw [e3]
 show QQ (.panic [{ v:= .iface T (.agg pc),recovered:=false }]) _ w
 rw [hpcE];refine hk _ (yS st) _ w R μ h ?_ (.refl _ _ _)
 have h1:=hr.a5y (.refl base R w) hr.oP;have h2:=h1.put (dst:=some d) (v:= .iface T (.agg #[.int .i64 n,.int .i64 e])) (dv:= .undef) (act:= .no) (.undef _) trivial;have h3:finish (yS st) (some d) .undef .no=yS st:=by
  simp only [finish,yS,St.mk.injEq];refine ⟨?_,by simp [jP,cL],by simp [cL]⟩;apply List.ext_getElem
  ·simp
  ·intro i q1 q2;rw [List.getElem_set];split<;>simp
 rw [h3] at h2;exact h2
def dG (P:Program)(G:GT)(ops:Array Oper)(rest:List Nat)(Q:Exit→St→Prop)(s:St):Prop:=VK P G [.ops true ops (sel ops rest)] .normal s Q
theorem dG.mk {ops:Array Oper}{rest:List Nat}{Q:Exit→St→Prop}{s:St}(h:VK P G [.ops true ops (sel ops rest)] .normal s Q):dG P G ops rest Q s:=h
def oD (P:Program)(G:GT)(ops:Array Oper)(c:Nat)(Q:Exit→St→Prop)(x0:Bool):Ord→St→Prop
 | .none,_=>True
 | .call rest more,st=>xQ P G ops (sel ops [c]) (fun _ s=>dG P G ops rest Q s) Q x0 st∧oD P G ops c Q x0 more st
 | .op i next more,st=>VK P G [.ops true ops (sel ops [i])] .normal st (fun _ s=>oD P G ops c Q x0 next s)∧oD P G ops c Q x0 more st
theorem sJ {q:Bool}{ops:Array Oper}{K K':St→Prop}(hk:∀s,K s→K' s):∀(l:List Oper) (st:St),rF P G q ops l st K→rF P G q ops l st K'
 |[],st,h=>hk st h
 |o::r,st,h=>eZ (fun s hs=>sJ hk r s hs) h
theorem c0W {ops:Array Oper}{c:Nat}:(∃o,ops[c]? =some o∧sel ops [c]=[o])∨sel ops [c]=[]:=by
 simp only [sel];cases h:ops[c]? with
 |none=>right;rfl
 |some o=>left;exact ⟨o,rfl,rfl⟩
theorem oD.pan {ops:Array Oper}{c:Nat}{Q:Exit→St→Prop}:∀(T:Ord) (st:St),oD P G ops c Q false T st→a1p P G ops (yT P G ops c Q) T st
 | .none,_,_=>trivial
 | .call rest more,st,h=>by
  refine ⟨?_,oD.pan more st h.2⟩;have h1:=h.1;rcases c0W (ops:=ops) (c:=c) with ⟨o,ho,hs⟩|hs
  ·rw [hs] at h1;exact h1.pan ho
  ·rw [hs] at h1;exact h1.elim
 | .op i next more,st,h=>by refine ⟨?_,oD.pan more st h.2⟩;have h1:=h.1;simp only [VK] at h1 ⊢;exact sJ (fun s hs=>oD.pan next s hs) _ _ h1
theorem oD.ret {ops:Array Oper}{c:Nat}{Q:Exit→St→Prop}:∀(T:Ord) (st:St),oD P G ops c Q true T st→a8b P G ops c (fun s=>Q .normal s) T st
 | .none,_,_=>trivial
 | .call rest more,st,h=>by
  refine ⟨?_,oD.ret more st h.2⟩;have h1:=h.1;rcases c0W (ops:=ops) (c:=c) with ⟨o,ho,hs⟩|hs
  ·rw [hs] at h1 ⊢;have h2:=h1.ret;simp only [dG,VK,rF] at h2 ⊢;exact h2
  ·rw [hs] at h1;exact h1.elim
 | .op i next more,st,h=>by refine ⟨?_,oD.ret more st h.2⟩;have h1:=h.1;simp only [VK] at h1 ⊢;exact sJ (fun s hs=>oD.ret next s hs) _ _ h1
theorem a7K {q:Bool}{ops:Array Oper}{l:List Oper}{K K':St→Prop}(hk:∀s,K s→K' s)(h:VK P G [.ops q ops l] .normal st fun _ s=>K s):VK P G [.ops q ops l] .normal st fun _ s=>K' s:=by simp only [VK] at h ⊢;exact sJ hk _ _ h
theorem kY {id:Nat}{ops:Array Oper}{Q:Exit→St→Prop}(c:Nat)(anc:List Nat)(T:Ord)(x0:Bool)(hm:P.follows .mixedOrders=true)(hB:c5d ops c anc T=true)(h:VK P G [.ops true ops (sel ops anc)] .normal st fun _ s=>oD P G ops c Q x0 T s):SW P G (.region id ops true) st Q:=by
 cases x0 with
 |false=>exact d0f c anc T hm hB (a7K (fun s hs=>oD.pan T s hs) h)
 |true=>exact d4v c anc T hm hB (a7K (fun s hs=>oD.ret T s hs) h)
theorem tM.mk {ls:List (Option Loc)}{f:FuncId}{s0:St}{x:Ends}{d8B:List DV}{dst:Option Tmp}{KK:St→Prop}{Q:Exit→St→Prop}{rest:List (TypeId×List Loc)}(he:Enters P f)(hx:CX P G f s0 x)(K:List (Nat×Nat))(hfit:∀d H1 own1,x= .inl (d,H1,own1)→aQ K s0 d H1=true)(hfit2:∀v,x= .inr v→aQ K s0 .undef s0.H=true)(hargs:WkT d8B (aU K s0.tmps))(hH:WkH st.H (cS K s0.H))(jW:sG st st.own (s0.own.map (oA K ls))=some rest)(harg:vO st.tmps.length ls s0.own=true)(hok:∀d H1 own1,x= .inl (d,H1,own1)→KK (bD K dst st rest d H1 own1))(hbad:∀v,x= .inr v→Q (.panic (wI v)) (yS st)):tM P G f d8B ls dst st KK Q x.isLeft:=by
 refine ⟨he,fun h0=>?_,fun h0=>?_⟩
 ·match x,hx,hfit,hok,h0 with
  | .inl (d,H1,own1),hx,hfit,hok,_=>exact ⟨_,mC.a7x hx K (hfit d H1 own1 rfl) hargs hH jW harg,hok d H1 own1 rfl⟩
 ·match x,hx,hfit2,hbad,h0 with
  | .inr v,hx,hfit2,hbad,_=>exact ⟨v,a5x.d4w hx K (hfit2 v rfl) hargs hH jW harg,hbad v rfl⟩
attribute [simp] oD
end
attribute [irreducible] tM LW dG
attribute [simp] xQ eA
end Go.VM
end
section
namespace Go.VM
open Go Go.RowKit
section
variable {P:Program} {G:GT} {st:St} {base:cZ} {R:Nat→Nat→Prop} {μ:Nat→Nat} {a:Act} {w:World}
def a0N (P:Program)(G:GT)(ops:Array Oper)(m c:Nat)(Q:St→Prop):Nat→Array Bool→St→Prop
 |0,listed,st=>listed=oC m ops.size∧Q st
 |fuel+1,listed,st=>Region.ready .any ops listed≠[]∧∀i∈Region.ready .any ops listed,i<m∧match ops[i]? with
  |none=>False
  |some o=>kO P G (i !=c) ops o (a0N P G ops m c Q fuel (listed.setIfInBounds i true)) st
theorem b2N {ops:Array Oper}{m c r:Nat}{Q:St→Prop}{QQ:Exit→Act→World→Prop}:∀(fuel:Nat) (listed:Array Bool) (st:St),a0N P G ops m c Q fuel listed st→∀(base:cZ) (R:Nat→Nat→Prop) (μ:Nat→Nat) (a:Act) (w:World),Rel P G base R μ st a w→
  (∀s a' w' R' μ',Q s→Rel P G base R' μ' s a' w'→Step base R w R' w'→wpAny P .any ops QQ r (oC m ops.size) a' w')→wpAny P .any ops QQ (fuel+r) listed a w
 |0,_,st,h,base,R,μ,a,w,hr,hk=>by rw [Nat.zero_add,h.1];exact hk st a w R μ h.2 hr (.refl _ _ _)
 |fuel+1,listed,st,h,base,R,μ,a,w,hr,hk=>by
  rw [show fuel+1+r=(fuel+r)+1 by omega];refine ⟨fun h0=>absurd h0 h.1,fun i hi=>?_⟩;have h1:=(h.2 i hi).2;unfold wpOp;split
  ·rename_i ho;rw [ho] at h1;exact h1.elim
  ·rename_i o ho;rw [ho] at h1;exact pQ h1 hr fun s v w' R' μ' h' hr' hs'=>b2N fuel _ s h' base R' μ' _ w' hr' fun s a' w2 R2 μ2 q1 q2 q3=>hk s a' w2 R2 μ2 q1 q2 (hs'.trans q3)
theorem a9P {ops:Array Oper}{m i:Nat}(him:i<m)(hT:uR ops m=true)(listed:Array Bool)(hcl:eR ops listed)(hr:i∈Region.ready .any ops listed):∀j∈Region.ready .any ops listed,j<m:=fun j hj=>by apply Classical.byContradiction;intro hjm;obtain ⟨_,oj,hoj,hall⟩:=mem_ready.1 hj;obtain ⟨hiun,_⟩:=mem_ready.1 hr;have h1:=a4s hT (Nat.le_of_not_lt hjm) hoj him;rw [dE hcl hiun ops.size j fun o ho=>by rw [hoj] at ho;cases ho;exact hall] at h1;cases h1
theorem b4k {ops:Array Oper}{m c:Nat}{Q:St→Prop}{i:Nat}{oi:Oper}(him:i<m)(hT:uR ops m=true)(hA:mZ ops)(hi:ops[i]? =some oi)(hic:i≠c)(hsi:(dA oi.op=true∧kB ops oi=false)∨mS oi=true):
  ∀(fuel:Nat) (listed:Array Bool) (st s:St),eR ops listed→
   (∀j oj,ops[j]? =some oj→j≠i→listed.getD j true=false→gL ops ops.size j i=false→j≠c∧oi.apart ops oj=true∧oS ops oi oj=true)→
   i∈Region.ready .any ops listed→oU ops listed st→Eff P G ops oi st s→
   a0N P G ops m c Q fuel (listed.setIfInBounds i true) s→a0N P G ops m c Q (fuel+1) listed st:=by
 have qi:(i !=c)=true:=by simpa using hic
 intro fuel
 induction fuel with
 |zero=>
  intro listed st s hcl _ hr _ hy H;refine ⟨fun h=>(by rw [h] at hr;cases hr),fun j hj=>⟨a9P him hT listed hcl hr j hj,?_⟩⟩;by_cases hji:j=i
  ·subst hji;rw [hi,qi];exact (dS hsi).2 ⟨s,hy,H⟩
  ·exfalso;obtain ⟨hjun,oj,hoj,hall⟩:=mem_ready.1 hj;have h1:=a9K hjun hji;rw [H.1] at h1;have h2:=a3M h1;have:=a9P him hT listed hcl hr j hj;omega
 |succ fuel ih=>
  intro listed st s hcl hfree hr hI hy H;refine ⟨fun h=>(by rw [h] at hr;cases hr),fun j hj=>⟨a9P him hT listed hcl hr j hj,?_⟩⟩;by_cases hji:j=i
  ·subst hji;rw [hi,qi];exact (dS hsi).2 ⟨s,hy,H⟩
  ·have h1:=(H.2 j (ready_mono hj hji)).2;obtain ⟨hjun,oj,hoj,hall⟩:=mem_ready.1 hj;rw [hoj] at h1 ⊢;simp only at h1 ⊢;obtain ⟨hiun,oi',hoi',halli⟩:=mem_ready.1 hr;have hnot:gL ops ops.size j i=false:=dE hcl hiun _ _ fun o ho=>by rw [hoj] at ho;cases ho;exact hall
   obtain ⟨hjc,hap,hpo⟩:=hfree j oj hoj hji hjun hnot;have qj:(j !=c)=true:=by simpa using hjc
   rw [qj] at h1 ⊢;have hsj:(dA oj.op=true∧kB ops oj=false)∨mS oj=true:=by
    by_cases hs:mS oj=true
    ·exact .inr hs
    ·refine .inl ⟨?_,?_⟩
     ·unfold oS at hpo;simp only [mS,d8P,d8D,Bool.not_eq_true'] at hpo hs;rcases hpo with ((((((h|h)|h)|h)|h)|h)|h)|h
      ·exact h.1.2
      ·exact absurd (.inl (.inl h.1.2)) hs
      ·exact h.1.1.2
      ·exact absurd (.inl (.inr h.2)) hs
      ·exact h.1.2
      ·exact absurd (.inl h.1.2) hs
      ·exact absurd (.inr h.2) hs
      ·exact (kP (G:=G) (st:=st) h.1.2).1
     ·cases hx:kB ops oj with
      |false=>rfl
      |true=>
       have hlt:i<ops.size:=(d8M.1 hi).1;rcases rT hx hoj hlt (fun e=>hji e.symm) with h'|h'
       ·have:=dE hcl hjun ops.size i fun o ho=>by rw [hoi'] at ho;cases ho;exact halli
        rw [h'] at this;cases this
       ·rw [hnot] at h';cases h'
   obtain ⟨s12,hu,hk⟩:=(dS hsj).1 h1;obtain ⟨s2,e1,e2⟩:=a5e hap hpo (fun hn d hd=>hI i oi d hi hn hiun hd) (fun hn d hd=>hI j oj d hoj hn hjun hd) hy hu;refine (dS hsj).2 ⟨s2,e1,?_⟩;refine ih (listed.setIfInBounds j true) s2 s12 (hcl.set hj) (fun k ok hk' hki hun hno=>?_) (ready_mono hr (Ne.symm hji)) (hI.step hA hoj fun k hf hn=>rM e1 hf hn) e2 ?_
   ·exact hfree k ok hk' hki (qO hun).2 hno
   ·rw [Array.setIfInBounds_comm _ _ hji];exact hk
def c5e (m:Nat)(l:List Nat):Bool:=l.all fun i=>decide (i<m)
theorem a4v {ops:Array Oper}{m c:Nat}{Q:St→Prop}(hTA:uR ops m=true)(hN:eQ ops=[]):∀(l:List Nat) (listed:Array Bool) (st:St) (fuel:Nat),c5e m l=true→eR ops listed→a5v ops c l listed=true→
  a1x P G ops c l st (a0N P G ops m c Q fuel (cD l listed))→a0N P G ops m c Q (l.length+fuel) listed st
 |[],listed,st,fuel,_,_,_,h=>by simpa [cD,a1x] using h
 |i::l,listed,st,fuel,hlow,hcl,hB,h=>by
  have hA:mZ ops:=fun i j oi oj d hi _ hni _ hdi _=>(b2M hN hi hni hdi).elim
  have hI:∀listed st,oU ops listed st:=fun _ _ j oj d hj hn _ hd=>(b2M hN hj hn hd).elim
  simp only [c5e,List.all_cons,d8D,decide_eq_true_eq] at hlow;obtain ⟨him,hlow'⟩:=hlow;simp only [a5v,d8D] at hB;obtain ⟨hf,hB'⟩:=hB;simp only [a1x] at h;split at h;rotate_left
  ·cases h
  rename_i o ho;have he:(i::l).length+fuel=l.length+fuel+1:=by simp only [List.length_cons];omega
  rw [he];unfold a9N at hf;rw [d8P,beq_iff_eq] at hf;have hri:i∈Region.ready .any ops listed:=by
   rcases hf with hf|hf
   ·rw [hf];exact d8K.2 rfl
   ·simp only [d8D] at hf;simpa using hf.1.1
  have hnext:∀s,a1x P G ops c l s (a0N P G ops m c Q fuel (cD (i::l) listed))→a0N P G ops m c Q (l.length+fuel) (listed.setIfInBounds i true) s:=fun s hs=>a4v hTA hN l _ s fuel hlow' (hcl.set hri) hB' hs
  rcases hf with hf|hf
  ·refine ⟨fun h'=>(by rw [h'] at hf;cases hf),fun j hj=>?_⟩;rw [hf,d8K] at hj;subst hj;rw [ho];exact ⟨him,eZ hnext h⟩
  ·rw [ho] at hf;simp only [d8D,d8P,Bool.not_eq_true',bne_iff_ne,ne_eq] at hf;obtain ⟨⟨_,hic⟩,hsi,hall⟩:=hf;have qi:(i !=c)=true:=by simpa using hic
   rw [qi] at h;obtain ⟨s,hd,hk⟩:=(dS hsi).1 h;refine b4k him hTA hA ho hic hsi _ listed st s hcl (fun j oj hj hne hun hno=>?_) hri (hI _ _) hd (hnext s hk);rw [d8G] at hall;have h1:=hall j (List.mem_range.2 (d8M.1 hj).1);simp only [hj,d8P,beq_iff_eq,hne,false_or,hun,Bool.false_eq_true,hno,d8D,bne_iff_ne,ne_eq] at h1;exact h1
def a3P (ops:Array Oper)(m c:Nat):Ord→Nat→Array Bool→Bool
 | .none,_,_=>true
 | .call rest more,n,listed=>decide (c<ops.size)&&decide (c<m)&&c5e m rest&&inB ops c rest&&a5v ops c rest (listed.setIfInBounds c true)&&decide (cD rest (listed.setIfInBounds c true)=oC m ops.size)&&decide (rest.length+1=n)&&a3P ops m c more n listed
 | .op i next more,n,listed=>inB ops c [i]&&decide (i<m)&&decide (2≤n)&& !(Region.ready .any ops (listed.setIfInBounds i true)).isEmpty&&((Region.ready .any ops (listed.setIfInBounds i true)).all fun j=>a0M c next j)&&a3P ops m c next (n-1) (listed.setIfInBounds i true)&&a3P ops m c more n listed
theorem a5A {ops:Array Oper}{m c:Nat}{Q:St→Prop}(hTA:uR ops m=true)(hN:eQ ops=[]):∀(T:Ord) (n:Nat) (listed:Array Bool) (st:St),eR ops listed→a3P ops m c T (n+1) listed=true→a8b P G ops c Q T st→∀i∈Region.ready .any ops listed,a0M c T i=true→
  i<m∧match ops[i]? with
  |none=>False
  |some o=>kO P G (i !=c) ops o (a0N P G ops m c Q n (listed.setIfInBounds i true)) st
 | .none,_,_,_,_,_,_,_,_,ha=>by cases ha
 | .call rest more,n,listed,st,hcl,hB,h,i,hi,ha=>by
  simp only [a3P,d8D,decide_eq_true_eq] at hB;obtain ⟨⟨⟨⟨⟨⟨⟨hc,hcm⟩,hlow⟩,hin⟩,hs⟩,he⟩,hlen⟩,hmore⟩:=hB;simp only [a8b] at h;simp only [a0M,d8P,decide_eq_true_eq] at ha;by_cases hic:i=c
  ·subst hic;have h1:=h.1;simp only [VK,sel,d8V hc,rF] at h1;simp only [d8V hc,bne_self_eq_false];refine ⟨hcm,eZ (fun s hs'=>?_) h1⟩;have hn:n=rest.length+0:=by omega
   rw [hn];exact a4v hTA hN rest _ s 0 hlow (hcl.set hi) hs (qV (fun s hs=>⟨he,hs⟩) _ _ (tB rest s hin hs'))
  ·exact a5A hTA hN more n listed st hcl hmore h.2 i hi (ha.resolve_left hic)
 | .op x next more,n,listed,st,hcl,hB,h,i,hi,ha=>by
  simp only [a3P,d8D,decide_eq_true_eq,Bool.not_eq_true',List.isEmpty_eq_false_iff,d8G] at hB;obtain ⟨⟨⟨⟨⟨⟨hin,hxm⟩,hn⟩,hne⟩,hall⟩,hnext⟩,hmore⟩:=hB;simp only [a8b] at h;simp only [a0M,d8P,decide_eq_true_eq] at ha;by_cases hix:i=x
  ·subst hix;have h1:=h.1;simp only [inB,List.all_cons,List.all_nil,Bool.and_true,d8D,decide_eq_true_eq] at hin;have qi:(i !=c)=true:=by simpa using hin.2
   simp only [VK,sel,d8V hin.1,rF] at h1;simp only [d8V hin.1,qi];refine ⟨hxm,eZ (fun s hs'=>?_) h1⟩;obtain ⟨k,rfl⟩:∃k,n=k+1:=⟨n-1,by omega⟩;exact ⟨hne,fun j hj=>a5A hTA hN next k _ s (hcl.set hi) hnext hs' j hj (hall j hj)⟩
  ·exact a5A hTA hN more n listed st hcl hmore h.2 i hi (ha.resolve_left hix)
theorem a3a {ops:Array Oper}{m c:Nat}{Z:St→Prop}:∀(T:Ord) (n n':Nat) (listed:Array Bool) (st:St),n≤n'→a3P ops m c T (n+1) listed=true→a1p P G ops Z T st→∀i∈Region.ready .any ops listed,a0M c T i=true→
  if i=c then Z st else match ops[i]? with
  |none=>False
  |some o=>kO P G true ops o (a3O P G ops c Z n' (listed.setIfInBounds i true)) st
 | .none,_,_,_,_,_,_,_,_,_,ha=>by cases ha
 | .call rest more,n,n',listed,st,hn',hB,h,i,hi,ha=>by
  simp only [a3P,d8D] at hB;simp only [a1p] at h;simp only [a0M,d8P,decide_eq_true_eq] at ha;by_cases hic:i=c
  ·rw [if_pos hic];exact h.1
  ·exact a3a more n n' listed st hn' hB.2 h.2 i hi (ha.resolve_left hic)
 | .op x next more,n,n',listed,st,hn',hB,h,i,hi,ha=>by
  simp only [a3P,d8D,decide_eq_true_eq,Bool.not_eq_true',List.isEmpty_eq_false_iff,d8G] at hB;obtain ⟨⟨⟨⟨⟨⟨hin,hxm⟩,hn⟩,hne⟩,hall⟩,hnext⟩,hmore⟩:=hB;simp only [a1p] at h;simp only [a0M,d8P,decide_eq_true_eq] at ha;by_cases hix:i=x
  ·subst hix;have h1:=h.1;simp only [inB,List.all_cons,List.all_nil,Bool.and_true,d8D,decide_eq_true_eq] at hin;simp only [VK,sel,d8V hin.1,rF] at h1;rw [if_neg hin.2];simp only [d8V hin.1];refine eZ (fun s hs'=>?_) h1;obtain ⟨k,rfl⟩:∃k,n=k+1:=⟨n-1,by omega⟩;obtain ⟨k',rfl⟩:∃k',n'=k'+1:=⟨n'-1,by omega⟩;exact ⟨hne,fun j hj=>a3a next k k' _ s (by omega) hnext hs' j hj (hall j hj)⟩
  ·exact a3a more n n' listed st hn' hmore h.2 i hi (ha.resolve_left hix)
abbrev a9Q (TT:St→Prop)(Q:Exit→St→Prop):Exit→St→Prop:=fun e s=>match e with
 | .normal=>TT s
 |e=>Q e s
end
end Go.VM
end
section
namespace Go.VM
open Go Go.RowKit
section
variable {P:Program} {G:GT} {st:St}
def a8A (ops:Array Oper)(L:Array Bool)(i0 i1 i2 i3 i4:Nat):Bool:=
 let S:=L.setIfInBounds i0 true
 let A:=S.setIfInBounds i1 true
 let B:=S.setIfInBounds i3 true
 (Region.ready .any ops L==[i0])&&(Region.ready .any ops S==[i1,i3])&&(Region.ready .any ops A==[i2,i3])&&(Region.ready .any ops B==[i1,i4])&&
 (Region.ready .any ops (A.setIfInBounds i2 true)==[i3])&&(Region.ready .any ops (A.setIfInBounds i3 true)==[i2,i4])&&(Region.ready .any ops (B.setIfInBounds i1 true)==[i2,i4])&&(Region.ready .any ops (B.setIfInBounds i4 true)==[i1])&&
 (Region.ready .any ops ((A.setIfInBounds i2 true).setIfInBounds i3 true)==[i4])&&(Region.ready .any ops ((A.setIfInBounds i3 true).setIfInBounds i2 true)==[i4])&&(Region.ready .any ops ((A.setIfInBounds i3 true).setIfInBounds i4 true)==[i2])&&
 (Region.ready .any ops ((B.setIfInBounds i1 true).setIfInBounds i2 true)==[i4])&&(Region.ready .any ops ((B.setIfInBounds i1 true).setIfInBounds i4 true)==[i2])&&(Region.ready .any ops ((B.setIfInBounds i4 true).setIfInBounds i1 true)==[i2])&&
 (Region.ready .any ops (((A.setIfInBounds i2 true).setIfInBounds i3 true).setIfInBounds i4 true)==[])&&(Region.ready .any ops (((A.setIfInBounds i3 true).setIfInBounds i2 true).setIfInBounds i4 true)==[])&&(Region.ready .any ops (((A.setIfInBounds i3 true).setIfInBounds i4 true).setIfInBounds i2 true)==[])&&
 (Region.ready .any ops (((B.setIfInBounds i1 true).setIfInBounds i2 true).setIfInBounds i4 true)==[])&&(Region.ready .any ops (((B.setIfInBounds i1 true).setIfInBounds i4 true).setIfInBounds i2 true)==[])&&(Region.ready .any ops (((B.setIfInBounds i4 true).setIfInBounds i1 true).setIfInBounds i2 true)==[])
abbrev tl3 (s:St)(eI:List (TypeId×List Loc))(e:TypeId)(r p b:Tmp)(xs:List (List D))(c:List D)(kb off:Nat):St:=finish (tl2 s eI e r p xs c) (some b) (.ptr kb off) .no
theorem c5f (a:Act){p b:Nat}(u v:Value)(h:p≠b):(a.put (some p) u).put (some b) v=(a.put (some b) v).put (some p) u:=by simp only [Act.put];congr 1;exact Array.setIfInBounds_comm _ _ h
theorem b6U {ops:Array Oper}{i0 i1 i2 i3 i4:Nat}{L0:Array Bool}{t e T:TypeId}{s z r p q x b y:Tmp}{fd fo:Nat}{y0 y1 y2 y3 y4 u:TypeId}{p0 p1 p2 p3 p4:String}{f0 f1 f2 f3 f4:Array Edge}{xs:List (List D)}{z0 c:List D}{eI:List (TypeId×List Loc)}{kb0 off0:Nat}{out:Out}{Q:St→Prop}{QQ:Exit→Act→World→Prop}(h0:ops[i0]? =some ⟨some r,.call { callee:= .builtin .append,args:= #[.tmp s,.tmp z],argTypes:= #[t,t] },y0,p0,f0,none⟩)(h1:ops[i1]? =some ⟨some p,.indexAddr t (.tmp r) (.tmp q),y1,p1,f1,none⟩)(h2:ops[i2]? =some ⟨none,.store e (.tmp p) (.tmp x),y2,p2,f2,none⟩)(h3:ops[i3]? =some ⟨some b,.fieldAddr T (.tmp y) fd,y3,p3,f3,none⟩)(h4:ops[i4]? =some ⟨none,.store t (.tmp b) (.tmp r),y4,p4,f4,none⟩)(hR:a8A ops L0 i0 i1 i2 i3 i4=true)(hok:gK P e=true)(hu:P.underlying t=some (.slice e))(hne:(r≠q∧r≠x∧r≠p∧r≠b∧r≠y)∧(p≠x∧p≠b∧p≠y)∧b≠q∧b≠x)(hlt:r<st.tmps.length∧p<st.tmps.length∧b<st.tmps.length)(hsx:st.eval G (.tmp s)= .d (.sl xs))(htk:gH (.t s) st.own=some (e,eI))(hlx:∀c∈xs,c.length=P.cellsOf e)(hx:st.eval G (.tmp z)= .d (.sl [z0]))(hz0:z0.length=P.cellsOf e)(hbd:(xs.length+1)*(P.bytesOf e+1)≤140737488355328)(hq:st.eval G (.tmp q)= .d (.int .i64 (xs.length:Int)))(hxv:st.eval G (.tmp x)= .d (.agg c))(hc:c.length=P.cellsOf e)(hy:st.eval G (.tmp y)= .ptr kb0 off0)(hfo:aM P T fd=some (fo,u))(hfc:P.cellsOf u≠0)(hst:pJ P G t (.tmp b) (.tmp r) (tl3 st eI e r p b xs c kb0 (off0+fo))=some out)(hQ:Q out.st){base:cZ}{R:Nat→Nat→Prop}{μ:Nat→Nat}{a:Act}{w:World}(hr:Rel P G base R μ st a w)(hk:∀s' a' w' R' μ',Q s'→Rel P G base R' μ' s' a' w'→Step base R w R' w'→QQ .normal a' w'):wpAny P .any ops QQ 5 L0 a w:=by
 obtain ⟨⟨n1,n2,n3,n4,n7⟩,⟨n5,n6,n8⟩,n9,n10⟩:=hne;obtain ⟨l1,l2,l3⟩:=hlt;have hsz:=hr.size;obtain ⟨_,_,_,_,_,hpos,_,_⟩:=uZ hok;obtain ⟨g,cap,cur1,w1,e0,hg,hfit,hobj,hnews⟩:=a7H (ty:=y0) hr hok hu (x:= .tmp z) hsx htk hlx hx hz0 hbd;obtain ⟨pc,hpc,hpc1,hpc2⟩:=(hr.jF hxv).a0v;have hone:∀u∈pc.toList,u.oneCell'=true:=fun u hu=>by
  obtain ⟨j,hj⟩:=d8U hu;have hjl:j<c.length:=by rw [← hpc1];simpa using (d8E.1 hj).1
  obtain ⟨k1,k2⟩:=hpc2 j c[j] (by simp [hjl]);have:pc.getD j Go.undef=u:=by
   have:pc[j]? =some u:=by simpa using hj
   simp [d8F,this]
  rw [this] at k2;exact k2.a4T k1
 obtain ⟨R1,hr1,hV1,hA1,hs1⟩:=hnews pc.toList c (by simpa [hpc1] using hc) hc hone (fun j d hj=>by
  obtain ⟨k1,k2⟩:=hpc2 j d hj;have hjl:j<pc.size:=by rw [hpc1];exact (d8E.1 hj).1
  refine ⟨k1,pc[j],by simp [hjl],?_⟩;simpa [d8F,hjl] using k2)
 generalize hvS:(Value.slice (some ⟨g,0,none⟩) (xs.length+1) cap)=vS at *;generalize hcur2:spl cur1 (xs.length*P.cellsOf e) pc.toList=cur2 at *;have hra:r<a.tmps.size:=by rw [hsz];exact l1
 have hpa:p<a.tmps.size:=by rw [hsz];exact l2
 have hr1':=hr1.put (dst:=some r) (.d _ _ hV1) hA1;have hr2:=hr1'.put (dst:=some p) (v:= .pointer (some ⟨g,xs.length*P.cellsOf e,none⟩)) (act:= .no) (.undef _) trivial;generalize ha1:a.put (some r) vS=a1 at *;generalize ha2:a1.put (some p) (.pointer (some ⟨g,xs.length*P.cellsOf e,none⟩))=a2 at *;have z1:a1.tmps.size=a.tmps.size:=by rw [← ha1];exact size_put _ _ _
 have v1r:a1.eval (.tmp r)=vS:=by rw [← ha1];exact dR _ _ hra
 have v1q:a1.eval (.tmp q)=a.eval (.tmp q):=by rw [← ha1];exact bU _ _ (Ne.symm n1)
 have v1x:a1.eval (.tmp x)=a.eval (.tmp x):=by rw [← ha1];exact bU _ _ (Ne.symm n2)
 have v1b:a1.eval (.tmp b)=a.eval (.tmp b):=by rw [← ha1];exact bU _ _ (Ne.symm n4)
 have v2p:a2.eval (.tmp p)= .pointer (some ⟨g,xs.length*P.cellsOf e,none⟩):=by rw [← ha2];exact dR _ _ (z1.symm▸hpa)
 have v2x:a2.eval (.tmp x)= .agg pc:=by rw [← ha2,bU _ _ (Ne.symm n5),v1x,hpc]
 have v2r:a2.eval (.tmp r)=vS:=by rw [← ha2,bU _ _ n3];exact v1r
 have v2b:a2.eval (.tmp b)=a.eval (.tmp b):=by rw [← ha2,bU _ _ (Ne.symm n6)];exact v1b
 have v1y:a1.eval (.tmp y)= .pointer (some ⟨μ kb0,off0,none⟩):=by rw [← ha1,bU _ _ (Ne.symm n7)];exact hr.dQ hy
 have hb0:b<a.tmps.size:=by rw [hsz];exact l3
 have z2:a2.tmps.size=a.tmps.size:=by rw [← ha2,size_put];exact z1
 have hr3:=hr2.put (dst:=some b) (v:= .pointer (some ⟨μ kb0,off0+fo,none⟩)) (act:= .no) (.ptr kb0 (off0+fo)) trivial;generalize ha3:a2.put (some b) (.pointer (some ⟨μ kb0,off0+fo,none⟩))=a3 at *;generalize hab:a1.put (some b) (.pointer (some ⟨μ kb0,off0+fo,none⟩))=ab at *;have hab3:ab.put (some p) (.pointer (some ⟨g,xs.length*P.cellsOf e,none⟩))=a3:=by rw [← hab, ← ha3, ← ha2];exact (c5f a1 _ _ n6).symm
 have v2y:a2.eval (.tmp y)= .pointer (some ⟨μ kb0,off0,none⟩):=by rw [← ha2,bU _ _ (Ne.symm n8)];exact v1y
 have v3b:a3.eval (.tmp b)= .pointer (some ⟨μ kb0,off0+fo,none⟩):=by rw [← ha3];exact dR _ _ (z2.symm▸hb0)
 have v3r:a3.eval (.tmp r)=vS:=by rw [← ha3,bU _ _ n4];exact v2r
 have v3p:a3.eval (.tmp p)= .pointer (some ⟨g,xs.length*P.cellsOf e,none⟩):=by rw [← ha3,bU _ _ n6];exact v2p
 have v3x:a3.eval (.tmp x)= .agg pc:=by rw [← ha3,bU _ _ (Ne.symm n10)];exact v2x
 have vbb:ab.eval (.tmp b)= .pointer (some ⟨μ kb0,off0+fo,none⟩):=by rw [← hab];exact dR _ _ (z1.symm▸hb0)
 have vbr:ab.eval (.tmp r)=vS:=by rw [← hab,bU _ _ n4];exact v1r
 have vbq:ab.eval (.tmp q)=a.eval (.tmp q):=by rw [← hab,bU _ _ (Ne.symm n9)];exact v1q
 have hstb:=hst;unfold pJ at hstb;split at hstb;rotate_left
 ·cases hstb
 rename_i kb off ys hb hys;split at hstb;rotate_left
 ·cases hstb
 rename_i cs hkb;split at hstb;rotate_left
 ·cases hstb
 rename_i hcd
 clear hstb
 have hHs:(tl3 st eI e r p b xs c kb0 (off0+fo)).H=st.H:=rfl;rw [hHs] at hkb;have hbe:(tl3 st eI e r p b xs c kb0 (off0+fo)).eval G (.tmp b)= .ptr kb0 (off0+fo):=by simp [St.eval,finish,List.getD,l3]
 rw [hbe] at hb;cases hb;have hys1:ys.length=1:=by
  have:(tl3 st eI e r p b xs c kb0 (off0+fo)).eval G (.tmp r)= .d (.sl (xs++[c])):=by simp [St.eval,finish,List.getD,l1,List.getElem?_set,Ne.symm n3,Ne.symm n4]
  rw [this] at hys;simp only [rQ,D.cells,List.map_cons,List.map_nil,d8J] at hys;rw [← hys];rfl
 obtain ⟨_,_,vs0,T0,hh0,hsz0,_⟩:=hr.gT kb0 _ hkb;obtain ⟨hbg,hw1b⟩:=hobj kb0 _ hkb;have hvc:vS.cells= #[vS]:=by rw [← hvS];rfl
 have hvo:vS.oneCell'=true:=by rw [← hvS];rfl
 have hob:w1.heap[μ kb0]? =some (.cells vs0 T0 (0,0)):=hw1b.trans hh0
 generalize hX:spl vs0 (off0+fo) [vS]=X;have E0:(execOp a.eval ⟨some r,.call { callee:= .builtin .append,args:= #[.tmp s,.tmp z],argTypes:= #[t,t] },y0,p0,f0,none⟩).run P w= .ok (.value vS) w1:=by simp [execOp,resolve,invoke,builtin,e0]
 have E1:∀(ax:Act) (w':World),ax.eval (.tmp r)=vS→ax.eval (.tmp q)=a.eval (.tmp q)→(execOp ax.eval ⟨some p,.indexAddr t (.tmp r) (.tmp q),y1,p1,f1,none⟩).run P w'= .ok (.value (.pointer (some ⟨g,xs.length*P.cellsOf e,none⟩))) w':=fun ax w' k1 k2=>a0g rfl hu (k1.trans hvS.symm) (k2.trans (hr.sR hq)) (by omega) hpos
 have E2:∀(ax:Act) (w':World),ax.eval (.tmp p)= .pointer (some ⟨g,xs.length*P.cellsOf e,none⟩)→ax.eval (.tmp x)= .agg pc→w'.heap[g]? =some (.cells cur1 e (0,0))→(execOp ax.eval ⟨none,.store e (.tmp p) (.tmp x),y2,p2,f2,none⟩).run P w'= .ok .skip (w'.setRow g cur2):=fun ax w' kp kx hw'=>by have:=qU (P:=P) (a:=ax) (w:=w') (o:=⟨none,.store e (.tmp p) (.tmp x),y2,p2,f2,none⟩) rfl kp hw' (by rw [kx];show pc.size=_;rw [hpc1,hc]) (by omega) (by rw [kx];exact hone) (by rw [kx];show _+pc.size≤_;rw [hpc1,hc];exact hfit);rw [kx] at this;have hcl:(Value.agg pc).cells=pc:=rfl;rw [hcl,hcur2] at this;exact this
 have E3:∀(ax:Act) (w':World),ax.eval (.tmp y)= .pointer (some ⟨μ kb0,off0,none⟩)→(execOp ax.eval ⟨some b,.fieldAddr T (.tmp y) fd,y3,p3,f3,none⟩).run P w'= .ok (.value (.pointer (some ⟨μ kb0,off0+fo,none⟩))) w':=fun ax w' ky=>tZ (P:=P) rfl hfo hfc ky
 have E4:∀(ax:Act) (w':World),ax.eval (.tmp b)= .pointer (some ⟨μ kb0,off0+fo,none⟩)→ax.eval (.tmp r)=vS→w'.heap[μ kb0]? =some (.cells vs0 T0 (0,0))→(execOp ax.eval ⟨none,.store t (.tmp b) (.tmp r),y4,p4,f4,none⟩).run P w'= .ok .skip (w'.setRow (μ kb0) X):=fun ax w' hb1 hr1 hw'=>by have:=qU (P:=P) (a:=ax) (w:=w') (o:=⟨none,.store t (.tmp b) (.tmp r),y4,p4,f4,none⟩) rfl hb1 hw' (by rw [hr1,hvc, ← hcd.1,hys1];rfl) (by omega) (by rw [hr1,hvc];simpa using hvo) (by rw [hr1,hvc];show off0+fo+1≤_;rw [hsz0];omega);rw [hr1,hvc] at this;have:(execOp ax.eval ⟨none,.store t (.tmp b) (.tmp r),y4,p4,f4,none⟩).run P w'= .ok .skip (w'.setRow (μ kb0) (spl vs0 (off0+fo) [vS])):=this;rw [hX] at this;exact this
 have hgX:(w1.setRow (μ kb0) X).heap[g]? =some (.cells cur1 e (0,0)):=(setRow_other w1 (μ kb0) g _ (Ne.symm hbg)).trans hg
 have hbX:(w1.setRow g cur2).heap[μ kb0]? =some (.cells vs0 T0 (0,0)):=(setRow_other w1 g (μ kb0) _ hbg).trans hob
 have hcomm:(w1.setRow (μ kb0) X).setRow g cur2=(w1.setRow g cur2).setRow (μ kb0) X:=a7G w1 hbg X cur2;have hfin:QQ .normal a3 ((w1.setRow g cur2).setRow (μ kb0) X):=by
  obtain ⟨v,w',R',μ',hrun,hr4,_,_,hs3⟩:=a2S (o:=⟨none,.store t (.tmp b) (.tmp r),y4,p4,f4,none⟩) rfl hst base R1 μ a3 _ hr3;rw [E4 a3 _ v3b v3r hbX] at hrun;rcases hrun with hrun|⟨hrun,_⟩
  ·cases hrun
  ·cases hrun;exact hk out.st a3 _ R' μ' hQ hr4 (hs1.trans hs3)
 simp only [a8A,d8D,beq_iff_eq] at hR;obtain ⟨⟨⟨⟨⟨⟨⟨⟨⟨⟨⟨⟨⟨⟨⟨⟨⟨⟨⟨r0,r1⟩,rA⟩,rB⟩,rAC⟩,rAB⟩,rBA⟩,rBD⟩,rACB⟩,rABC⟩,rABD⟩,rBAC⟩,rBAD⟩,rBDA⟩,e1⟩,e2⟩,e3⟩,e4⟩,e5⟩,e6⟩:=hR;refine wpAny_all r0 (by simp) fun i hi=>?_
 simp only [d8K] at hi;subst hi;refine dK h0 rfl (.inl E0) ha1 ?_
 refine wpAny_all r1 (by simp) fun j hj=>?_
 simp only [List.mem_cons,List.not_mem_nil,or_false] at hj;rcases hj with rfl|rfl
 ·refine dK h1 rfl (.inl (E1 a1 w1 v1r v1q)) ha2 ?_
  refine wpAny_all rA (by simp) fun j hj=>?_
  simp only [List.mem_cons,List.not_mem_nil,or_false] at hj;rcases hj with rfl|rfl
  ·refine dK h2 rfl (.inr ⟨E2 a2 w1 v2p v2x hg,rfl⟩) rfl ?_
   refine wpAny_all rAC (by simp) fun j hj=>?_
   simp only [d8K] at hj;subst hj;refine dK h3 rfl (.inl (E3 a2 _ v2y)) ha3 ?_
   refine wpAny_all rACB (by simp) fun j hj=>?_
   simp only [d8K] at hj;subst hj;exact dK h4 rfl (.inr ⟨E4 a3 _ v3b v3r hbX,rfl⟩) rfl (wpAny_done e1 hfin _)
  ·refine dK h3 rfl (.inl (E3 a2 _ v2y)) ha3 ?_
   refine wpAny_all rAB (by simp) fun j hj=>?_
   simp only [List.mem_cons,List.not_mem_nil,or_false] at hj;rcases hj with rfl|rfl
   ·refine dK h2 rfl (.inr ⟨E2 a3 w1 v3p v3x hg,rfl⟩) rfl ?_
    refine wpAny_all rABC (by simp) fun j hj=>?_
    simp only [d8K] at hj;subst hj;exact dK h4 rfl (.inr ⟨E4 a3 _ v3b v3r hbX,rfl⟩) rfl (wpAny_done e2 hfin _)
   ·refine dK h4 rfl (.inr ⟨E4 a3 _ v3b v3r hob,rfl⟩) rfl ?_
    refine wpAny_all rABD (by simp) fun j hj=>?_
    simp only [d8K] at hj;subst hj;exact dK h2 rfl (.inr ⟨E2 a3 _ v3p v3x hgX,rfl⟩) rfl (wpAny_done e3 (by rw [hcomm];exact hfin) _)
 ·refine dK h3 rfl (.inl (E3 a1 _ v1y)) hab ?_
  refine wpAny_all rB (by simp) fun j hj=>?_
  simp only [List.mem_cons,List.not_mem_nil,or_false] at hj;rcases hj with rfl|rfl
  ·refine dK h1 rfl (.inl (E1 ab _ vbr vbq)) hab3 ?_
   refine wpAny_all rBA (by simp) fun j hj=>?_
   simp only [List.mem_cons,List.not_mem_nil,or_false] at hj;rcases hj with rfl|rfl
   ·refine dK h2 rfl (.inr ⟨E2 a3 w1 v3p v3x hg,rfl⟩) rfl ?_
    refine wpAny_all rBAC (by simp) fun j hj=>?_
    simp only [d8K] at hj;subst hj;exact dK h4 rfl (.inr ⟨E4 a3 _ v3b v3r hbX,rfl⟩) rfl (wpAny_done e4 hfin _)
   ·refine dK h4 rfl (.inr ⟨E4 a3 _ v3b v3r hob,rfl⟩) rfl ?_
    refine wpAny_all rBAD (by simp) fun j hj=>?_
    simp only [d8K] at hj;subst hj;exact dK h2 rfl (.inr ⟨E2 a3 _ v3p v3x hgX,rfl⟩) rfl (wpAny_done e5 (by rw [hcomm];exact hfin) _)
  ·refine dK h4 rfl (.inr ⟨E4 ab _ vbb vbr hob,rfl⟩) rfl ?_
   refine wpAny_all rBD (by simp) fun j hj=>?_
   simp only [d8K] at hj;subst hj;refine dK h1 rfl (.inl (E1 ab _ vbr vbq)) hab3 ?_
   refine wpAny_all rBDA (by simp) fun j hj=>?_
   simp only [d8K] at hj;subst hj;exact dK h2 rfl (.inr ⟨E2 a3 _ v3p v3x hgX,rfl⟩) rfl (wpAny_done e6 (by rw [hcomm];exact hfin) _)
def c0X (P:Program)(G:GT)(t e T:TypeId)(s z r p q x b y:Tmp)(fd:Nat)(Q:St→Prop)(st:St):Prop:=
 ∃(xs:List (List D)) (z0 c:List D) (eI:List (TypeId×List Loc)) (kb0 off0 fo:Nat) (u:TypeId) (out:Out),(r<st.tmps.length∧p<st.tmps.length∧b<st.tmps.length)∧st.eval G (.tmp s)= .d (.sl xs)∧gH (.t s) st.own=some (e,eI)∧(∀c∈xs,c.length=P.cellsOf e)∧st.eval G (.tmp z)= .d (.sl [z0])∧z0.length=P.cellsOf e∧
  (xs.length+1)*(P.bytesOf e+1)≤140737488355328∧st.eval G (.tmp q)= .d (.int .i64 (xs.length:Int))∧st.eval G (.tmp x)= .d (.agg c)∧c.length=P.cellsOf e∧st.eval G (.tmp y)= .ptr kb0 off0∧aM P T fd=some (fo,u)∧P.cellsOf u≠0∧pJ P G t (.tmp b) (.tmp r) (tl3 st eI e r p b xs c kb0 (off0+fo))=some out∧Q out.st
theorem yU {id:Nat}{ops:Array Oper}{Q:Exit→St→Prop}{m:Nat}{t e T:TypeId}{s z r p q x b y:Tmp}{fd:Nat}{y0 y1 y2 y3 y4:TypeId}{p0 p1 p2 p3 p4:String}{f0 f1 f2 f3 f4:Array Edge}(h0:ops[m]? =some ⟨some r,.call { callee:= .builtin .append,args:= #[.tmp s,.tmp z],argTypes:= #[t,t] },y0,p0,f0,none⟩)(h1:ops[m+1]? =some ⟨some p,.indexAddr t (.tmp r) (.tmp q),y1,p1,f1,none⟩)(h2:ops[m+2]? =some ⟨none,.store e (.tmp p) (.tmp x),y2,p2,f2,none⟩)(h3:ops[m+3]? =some ⟨some b,.fieldAddr T (.tmp y) fd,y3,p3,f3,none⟩)(h4:ops[m+4]? =some ⟨none,.store t (.tmp b) (.tmp r),y4,p4,f4,none⟩)(hB:(P.follows .mixedOrders&&c5b ops m&&decide (ops.size=m+5)&&a8A ops (oC m ops.size) m (m+1) (m+2) (m+3) (m+4))=true)(hok:(gK P e&&decide ((r≠q∧r≠x∧r≠p∧r≠b∧r≠y)∧(p≠x∧p≠b∧p≠y)∧b≠q∧b≠x))=true)(hu:P.underlying t=some (.slice e))(hF:a6n ops st=true)(h:VK P G [.ops true ops (ops.toList.take m)] .normal st fun _ s1=>c0X P G t e T s z r p q x b y fd (fun s'=>Q .normal s') s1):SW P G (.region id ops true) st Q:=by
 rw [d8D,d8D,d8D,decide_eq_true_eq] at hB;obtain ⟨⟨⟨hm,hL⟩,hsz⟩,hR⟩:=hB;rw [d8D,decide_eq_true_eq] at hok;have h5:ops.size-m=5:=by rw [hsz];exact Nat.add_sub_cancel_left ..
 refine a9L hm hL hF (b9s h) ?_
 rintro s1 base R μ a w QQ ⟨xs,z0,c,eI,kb0,off0,fo,u,out,k0,k1,k2,k3,k4,k5,k6,k7,k8,k9,k10,k11,k12,k13,k14⟩ hr hk;rw [h5];exact b6U (Q:=fun s'=>Q .normal s') h0 h1 h2 h3 h4 hR hok.1 hu hok.2 k0 k1 k2 k3 k4 k5 k6 k7 k8 k9 k10 k11 k12 k13 k14 hr hk
end
end Go.VM
end
section
namespace Go.VM
open Go Go.RowKit
section
variable {P:Program} {G:GT} {st:St} {base:cZ} {R:Nat→Nat→Prop} {μ:Nat→Nat} {a:Act} {w:World}
def a9R (P:Program)(G:GT)(all:Array Oper):List Oper→St→(Exit→St→Prop)→Prop
 |[],st,Q=>Q .normal st
 |o::rest,st,Q=>
  match eA o all st.tmps with
  |some true=>
   match gP G o st with
   |some (f,ds)=>(∃r own,(Enters P f∧CS P G f ds r own)∧a9R P G all rest (finish st o.dst r (a1M own)) Q)∨∃s',(Enters P f∧mC P G f (ds.map .d) (jH o) st o.dst s')∧a9R P G all rest s' Q
   |none=>
    match dD G o st with
    |some (f,d8B)=>∃x0,tM P G f d8B (jH o) o.dst st (fun s=>a9R P G all rest s Q) Q x0
    |none=>
     match jO P G o st with
     |some out=>a9R P G all rest (finish out.st o.dst out.v (a5a false all o out.v out.act)) Q
     |none=>False
  |some false=>a9R P G all rest (finish st o.dst (.cT []) .no) Q
  |none=>False
theorem c0Y {all:Array Oper}:∀(l:List Oper) (st:St) (Q:Exit→St→Prop),a9R P G all l st Q→∀(base:cZ) (R:Nat→Nat→Prop) (μ:Nat→Nat) (a:Act) (w:World),Rel P G base R μ st a w→
  ∀QQ:Exit→Act→World→Prop,(∀e s a' w' R' μ',Q e s→Rel P G base R' μ' s a' w'→Step base R w R' w'→QQ e a' w')→wpList P all QQ l a w
 |[],st,Q,h,base,R,μ,a,w,hr,QQ,hk=>hk _ st a w R μ h hr (.refl _ _ _)
 |o::rest,st,Q,h,base,R,μ,a,w,hr,QQ,hk=>by
  have go:kO P G false all o (fun s=>a9R P G all rest s Q) st→wpList P all QQ (o::rest) a w:=fun h1=>by unfold wpList;exact pQ h1 hr fun s v w' R' μ' h' hr' hs'=>c0Y rest s Q h' base R' μ' _ w' hr' QQ fun e s a' w2 R2 μ2 q1 q2 q3=>hk e s a' w2 R2 μ2 q1 q2 (hs'.trans q3)
  unfold a9R at h;split at h
  ·rename_i hw;split at h
   ·rename_i f ds hc;refine go ?_
    unfold kO;rw [hw,hc];rcases h with ⟨r,own,h1,h2⟩|⟨s',h1,h2⟩
    ·exact .inl ⟨r,own,h1,fun e=>Bool.noConfusion e,by simpa using h2⟩
    ·exact .inr ⟨by simp [pP],s',h1,h2⟩
   ·rename_i hc;split at h
    ·rename_i f d8B hH;obtain ⟨x0,h0⟩:=h;unfold tM at h0;obtain ⟨he,h1,h2⟩:=h0;cases x0 with
     |true=>
      obtain ⟨s',h3,h4⟩:=h1 rfl;refine go ?_
      unfold kO;rw [hw,hc,hH];simp only [pP,Bool.false_and,yJ,Bool.false_eq_true,if_false];exact ⟨s',⟨he,h3⟩,h4⟩
     |false=>obtain ⟨v,h3,h4⟩:=h2 rfl;unfold wpList;rw [zY hr hw,if_pos rfl];exact .inl (a4u hH ⟨he,h3⟩ hr fun R' w' hs hb=>hk _ _ _ w' R' μ h4 (hr.a5y hs hb) hs)
    ·rename_i hH;split at h
     ·rename_i out hv;refine go ?_
      unfold kO;rw [hw,hc,hH,hv];exact h
     ·exact h.elim
  ·rename_i hw;refine go ?_
   unfold kO;rw [hw];exact h
  ·exact h.elim
def XW (P:Program)(G:GT):Code→St→(Exit→St→Prop)→Prop
 | .skip,st,Q=>Q .normal st
 | .region id ops draw,st,Q=>match draw with
  |true=>SW P G (.region id ops true) st Q
  |false=>a9R P G ops ops.toList st Q
 | .seq x y,st,Q=>XW P G x st fun e s=>match e with
  | .normal=>XW P G y s Q
  |e=>Q e s
 | .cond c x y,st,Q=>
  match st.eval G c with
  | .d (.bool t)=>if t then XW P G x st Q else XW P G y st Q
  | .oN=>XW P G x st Q∧XW P G y st Q
  |_=>False
 | .block id c,st,Q=>XW P G c st fun e s=>match e with
  | .exit id'=>if id'=id then Q .normal s else Q (.exit id') s
  |e=>Q e s
 | .loop c,st,Q=>SW P G (.loop c) st Q
 | .exit id,st,Q=>Q (.exit id) st
 | .ret,st,Q=>Q .ret st
 | .label _,st,Q=>Q .normal st
 | .scope c,st,Q=>XW P G c st fun e s=>match e with
  | .goto _=>False
  |e=>Q e s
 |_,_,_=>False
theorem a5B:∀(c:Code) (st:St) (Q:Exit→St→Prop),XW P G c st Q→SW P G c st Q
 | .skip,st,Q,h=>fun base R μ a w hr=>wp_skip ⟨st,R,μ,h,hr,.refl _ _ _⟩
 | .region id ops draw,st,Q,h=>by
  unfold XW at h;cases draw with
  |true=>exact h
  |false=>exact fun base R μ a w hr=>wp_region_list (c0Y ops.toList st Q h base R μ a w hr _ fun e s a' w' R' μ' q1 q2 q3=>⟨s,R',μ',q1,q2,q3⟩)
 | .seq x y,st,Q,h=>fun base R μ a w hr=>wp_seq (wp_mono (a5B x st _ h base R μ a w hr) fun e a1 w1 ⟨s,R1,μ1,q1,q2,q3⟩=>by
   cases e with
   |normal=>exact wp_mono (a5B y s Q q1 base R1 μ1 a1 w1 q2) fun e2 a2 w2 ⟨s2,R2,μ2,p1,p2,p3⟩=>⟨s2,R2,μ2,p1,p2,q3.trans p3⟩
   |_=>exact ⟨s,R1,μ1,q1,q2,q3⟩)
 | .cond c x y,st,Q,h=>fun base R μ a w hr=>by
  unfold XW at h;split at h
  ·rename_i t hc;refine wp_cond (hr.zX hc) ?_
   cases t
   ·exact a5B y st Q h base R μ a w hr
   ·exact a5B x st Q h base R μ a w hr
  ·rename_i hc;obtain ⟨t,ht⟩:=hr.c0E hc;refine wp_cond ht ?_
   cases t
   ·exact a5B y st Q h.2 base R μ a w hr
   ·exact a5B x st Q h.1 base R μ a w hr
  ·cases h
 | .block id c,st,Q,h=>fun base R μ a w hr=>wp_block (wp_mono (a5B c st _ h base R μ a w hr) fun e a1 w1 ⟨s,R1,μ1,q1,q2,q3⟩=>by
   cases e with
   |exit id'=>
    simp only [Exit.inBlock];simp only at q1;by_cases hid:id'=id
    ·rw [if_pos hid] at q1 ⊢;exact ⟨s,R1,μ1,q1,q2,q3⟩
    ·rw [if_neg hid] at q1 ⊢;exact ⟨s,R1,μ1,q1,q2,q3⟩
   |_=>exact ⟨s,R1,μ1,q1,q2,q3⟩)
 | .loop c,st,Q,h=>h
 | .exit id,st,Q,h=>fun base R μ a w hr=>wp_exit ⟨st,R,μ,h,hr,.refl _ _ _⟩
 | .ret,st,Q,h=>fun base R μ a w hr=>wp_ret ⟨st,R,μ,h,hr,.refl _ _ _⟩
 | .rangeFunc ..,_,_,h=>by simp [XW] at h
 | .scope c,st,Q,h=>fun base R μ a w hr=>wp_scope_straight (wp_mono (a5B c st _ h base R μ a w hr) fun e a1 w1 ⟨s,R1,μ1,q1,q2,q3⟩=>by
   cases e with
   |goto l=>exact q1.elim
   |_=>exact ⟨s,R1,μ1,q1,q2,q3⟩)
 | .label l,st,Q,h=>fun base R μ a w hr=>wp_label ⟨st,R,μ,h,hr,.refl _ _ _⟩
 | .goto ..,_,_,h=>by simp [XW] at h
inductive XI where
 |code (c:Code)
 |blk (id:Nat)
 |ops (all:Array Oper) (rest:List Oper)
 |scp
def XK (P:Program)(G:GT):List XI→Exit→St→(Exit→St→Prop)→Prop
 |[],e,st,Q=>Q e st
 | .code c::k,.normal,st,Q=>XW P G c st fun e s=>XK P G k e s Q
 | .code _::k,e,st,Q=>XK P G k e st Q
 | .blk id::k,.exit id',st,Q=>if id'=id then XK P G k .normal st Q else XK P G k (.exit id') st Q
 | .blk _::k,e,st,Q=>XK P G k e st Q
 | .ops all rest::k,.normal,st,Q=>a9R P G all rest st fun e s=>XK P G k e s Q
 | .ops _ _::k,e,st,Q=>XK P G k e st Q
 | .scp::_,.goto _,_,_=>False
 | .scp::k,e,st,Q=>XK P G k e st Q
def b6V (P:Program)(G:GT)(v:DV)(x y:Code)(k:List XI)(st:St)(Q:Exit→St→Prop):Prop:=
 match v with
 | .d (.bool t)=>if t then XK P G (.code x::k) .normal st Q else XK P G (.code y::k) .normal st Q
 | .oN=>XK P G (.code x::k) .normal st Q∧XK P G (.code y::k) .normal st Q
 |_=>False
end
section
variable {P:Program} {G:GT} {k:List XI} {st:St} {Q:Exit→St→Prop}
theorem d4x (e:Exit):XK P G [] e st Q=Q e st:=rfl
theorem d0h:XK P G (.code .skip::k) .normal st Q=XK P G k .normal st Q:=rfl
theorem d4y (x y:Code):XK P G (.code (.seq x y)::k) .normal st Q=XK P G (.code x:: .code y::k) .normal st Q:=by simp only [XK,XW];congr 1;funext e s;cases e<;>rfl
theorem d0i (c:Operand)(x y:Code):XK P G (.code (.cond c x y)::k) .normal st Q=b6V P G (st.eval G c) x y k st Q:=rfl
theorem c5g (id:Nat)(c:Code):XK P G (.code (.block id c)::k) .normal st Q=XK P G (.code c:: .blk id::k) .normal st Q:=by simp only [XK,XW];congr 1;funext e s;cases e<;>rfl
theorem c5h (l:Nat):XK P G (.code (.label l)::k) .normal st Q=XK P G k .normal st Q:=rfl
theorem b1B:XK P G (.scp::k) .normal st Q=XK P G k .normal st Q:=rfl
theorem b9v:XK P G (.scp::k) .ret st Q=XK P G k .ret st Q:=rfl
theorem b6W (id:Nat):XK P G (.scp::k) (.exit id) st Q=XK P G k (.exit id) st Q:=rfl
theorem c2q (id:Nat)(ops:Array Oper):XK P G (.code (.region id ops false)::k) .normal st Q=XK P G (.ops ops ops.toList::k) .normal st Q:=rfl
theorem c5i (id:Nat)(ops:Array Oper):XK P G (.code (.region id ops true)::k) .normal st Q=SW P G (.region id ops true) st (fun e s=>XK P G k e s Q):=rfl
theorem d0j (id:Nat):XK P G (.code (.exit id)::k) .normal st Q=XK P G k (.exit id) st Q:=rfl
theorem d4z:XK P G (.code .ret::k) .normal st Q=XK P G k .ret st Q:=rfl
theorem d0k (c:Code):XK P G (.code (.loop c)::k) .normal st Q=SW P G (.loop c) st (fun e s=>XK P G k e s Q):=rfl
theorem b6X (c:Code):XK P G (.code c::k) .ret st Q=XK P G k .ret st Q:=rfl
theorem b4l (c:Code)(id:Nat):XK P G (.code c::k) (.exit id) st Q=XK P G k (.exit id) st Q:=rfl
theorem b1C (id:Nat):XK P G (.blk id::k) .normal st Q=XK P G k .normal st Q:=rfl
theorem b9w (id:Nat):XK P G (.blk id::k) .ret st Q=XK P G k .ret st Q:=rfl
theorem b6Y (id id':Nat):XK P G (.blk id::k) (.exit id') st Q=if id'=id then XK P G k .normal st Q else XK P G k (.exit id') st Q:=rfl
theorem b9x (all:Array Oper):XK P G (.ops all []::k) .normal st Q=XK P G k .normal st Q:=rfl
theorem a0i (ps:List PanicEntry):∀k:List XI,XK P G k (.panic ps) st Q=Q (.panic ps) st
 |[]=>rfl
 | .code _::k=>by simpa only [XK] using a0i ps k
 | .blk _::k=>by simpa only [XK] using a0i ps k
 | .ops _ _::k=>by simpa only [XK] using a0i ps k
 | .scp::k=>by simpa only [XK] using a0i ps k
def mB (P:Program)(G:GT)(f:FuncId)(ds:List D)(ls:List (Option Loc))(dst:Option Tmp)(all:Array Oper)(rest:List Oper)(k:List XI)(st:St)(Q:Exit→St→Prop):Prop:=
 (∃r own,(Enters P f∧CS P G f ds r own)∧XK P G (.ops all rest::k) .normal (finish st dst r (a1M own)) Q)∨
 (∃s',(Enters P f∧mC P G f (ds.map .d) ls st dst s')∧XK P G (.ops all rest::k) .normal s' Q)
theorem mB.mk {ls:List (Option Loc)}{f:FuncId}{ds:List D}{r:DV}{own:Option TypeId}{dst:Option Tmp}{all:Array Oper}{rest:List Oper}(he:Enters P f)(hc:CS P G f ds r own)(h:XK P G (.ops all rest::k) .normal (finish st dst r (a1M own)) Q):mB P G f ds ls dst all rest k st Q:= .inl ⟨r,own,⟨he,hc⟩,h⟩
def b2O (P:Program)(G:GT)(x:Option Out)(dst:Option Tmp)(all:Array Oper)(rest:List Oper)(k:List XI)(Q:Exit→St→Prop):Prop:=
 match x with
 |some out=>XK P G (.ops all rest::k) .normal (finish out.st dst out.v out.act) Q
 |none=>False
theorem b9y {st':St}{v:DV}{act:OA}{dst:Option Tmp}{all:Array Oper}{rest:List Oper}:b2O P G (some ⟨v,act,st'⟩) dst all rest k Q=XK P G (.ops all rest::k) .normal (finish st' dst v act) Q:=rfl
theorem qW {c:Prop}[Decidable c]{out:Out}{dst:Option Tmp}{all:Array Oper}{rest:List Oper}(hc:c)(h:b2O P G (some out) dst all rest k Q):b2O P G (if c then some out else none) dst all rest k Q:=by rw [if_pos hc];exact h
theorem b9z (x y:Code):b6V P G (.d (.bool true)) x y k st Q=XK P G (.code x::k) .normal st Q:=rfl
theorem c2r (x y:Code):b6V P G .oN x y k st Q=(XK P G (.code x::k) .normal st Q∧XK P G (.code y::k) .normal st Q):=rfl
theorem b6Z (x y:Code):b6V P G (.d (.bool false)) x y k st Q=XK P G (.code y::k) .normal st Q:=rfl
def hM (P:Program)(G:GT)(f:FuncId)(d8B:List DV)(ls:List (Option Loc))(dst:Option Tmp)(all:Array Oper)(rest:List Oper)(k:List XI)(st:St)(Q:Exit→St→Prop):Prop:=
 ∃x0,tM P G f d8B ls dst st (fun s=>XK P G (.ops all rest::k) .normal s Q) (fun e s=>XK P G k e s Q) x0
theorem hM.mk {f:FuncId}{d8B:List DV}{ls:List (Option Loc)}{dst:Option Tmp}{all:Array Oper}{rest:List Oper}{x0:Bool}(h:tM P G f d8B ls dst st (fun s=>XK P G (.ops all rest::k) .normal s Q) Q x0):hM P G f d8B ls dst all rest k st Q:=by
 refine ⟨x0,?_⟩;unfold tM at h ⊢;refine ⟨h.1,h.2.1,fun h0=>?_⟩;obtain ⟨v,h1,h2⟩:=h.2.2 h0;refine ⟨v,h1,?_⟩
 show XK P G k (.panic (wI v)) (yS st) Q
 rw [a0i];exact h2
def a2j (P:Program)(G:GT)(o:Oper)(all:Array Oper)(rest:List Oper)(k:List XI)(st:St)(Q:Exit→St→Prop):Prop:=
 match gP G o st with
 |some (f,ds)=>mB P G f ds (jH o) o.dst all rest k st Q
 |none=>
  match dD G o st with
  |some (f,d8B)=>hM P G f d8B (jH o) o.dst all rest k st Q
  |none=>b2O P G ((jO P G o st).map fun out=>⟨out.v,a5a false all o out.v out.act,out.st⟩) o.dst all rest k Q
def a0O (P:Program)(G:GT)(y:DV)(want:Bool)(o:Oper)(all:Array Oper)(rest:List Oper)(k:List XI)(st:St)(Q:Exit→St→Prop):Prop:=
 match y with
 | .undef=>False
 | .oN=>False
 | .d (.bool b)=>if b=want then a2j P G o all rest k st Q else XK P G (.ops all rest::k) .normal (finish st o.dst (.cT []) .no) Q
 |_=>XK P G (.ops all rest::k) .normal (finish st o.dst (.cT []) .no) Q
theorem yV (b want:Bool)(o:Oper)(all:Array Oper)(rest:List Oper):a0O P G (.d (.bool b)) want o all rest k st Q=if b=want then a2j P G o all rest k st Q else XK P G (.ops all rest::k) .normal (finish st o.dst (.cT []) .no) Q:=rfl
theorem b9A (ds:List D)(want:Bool)(o:Oper)(all:Array Oper)(rest:List Oper):a0O P G (.cT ds) want o all rest k st Q=XK P G (.ops all rest::k) .normal (finish st o.dst (.cT []) .no) Q:=rfl
theorem c2s (o:Oper)(all:Array Oper)(rest:List Oper):a0O P G (.d (.bool true)) true o all rest k st Q=a2j P G o all rest k st Q:=by rw [yV,if_pos rfl]
theorem c2t (o:Oper)(all:Array Oper)(rest:List Oper):a0O P G (.d (.bool false)) false o all rest k st Q=a2j P G o all rest k st Q:=by rw [yV,if_pos rfl]
theorem c2u (o:Oper)(all:Array Oper)(rest:List Oper):a0O P G (.d (.bool true)) false o all rest k st Q=XK P G (.ops all rest::k) .normal (finish st o.dst (.cT []) .no) Q:=by rw [yV,if_neg (by decide)]
theorem c2v (o:Oper)(all:Array Oper)(rest:List Oper):a0O P G (.d (.bool false)) true o all rest k st Q=XK P G (.ops all rest::k) .normal (finish st o.dst (.cT []) .no) Q:=by rw [yV,if_neg (by decide)]
theorem a7L (all:Array Oper)(o:Oper)(rest:List Oper):XK P G (.ops all (o::rest)::k) .normal st Q=match eA o all st.tmps with
  |some true=>a2j P G o all rest k st Q
  |some false=>XK P G (.ops all rest::k) .normal (finish st o.dst (.cT []) .no) Q
  |none=>False:=by
 simp only [XK,a9R,a2j,mB,hM,b2O];cases eA o all st.tmps with
 |none=>rfl
 |some b=>
  cases b with
  |false=>rfl
  |true=>
   simp only;cases gP G o st with
   |some p=>rfl
   |none=>
    simp only;cases dD G o st with
    |some p=>rfl
    |none=>simp only;cases jO P G o st<;>rfl
theorem b7a (all:Array Oper)(dst:Option Tmp)(op:Op)(ty:TypeId)(pos:String)(after:Array Edge)(rest:List Oper):
  XK P G (.ops all (⟨dst,op,ty,pos,after,none⟩::rest)::k) .normal st Q=a2j P G ⟨dst,op,ty,pos,after,none⟩ all rest k st Q:=by
 rw [a7L]
 rfl
theorem b4m (all:Array Oper)(dst:Option Tmp)(op:Op)(ty:TypeId)(pos:String)(after:Array Edge)(j:Nat)(want:Bool)(rest:List Oper):
  XK P G (.ops all (⟨dst,op,ty,pos,after,some (j,want)⟩::rest)::k) .normal st Q=a0O P G (rK all st.tmps j) want ⟨dst,op,ty,pos,after,some (j,want)⟩ all rest k st Q:=by
 rw [a7L];simp only [eA,a0O];generalize rK all st.tmps j=y;cases y with
 |d x=>
  cases x with
  |bool b=>cases b<;>cases want<;>rfl
  |_=>rfl
 |_=>rfl
theorem SW.xk {c:Code}(h:XK P G [.code c] .normal st Q):SW P G c st Q:=a5B c st Q h
theorem SW.vY {c:Code}{ι:Type}(ws:ι→List (Nat×DV))(H:ι→List (Nat×aZ))(own:ι→List (TypeId×List Loc))(m:ι→Nat)(x0:ι)(h0:wD st (mU c st (ws x0) (H x0) (own x0)))(round:∀x,XK P G [.code c] .normal (mU c st (ws x) (H x) (own x)) fun e s=>match e with
   | .normal=>bR (fun y=>mU c st (ws y) (H y) (own y)) m x s
   |e=>Q e s):SW P G (.loop c) st Q:=SW.d6n ws H own m x0 h0 fun x=>SW.xk (round x)
end
attribute [irreducible] XK mB hM b2O b6V a0O
attribute [simp] c5h b1B b9v b6W d4x d0h d4y d0i c5g c2q c5i d0j d4z d0k b6X b4l b1C b9w b6Y b9x b7a b4m a2j b9y b9z b6Z c2r b9A c2s c2t c2u c2v a0i
end Go.VM
end
section
namespace Go.VM
open Go Go.RowKit
section
variable {P:Program} {G:GT} {st:St} {base:cZ} {R:Nat→Nat→Prop} {μ:Nat→Nat} {a:Act} {w:World}
def a3b:Op→Bool
 | .move _=>true
 | .nilCheck _=>true
 | .fieldAddr _ _ _=>true
 |_=>false
theorem a9S {o:Oper}{all:Array Oper}{K:St→Prop}(hg:o.guard=none)(hk:a3b o.op=true)(h:kO P G true all o K st)(hr:Rel P G base R μ st a w):∃v,∀w',(execOp a.eval o).run P w'= .ok (.value v) w':=by
 unfold kO at h;rw [show eA o all st.tmps=some true from by unfold eA;rw [hg]] at h;cases hop:o.op with
 |move x=>exact ⟨a.eval x,fun w'=>by simp [execOp,hop]⟩
 |nilCheck x=>
  simp only [gP,dD,hop,jO] at h;unfold sE at h;split at h
  ·rename_i out ho;split at ho
   ·rename_i k off hx;exact ⟨_,fun w'=>by simp [execOp,hop,hr.dQ hx];rfl⟩
   ·rename_i cs hx;obtain ⟨b,off,he,_⟩:=(hr.kN hx).a1J;exact ⟨_,fun w'=>by simp [execOp,hop,he];rfl⟩
   ·rename_i f hx;exact ⟨_,fun w'=>by simp [execOp,hop,hr.a8P hx];rfl⟩
   ·rename_i f cs hx;obtain ⟨vs,he,_,_⟩:=(hr.kN hx).a4W;exact ⟨_,fun w'=>by simp [execOp,hop,he];rfl⟩
   ·cases ho
  ·exact h.elim
 |fieldAddr t x i=>
  simp only [gP,dD,hop,jO] at h;unfold pY at h;split at h
  ·rename_i out ho;split at ho
   ·rename_i off u hf;split at ho
    ·cases ho
    ·rename_i hne;split at ho
     ·rename_i k o2 hx;exact ⟨_,fun w'=>tZ (P:=P) hop hf hne (hr.dQ hx)⟩
     ·rename_i cs hx;obtain ⟨b,o2,he,_⟩:=(hr.kN hx).a1J;exact ⟨_,fun w'=>tZ (P:=P) hop hf hne he⟩
     ·cases ho
   ·cases ho
  ·exact h.elim
 |_=>simp [a3b,hop] at hk
theorem b7b {o:Oper}{all:Array Oper}{K:St→Prop}(hg:o.guard=none)(hk:a3b o.op=true)(h:kO P G true all o K st)(hr:Rel P G base R μ st a w):
  ∃v s R' μ',(∀w',(execOp a.eval o).run P w'= .ok (.value v) w')∧K s∧Rel P G base R' μ' s (a.put o.dst v) w∧Step base R w R' w:=by
 obtain ⟨v,hv⟩:=a9S hg hk h hr;have h1:=pQ (Q:=fun _ _ _=>False) (KK:=fun a' w'=>∃s R' μ',K s∧Rel P G base R' μ' s a' w'∧Step base R w R' w') h hr (fun s v w' R' μ' q1 q2 q3=>⟨s,R',μ',q1,q2,q3⟩);rw [if_pos (by unfold Region.wanted;rw [hg])] at h1;rcases h1 with h1|⟨_,_,_,h2⟩
 ·unfold Oper.wp at h1;rw [hv w] at h1;obtain ⟨s,R',μ',q1,q2,q3⟩:=h1;exact ⟨v,s,R',μ',hv,q1,q2,q3⟩
 ·exact h2.elim
def a9T (ops:Array Oper):List Nat→Array Bool→Bool
 |[],_=>true
 |i::r,listed=>(match ops[i]? with
  |some o=>a3b o.op&&(o.guard==none)&&o.dst.isSome
  |none=>false)&&Region.noSelect ops&&Region.free .any ops listed i&&(Region.ready .any ops listed).contains i&&a9T ops r (listed.setIfInBounds i true)
theorem b4n {ops:Array Oper}{K:St→Prop}{QQ:Exit→Act→World→Prop}(hQ:∀c a a' w,a.defers=a'.defers→a.tmps.size=a'.tmps.size→QQ (.panic c) a w→QQ (.panic c) a' w):∀(l:List Nat) (listed:Array Bool) (fuel:Nat) (st:St),a9T ops l listed=true→rF P G true ops (sel ops l) st K→
  ∀(base:cZ) (R:Nat→Nat→Prop) (μ:Nat→Nat) (a:Act) (w:World),Rel P G base R μ st a w→(∀s a' R' μ',K s→Rel P G base R' μ' s a' w→Step base R w R' w→wpAny P .any ops QQ fuel (cD l listed) a' w)→wpAny P .any ops QQ (l.length+fuel) listed a w
 |[],listed,fuel,st,_,h,base,R,μ,a,w,hr,hk=>by simpa [cD] using hk st a R μ h hr (.refl _ _ _)
 |i::l,listed,fuel,st,hB,h,base,R,μ,a,w,hr,hk=>by
  simp only [a9T,d8D] at hB;obtain ⟨⟨⟨⟨ho,hsel⟩,hf⟩,hrd⟩,hB'⟩:=hB;split at ho;rotate_left
  ·cases ho
  rename_i o hoi;simp only [d8D,beq_iff_eq] at ho;obtain ⟨⟨hsk,hg⟩,hd⟩:=ho;simp only [sel,hoi,rF] at h;obtain ⟨v,s,R',μ',hv,hK,hr',hs'⟩:=b7b hg hsk h hr;rw [show (i::l).length+fuel=(l.length+fuel)+1 by simp only [List.length_cons];omega];refine wpAny_take (v:=v) hoi hsel hf hrd (fun c a w h=>hQ c _ _ w ?_ ?_ h) (.inl ⟨by unfold Region.wanted;rw [hg],hv⟩) ?_
  ·cases o.dst<;>rfl
  ·cases o.dst<;>simp [Act.put]
  ·exact b4n hQ l _ fuel s hB' hK base R' μ' _ w hr' fun s2 a2 R2 μ2 q1 q2 q3=>hk s2 a2 R2 μ2 q1 q2 (hs'.trans q3)
def vG (Q:Exit→St→Prop):Exit→St→Prop:=fun e s=>match e with
 | .panic c=>∀s,Q (.panic c) s
 |e=>Q e s
theorem b4o {Q:Exit→St→Prop}{s:St}:vG Q .normal s=Q .normal s:=rfl
theorem a2k {Q:Exit→St→Prop}{s:St}{c:List PanicEntry}:vG Q (.panic c) s=∀s,Q (.panic c) s:=rfl
theorem a9U {Q:Exit→St→Prop}{e:Exit}{s:St}(h:vG Q e s):Q e s:=by cases e<;>first|exact h|exact h s
theorem Rel.a9V (hr:Rel P G base R μ st a w)(a':Act)(hd:a'.defers=[]):Rel P G base R μ ⟨List.replicate a'.tmps.size .undef,[],[]⟩ a' w where
 defers:=hd
 size:=by simp
 tmps:=fun i v d _ hd=>by
  rw [List.getElem?_replicate] at hd;split at hd
  ·simp at hd;subst hd;exact .undef _
  ·cases hd
 gT:=fun k o h=>by cases h
 inj:=fun k k' o o' h=>by cases h
 dV:=fun c hc=>by cases hc
 own:=⟨[],rfl,fun i c v h _=>by simp at h,.nil⟩
 sN:=hr.sN
 oP:=hr.oP
 base:=hr.base
 pass:=hr.pass
theorem a2l {ops:Array Oper}:∀(l:List Nat) (listed:Array Bool),a9T ops l listed=true→eR ops listed→eR ops (cD l listed)
 |[],_,_,h=>h
 |i::l,listed,hB,h=>by simp only [a9T,d8D] at hB;exact a2l l _ hB.2 (h.set (by simpa using hB.1.2))
def d2s (ops:Array Oper)(ss:List Nat)(c:Nat)(anc:List Nat)(T:Ord):Bool:=(eQ ops).isEmpty&&a9T ops ss (Array.replicate ops.size false)&&decide (ss.length+anc.length+1≤ops.size)&&inB ops c anc&&a5v ops c anc (cD ss (Array.replicate ops.size false))&& !(Region.ready .any ops (cD anc (cD ss (Array.replicate ops.size false)))).isEmpty&&((Region.ready .any ops (cD anc (cD ss (Array.replicate ops.size false)))).all fun j=>a0M c T j)&&a9O ops c T (ops.size-ss.length-anc.length) (cD anc (cD ss (Array.replicate ops.size false)))
theorem eR.zero {ops:Array Oper}:eR ops (Array.replicate ops.size false):=fun k hk=>by
 rcases Nat.lt_or_ge k ops.size with h'|h'
 ·simp [h'] at hk
 ·simp [Nat.not_lt.2 h'] at hk
theorem kG {id:Nat}{ops:Array Oper}{Q:Exit→St→Prop}(ss:List Nat)(c:Nat)(anc:List Nat)(T:Ord)(x0:Bool)(hm:P.follows .mixedOrders=true)(hB:d2s ops ss c anc T=true)(h:VK P G [.ops true ops (sel ops ss)] .normal st fun _ s=>VK P G [.ops true ops (sel ops anc)] .normal s fun _ s=>oD P G ops c (vG Q) x0 T s):SW P G (.region id ops true) st Q:=by
 simp only [d2s,d8D,List.isEmpty_iff,decide_eq_true_eq,Bool.not_eq_true',List.isEmpty_eq_false_iff,d8G] at hB;obtain ⟨⟨⟨⟨⟨⟨⟨hN,hst⟩,hlen⟩,hin⟩,hs⟩,hne⟩,hall⟩,ht⟩:=hB;obtain ⟨k,hk⟩:=Nat.exists_eq_add_of_le hlen;have hcl:=a2l ss _ hst eR.zero;have e:ops.size-ss.length-anc.length=k+1:=by omega
 rw [e] at ht;refine SW.mono (fun e s=>a9U) ?_
 intro base R μ a w hr;obtain ⟨hr',hs'⟩:=hr.drew;refine wp_region_any hm ?_
 simp only [VK] at h;have main:=b4n (QQ:=fun e a' w'=>∃s' R' μ',vG Q e s'∧Rel P G base R' μ' s' a' w'∧Step base R w R' w') (K:=fun s=>rF P G true ops (sel ops anc) s fun s=>oD P G ops c (vG Q) x0 T s) (fun c a a' w h1 h2 ⟨s',R',μ',q1,q2,q3⟩=>⟨⟨List.replicate a'.tmps.size .undef,[],[]⟩,R',μ',q1,q2.a9V a' (h1▸q2.defers),q3⟩) ss _ (anc.length+(k+1)) st hst h base R μ a w.drew hr' fun s a' R1 μ1 q1 q2 q3=>by
  cases x0 with
  |false=>have h2:=sJ (fun s hs=>oD.pan T s hs) _ _ q1;have:=a2Z (P:=P) (G:=G) (c:=c) (Z:=yT P G ops c (vG Q)) hN anc _ s (k+1) hcl hin hs (qV (fun s hs'=>⟨hne,fun j hj=>a2i T k _ s ht hs' j hj (hall j hj)⟩) _ _ (tB anc s hin h2));exact a5z _ _ s this base R1 μ1 a' w.drew q2 fun v s a' w' R' μ' p1 p2 p3=>⟨s,R',μ',p1,p2,hs'.trans (q3.trans p3)⟩
  |true=>
   have h2:=sJ (fun s hs=>oD.ret T s hs) _ _ q1;have:=a2Y (P:=P) (G:=G) (c:=c) (Q:=fun s=>vG Q .normal s) hN anc _ s (k+1) hcl hs (qV (fun s hs'=>⟨fun h'=>(hne h').elim,fun j hj=>a5w hN T k _ s (eR.cD anc _ hcl hs) ht hs' j hj (hall j hj)⟩) _ _ (tB anc s hin h2)) fun _=>trivial
   exact a5u _ _ s this base R1 μ1 a' w.drew q2 fun s a' w' R' μ' p1 p2 p3=>⟨s,R',μ',p1,p2,hs'.trans (q3.trans p3)⟩
 rw [show ss.length+(anc.length+(k+1))=ops.size by omega] at main;exact main
def b4p (ops:Array Oper)(m:Nat)(ss:List Nat)(c:Nat)(anc:List Nat)(T:Ord):Bool:=(eQ ops).isEmpty&&a9T ops ss (Array.replicate ops.size false)&&c5e m ss&&decide (ss.length+anc.length+1≤m)&&decide (m≤ops.size)&&uR ops m&&c5e m anc&&inB ops c anc&&a5v ops c anc (cD ss (Array.replicate ops.size false))&& !(Region.ready .any ops (cD anc (cD ss (Array.replicate ops.size false)))).isEmpty&&((Region.ready .any ops (cD anc (cD ss (Array.replicate ops.size false)))).all fun j=>a0M c T j)&&a3P ops m c T (m-ss.length-anc.length) (cD anc (cD ss (Array.replicate ops.size false)))
theorem a5C {id:Nat}{ops:Array Oper}{m:Nat}{TT:St→Prop}{Q:Exit→St→Prop}(ss:List Nat)(c:Nat)(anc:List Nat)(T:Ord)(x0:Bool)(hm:P.follows .mixedOrders=true)(hB:b4p ops m ss c anc T=true)(h:VK P G [.ops true ops (sel ops ss)] .normal st fun _ s=>VK P G [.ops true ops (sel ops anc)] .normal s fun _ s=>oD P G ops c (a9Q TT (vG Q)) x0 T s)(hT:∀s base R μ a w (QQ:Exit→Act→World→Prop),TT s→Rel P G base R μ s a w→(∀s' a' w' R' μ',Q .normal s'→Rel P G base R' μ' s' a' w'→Step base R w R' w'→QQ .normal a' w')→wpAny P .any ops QQ (ops.size-m) (oC m ops.size) a w):SW P G (.region id ops true) st Q:=by
 simp only [b4p,d8D,List.isEmpty_iff,decide_eq_true_eq,Bool.not_eq_true',List.isEmpty_eq_false_iff,d8G] at hB;obtain ⟨⟨⟨⟨⟨⟨⟨⟨⟨⟨⟨hN,hst⟩,hlowS⟩,hlen⟩,hmle⟩,hTA⟩,hlow⟩,hin⟩,hs⟩,hne⟩,hall⟩,ht⟩:=hB;obtain ⟨k,hk⟩:=Nat.exists_eq_add_of_le hlen;have hcl:=a2l ss _ hst eR.zero;have e:m-ss.length-anc.length=k+1:=by omega
 rw [e] at ht;obtain ⟨k',hk'⟩:=Nat.exists_eq_add_of_le (Nat.le_trans hlen hmle);refine SW.mono (fun e s=>a9U) ?_
 intro base R μ a w hr;obtain ⟨hr',hs'⟩:=hr.drew;refine wp_region_any hm ?_
 simp only [VK] at h;have main:=b4n (QQ:=fun e a' w'=>∃s' R' μ',vG Q e s'∧Rel P G base R' μ' s' a' w'∧Step base R w R' w') (K:=fun s=>rF P G true ops (sel ops anc) s fun s=>oD P G ops c (a9Q TT (vG Q)) x0 T s) (fun c a a' w h1 h2 ⟨s',R',μ',q1,q2,q3⟩=>⟨⟨List.replicate a'.tmps.size .undef,[],[]⟩,R',μ',q1,q2.a9V a' (h1▸q2.defers),q3⟩) ss _ (anc.length+(k'+1)) st hst h base R μ a w.drew hr' fun s a' R1 μ1 q1 q2 q3=>by
  cases x0 with
  |false=>have h2:=sJ (fun s hs=>oD.pan T s hs) _ _ q1;have:=a2Z (P:=P) (G:=G) (c:=c) (Z:=yT P G ops c (a9Q TT (vG Q))) hN anc _ s (k'+1) hcl hin hs (qV (fun s hs'=>⟨hne,fun j hj=>a3a T k k' _ s (by omega) ht hs' j hj (hall j hj)⟩) _ _ (tB anc s hin h2));exact a5z _ _ s this base R1 μ1 a' w.drew q2 fun v s a' w' R' μ' p1 p2 p3=>⟨s,R',μ',p1,p2,hs'.trans (q3.trans p3)⟩
  |true=>
   have h2:=sJ (fun s hs=>oD.ret T s hs) _ _ q1;have h3:=a4v (P:=P) (G:=G) (m:=m) (c:=c) (Q:=TT) hTA hN anc _ s (k+1) hlow hcl hs (qV (fun s hs'=>⟨hne,fun j hj=>a5A hTA hN T k _ s (eR.cD anc _ hcl hs) ht hs' j hj (hall j hj)⟩) _ _ (tB anc s hin h2));have h4:=b2N (r:=ops.size-m) (QQ:=fun e a' w'=>∃s' R' μ',vG Q e s'∧Rel P G base R' μ' s' a' w'∧Step base R w R' w') _ _ s h3 base R1 μ1 a' w.drew q2 fun s a' w' R' μ' p1 p2 p3=>hT s base R' μ' a' w' _ p1 p2 fun s2 a2 w2 R2 μ2 o1 o2 o3=>⟨s2,R2,μ2,o1,o2,hs'.trans (q3.trans (p3.trans o3))⟩
   rw [show anc.length+(k+1)+(ops.size-m)=anc.length+(k'+1) by omega] at h4;exact h4
 rw [show ss.length+(anc.length+(k'+1))=ops.size by omega] at main;exact main
theorem a5D {id:Nat}{ops:Array Oper}{Q:Exit→St→Prop}(m:Nat){t e:TypeId}{s z r p q x b:Tmp}{y0 y1 y2 y3:TypeId}{p0 p1 p2 p3:String}{f0 f1 f2 f3:Array Edge}(ss:List Nat)(c:Nat)(anc:List Nat)(T:Ord)(x0:Bool)(h0:ops[m]? =some ⟨some r,.call { callee:= .builtin .append,args:= #[.tmp s,.tmp z],argTypes:= #[t,t] },y0,p0,f0,none⟩)(h1:ops[m+1]? =some ⟨some p,.indexAddr t (.tmp r) (.tmp q),y1,p1,f1,none⟩)(h2:ops[m+2]? =some ⟨none,.store e (.tmp p) (.tmp x),y2,p2,f2,none⟩)(h3:ops[m+3]? =some ⟨none,.store t (.tmp b) (.tmp r),y3,p3,f3,none⟩)(hB:(P.follows .mixedOrders&&b4p ops m ss c anc T&&b2L ops m)=true)(hok:(gK P e&&decide ((r≠q∧r≠x∧r≠p∧r≠b)∧p≠x∧p≠b))=true)(hu:P.underlying t=some (.slice e))(h:VK P G [.ops true ops (sel ops ss)] .normal st fun _ s1=>VK P G [.ops true ops (sel ops anc)] .normal s1 fun _ s1=>oD P G ops c (a9Q (d4u P G t e s z r p q x b (fun s'=>Q .normal s')) (vG Q)) x0 T s1):SW P G (.region id ops true) st Q:=by
 rw [d8D,d8D] at hB;obtain ⟨⟨hm,hL⟩,hR⟩:=hB;rw [d8D,decide_eq_true_eq] at hok;simp only [b2L,d8D,decide_eq_true_eq,beq_iff_eq] at hR;obtain ⟨⟨⟨⟨⟨⟨⟨⟨⟨⟨hsz,r0⟩,r1⟩,r2⟩,r3⟩,r4⟩,r5⟩,r6⟩,r7⟩,r8⟩,r9⟩:=hR;have h4:ops.size-m=4:=by rw [hsz];exact Nat.add_sub_cancel_left ..
 refine a5C ss c anc T x0 hm hL h ?_
 rintro s1 base R μ a w QQ ⟨xs,z0,c,eI,out,k0,k1,k2,k3,k4,k5,k6,k7,k8,k9,k10,k11⟩ hr hk;rw [h4];exact d0e (Q:=fun s'=>Q .normal s') h0 h1 h2 h3 r0 r1 r2 r3 r4 r5 r6 r7 r8 r9 hok.1 hu hok.2 k0 k1 k2 k3 k4 k5 k6 k7 k8 k9 k10 k11 hr hk
theorem dX {id:Nat}{ops:Array Oper}{Q:Exit→St→Prop}(m:Nat){t e T:TypeId}{s z r p q x b y:Tmp}{fd:Nat}{y0 y1 y2 y3 y4:TypeId}{p0 p1 p2 p3 p4:String}{f0 f1 f2 f3 f4:Array Edge}(ss:List Nat)(c:Nat)(anc:List Nat)(O:Ord)(x0:Bool)(h0:ops[m]? =some ⟨some r,.call { callee:= .builtin .append,args:= #[.tmp s,.tmp z],argTypes:= #[t,t] },y0,p0,f0,none⟩)(h1:ops[m+1]? =some ⟨some p,.indexAddr t (.tmp r) (.tmp q),y1,p1,f1,none⟩)(h2:ops[m+2]? =some ⟨none,.store e (.tmp p) (.tmp x),y2,p2,f2,none⟩)(h3:ops[m+3]? =some ⟨some b,.fieldAddr T (.tmp y) fd,y3,p3,f3,none⟩)(h4:ops[m+4]? =some ⟨none,.store t (.tmp b) (.tmp r),y4,p4,f4,none⟩)(hB:(P.follows .mixedOrders&&b4p ops m ss c anc O&&decide (ops.size=m+5)&&a8A ops (oC m ops.size) m (m+1) (m+2) (m+3) (m+4))=true)(hok:(gK P e&&decide ((r≠q∧r≠x∧r≠p∧r≠b∧r≠y)∧(p≠x∧p≠b∧p≠y)∧b≠q∧b≠x))=true)(hu:P.underlying t=some (.slice e))(h:VK P G [.ops true ops (sel ops ss)] .normal st fun _ s1=>VK P G [.ops true ops (sel ops anc)] .normal s1 fun _ s1=>oD P G ops c (a9Q (c0X P G t e T s z r p q x b y fd (fun s'=>Q .normal s')) (vG Q)) x0 O s1):SW P G (.region id ops true) st Q:=by
 rw [d8D,d8D,d8D,decide_eq_true_eq] at hB;obtain ⟨⟨⟨hm,hL⟩,hsz⟩,hR⟩:=hB;rw [d8D,decide_eq_true_eq] at hok;have h5:ops.size-m=5:=by rw [hsz];exact Nat.add_sub_cancel_left ..
 refine a5C ss c anc O x0 hm hL h ?_
 rintro s1 base R μ a w QQ ⟨xs,z0,c,eI,kb0,off0,fo,u,out,k0,k1,k2,k3,k4,k5,k6,k7,k8,k9,k10,k11,k12,k13,k14⟩ hr hk;rw [h5];exact b6U (Q:=fun s'=>Q .normal s') h0 h1 h2 h3 h4 hR hok.1 hu hok.2 k0 k1 k2 k3 k4 k5 k6 k7 k8 k9 k10 k11 k12 k13 k14 hr hk
def c5j:List DV→List DV→Prop
 |[],[]=>True
 |d::ds,d'::ds'=>(d'= .undef∨a6o d d')∧c5j ds ds'
 |_,_=>False
def d0l:aZ→aZ→Prop
 | .cells cs,.cells cs'=>c5j cs cs'
 |o,o'=>o'=o
def c5k (H:List (Nat×aZ)):List (Nat×aZ)→Prop
 |[]=>True
 |(k,o')::r=>(∃o,getKey k H=some o∧d0l o o')∧c5k H r
theorem b2P:∀ {cs cs':List DV},c5j cs cs'→cs'.length=cs.length∧∀(i:Nat) (d':DV),cs'[i]? =some d'→∃d,cs[i]? =some d∧(d'= .undef∨a6o d d')
 |[],[],_=>⟨rfl,fun i d' h=>by simp at h⟩
 |d::ds,d'::ds',h=>by
  obtain ⟨h1,h2⟩:=b2P h.2;refine ⟨by simp [h1],fun i e he=>?_⟩;cases i with
  |zero=>simp at he;subst he;exact ⟨d,rfl,h.1⟩
  |succ i=>simpa using h2 i e (by simpa using he)
theorem b2Q {H:List (Nat×aZ)}:∀ {H1:List (Nat×aZ)},c5k H H1→∀k o',getKey k H1=some o'→∃o,getKey k H=some o∧d0l o o'
 |[],_,k,o',h=>by simp [getKey] at h
 |(k0,o0)::r,hw,k,o',h=>by
  unfold getKey at h;split at h
  ·rename_i he;cases h;subst he;exact hw.1
  ·exact b2Q hw.2 k o' h
theorem d0m {x y:D}(h:WkD x y)(hx:x.one=true):y.one=true:=by cases h<;>first|exact hx|rfl|(simp [D.one] at hx ⊢)
theorem c2w {d d':DV}(h:a6o d d')(hc:d.cell=true):d'.cell=true:=by cases d<;>cases d'<;>simp only [a6o] at h<;>first|exact d0m h hc|(cases h;exact hc)|(cases h;done)|(simp [DV.cell] at hc)
theorem c5l {b:Nat}{o o':aZ}(h:d0l o o')(hr:gQ R μ w b o):gQ R μ w b o':=by
 cases o with
 |cells cs=>
  cases o' with
  |cells cs'=>
   obtain ⟨q1,q2⟩:=b2P h;obtain ⟨vs,T,h1,h2,h3,h4⟩:=hr;refine ⟨vs,T,h1,by rw [h2,q1],fun i d' hd'=>?_,fun T' hm=>?_⟩
   ·obtain ⟨d,hd,hc⟩:=q2 i d' hd';obtain ⟨p1,p2⟩:=h3 i d hd;rcases hc with rfl|hc
    ·exact ⟨rfl,.undef _⟩
    ·exact ⟨c2w hc p1,p2.wk hc⟩
   ·obtain ⟨i,hi⟩:=d8U hm;obtain ⟨d,hd,hc⟩:=q2 i _ hi;rcases hc with hc|hc
    ·cases hc
    ·have:d= .uU T':=by cases d<;>simp only [a6o] at hc<;>first|exact hc|cases hc
     subst this;exact h4 T' (d8I hd)
  |map es=>cases h
  |iter s p=>cases h
  |bld T u es=>cases h
 |map es=>cases o'<;>first|(cases h;exact hr)|cases h
 |iter s p=>cases o'<;>first|(cases h;exact hr)|cases h
 |bld T u es=>cases o'<;>first|(cases h;exact hr)|cases h
structure c5m (s s':St):Prop where
 tmps:WkT s.tmps s'.tmps
 H:c5k s.H s'.H
 own:a5f s s.own s'.own=true
 keys:bC s'.H s'.own=true
theorem c2x (s s':St):c5m s s'↔WkT s.tmps s'.tmps∧c5k s.H s'.H∧a5f s s.own s'.own=true∧bC s'.H s'.own=true:=⟨fun h=>⟨h.tmps,h.H,h.own,h.keys⟩,fun h=>⟨h.1,h.2.1,h.2.2.1,h.2.2.2⟩⟩
theorem Rel.d2t {st':St}(hr:Rel P G base R μ st a w)(h:c5m st st'):Rel P G base R μ st' a w:=by
 obtain ⟨h1,h2⟩:=xH h.tmps;have h3:=b2Q h.H;refine ⟨hr.defers,by rw [hr.size,h1],fun i v d' hv hd'=>?_,fun k o' hk=>?_,fun k k' o o' hk hk' he=>?_,fun c hc k off hl=>?_,?_,hr.sN,hr.oP,hr.base,hr.pass⟩
 ·obtain ⟨d,hd,hc⟩:=h2 i d' hd';have:=hr.tmps i v d hv hd;rcases hc with rfl|rfl|⟨rfl,rfl⟩
  ·exact .undef _
  ·exact this
  ·obtain ⟨ao,rfl⟩:=this.a4U.jI;exact .d _ _ (.emp _ _)
 ·obtain ⟨o,ho,hw⟩:=h3 k o' hk;obtain ⟨q1,q2,q3⟩:=hr.gT k o ho;exact ⟨q1,q2,c5l hw q3⟩
 ·obtain ⟨o1,ho1,_⟩:=h3 k o hk;obtain ⟨o2,ho2,_⟩:=h3 k' o' hk';exact hr.inj k k' o1 o2 ho1 ho2 he
 ·have:=d8G.1 h.keys c hc;have:=d8G.1 this _ hl;exact Option.isSome_iff_exists.1 this
 ·obtain ⟨vs,hvs⟩:=hr.own;obtain ⟨vs',hv',_⟩:=a1T hr st'.own st.own vs ⟨hvs.len,hvs.one,hvs.apart⟩ h.own;refine ⟨vs',hv'.len,fun i c v hc hv=>?_,hv'.apart⟩;have ho:=hv'.one i c v hc hv;exact ⟨ho.dV,ho.own,fun k o hk=>by obtain ⟨o1,ho1,_⟩:=h3 k o hk;exact ho.keys k o1 ho1⟩
theorem uA (a:List (List D))(x y:List D)(h:WkL x y):c8v (a++[x]) (a++[y]):=by
 refine ⟨by simp,fun i d d' h1 h2=>?_⟩;by_cases hi:i<a.length
 ·rw [d8O hi] at h1 h2;rw [h1] at h2;cases h2;simp
 ·rw [d8L (by omega)] at h1 h2;cases hk:i-a.length with
  |zero=>rw [hk] at h1 h2;simp at h1 h2;subst h1 h2;exact h
  |succ n=>rw [hk] at h1;simp at h1
def a2m (P:Program)(s:St)(rs:List ResultVar)(d:DV)(H1:List (Nat×aZ))(own1:List (TypeId×List Loc)):Prop:=match yQ P s rs with
 |some r=>c5m (a7v s rs r) ⟨[r],H1,own1⟩∧a6o r d
 |none=>False
theorem Rel.d6s {r d:DV}{H1:List (Nat×aZ)}{own1:List (TypeId×List Loc)}{v:Value}(hr':Rel P G base R μ ⟨[r],H1,own1⟩ { tmps:= #[v],defers:=[] } w)(hw:a6o r d):Rel P G base R μ ⟨[d],H1,own1⟩ { tmps:= #[v],defers:=[] } w:=
 ⟨hr'.defers,hr'.size,fun i u d0 hu hd=>by
  cases i with
  |zero=>simp at hd;subst hd;exact (hr'.tmps 0 u r hu rfl).wk hw
  |succ i=>simp at hd,hr'.gT,hr'.inj,hr'.dV,by
  obtain ⟨vs,h1,h2,h3⟩:=hr'.own;exact ⟨vs,h1,fun i c v hc hv=>⟨(h2 i c v hc hv).dV,(h2 i c v hc hv).own,(h2 i c v hc hv).keys⟩,h3⟩,hr'.sN,hr'.oP,hr'.base,hr'.pass⟩
theorem CH.b4q {f:FuncId}{fn:Func}{c:Code}{n:Nat}{s0:St}{d:DV}{H1:List (Nat×aZ)}{own1:List (TypeId×List Loc)}(hf:P.funcs[f]? =some fn)(hb:fn.body=some c)(hn:fn.ntmps=n){rs:List ResultVar}(hrs:fn.results.toList=rs)(hT:(s0.own.all fun c=>c.2.all fun l=>match l with| .t i=>decide (i<s0.tmps.length)|_=>true)=true)(h:SW P G c ⟨s0.tmps++List.replicate (n-s0.tmps.length) (.cT []),s0.H,s0.own⟩ fun e s=>(e= .normal∨e= .ret)∧a2m P s rs d H1 own1):CH P G f s0 ⟨[d],H1,own1⟩:=by
 subst hrs;intro base R μ args w hr;refine calls_of_wp hf hb ?_
 have hsz:args.size=s0.tmps.length:=hr.size;have hrel:Rel P G base R μ ⟨s0.tmps++List.replicate (n-s0.tmps.length) (.cT []),s0.H,s0.own⟩ { tmps:=args++Array.replicate (fn.ntmps-args.size) undef,defers:=[] } w:=by
  refine ⟨rfl,by simp [hsz,hn],fun i v d hiv hid=>?_,hr.gT,hr.inj,hr.dV,?_,hr.sN,hr.oP,hr.base,hr.pass⟩
  ·simp only at hid;by_cases hi:i<s0.tmps.length
   ·rw [d8O hi] at hid;rw [Array.getElem?_append_left (by omega)] at hiv;exact hr.tmps i v d hiv hid
   ·rw [d8L (by omega),List.getElem?_replicate] at hid;split at hid<;>simp at hid;subst hid;rw [Array.getElem?_append_right (by omega),Array.getElem?_replicate] at hiv;split at hiv<;>simp at hiv;subst hiv;exact .cT #[] [] rfl (by simp)
  ·obtain ⟨vs,hl,h1,hap⟩:=hr.own;refine ⟨vs,hl,fun i c v hc hv=>?_,hap⟩;have ho:=h1 i c v hc hv;refine ⟨fun l hl u hu=>?_,ho.own,ho.keys⟩;cases l with
   |t j=>have hj:=d8G.1 (d8G.1 hT c (d8I hc)) _ hl;simp only [decide_eq_true_eq] at hj;simp only [cE] at hu;rw [Array.getElem?_append_left (by omega)] at hu;exact ho.dV _ hl u hu
   |c k off=>exact ho.dV _ hl u hu
 refine wp_mono (h base R μ _ w hrel) fun e a' w' ⟨s,R',μ',⟨he,hend⟩,hr',hs⟩=>?_
 unfold a2m at hend;split at hend
 ·rename_i r hres;obtain ⟨v,hv1,hv2⟩:=xL hr' hres;have hpost:a'.defers=[]∧∃v,(results fn a'.tmps).run P w'= .ok v w'∧∃v' R' μ',Ending.returned v= .returned v'∧Rel P G base R' μ' ⟨[d],H1,own1⟩ { tmps:= #[v'],defers:=[] } w'∧Step base R w R' w':=
   ⟨hr'.defers,v,hv1,v,R',μ',rfl,((hr'.ret hv1 hv2).d2t hend.1).d6s hend.2,hs⟩
  rcases he with rfl|rfl
  ·exact hpost
  ·exact hpost
 ·exact hend.elim
theorem CX.b4q {f:FuncId}{fn:Func}{c:Code}{n:Nat}{s0:St}{x:Ends}(hf:P.funcs[f]? =some fn)(hb:fn.body=some c)(hn:fn.ntmps=n){rs:List ResultVar}(hrs:fn.results.toList=rs)(hT:(s0.own.all fun c=>c.2.all fun l=>match l with| .t i=>decide (i<s0.tmps.length)|_=>true)=true)(h:∀Q:Exit→St→Prop,(∀d H1 own1 e s,x= .inl (d,H1,own1)→(e= .normal∨e= .ret)→a2m P s rs d H1 own1→Q e s)→(∀v s,x= .inr v→Q (.panic (wI v)) s)→SW P G c ⟨s0.tmps++List.replicate (n-s0.tmps.length) (.cT []),s0.H,s0.own⟩ Q):CX P G f s0 x:=by
 match x,h with
 | .inl (d,H1,own1),h=>exact CH.b4q hf hb hn hrs hT (h _ (fun d' H1' own1' e s he=>by cases he;exact fun h1 h2=>⟨h1,h2⟩) (fun v s he=>by cases he))
 | .inr v,h=>exact CPn.a3I hf hb hn hT (h _ (fun d' H1' own1' e s he=>by cases he) (fun v' s he=>by cases he;rfl))
theorem b4r {TT:St→Prop}{Q:Exit→St→Prop}{s:St}:a9Q TT Q .normal s=TT s:=rfl
theorem b7c {TT:St→Prop}{Q:Exit→St→Prop}{s:St}{c:List PanicEntry}:a9Q TT Q (.panic c) s=Q (.panic c) s:=rfl
def a1y (a b d:Nat):Ord:=
 .op a (.op b (.op d (.call [] .none) (.call [d] .none)) (.op d (.op b (.call [] .none) (.call [b] .none)) (.call [b,d] .none)))
  (.op d (.op a (.op b (.call [] .none) (.call [b] .none)) (.call [a,b] .none)) (.call [a,b,d] .none))
attribute [simp] b4o a2k a2m c2x c5k d0l c5j b4r b7c a1y
end
end Go.VM
end
section
section
namespace Go.Proofs.YtjpodcmhcenjjaaGreatDoor
open Go Go.VM
variable {G:GT}
def smI (c:Int):Bool:=decide (97≤c)&&decide (c≤122)
def caI (c:Int):Bool:=decide (65≤c)&&decide (c≤90)
def dgI (c:Int):Bool:=decide (48≤c)&&decide (c≤57)
def inI (c:Int):Bool:=smI c||caI c||dgI c||decide (c=95)
theorem a3Q:VM.Enters Tryz.prog 159:=VM.Enters.mk Tryz.func159 rfl
theorem a1q:VM.Enters Tryz.prog 162:=VM.Enters.mk Tryz.func162 rfl
theorem zL:VM.Enters Tryz.prog 163:=VM.Enters.mk Tryz.func163 rfl
theorem b1D:VM.Enters Tryz.prog 161:=VM.Enters.mk Tryz.func161 rfl
theorem a5E (c:Int):CS Tryz.prog G 159 [.int .i32 c] (.d (.bool (smI c))) none:=by
 refine CS.bH Tryz.func159 rfl Tryz.ntmps159 rfl ?_
 by_cases h:97≤c<;>simp [h,smI]
theorem a2n (c:Int):CS Tryz.prog G 162 [.int .i32 c] (.d (.bool (caI c))) none:=by
 refine CS.bH Tryz.func162 rfl Tryz.ntmps162 rfl ?_
 by_cases h:65≤c<;>simp [h,caI]
theorem a0P (c:Int):CS Tryz.prog G 163 [.int .i32 c] (.d (.bool (dgI c))) none:=by
 refine CS.bH Tryz.func163 rfl Tryz.ntmps163 rfl ?_
 by_cases h:48≤c<;>simp [h,dgI]
theorem b4s (c:Int):CS Tryz.prog G 161 [.int .i32 c] (.d (.bool (inI c))) none:=by
 refine CS.bH Tryz.func161 rfl Tryz.ntmps161 rfl ?_
 simp;refine aI.mk a3Q (a5E c) ?_
 by_cases h1:smI c=true
 ·simp [h1,inI]
 ·simp [h1];refine aI.mk a1q (a2n c) ?_
  by_cases h2:caI c=true
  ·simp [h2,inI]
  ·simp [h2];refine aI.mk zL (a0P c) ?_
   by_cases h3:dgI c=true
   ·simp [h3,inI]
   ·simp [h1,h2,h3,inI]
end Go.Proofs.YtjpodcmhcenjjaaGreatDoor
end
section
namespace Go.Proofs.YtjpodcmhcenjjaaGreatDoor
open Go Go.VM Go.RowKit
variable {G:GT}
theorem b4t:VM.Enters Tryz.prog 188:=VM.Enters.mk Tryz.func188 rfl
theorem b1E:VM.Enters Tryz.prog 165:=VM.Enters.mk Tryz.func165 rfl
theorem d2u {args:Array Value}(h:args.size=2):args= #[args.getD 0 undef,args.getD 1 undef]:=by
 obtain ⟨l⟩:=args
 match l,h with
 |[a,b],_=>rfl
theorem b7d (s:List UInt8)(c:UInt8)(hc:c.toNat<128):CS Tryz.prog G 188 [.str s,.str [c]] (.d (.str (Lib.trimLeftB s c))) none:=
 CS.c0O fun w R args hg hR hs hv=>by rw [d2u hs,(hv 0 _ rfl).mJ,(hv 1 _ rfl).mJ];exact (Tryz.strings_TrimLeft_one ⟨s.toArray⟩ c hc w).mono fun e w' ⟨he,hw⟩=>⟨_,he,.str _,hw▸Below.refl _ _⟩
theorem b4u (s p:List UInt8):CS Tryz.prog G 165 [.str s,.str p] (.d (.bool (p.isPrefixOf s))) none:=
 CS.c0O fun w R args hg hR hs hv=>by rw [d2u hs,(hv 0 _ rfl).mJ,(hv 1 _ rfl).mJ];exact (Tryz.strings_HasPrefix ⟨s.toArray⟩ ⟨p.toArray⟩ w).mono fun e w' ⟨he,hw⟩=>⟨_,he,.bool _,hw▸Below.refl _ _⟩
def gN (s:List UInt8):Int×Bool:=if kD s≤1000000000000 then ((kD s:Int),true) else (0,false)
theorem d0n (l:List UInt8):∀a,a*10 ^ l.length≤b9g a l:=by
 induction l with
 |nil=>intro a;simp [b9g]
 |cons c r ih=>
  intro a;have h:=ih (10*a+(c.toNat-48));have e:b9g a (c::r)=b9g (10*a+(c.toNat-48)) r:=rfl;rw [e];refine Nat.le_trans ?_ h
  rw [List.length_cons,Nat.pow_succ];have:a*(10 ^ r.length*10)=(10*a)*10 ^ r.length:=by rw [Nat.mul_comm (10 ^ r.length) 10, ← Nat.mul_assoc,Nat.mul_comm a 10]
  rw [this];exact Nat.mul_le_mul_right _ (by omega)
theorem b2R (s:List UInt8):kD (Lib.trimLeftB s 48)=kD s:=by
 unfold Lib.trimLeftB
 induction s with
 |nil=>rfl
 |cons c r ih=>
  by_cases h:c=48
  ·subst h;have e:kD (48::r)=kD r:=rfl;rw [e, ← ih];simp
  ·have:(c==48)=false:=by simpa using h
   rw [List.dropWhile_cons,this]
   rfl
theorem c2y {s:List UInt8}(h:Lib.trimLeftB s 48≠[]):∃c r,Lib.trimLeftB s 48=c::r∧c≠48:=by
 unfold Lib.trimLeftB at h ⊢
 induction s with
 |nil=>exact absurd rfl h
 |cons c r ih=>
  by_cases hc:c=48
  ·subst hc;simp only [List.dropWhile_cons,beq_self_eq_true,if_true] at h ⊢;exact ih h
  ·have:(c==48)=false:=by simpa using hc
   rw [List.dropWhile_cons,this];exact ⟨c,r,rfl,hc⟩
theorem c5n {s:List UInt8}:∀c∈Lib.trimLeftB s 48,c∈s:=fun c hc=>(List.dropWhile_sublist _).subset hc
theorem b4v {s:List UInt8}(hs:∀c∈s,tV c=true)(hne:Lib.trimLeftB s 48≠[]):oV (Lib.trimLeftB s 48)=gN s:=by
 obtain ⟨c,r,he,hc⟩:=c2y hne;have hall:∀x∈c::r,tV x=true:=fun x hx=>hs x (c5n x (he▸hx))
 have hv:kD s=kD (c::r):=by rw [← he,b2R]
 rw [he];have hcd:=sV.1 (hall c (.head _));have hn:a6u (c::r)=false:=by
  have:c≠45:=by rintro rfl;revert hcd;decide
  simp [a6u,this]
 have hb:oJ (c::r)=c::r:=by simp [oJ,hn]
 have hlow:10 ^ r.length≤kD (c::r):=by
  have h1:1≤c.toNat-48:=by
   have:c.toNat≠48:=fun e=>hc (UInt8.toNat.inj (by simpa using e))
   omega
  have e:kD (c::r)=b9g (10*0+(c.toNat-48)) r:=rfl;rw [e];refine Nat.le_trans ?_ (d0n r _)
  calc 10 ^ r.length=1*10 ^ r.length:=by rw [Nat.one_mul]
   _≤_:=Nat.mul_le_mul_right _ (by omega)
 have hform:pB (c::r)=decide (r.length≤12):=by simp only [pB,hb,hn];by_cases h:r.length≤12<;>simp [h,hc]<;>omega
 have hd:(c::r).all tV=true:=d8G.2 hall;unfold oV gN;rw [hform,hb,hd,hn,hv];by_cases h:r.length≤12
 ·have hup:=a0G _ _ rfl hall;simp [h,sgn,chk];have hi:inB ((kD (c::r):Nat):Int)=decide (kD (c::r)≤1000000000000):=by unfold inB;by_cases h2:kD (c::r)≤1000000000000<;>simp [h2]<;>omega
  rw [hi];by_cases h2:kD (c::r)≤1000000000000<;>simp [h2]
 ·have:10 ^ 13≤kD (c::r):=Nat.le_trans (Nat.pow_le_pow_right (by omega) (by omega)) hlow;have h2: ¬kD (c::r)≤1000000000000:=by omega
  simp [h,h2]
theorem a9W:VM.Enters Tryz.prog 164:=VM.Enters.mk Tryz.func164 rfl
theorem b1F (s:List UInt8)(hs:∀c∈s,tV c=true):CS Tryz.prog G 164 [.str s] (.cT [.int .i64 (gN s).1,.bool (gN s).2]) none:=by
 refine CS.bH Tryz.func164 rfl Tryz.ntmps164 rfl ?_
 simp;refine aI.mk b4t (b7d s 48 (by decide)) ?_
 by_cases h:Lib.trimLeftB s 48=[]
 ·have hv:kD s=0:=by rw [← b2R,h];rfl
  simp [h,gN,hv]
 ·have he:(Lib.trimLeftB s 48).isEmpty=false:=by simpa using h
  simp [he];refine aI.mk b6G (b9i (Lib.trimLeftB s 48)) ?_
  simp [b4v hs h]
end Go.Proofs.YtjpodcmhcenjjaaGreatDoor
end
section
namespace Go.Proofs.YtjpodcmhcenjjaaGreatDoor
open Go Go.VM
variable {G:GT}
theorem a2o {p:UInt8→Bool}{s:List UInt8}{i:Nat}(h:i<s.length)(ht:∀b∈s.take i,p b=true)(hn:p s[i]=false):(s.takeWhile p).length=i:=by
 have e:s=s.take i++s[i]::s.drop (i+1):=by rw [← d8Q h,List.take_append_drop]
 generalize hx:s[i]=x at e hn;rw [e,List.takeWhile_append_of_pos ht,List.takeWhile_cons,hn];simp;omega
theorem zM {p:UInt8→Bool}{s:List UInt8}(ht:∀b∈s,p b=true):s.takeWhile p=s:=by have:=List.takeWhile_append_of_pos (l₂:=[]) ht;simpa using this
theorem a7M (F:FuncId)(p:Int→Bool)(pb:UInt8→Bool)(hF:VM.Enters Tryz.prog F)(hcs:∀c,CS Tryz.prog G F [.int .i32 c] (.d (.bool (p c))) none)(sO:∀b:UInt8,p b.toNat=pb b)(hhi:∀c,128≤c→p c=false)(s:List UInt8):
  CH Tryz.prog G 160 ⟨[.d (.str s),.fn F],[],[]⟩ ⟨[.d (.int .i64 (s.takeWhile pb).length)],[],[]⟩:=by
 refine CH.bH Tryz.func160 rfl Tryz.ntmps160 rfl (by simp) ?_
 simp;refine SW.kJ (ι:={ i:Nat // i≤s.length∧∀b∈s.take i,pb b=true }) (fun _=>[]) (fun i=>[(8,.iter s i.1)]) (fun _=>[]) (fun i=>s.length-i.1) ⟨0,by simp⟩ (by simp) ?_
 rintro ⟨i,hi,ht⟩
 try simp only at hi ht
 by_cases hlt:i<s.length
 ·simp [hlt];refine aI.mk hF (hcs _) ?_
  by_cases hb:s[i].toNat<128
  ·have hd:=c4V hlt hb;have hpl:=sO s[i];by_cases hpb:pb s[i]=true
   ·rw [hpb] at hpl;simp [hd,hpl];refine bR.mk ⟨i+1,hlt,fun b hm=>?_⟩ (by simp) (by simp;omega);rw [d8S hlt] at hm;rcases List.mem_append.1 hm with hm|hm
    ·exact ht b hm
    ·simp at hm;rw [hm];exact hpb
   ·have hpf:pb s[i]=false:=by simpa using hpb
    rw [hpf] at hpl;simp [hd,hpl,a2o hlt ht hpf]
  ·obtain ⟨h1,_⟩:=c4W hlt (by omega);have hpf:pb s[i]=false:=by rw [← sO];exact hhi _ (by omega)
   have hpl:=hhi ((Utf8.decode ⟨s.toArray⟩ i).1:Int) (by omega);simp [hpl,a2o hlt ht hpf]
 ·have:i=s.length:=by omega
  subst this;rw [List.take_length] at ht;simp [zM ht]
def jR:List UInt8→Nat→Bool→List UInt8×Nat
 |[],n,_=>([],n)
 |c::r,n,cm=>if c=10 then jR r (n+1) false else if cm=true∨c=32∨c=9 then jR r n cm else if c=35 then jR r n true else (c::r,n)
theorem a5F:∀(s:List UInt8) (n:Nat) (cm:Bool),(jR s n cm).2≤n+s.length∧(jR s n cm).1.length≤s.length
 |[],n,cm=>by simp [jR]
 |c::r,n,cm=>by
  unfold jR;split
  ·have:=a5F r (n+1) false;simp only [List.length_cons];omega
  ·split
   ·have:=a5F r n cm;simp only [List.length_cons];omega
   ·split
    ·have:=a5F r n true;simp only [List.length_cons];omega
    ·simp only [List.length_cons];omega
theorem b7e (s:List UInt8)(n:Nat):∀(k i:Nat),(∀j,i≤j→j<i+k→∃h:j<s.length,128≤s[j].toNat)→jR (s.drop i) n true=jR (s.drop (i+k)) n true
 |0,i,_=>rfl
 |k+1,i,h=>by
  obtain ⟨hi,hb⟩:=h i (by omega) (by omega);have ih:=b7e s n k (i+1) fun j h1 h2=>h j (by omega) (by omega)
  have h10:s[i]≠10:=fun e=>by rw [e] at hb;simp at hb
  rw [d8Q hi,jR,if_neg h10,if_pos (.inl rfl),ih];congr 2;omega
theorem a4w (c:UInt8)(k:Nat)(hk:k<256):((c.toNat:Int)=(k:Int))↔c=UInt8.ofNat k:=by
 constructor
 ·intro h;apply UInt8.toNat.inj;simp;omega
 ·rintro rfl;simp;omega
theorem b4w:VM.Enters Tryz.prog 112:=VM.Enters.mk Tryz.func112 rfl
theorem b7f (s:List UInt8)(hl:s.length≤900000000):CS Tryz.prog G 112 [.str s] (.cT [.str (jR s 0 false).1,.int .i64 (jR s 0 false).2]) none:=by
 obtain ⟨res,hres0⟩:∃x,jR s 0 false=x:=⟨_,rfl⟩;rw [hres0];refine CS.bH Tryz.func112 rfl Tryz.ntmps112 rfl ?_
 simp;refine SW.kJ (ι:={ x:Nat×Nat×Bool // x.1≤s.length∧x.2.1≤x.1∧jR (s.drop x.1) x.2.1 x.2.2=res }) (fun x=>[(4,.d (.int .i64 x.1.2.1)),(5,.d (.bool x.1.2.2))]) (fun x=>[(9,.iter s x.1.1)]) (fun _=>[]) (fun x=>s.length-x.1.1) ⟨(0,0,false),by simp [hres0]⟩ (by simp) ?_
 rintro ⟨⟨i,n,cm⟩,hi,hn,hR⟩
 try simp only at hi hn hR
 by_cases hlt:i<s.length
 ·have hw:=bP (show n<9223372036854775807 by omega);have hle:=Nat.le_of_lt hlt;have hdrop:s.drop i=s[i]::s.drop (i+1):=d8Q hlt;by_cases hb:s[i].toNat<128
  ·have hd:=c4V hlt hb;have c10:=a4w s[i] 10 (by omega);have c32:=a4w s[i] 32 (by omega);have c9:=a4w s[i] 9 (by omega);have c35:=a4w s[i] 35 (by omega);simp at c10 c32 c9 c35;by_cases h10:s[i]=10
   ·have e:=c10.2 h10;simp [hlt,hd,e];refine bR.mk ⟨(i+1,n+1,false),hlt,by simp;omega,?_⟩ (by simp [hw]) (by simp;omega);rw [← hR,hdrop,jR,if_pos h10]
   ·have e: ¬s[i].toNat=10:=fun h=>h10 (c10.1 h)
    simp [hlt,hd,e];cases cm with
    |true=>
     try simp
     refine bR.mk ⟨(i+1,n,true),hlt,by simp;omega,?_⟩ (by simp) (by simp;omega);rw [← hR,hdrop,jR,if_neg h10,if_pos (.inl rfl)]
    |false=>
     try simp
     by_cases h32:s[i]=32
     ·have e2:=c32.2 h32;simp [e2];refine bR.mk ⟨(i+1,n,false),hlt,by simp;omega,?_⟩ (by simp) (by simp;omega);rw [← hR,hdrop,jR,if_neg h10,if_pos (.inr (.inl h32))]
     ·have e2: ¬s[i].toNat=32:=fun h=>h32 (c32.1 h)
      simp [e2];by_cases h9:s[i]=9
      ·have e3:=c9.2 h9;simp [e3];refine bR.mk ⟨(i+1,n,false),hlt,by simp;omega,?_⟩ (by simp) (by simp;omega);rw [← hR,hdrop,jR,if_neg h10,if_pos (.inr (.inr h9))]
      ·have e3: ¬s[i].toNat=9:=fun h=>h9 (c9.1 h)
       simp [e3];by_cases h35:s[i]=35
       ·have e4:=c35.2 h35;simp [e4];refine bR.mk ⟨(i+1,n,true),hlt,by simp;omega,?_⟩ (by simp) (by simp;omega);rw [← hR,hdrop,jR,if_neg h10,if_neg (by simp [h32,h9]),if_pos h35]
       ·have e4: ¬s[i].toNat=35:=fun h=>h35 (c35.1 h)
        have hres:res=(s.drop i,n):=by rw [← hR,hdrop,jR,if_neg h10,if_neg (by simp [h32,h9]),if_neg h35]
        simp [e4,hres,hle]
  ·obtain ⟨h1,h2,h3,h4⟩:=c4W hlt (by omega);obtain ⟨rw,hrw⟩:∃rw,Utf8.decode ⟨s.toArray⟩ i=rw:=⟨_,rfl⟩;rw [hrw] at h1 h2 h3 h4;have e10: ¬((rw.1:Int)=10):=by omega
   have e32: ¬((rw.1:Int)=32):=by omega
   have e9: ¬((rw.1:Int)=9):=by omega
   have e35: ¬((rw.1:Int)=35):=by omega
   have hbb:∀k,k<128→s[i]≠UInt8.ofNat k:=fun k hk e=>by rw [e] at hb;simp at hb;omega
   have b10:s[i]≠10:=hbb 10 (by omega);have b32:s[i]≠32:=hbb 32 (by omega);have b9:s[i]≠9:=hbb 9 (by omega);have b35:s[i]≠35:=hbb 35 (by omega);simp [hlt,hrw,e10];cases cm with
   |true=>simp;refine bR.mk ⟨(i+rw.2,n,true),h3,by simp;omega,?_⟩ (by simp) (by simp;omega);rw [← hR,b7e s n rw.2 i h4]
   |false=>
    have hres:res=(s.drop i,n):=by rw [← hR,hdrop,jR,if_neg b10,if_neg (by simp [b32,b9]),if_neg b35]
    simp [e32,e9,e35,hres,hle]
 ·have:i=s.length:=by omega
  subst this;rw [List.drop_length] at hR;have hres:res=([],n):=by rw [← hR,jR]
  simp [hres]
end Go.Proofs.YtjpodcmhcenjjaaGreatDoor
end
section
namespace Go.Proofs.YtjpodcmhcenjjaaGreatDoor
open Go Go.VM
variable {G:GT}
def uS:List D:=[.sl (dY.map fun t=>[D.str t])]
theorem d2v (b:UInt8):smI b.toNat=smU b:=by rw [Bool.eq_iff_iff];simp only [smI,smU,d8D,decide_eq_true_eq];omega
theorem d2w (b:UInt8):caI b.toNat=caU b:=by rw [Bool.eq_iff_iff];simp only [caI,caU,d8D,decide_eq_true_eq];omega
theorem c5o (b:UInt8):dgI b.toNat=dgU b:=by rw [Bool.eq_iff_iff];simp only [dgI,dgU,d8D,decide_eq_true_eq];omega
theorem d6t (b:UInt8):inI b.toNat=inU b:=by unfold inI inU;rw [d2v,d2w,c5o];congr 1;simp only [decide_eq_decide];omega
theorem d6u {c:Int}(h:128≤c):inI c=false:=by simp only [inI,smI,caI,dgI,Bool.or_eq_false_iff,Bool.and_eq_false_iff,decide_eq_false_iff_not];omega
theorem d6v {c:Int}(h:128≤c):dgI c=false:=by simp only [dgI,Bool.and_eq_false_iff,decide_eq_false_iff_not];omega
theorem c0Z (p:UInt8→Bool)(s:List UInt8):s.take (s.takeWhile p).length=s.takeWhile p:=by have h:=List.takeWhile_prefix (l:=s) p;exact (List.prefix_iff_eq_take.1 h).symm
theorem d2x (p:UInt8→Bool)(s:List UInt8):(s.takeWhile p).length≤s.length:=(List.takeWhile_prefix (l:=s) p).length_le
theorem w32 (c:UInt8):IntKind.i32.wrap (c.toNat:Int)=c.toNat:=by have:=c.toNat_lt;unfold IntKind.wrap;simp [IntKind.bits,IntKind.signed];omega
theorem d0o (c:UInt8):dgU c=tV c:=by rw [Bool.eq_iff_iff];simp only [dgU,tV,d8D,decide_eq_true_eq]
theorem c5p {p:UInt8→Bool}:∀ {s:List UInt8} {b:UInt8},b∈s.takeWhile p→p b=true
 |[],b,h=>by simp at h
 |c::r,b,h=>by
  rw [List.takeWhile_cons] at h;split at h
  ·rename_i hc;rcases List.mem_cons.1 h with rfl|h
   ·exact hc
   ·exact c5p h
  ·cases h
def a2p (s:List UInt8):List D:=[.int .i64 (firstT gN s).1,.str (firstT gN s).2.1,.int .i64 (firstT gN s).2.2.1,.int .i64 0]
theorem c1a (s:List UInt8):CH Tryz.prog G 160 ⟨[.d (.str s),.fn 161],[],[]⟩ ⟨[.d (.int .i64 (s.takeWhile inU).length)],[],[]⟩:=a7M 161 inI inU b1D b4s d6t (fun _=>d6u) s
theorem d0p (s:List UInt8):CH Tryz.prog G 160 ⟨[.d (.str s),.fn 163],[],[]⟩ ⟨[.d (.int .i64 (s.takeWhile dgU).length)],[],[]⟩:=a7M 163 dgI dgU zL a0P c5o (fun _=>d6v) s
theorem d0q {s:List UInt8}{i:Nat}(h:i<dY.length)(hn:∀t∈dY.take i,t.isPrefixOf s=false)(hp:dY[i].isPrefixOf s=true):kQ s=dY[i]:=by
 have e:dY=dY.take i++dY[i]::dY.drop (i+1):=by rw [← d8Q h,List.take_append_drop]
 generalize dY[i]=x at e hp ⊢;unfold kQ;rw [e,List.find?_append];have h0:(dY.take i).find? (fun t=>t.isPrefixOf s)=none:=List.find?_eq_none.2 fun t ht=>by rw [hn t ht];simp
 rw [h0];simp [List.find?_cons,hp]
theorem c2z {s:List UInt8}(hn:∀t∈dY,t.isPrefixOf s=false):kQ s=[]:=by
 unfold kQ;rw [List.find?_eq_none.2 fun t ht=>by rw [hn t ht];simp]
 rfl
theorem d0r:∀t∈dY,t≠[]:=by decide
theorem a9X:VM.Enters Tryz.prog 160:=VM.Enters.mk Tryz.func160 rfl
theorem b1G:VM.Enters Tryz.prog 113:=VM.Enters.mk Tryz.func113 rfl
theorem b4x (hS:G 0=some uS)(c:UInt8)(r:List UInt8)(hl:(c::r).length≤900000000):CS Tryz.prog G 113 [.str (c::r)] (.cT [.agg (a2p (c::r)),.bool (firstT gN (c::r)).2.2.2]) none:=by
 obtain ⟨s,hs⟩:∃s,c::r=s:=⟨_,rfl⟩;have h0:0<s.length:=by rw [← hs];simp
 have hc0:s[0]=c:=by subst hs;rfl
 have hf:firstT gN s=if smU c then (1,s.takeWhile inU,0,true) else if caU c then (2,s.takeWhile inU,0,true)
  else if dgU c then (3,s.takeWhile dgU,(gN (s.takeWhile dgU)).1,(gN (s.takeWhile dgU)).2)
  else if kQ s=[] then (0,[],0,false) else (4,kQ s,0,true):=by subst hs;rfl
 rw [hs] at hl ⊢
 clear hs
 have hw:=w32 c;have l1:=d2x inU s;have l2:=d2x dgU s;have t1:=c0Z inU s;have t2:=c0Z dgU s;refine CS.bH Tryz.func113 rfl Tryz.ntmps113 rfl ?_
 simp [h0,hc0,hw];refine aI.mk a3Q (a5E (c.toNat:Int)) ?_
 rw [d2v];by_cases h1:smU c=true
 ·simp [h1];refine gD.ro a9X (c1a s) [] (by simp) (by simp) (by simp) (by simp) (by simp) ?_
  simp [l1,t1,a2p,hf,h1]
 simp [h1];refine aI.mk a1q (a2n (c.toNat:Int)) ?_
 rw [d2w];by_cases h2:caU c=true
 ·simp [h2];refine gD.ro a9X (c1a s) [] (by simp) (by simp) (by simp) (by simp) (by simp) ?_
  simp [l1,t1,a2p,hf,h1,h2]
 simp [h2];refine aI.mk zL (a0P (c.toNat:Int)) ?_
 rw [c5o];by_cases h3:dgU c=true
 ·simp [h3];refine gD.ro a9X (d0p s) [] (by simp) (by simp) (by simp) (by simp) (by simp) ?_
  simp [l2,t2];refine aI.mk a9W (b1F (s.takeWhile dgU) (fun b hb=>by rw [← d0o];exact c5p hb)) ?_
  simp [a2p,hf,h1,h2,h3]
 simp [h3,hS,uS];have hlen:(dY.map fun t=>[D.str t]).length=dY.length:=by simp
 refine SW.kJ (ι:={ i:Nat // i≤dY.length∧∀t∈dY.take i,t.isPrefixOf s=false }) (fun i=>[(47,.d (.int .i64 i.1))]) (fun _=>[(2,.cells [.d (.int .i64 0),.d (.str []),.d (.int .i64 0),.d (.int .i64 0)])]) (fun _=>[]) (fun i=>dY.length-i.1) ⟨0,by simp⟩ (by simp) ?_
 rintro ⟨i,hi,hn⟩
 try simp only at hi hn
 by_cases hlt:i<dY.length
 ·have hsl:dY.length=31:=rfl;have hw2:=bP (show i<9223372036854775807 by omega);have hg:(dY.map fun t=>[D.str t])[i]? =some [.str dY[i]]:=by simp [hlt]
  simp [hlt,hg];refine aI.mk b1E (b4u s dY[i]) ?_
  by_cases hp:dY[i].isPrefixOf s=true
  ·have hsg:=d0q hlt hn hp;have hne:=d0r _ (List.getElem_mem hlt);simp [hp,a2p,hf,h1,h2,h3,hsg,hne]
  ·have hp':dY[i].isPrefixOf s=false:=Bool.eq_false_iff.2 hp;simp [hp'];refine bR.mk ⟨i+1,hlt,fun t ht=>?_⟩ (by simp [hw2]) (by simp;omega);rw [d8S hlt] at ht;rcases List.mem_append.1 ht with ht|ht
   ·exact hn t ht
   ·simp at ht;rw [ht];exact hp'
 ·have:i=dY.length:=by omega
  subst this;rw [List.take_length] at hn;have hsg:=c2z hn;simp [a2p,hf,h1,h2,h3,hsg]
end Go.Proofs.YtjpodcmhcenjjaaGreatDoor
end
section
namespace Go.Proofs.YtjpodcmhcenjjaaGreatDoor
open Go Go.VM
variable {G:GT}
def cR (t:Tok):List D:=[.int .i64 t.kind,.str t.text,.int .i64 t.n,.int .i64 t.line]
def b1H (l:List Tok):List (List D):=l.map cR
@[simp] theorem d6w (l:List Tok):(b1H l).length=l.length:=by simp [b1H]
@[simp] theorem d6x:b1H []=[]:=rfl
@[simp] theorem d6y (l:List Tok):((b1H l).all fun c=>c.length==4)=true:=by simp [b1H,cR]
theorem b2S (l:List Tok)(t:Tok):b1H (l++[t])=b1H l++[[.int .i64 t.kind,.str t.text,.int .i64 t.n,.int .i64 t.line]]:=by simp [b1H,cR]
theorem a3c:∀(s:List UInt8) (n:Nat) (cm:Bool) (ln:Int),dL gN s 0 (ln+n) cm=dL gN (jR s n cm).1 0 (ln+(jR s n cm).2) false
 |[],n,cm,ln=>by simp [jR,dL]
 |c::r,n,cm,ln=>by
  unfold jR;split
  ·rename_i h;rw [← a3c r (n+1) false ln,dL,if_pos h];congr 1;omega
  ·rename_i h;split
   ·rename_i h2;rw [← a3c r n cm ln]
    conv=>lhs;rw [dL]
    rw [if_neg h,if_pos h2]
   ·rename_i h2;split
    ·rename_i h3;rw [← a3c r n true ln]
     conv=>lhs;rw [dL]
     rw [if_neg h,if_neg h2,if_pos h3]
    ·simp only [not_or,Bool.not_eq_true] at h2;rw [h2.1]
theorem a3d:∀(s:List UInt8) (n:Nat) (cm:Bool),(jR s n cm).2+(jR s n cm).1.length≤n+s.length
 |[],n,cm=>by simp [jR]
 |c::r,n,cm=>by
  unfold jR;split
  ·have:=a3d r (n+1) false;simp only [List.length_cons];omega
  ·split
   ·have:=a3d r n cm;simp only [List.length_cons];omega
   ·split
    ·have:=a3d r n true;simp only [List.length_cons];omega
    ·simp only [List.length_cons];omega
theorem a3e:∀(s:List UInt8) (n:Nat) (cm:Bool) (c:UInt8) (r:List UInt8),(jR s n cm).1=c::r→c≠10∧c≠32∧c≠9∧c≠35
 |[],n,cm,c,r,h=>by simp [jR] at h
 |a::s,n,cm,c,r,h=>by
  unfold jR at h;split at h
  ·exact a3e s _ _ c r h
  ·rename_i h1;split at h
   ·exact a3e s _ _ c r h
   ·rename_i h2;split at h
    ·exact a3e s _ _ c r h
    ·rename_i h3;simp only [not_or] at h2;cases h;exact ⟨h1,h2.2.1,h2.2.2,h3⟩
def d4C (out:List Tok):Except Int (List Tok)→Except Int (List Tok)
 | .ok l=> .ok (out++l)
 | .error e=> .error e
def d4D:Except Int (List Tok)→D
 | .ok l=> .sl (b1H l)
 | .error _=> .aN
def d4E:Except Int (List Tok)→Int
 | .ok _=>0
 | .error e=>e
def d4F:Except Int (List Tok)→Int
 | .ok _=>0
 | .error _=>14
theorem tC:VM.Enters Tryz.prog 64:=VM.Enters.mk Tryz.func64 rfl
theorem b1I (hS:G 0=some uS)(s:List UInt8)(hl:s.length≤900000000):CS Tryz.prog G 64 [.str s] (.cT (if 40000<s.length then [.aN,.int .i64 0,.int .i64 7] else
  [d4D (dL gN s 0 1 false),.int .i64 (d4E (dL gN s 0 1 false)),.int .i64 (d4F (dL gN s 0 1 false))])) none:=by
 obtain ⟨res,hres⟩:∃x,dL gN s 0 1 false=x:=⟨_,rfl⟩;rw [hres];refine CS.bH Tryz.func64 rfl Tryz.ntmps64 rfl ?_
 by_cases hlong:40000<s.length
 ·have h2:(40000:Int)<s.length:=by omega
  simp [hlong,h2]
 have h2: ¬(40000:Int)<s.length:=by omega
 simp [hlong,h2];refine SW.kJ (ι:={ x:List UInt8×List Tok×Int // x.1.length≤s.length∧1≤x.2.2∧x.2.2+x.1.length≤s.length+1∧x.2.1.length+x.1.length≤s.length∧d4C x.2.1 (dL gN x.1 0 x.2.2 false)=res }) (fun x=>[(0,.d (.str x.1.1)),(5,.d (.sl (b1H x.1.2.1))),(6,.d (.int .i64 x.1.2.2))]) (fun _=>[]) (fun _=>[(96,[.t 5])]) (fun x=>x.1.1.length) ⟨(s,[],1),by refine ⟨d8T _,by simp,by simp;omega,by simp,?_⟩;simp only;rw [hres];cases res<;>rfl⟩ (by simp) ?_
 rintro ⟨⟨t,out,ln⟩,ht,hln,hb,ho,hR⟩
 try simp only at ht hln hb ho hR
 obtain ⟨q1,q2⟩:=a5F t 0 false;have q3:=a3d t 0 false;have hsk:=a3c t 0 false ln;have hhd:=a3e t 0 false;simp;refine aI.mk b4w (b7f t (by omega)) ?_
 obtain ⟨⟨rest,n⟩,hrn⟩:∃x,jR t 0 false=x:=⟨_,rfl⟩;rw [hrn] at hsk hhd q1 q2 q3;simp only [Int.natCast_zero,Int.add_zero] at hsk;simp only at hsk hhd q1 q2 q3;rw [hsk] at hR;have hw:IntKind.i64.wrap (ln+n)=ln+n:=wrap64 (by omega);have hsz:(out.length+1)*41≤140737488355328:=by omega
 simp [hrn,hw];cases rest with
 |nil=>
  have e:res= .ok (out++[⟨0,[],0,ln+n⟩]):=by rw [← hR];rfl
  simp [e,d4D,d4E,d4F,b2S,hsz]
 |cons c r=>
  obtain ⟨g1,g2,g3,g4⟩:=hhd c r rfl;rw [b9l (ln+n) g1 g2 g3 g4] at hR;simp;refine aI.mk b1G (b4x hS c r (by omega)) ?_
  obtain ⟨ff,hff⟩:∃ff,firstT gN (c::r)=ff:=⟨_,rfl⟩;have hok:= @a0c gN (c::r);rw [hff] at hR hok;obtain ⟨k,tx,m,ok⟩:=ff;simp only at hR hok;cases ok with
  |false=>
   have e:res= .error (ln+n):=by rw [← hR];rfl
   simp [hff,a2p,e,d4D,d4E,d4F]
  |true=>
   obtain ⟨p1,p2,_⟩:=hok rfl;have hle:=p2.length_le;have hpos:0<tx.length:=List.length_pos_iff.2 p1;simp only [List.length_cons] at hle q2 q3;simp [hff,a2p,hsz,hle];have hR2:d4C (out++[⟨k,tx,m,ln+n⟩]) (dL gN ((c::r).drop tx.length) 0 (ln+n) false)=res:=by
    rw [← hR,if_pos rfl];generalize dL gN ((c::r).drop tx.length) 0 (ln+n) false=y;cases y with
    |ok l=>simp [d4C]
    |error e=>rfl
   have hdl:((c::r).drop tx.length).length=r.length+1-tx.length:=by simp
   refine bR.mk ⟨((c::r).drop tx.length,out++[⟨k,tx,m,ln+n⟩],ln+n),?_⟩ (by simp [b2S]) (by simp only [hdl];omega);refine ⟨by simp only [hdl];omega,by simp only;omega,by simp only [hdl];omega,by simp only [hdl,List.length_append,List.length_cons,List.length_nil];omega,hR2⟩
end Go.Proofs.YtjpodcmhcenjjaaGreatDoor
end
end
namespace Go.Proofs.YtjpodcmhcenjjaaGreatDoor
section
open Go Go.VM
variable {G:GT}
abbrev rdO (l:List Tok)(i:Nat):aZ:= .cells [.d (.sl (l.map cR)),.d (.int .i64 i)]
abbrev rH (l:List Tok)(i:Nat):List (Nat×aZ):=[(100000,rdO l i)]
abbrev mR (n e:Int):Value:= .iface 127 (.agg #[.int .i64 n,.int .i64 e])
def gS {α:Type}:mH α→Bool
 | .ok _ _=>true
 | .bad _ _=>false
def rdE {α:Type}(l:List Tok)(enc:α→DV)(Y:α→List (Nat×aZ))(own:List (TypeId×List VM.Loc)):mH α→VM.Ends
 | .ok a j=> .inl (enc a,rH l j++Y a,own)
 | .bad n e=> .inr (mR n e)
theorem b7g {α:Type}{l:List Tok}{enc:α→DV}{Y:α→List (Nat×aZ)}{own:List (TypeId×List VM.Loc)}(r:mH α):(rdE l enc Y own r).isLeft=gS r:=by cases r<;>rfl
def kM (G:GT){α:Type}(f:FuncId)(av:List DV)(X:List (Nat×aZ))(own:List (TypeId×List VM.Loc))(l:List Tok)(i:Nat)(r:mH α)(enc:α→DV)(Y:α→List (Nat×aZ)):Prop:=CX Tryz.prog G f ⟨av,rH l i++X,own⟩ (rdE l enc Y own r)
abbrev pS (G:GT){α:Type}(f:FuncId)(ds:List D)(l:List Tok)(i:Nat)(r:mH α)(enc:α→DV):Prop:=kM G f (.ptr 100000 0::ds.map .d) [] [] l i r enc fun _=>[]
structure vH {α:Type} (Q:Exit→St→Prop) (rs:List ResultVar) (l:List Tok) (enc:α→DV) (Y:α→List (Nat×aZ)) (own:List (TypeId×List VM.Loc)) (r:mH α):Prop where
 ok:∀a j e s,r= .ok a j→(e= .normal∨e= .ret)→a2m Tryz.prog s rs (enc a) (rH l j++Y a) own→Q e s
 bad:∀n e s,r= .bad n e→Q (.panic (wI (mR n e))) s
section
variable {α β:Type} {Q:Exit→St→Prop} {rs:List ResultVar} {l:List Tok} {i j:Nat} {enc:β→DV} {Y:β→List (Nat×aZ)} {own:List (TypeId×List VM.Loc)} {n e:Int} {a:α}
theorem vH.step {x:aR α}{f:α→aR β}(h:vH Q rs l enc Y own ((x >>=f) i))(hx:x i= .ok a j):vH Q rs l enc Y own (f a j):=by rwa [aY hx] at h
theorem vH.fail {x:aR α}{f:α→aR β}(h:vH Q rs l enc Y own ((x >>=f) i))(hx:x i= .bad n e)(s:St):Q (.panic (wI (mR n e))) s:=h.bad _ _ _ (cW hx)
theorem vH.ifp {c:Prop}[Decidable c]{x y:mH β}(h:vH Q rs l enc Y own (if c then x else y))(hc:c):vH Q rs l enc Y own x:=by rwa [if_pos hc] at h
theorem vH.yD {c:Prop}[Decidable c]{x y:mH β}(h:vH Q rs l enc Y own (if c then x else y))(hc: ¬c):vH Q rs l enc Y own y:=by rwa [if_neg hc] at h
theorem kM.a3I {f:FuncId}{fn:Func}{c:Code}{k:Nat}{av:List DV}{X:List (Nat×aZ)}{r:mH β}(hf:Tryz.prog.funcs[f]? =some fn)(hb:fn.body=some c)(hn:fn.ntmps=k)(hrs:fn.results.toList=rs)(hT:(own.all fun c=>c.2.all fun l=>match l with| .t i=>decide (i<av.length)|_=>true)=true)(h:∀Q:Exit→St→Prop,vH Q rs l enc Y own r→SW Tryz.prog G c ⟨av++List.replicate (k-av.length) (.cT []),rH l i++X,own⟩ Q):kM G f av X own l i r enc Y:=by
 refine CX.b4q hf hb hn hrs hT fun Q h1 h2=>h Q ⟨fun a j e s hr he hs=>?_,fun n e s hr=>?_⟩
 ·subst hr;exact h1 _ _ _ e s rfl he hs
 ·subst hr;exact h2 _ s rfl
theorem jU (K:List (Nat×Nat)):∀ds:List D,aU K (ds.map .d)=ds.map .d
 |[]=>rfl
 |d::r=>by simp only [List.map_cons,aU,bE,jU K r]
theorem gJ (K:List (Nat×Nat)):∀ds:List D,(ds.map DV.d).all (aX K)=true
 |[]=>rfl
 |d::r=>by simp only [List.map_cons,List.all_cons,aX,gJ K r,Bool.and_self]
theorem wJ {f:FuncId}{av0 av:List DV}{X:List (Nat×aZ)}{r:mH β}{st:St}{ls:List (Option VM.Loc)}{dst:Option Tmp}{KK:St→Prop}{rest:List (TypeId×List VM.Loc)}(he:VM.Enters Tryz.prog f)(hc:kM G f av0 X own l i r enc Y)(K:List (Nat×Nat))(hfit:∀a j,r= .ok a j→aQ K ⟨av0,rH l i++X,own⟩ (enc a) (rH l j++Y a)=true)(hfit2:aQ K ⟨av0,rH l i++X,own⟩ .undef (rH l i++X)=true)(hargs:WkT av (aU K av0))(hH:WkH st.H (cS K (rH l i++X)))(jW:sG st st.own (own.map (oA K ls))=some rest)(harg:vO st.tmps.length ls own=true)(hok:∀a j,r= .ok a j→KK (bD K dst st rest (enc a) (rH l j++Y a) own))(hbad:∀n e,r= .bad n e→Q (.panic (wI (mR n e))) (yS st)):tM Tryz.prog G f av ls dst st KK Q (gS r):=by
 rw [← b7g (l:=l) (enc:=enc) (Y:=Y) (own:=own) r];refine tM.mk he hc K (fun d H1 own1 hx=>?_) (fun v hx=>hfit2) hargs hH jW harg (fun d H1 own1 hx=>?_) (fun v hx=>?_)
 ·cases r with
  |bad n e=>cases hx
  |ok a j=>cases hx;exact hfit a j rfl
 ·cases r with
  |bad n e=>cases hx
  |ok a j=>cases hx;exact hok a j rfl
 ·cases r with
  |bad n e=>cases hx;exact hbad n e rfl
  |ok a j=>cases hx
abbrev K1:List (Nat×Nat):=[(100000,100000)]
theorem tJ {f:FuncId}{ds:List D}{av:List DV}{r:mH β}{st:St}{ls:List (Option VM.Loc)}{dst:Option Tmp}{KK:St→Prop}(he:VM.Enters Tryz.prog f)(hc:pS G f ds l i r enc)(hw:WkT av (.ptr 100000 0::ds.map .d))(hH:getKey 100000 st.H=some (rdO l i))(hok:∀a j,r= .ok a j→KK ⟨qD dst (enc a) st.tmps,cI 100000 (rdO l j) st.H,qR dst (dropKey 100000 st.own)⟩)(hbad:∀n e,r= .bad n e→Q (.panic (wI (mR n e))) (yS st))(hk:∀a,aX K1 (enc a)=true∧bE K1 (enc a)=enc a:=by intro a;exact ⟨rfl,rfl⟩):tM Tryz.prog G f av ls dst st KK Q (gS r):=by
 refine wJ he hc K1 (fun a j hr=>?_) ?_ ?_ ?_ rfl rfl (fun a j hr=>?_) hbad (rest:=st.own)
 ·simp [aQ,aX,aT,aS,gJ,bC,getKey,(hk a).1]
 ·simp [aQ,aX,aT,aS,gJ,bC,getKey]
 ·simpa [aU,bE,rk,jU] using hw
 ·simp only [cS,rdO,List.append_nil,List.map_cons,List.map_nil,rk,if_true,dC,aU,bE,WkH,and_true];exact ⟨_,hH,by simp [WkO]⟩
 ·have:=hok a j hr;simpa [bD,bQ,dC,aU,bE,rk,eJ,(hk a).2] using this
theorem b4y {f:FuncId}{ds:List D}{d:D}{av:List DV}{st:St}{q ro:Bool}{ls:List (Option VM.Loc)}{dst:Option Tmp}{all:Array Oper}{ops:List Oper}{k:List KI}(he:VM.Enters Tryz.prog f)(hc:CH Tryz.prog G f ⟨.ptr 100000 0::ds.map .d,rH l i,[]⟩ ⟨[.d d],rH l i,[]⟩)(hw:WkT av (.ptr 100000 0::ds.map .d))(hH:getKey 100000 st.H=some (rdO l i))(hno:jQ [100000] st.own=true)(h:VK Tryz.prog G (.ops q all ops::k) .normal (finish st dst (.d d) .no) Q):gD Tryz.prog G q ro f av ls dst all ops k st Q:=by
 refine gD.ro he hc K1 ?_ ?_ ?_ hno ?_ h
 ·simp [aQ,aX,aT,aS,gJ,bC,getKey]
 ·simpa [aU,bE,rk,jU] using hw
 ·simp only [cS,rdO,List.map_cons,List.map_nil,rk,if_true,dC,aU,bE,a3J,and_true];exact hH
 ·simp [hH]
theorem kM.dB {f:FuncId}{fn:Func}{c:Code}{k:Nat}{av:List DV}{X:List (Nat×aZ)}{r:mH β}(hf:Tryz.prog.funcs[f]? =some fn)(hb:fn.body=some c)(hn:fn.ntmps=k)(hrs:fn.results.toList=rs)(hT:(own.all fun c=>c.2.all fun l=>match l with| .t i=>decide (i<av.length)|_=>true)=true)(h:∀Q:Exit→St→Prop,vH Q rs l enc Y own r→XK Tryz.prog G [.code c] .normal ⟨av++List.replicate (k-av.length) (.cT []),rH l i++X,own⟩ Q):kM G f av X own l i r enc Y:=kM.a3I hf hb hn hrs hT fun Q hQ=>SW.xk (h Q hQ)
theorem cJ {f:FuncId}{ds:List D}{av:List DV}{r:mH β}{st:St}{ls:List (Option VM.Loc)}{dst:Option Tmp}{all:Array Oper}{ops:List Oper}{k:List XI}(he:VM.Enters Tryz.prog f)(hc:pS G f ds l i r enc)(hw:WkT av (.ptr 100000 0::ds.map .d))(hH:getKey 100000 st.H=some (rdO l i))(hok:∀a j,r= .ok a j→XK Tryz.prog G (.ops all ops::k) .normal ⟨qD dst (enc a) st.tmps,cI 100000 (rdO l j) st.H,qR dst (dropKey 100000 st.own)⟩ Q)(hbad:∀n e,r= .bad n e→Q (.panic (wI (mR n e))) (yS st))(hk:∀a,aX K1 (enc a)=true∧bE K1 (enc a)=enc a:=by intro a;exact ⟨rfl,rfl⟩):hM Tryz.prog G f av ls dst all ops k st Q:=hM.mk (tJ he hc hw hH hok hbad hk)
theorem bI {f:FuncId}{ds:List D}{d:DV}{av:List DV}{st:St}{ls:List (Option VM.Loc)}{dst:Option Tmp}{all:Array Oper}{ops:List Oper}{k:List XI}(he:VM.Enters Tryz.prog f)(hc:CH Tryz.prog G f ⟨.ptr 100000 0::ds.map .d,rH l i,[]⟩ ⟨[d],rH l j,[]⟩)(hw:WkT av (.ptr 100000 0::ds.map .d))(hH:getKey 100000 st.H=some (rdO l i))(h:XK Tryz.prog G (.ops all ops::k) .normal ⟨qD dst d st.tmps,cI 100000 (rdO l j) st.H,qR dst (dropKey 100000 st.own)⟩ Q)(hk:aX K1 d=true∧bE K1 d=d:=by exact ⟨rfl,rfl⟩):hM Tryz.prog G f av ls dst all ops k st Q:=
 cJ (r:=mH.ok () j) (enc:=fun _=>d) he hc hw hH (fun a j' hr=>by cases hr;exact h) (fun n e hr=>by cases hr) fun _=>hk
end
theorem d2y:List.range 2=[0,1]:=rfl
theorem d6z:List.range 3=[0,1,2]:=rfl
attribute [simp] qD qR d2y d6z
end
section
open Go Go.VM
variable {G:GT}
theorem jV:VM.Enters Tryz.prog 127:=VM.Enters.mk Tryz.func127 rfl
theorem jL:VM.Enters Tryz.prog 120:=VM.Enters.mk Tryz.func120 rfl
theorem bS:VM.Enters Tryz.prog 41:=VM.Enters.mk Tryz.func41 rfl
theorem gA:VM.Enters Tryz.prog 76:=VM.Enters.mk Tryz.func76 rfl
theorem aE:VM.Enters Tryz.prog 60:=VM.Enters.mk Tryz.func60 rfl
theorem sK:VM.Enters Tryz.prog 59:=VM.Enters.mk Tryz.func59 rfl
theorem aG:VM.Enters Tryz.prog 43:=VM.Enters.mk Tryz.func43 rfl
theorem yW:VM.Enters Tryz.prog 119:=VM.Enters.mk Tryz.func119 rfl
theorem cX:VM.Enters Tryz.prog 71:=VM.Enters.mk Tryz.func71 rfl
theorem gW:VM.Enters Tryz.prog 116:=VM.Enters.mk Tryz.func116 rfl
theorem yX:VM.Enters Tryz.prog 137:=VM.Enters.mk Tryz.func137 rfl
theorem kV (t:Tok)(s:Nm):CS Tryz.prog G 127 [.agg (cR t),.str s] (.d (.bool (dN t s))) none:=by
 obtain ⟨k,x,n,ln⟩:=t;refine CS.bH Tryz.func127 rfl Tryz.ntmps127 rfl ?_
 by_cases h1:k=1
 ·by_cases h2:x=s<;>simp [cR,dN,h1,h2]
 ·by_cases h4:k=4
  ·by_cases h2:x=s<;>simp [cR,dN,h4,h2]
  ·by_cases h5:k=2
   ·by_cases h2:x=s<;>simp [cR,dN,h5,h2]
   ·simp [cR,dN,h1,h4,h5]
theorem kL (hG:G 1=some eB)(t:Tok):CS Tryz.prog G 120 [.agg (cR t)] (.d (.bool (jJ bA t))) none:=by
 obtain ⟨k,x,n,ln⟩:=t;refine CS.bH Tryz.func120 rfl Tryz.ntmps120 rfl ?_
 by_cases h1:k=1
 ·simp [cR,jJ,h1];refine aI.mk uL (wE hG x) ?_
  simp
 ·simp [cR,jJ,h1]
theorem cO (l:List Tok)(i m:Nat)(x:Int)(hx:(i:Int)+x=m)(hm:m≤l.length+10)(h0:l≠[])(hl:l.length≤2000000):CH Tryz.prog G 41 ⟨[.ptr 100000 0,.d (.int .i64 x)],rH l i,[]⟩ ⟨[.d (.agg (cR (aK l m)))],rH l i,[]⟩:=by
 have hw:IntKind.i64.wrap ((i:Int)+x)=(m:Int):=by rw [hx,wrap64 (by omega)]
 have hlen:0<l.length:=List.length_pos_iff.2 h0;have hw2:IntKind.i64.wrap ((l.length:Int)-1)=((l.length-1:Nat):Int):=by rw [wrap64 (by omega)];omega
 by_cases h:m<l.length
 ·have hg:aK l m=l[m]:=by simp [aK,h]
  rw [hg];obtain ⟨T,hT⟩:∃T,l[m]=T:=⟨_,rfl⟩;rw [hT];obtain ⟨k,s,n,ln⟩:=T;refine CH.bH Tryz.func41 rfl Tryz.ntmps41 rfl (by simp) ?_
  simp [hw,h,hT,cR];exact ⟨mK.mk (by kernel_rfl),mK.mk (by kernel_rfl)⟩
 ·have hl1:l.length-1<l.length:=by omega
  have hg:aK l m=l[l.length-1]:=by simp [aK,h,List.getLastD_eq_getLast?,List.getLast?_eq_getElem?,hl1]
  rw [hg];obtain ⟨N,hN⟩:∃N,l.length-1=N:=⟨_,rfl⟩;rw [hN] at hl1 hw2;obtain ⟨T,hT⟩:∃T,l[N]=T:=⟨_,rfl⟩;have hT2:l[l.length-1]=T:=by simp only [hN];exact hT
  rw [hT2];obtain ⟨k,s,n,ln⟩:=T;refine CH.bH Tryz.func41 rfl Tryz.ntmps41 rfl (by simp) ?_
  simp [hw,hw2,h,h0,hT,hl1,cR];exact ⟨mK.mk (by kernel_rfl),mK.mk (by kernel_rfl)⟩
theorem jB (l:List Tok)(i:Nat)(s:Nm)(hi:i<l.length)(hl:l.length≤2000000):CH Tryz.prog G 76 ⟨[.ptr 100000 0,.d (.str s)],rH l i,[]⟩ ⟨[.d (.bool (aJ l i s))],rH l i,[]⟩:=by
 have ht:=cO (G:=G) l i i 0 (by omega) (by omega) (by intro e;subst e;simp at hi) hl;refine CH.bH Tryz.func76 rfl Tryz.ntmps76 rfl (by simp) ?_
 simp;refine b4y (i:=i) (ds:=[.int .i64 0]) bS ht (by simp) (by simp) (by simp) ?_
 simp;refine aI.mk jV (kV (aK l i) s) ?_
 simp [aJ]
theorem aV (l:List Tok)(i:Nat)(s:Nm)(hi:i<l.length)(hl:l.length≤2000000)(h:aJ l i s=true):CH Tryz.prog G 60 ⟨[.ptr 100000 0,.d (.str s)],rH l i,[]⟩ ⟨[.d (.bool true)],rH l (i+1),[]⟩:=by
 have hc:=jB (G:=G) l i s hi hl;rw [h] at hc;have hw:=bP (show i<9223372036854775807 by omega);refine CH.bH Tryz.func60 rfl Tryz.ntmps60 rfl (by simp) ?_
 simp;refine b4y (i:=i) (ds:=[.str s]) gA hc (by simp) (by simp) (by simp) ?_
 simp [hw]
theorem aW (l:List Tok)(i:Nat)(s:Nm)(hi:i<l.length)(hl:l.length≤2000000)(h:aJ l i s=false):CH Tryz.prog G 60 ⟨[.ptr 100000 0,.d (.str s)],rH l i,[]⟩ ⟨[.d (.bool false)],rH l i,[]⟩:=by
 have hc:=jB (G:=G) l i s hi hl;rw [h] at hc;refine CH.bH Tryz.func60 rfl Tryz.ntmps60 rfl (by simp) ?_
 simp;refine b4y (i:=i) (ds:=[.str s]) gA hc (by simp) (by simp) (by simp) ?_
 simp
theorem uB {α:Type}(l:List Tok)(i:Nat)(hi:i<l.length)(hl:l.length≤2000000)(enc:α→DV):pS G 59 [] l i (cH l i:mH α) enc:=by
 have ht:=cO (G:=G) l i i 0 (by omega) (by omega) (by intro e;subst e;simp at hi) hl;refine kM.a3I Tryz.func59 rfl Tryz.ntmps59 rfl (by simp) ?_
 intro Q hE;refine SW.lw (LW.app 4 ?_);simp;refine b4y (i:=i) (ds:=[.int .i64 0]) bS ht (by simp) (by simp) (by simp) ?_
 generalize hT:aK l i=T;have hb:=fun s=>hE.bad T.line 14 s (by unfold cH;rw [hT])
 obtain ⟨k,s,n,ln⟩:=T;simp [cR];refine LW.b9u (td:=_) (n:=ln) (e:=14) rfl rfl (by simp) (by simp) ?_
 exact hb _
end
section
open Go Go.VM
variable {G:GT}
theorem b4z {l:List Tok}{s:Nm}{r:List Nm}{i:Nat}(h:aJ l i s=true):aL l (s::r) i=aL l r (i+1):=by
 show (if aJ l i s=true then aL l r (i+1) else cH l i)=_
 rw [if_pos h]
theorem d0s {l:List Tok}{s:Nm}{r:List Nm}{i:Nat}(h:aJ l i s=false):aL l (s::r) i=cH l i:=by
 show (if aJ l i s=true then aL l r (i+1) else cH l i)=_
 rw [if_neg (by rw [h];decide)]
theorem aH (l:List Tok)(ss:List Nm)(i:Nat)(hi:i<l.length)(hl:l.length≤2000000)(hE:oK l)(hss:ss.length≤1000):pS G 43 [.sl (strs ss)] l i (aL l ss i) (fun _=> .cT []):=by
 refine kM.dB Tryz.func43 rfl Tryz.ntmps43 rfl (by simp) ?_
 intro Q hQ;simp;refine SW.vY (ι:={ k:Nat // k≤ss.length∧i+k<l.length∧aL l (ss.drop k) (i+k)=aL l ss i }) (fun k=>[(8,.d (.int .i64 k.1))]) (fun k=>rH l (i+k.1)) (fun _=>[]) (fun k=>ss.length-k.1) ⟨0,by simp [hi]⟩ (by simp) ?_
 rintro ⟨k,hk,hik,hp⟩;rw [← hp] at hQ;by_cases hlt:k<ss.length
 ·have hg:=b6w hlt;have hw:=bP (show k<9223372036854775807 by omega);have hd:ss.drop k=ss[k]::ss.drop (k+1):=d8Q hlt;rw [hd] at hQ hp;simp [hlt,hg];cases hs:aJ l (i+k) ss[k] with
  |true=>
   have hn:=aF hE hik hs;rw [b4z hs] at hp;refine bI (ds:=[.str ss[k]]) (d:= .d (.bool true)) aE (aV l (i+k) ss[k] hik hl hs) (by simp) (by simp) ?_
   simp [hw];exact bR.mk ⟨k+1,hlt,by omega,hp⟩ (by simp [Nat.add_assoc]) (by simp;omega)
  |false=>
   rw [d0s hs] at hQ;refine bI (ds:=[.str ss[k]]) (d:= .d (.bool false)) aE (aW l (i+k) ss[k] hik hl hs) (by simp) (by simp) ?_
   simp;refine cJ (ds:=[]) sK (uB (α:=Unit) l (i+k) hik hl fun _=> .cT []) (by simp) (by simp) (fun a j hx=>by unfold cH at hx;cases hx) (fun n e hx=>?_);simp;exact hQ.bad n e _ hx
 ·have hd:ss.drop k=[]:=List.drop_eq_nil_of_le (by omega);rw [hd] at hQ;simp [hlt];exact hQ.ok () (i+k) _ _ rfl (.inl rfl) (by simp)
theorem a4x (l:List Tok)(i:Nat)(ok:Tok→Bool)(hi:i<l.length)(hl:l.length≤2000000):pS G 119 [.bool (ok (aK l i))] l i (mE l ok i) (fun s=> .d (.str s)):=by
 have ht:=cO (G:=G) l (i+1) i (-1) (by omega) (by omega) (by intro e;subst e;simp at hi) hl;have hw:=bP (show i<9223372036854775807 by omega);refine kM.dB Tryz.func119 rfl Tryz.ntmps119 rfl (by simp) ?_
 intro Q hQ;cases h:ok (aK l i) with
 |true=>
  simp [hw];refine bI (i:=i+1) (ds:=[.int .i64 (-1)]) bS ht (by simp) (by simp) ?_
  generalize hT:aK l i=T at hQ ht h ⊢;have hk:=hQ.ok T.text (i+1) .ret;obtain ⟨k,s,n,ln⟩:=T;simp [cR];exact hk _ (by unfold mE;rw [hT,if_pos h]) (.inr rfl) (by simp)
 |false=>simp;refine cJ (ds:=[]) sK (uB (α:=Nm) l i hi hl fun _=> .cT []) (by simp) (by simp) (fun a j hx=>by unfold cH at hx;cases hx) (fun n e hx=>?_);exact hQ.bad n e _ (by unfold mE;rw [if_neg (by rw [h];decide)];exact hx)
section
variable (hG:G 1=some eB)
include hG
theorem dO (l:List Tok)(i:Nat)(hi:i<l.length)(hl:l.length≤2000000):pS G 71 [] l i (bN bA l i) (fun s=> .d (.str s)):=by
 have ht:=cO (G:=G) l i i 0 (by omega) (by omega) (by intro e;subst e;simp at hi) hl;refine kM.dB Tryz.func71 rfl Tryz.ntmps71 rfl (by simp) ?_
 intro Q hQ;simp;refine bI (ds:=[.int .i64 0]) bS ht (by simp) (by simp) ?_
 simp;refine mB.mk jL (kL hG (aK l i)) ?_
 simp;refine cJ (ds:=[.bool (jJ bA (aK l i))]) yW (a4x l i (jJ bA) hi hl) (by simp) (by simp) (fun s j hx=>?_) (fun n e hx=>hQ.bad n e _ hx);simp;exact hQ.ok s j _ _ hx (.inr rfl) (by simp)
theorem a0Q (l:List Tok)(i:Nat)(hi:i<l.length)(hl:l.length≤2000000):pS G 137 [] l i (a0H bA l i) (fun s=> .d (.str s)):=by
 have ht:=cO (G:=G) l i i 0 (by omega) (by omega) (by intro e;subst e;simp at hi) hl;refine kM.dB Tryz.func137 rfl Tryz.ntmps137 rfl (by simp) ?_
 intro Q hQ;simp;refine bI (ds:=[.int .i64 0]) bS ht (by simp) (by simp) ?_
 simp;refine mB.mk jL (kL hG (aK l i)) ?_
 have hc:=a4x (G:=G) l i (fun t=>jJ bA t||kT t) hi hl;cases h:jJ bA (aK l i) with
 |true=>simp only [h,Bool.true_or] at hc;simp;refine cJ (ds:=[.bool true]) yW hc (by simp) (by simp) (fun s j hx=>?_) (fun n e hx=>hQ.bad n e _ hx);simp;exact hQ.ok s j _ _ hx (.inr rfl) (by simp)
 |false=>
  simp only [h,Bool.false_or] at hc;simp;refine bI (ds:=[.int .i64 0]) bS ht (by simp) (by simp) ?_
  generalize hT:aK l i=T at hc ⊢;obtain ⟨k,x,n,ln⟩:=T;simp [cR];refine cJ (ds:=[.bool (kT ⟨k,x,n,ln⟩)]) yW hc (by simp [kT]) (by simp) (fun s j hx=>?_) (fun n e hx=>hQ.bad n e _ hx);simp;exact hQ.ok s j _ _ hx (.inr rfl) (by simp)
end
theorem jM (l:List Tok)(i:Nat)(hi:i<l.length)(hl:l.length≤2000000):pS G 116 [] l i (eV l i) (fun s=> .d (.str s)):=by
 have ht:=cO (G:=G) l i i 0 (by omega) (by omega) (by intro e;subst e;simp at hi) hl;have hc:=a4x (G:=G) l i kT hi hl;refine kM.dB Tryz.func116 rfl Tryz.ntmps116 rfl (by simp) ?_
 intro Q hQ;simp;refine bI (ds:=[.int .i64 0]) bS ht (by simp) (by simp) ?_
 generalize hT:aK l i=T at hc ⊢;obtain ⟨k,x,n,ln⟩:=T;simp [cR];refine cJ (ds:=[.bool (kT ⟨k,x,n,ln⟩)]) yW hc (by simp [kT]) (by simp) (fun s j hx=>?_) (fun n e hx=>hQ.bad n e _ hx);simp;exact hQ.ok s j _ _ hx (.inr rfl) (by simp)
end
section
open Go Go.VM
variable {G:GT}
abbrev d4G:Pr→DV:=fun p=> .d (.agg (prD p))
structure mO (G:GT) (rdP:List Tok→Nat→Nat→mH Pr) (l:List Tok):Prop where
 kw:G 1=some eB
 len:l.length≤50000
 fin:oK l
 bef:∀i e,i<l.length→e≤l.length→pS G 155 [.int .i64 e] l i (rdP l i e) d4G
 pU:vP rdP l
 nod:∀i e p j,i<l.length→rdP l i e= .ok p j→dM p+i≤j∧p.op≠0
theorem a3R:VM.Enters Tryz.prog 155:=VM.Enters.mk Tryz.func155 rfl
theorem oL:VM.Enters Tryz.prog 126:=VM.Enters.mk Tryz.func126 rfl
theorem dT:VM.Enters Tryz.prog 114:=VM.Enters.mk Tryz.func114 rfl
theorem a0R:VM.Enters Tryz.prog 117:=VM.Enters.mk Tryz.func117 rfl
theorem a9Y:VM.Enters Tryz.prog 166:=VM.Enters.mk Tryz.func166 rfl
section
variable {rdP:List Tok→Nat→Nat→mH Pr} {l:List Tok} (hV:mO G rdP l)
include hV
theorem qF (i:Nat)(hi:i<l.length):pS G 126 [] l i (cQ rdP l i) d4G:=by
 have hl:=hV.len;refine kM.dB Tryz.func126 rfl Tryz.ntmps126 rfl (by simp) ?_
 intro Q hQ;simp;refine cJ (ds:=[.int .i64 l.length]) a3R (hV.bef i l.length hi (d8T _)) (by simp) (by simp) (fun p j hx=>?_) (fun n e hx=>hQ.bad n e _ hx);simp;exact hQ.ok p j _ _ hx (.inr rfl) (by simp)
omit hV in
structure xR {α:Type} (l:List Tok) (K:List (Nat×Nat)) (caps:List DV) (X:α→List (Nat×aZ)) (own:List (TypeId×List VM.Loc)):Prop where
 fit:∀a b i j,aQ K ⟨caps,rH l i++X a,own⟩ (.cT []) (rH l j++X b)=true
 d6A:∀a i,aQ K ⟨caps,rH l i++X a,own⟩ .undef (rH l i++X a)=true
 cap:WkT caps (aU K caps)
 hh:∀a i,WkH (rH l i++X a) (cS K (rH l i++X a))
 tk:∀a i tmps,sG ⟨tmps,rH l i++X a,own⟩ own (own.map (oA K []))=some []
 ow:∀t,own.map (gU K (some t))=own
 arg:∀n,vO n [] own=true
 st:∀a b i j,bQ K (rH l j++X b) ((100000,rdO l i)::X a)=(100000,rdO l j)::X b
 dk:dropKey 100000 own=own
 d0:∀t:Nat,cL (.t t) own=own
 dl:∀t:Nat,List.map (fun c=>(c.1,List.filter (fun x=> !decide (x=VM.Loc.t t)) c.2)) own=own
 tt:(own.all fun c=>c.2.all fun l=>match l with| .t i=>decide (i<3)|_=>true)=true
 wk:∀a i t1 t2,WkT t1 t2→wD ⟨t1,rH l i++X a,own⟩ ⟨t2,rH l i++X a,own⟩
 ed:∀a i (s:St),s.H=rH l i++X a→s.own=own→a2m Tryz.prog s [] (.cT []) (rH l i++X a) own
theorem b2T {α:Type}{c:Nm}{one:α→aR α}{g:Nat}{a b:α}{i j:Nat}(h:one a i= .ok b j):gR l c one (g+1) a i=if aJ l j c then gR l c one g b (j+1) else .ok b j:=by rw [gR];simp only [h]
theorem a9Z {α:Type}{c:Nm}{one:α→aR α}{g:Nat}{a:α}{i:Nat}{n e:Int}(h:one a i= .bad n e):gR l c one (g+1) a i= .bad n e:=by rw [gR];simp only [h]
theorem a4y:∀K:List (Nat×Nat),eJ K []=[]
 |[]=>rfl
 |p::r=>by unfold eJ;exact a4y r
theorem eX {α:Type}(c:Nm){F:FuncId}{caps:List DV}{X:α→List (Nat×aZ)}{own:List (TypeId×List VM.Loc)}{K:List (Nat×Nat)}(one:α→aR α)(Inv:α→Nat→Prop)(low:Nat)(he:VM.Enters Tryz.prog F)(hX:xR l K caps X own)(hadv:∀a,aA l 0 (one a))(hone:∀a i,low≤i→i<l.length→Inv a i→kM G F caps (X a) own l i (one a i) (fun _=> .cT []) X)(hinv:∀a i b j,i<l.length→Inv a i→one a i= .ok b j→Inv b j)(hmono:∀a i,Inv a i→Inv a (i+1))(a0:α)(i0:Nat)(hlow:low≤i0)(hi0:i0<l.length)(h0:Inv a0 i0):kM G 114 [.ptr 100000 0,.d (.str c),.zT F caps] (X a0) own l i0 (eO l c one a0 i0) (fun _=> .cT []) X:=by
 have hl:=hV.len;refine kM.dB Tryz.func114 rfl Tryz.ntmps114 rfl hX.tt ?_
 intro Q hQ;unfold eO at hQ;simp [hX.dl];refine hM.mk (wJ he (hone a0 i0 hlow hi0 h0) K (fun a j hx=>hX.fit _ _ _ _) (hX.d6A _ _) hX.cap (hX.hh _ _) (hX.tk _ _ _) (hX.arg _) (fun b j hx=>?_) (fun n e hx=>hQ.bad n e _ (a9Z hV hx)));rw [b2T hV hx] at hQ;simp only [bD,hX.st,hX.ow,a4y hV,bE,qR,qD,cL,List.map_nil,List.append_nil];simp [aU];refine SW.vY (ι:={ x:α×Nat×Nat // low≤x.2.1∧x.2.1<l.length∧l.length<x.2.2+x.2.1∧Inv x.1 x.2.1∧(if aJ l x.2.1 c=true then gR l c one x.2.2 x.1 (x.2.1+1) else .ok x.1 x.2.1)=(if aJ l j c=true then gR l c one (l.length+1) b (j+1) else .ok b j) }) (fun _=>[]) (fun x=>rH l x.1.2.1++X x.1.1) (fun _=>own) (fun x=>l.length-x.1.2.1) ⟨(b,j,l.length+1),?_⟩ ?_ ?_
 ·have h1:=hadv a0 i0 b j hi0 hx;exact ⟨by simp only;omega,h1.2,by simp only;omega,hinv a0 i0 b j hi0 h0 hx,rfl⟩
 ·refine hX.wk b j _ _ ?_
  simp
 ·rintro ⟨⟨b1,j1,g1⟩,hl1,hj1,hg1,hI1,hp1⟩;simp only at hl1 hj1 hg1 hI1 hp1;rw [← hp1] at hQ;simp [hX.dl];by_cases hs:aJ l j1 c=true
  ·have hn:=aF hV.fin hj1 hs;rw [hs,if_pos rfl] at hQ hp1;obtain ⟨g2,rfl⟩:∃g,g1=g+1:=⟨g1-1,by omega⟩;refine bI (ds:=[.str c]) (d:= .d (.bool true)) aE (aV l j1 c hj1 (by omega) hs) (by simp) (by simp) ?_
   simp only [qR,hX.dk,hX.d0];simp [hX.dl];refine hM.mk (wJ he (hone b1 (j1+1) (by omega) hn (hmono _ _ hI1)) K (fun a j hx=>hX.fit _ _ _ _) (hX.d6A _ _) hX.cap (hX.hh _ _) (hX.tk _ _ _) (hX.arg _) (fun b2 j2 hx2=>?_) (fun n e hx2=>?_))
   ·have ha:=hadv b1 (j1+1) b2 j2 hn hx2;rw [b2T hV hx2] at hp1;simp only [bD,hX.st,hX.ow,a4y hV,bE,qR,qD,cL,List.map_nil,List.append_nil];simp [aU];refine bR.mk ⟨(b2,j2,g2),by simp only;omega,ha.2,by simp only;omega,hinv _ _ _ _ hn (hmono _ _ hI1) hx2,hp1⟩ ?_ (by simp;omega)
    refine hX.wk b2 j2 _ _ ?_
    simp
   ·simp;exact hQ.bad n e _ (a9Z hV hx2)
  ·have hs:=Bool.eq_false_iff.2 hs;rw [hs,if_neg (by decide)] at hQ;refine bI (ds:=[.str c]) (d:= .d (.bool false)) aE (aW l j1 c hj1 (by omega) hs) (by simp) (by simp) ?_
   simp only [qR,hX.dk,hX.d0];simp [hX.dl];exact hQ.ok b1 j1 _ _ rfl (.inl rfl) (hX.ed b1 j1 _ rfl rfl)
end
end
section
open Go Go.VM
variable {G:GT}
theorem a0j (l:List Nm)(s:Nm):strs (l++[s])=strs l++[[.str s]]:=by simp [strs]
abbrev K3:List (Nat×Nat):=[(100000,100000),(100001,100001),(100002,100002)]
theorem yY:VM.Enters Tryz.prog 132:=VM.Enters.mk Tryz.func132 rfl
theorem b1J:VM.Enters Tryz.prog 173:=VM.Enters.mk Tryz.func173 rfl
section
variable {rdP:List Tok→Nat→Nat→mH Pr} {l:List Tok} (hV:mO G rdP l)
include hV
def zN (out:List Nm):List (Nat×aZ):=[(100001,.cells [.d (.sl (strs out))]),(100002,.cells [.ptr 100000 0])]
abbrev c5q:List (TypeId×List VM.Loc):=[(9,[.c 100001 0])]
abbrev vQ (l:List Tok)(out:List Nm):aR (List Nm):=do let w ← bN bA l;pure (out++[w])
theorem b4A (out:List Nm)(i:Nat)(hi:i<l.length)(hout:out.length≤i):kM G 166 [.ptr 100001 0,.ptr 100002 0] (zN out) c5q l i (vQ l out i) (fun _=> .cT []) zN:=by
 have hl:=hV.len;refine kM.dB Tryz.func166 rfl Tryz.ntmps166 rfl (by simp) ?_
 intro Q hQ;simp [zN];refine kY 2 [1] (.op 0 (.call [3,4,5] .none) (.call [0,3,4,5] .none)) (gS (bN bA l i)) (by kernel_rfl) (by kernel_rfl) ?_
 simp;refine ⟨?_,?_⟩
 all_goals
  refine tJ (ds:=[]) cX (dO hV.kw l i hi (by omega)) (by simp) (by simp) (fun w j hx=>?_) (fun n e hx=>hQ.fail hx _);have hQ2:=hQ.step hx;refine dG.mk ?_
  simp;refine eU (by omega) ?_
  simp;exact hQ2.ok _ j _ _ rfl (.inl rfl) (by simp [zN,a0j])
theorem b9B:xR l K3 [.ptr 100001 0,.ptr 100002 0] zN c5q:=by
 constructor
 all_goals intros
 all_goals first
  |rfl
  |simp [zN,aQ,aX,aT,aS,bC,getKey,aU,bE,cS,rk,dC,bQ, *]
theorem a2q (i:Nat)(hi:i<l.length):pS G 117 [] l i (cV bA l i) (fun ws=> .d (.sl (strs ws))):=by
 have hl:=hV.len;refine kM.dB Tryz.func117 rfl Tryz.ntmps117 rfl (by simp) ?_
 intro Q hQ;unfold cV at hQ;simp;refine cJ (ds:=[.sl (strs [[40]])]) aG (aH l [[40]] i hi (by omega) hV.fin (by simp)) (by simp [strs]) (by simp) (fun u j hx=>?_) (fun n e hx=>hQ.fail hx _);have hQ2:=hQ.step hx;have hj:=aA.exp hV.fin _ _ i u j hi hx;simp;have hone:=eX hV [44] (vQ l) (fun out i=>out.length≤i) 0 a9Y (b9B hV) (fun a=>((aA.word hV.fin).le (by omega)).bl fun _=>aA.aO _) (fun a i _ hi h=>b4A hV a i hi h) (fun a i b j hi h hx=>?_) (fun a i h=>by omega) [] j (by omega) hj.2 (by simp)
 ·refine hM.mk (wJ dT hone [(100000,100000),(100001,3),(100002,1)] (fun a j hx=>?_) ?_ ?_ ?_ rfl rfl (fun ws j2 hx2=>?_) (fun n e hx2=>hQ2.fail hx2 _))
  ·simp [zN,aQ,aX,aT,aS,bC,getKey]
  ·simp [zN,aQ,aX,aT,aS,bC,getKey]
  ·simp [aU,bE,rk]
  ·simp [zN,aU,bE,rk,cS,dC]
  ·have hQ3:=hQ2.step hx2;have hj2:=aA.list hV.fin (m:=0) (fun a=>((aA.word hV.fin).le (by omega)).bl fun _=>aA.aO _) [] j ws j2 hj.2 hx2;simp [bD,zN,aU,bE,rk,cS,dC,bQ,gU,gE,eJ];refine cJ (ds:=[.sl (strs [[41]])]) aG (aH l [[41]] j2 hj2.2 (by omega) hV.fin (by simp)) (by simp [strs]) (by simp) (fun u j hx=>?_) (fun n e hx=>hQ3.fail hx _);have hQ4:=hQ3.step hx;simp;exact hQ4.ok _ j _ _ rfl (.inr rfl) (by simp)
 ·simp only [vQ] at hx;rw [eC] at hx;cases hw:bN bA l i with
  |bad n e=>rw [hw] at hx;cases hx
  |ok w k=>rw [hw] at hx;have:=aA.word (kw:=bA) hV.fin i w k hi hw;cases hx;simp;omega
end
end
section
open Go Go.VM
variable {G:GT}
theorem jC {l:List Tok}{s:Nm}{i:Nat}(h:aJ l i s=true):cM l s i= .ok true (i+1):=by unfold cM;rw [if_pos h]
theorem jD {l:List Tok}{s:Nm}{i:Nat}(h:aJ l i s=false):cM l s i= .ok false i:=by unfold cM;rw [if_neg (by rw [h];decide)]
section
variable {rdP:List Tok→Nat→Nat→mH Pr} {l:List Tok} (hV:mO G rdP l)
include hV
def a1r (v:Bool)(out:List psV):List (Nat×aZ):=[(100001,.cells [.d (.bool v)]),(100002,.cells [.ptr 100000 0]),(100003,.cells [.d (.sl (out.map mF))])]
abbrev d2z:List (TypeId×List VM.Loc):=[(179,[.c 100003 0])]
abbrev K4:List (Nat×Nat):=[(100000,100000),(100001,100001),(100002,100002),(100003,100003)]
abbrev b2U (l:List Tok)(v:Bool)(out:List psV):aR (List psV):=do
 let b ← (if v then cM l [118] else pure false)
 let name ← (if b then pure [118] else bN bA l)
 aL l [[58]]
 let s ← a0H bA l
 pure (out++[(name,s)])
theorem a3f (l:List psV)(x:psV):(l++[x]).map mF=l.map mF++[[.str x.1,.str x.2]]:=by simp [mF]
theorem c5r (l:List psV):∀x∈l.map mF,x.length=2:=fun x hx=>by
 obtain ⟨y,_,rfl⟩:=List.mem_map.1 hx
 rfl
theorem b7h (v:Bool)(out:List psV)(i:Nat)(hi:i<l.length)(hout:out.length≤i):kM G 173 [.ptr 100001 0,.ptr 100002 0,.ptr 100003 0] (a1r v out) d2z l i (b2U l v out i) (fun _=> .cT []) (a1r v):=by
 have hl:=hV.len;refine kM.dB Tryz.func173 rfl Tryz.ntmps173 rfl (by simp) ?_
 intro Q Q0;obtain ⟨j0,rfl⟩:∃j0,j0=i:=⟨_,rfl⟩;have p0:j0≤j0∧j0<l.length:=⟨d8T _,hi⟩;simp [a1r];cases v with
 |false=>
  have Q1:=Q0.step (x:=pure false) rfl;rw [if_neg (by decide)] at Q1;simp;obtain ⟨j1,rfl⟩:∃j1,j1=j0:=⟨_,rfl⟩;have p1:=p0;refine cJ cX (dO hV.kw l j1 p1.2 (by omega)) (by simp) (by simp) (fun s j2 x2=>?_) (fun n e hx=>by first|exact Q1.fail hx _|(simp;exact Q1.fail hx _)|(simp;exact fun s=>Q1.fail hx s));have Q2:=Q1.step x2;have p2:=aA.word hV.fin j1 s j2 p1.2 x2;simp;refine cJ (ds:=[.sl (strs [[58]])]) aG (aH l [[58]] j2 p2.2 (by omega) hV.fin (by simp)) (by simp [strs]) (by simp) (fun u5 j5 x5=>?_) (fun n e hx=>by first|exact Q2.fail hx _|(simp;exact Q2.fail hx _)|(simp;exact fun s=>Q2.fail hx s));have Q5:=Q2.step x5;have p5:=aA.exp hV.fin _ _ j2 u5 j5 p2.2 x5;simp;refine kG [1] 3 [2] (.op 0 (.call [4,5,6,7] .none) (.call [0,4,5,6,7] .none)) (gS (a0H bA l j5)) (by kernel_rfl) (by kernel_rfl) ?_
  simp;refine ⟨?_,?_⟩
  all_goals
   refine tJ yX (a0Q hV.kw l j5 p5.2 (by omega)) (by simp) (by simp) (fun w j6 x6=>?_) (fun n e hx=>by first|exact Q5.fail hx _|(simp;exact Q5.fail hx _)|(simp;exact fun s=>Q5.fail hx s));have Q6:=Q5.step x6;have p6:=aA.sort hV.fin j5 w j6 p5.2 x6;refine dG.mk ?_
   simp;refine eU (by simp [mF];omega) ?_
   simp;exact Q6.ok _ j6 _ _ rfl (.inl rfl) (by simp [a1r,a3f hV])
 |true=>
  cases hs:aJ l j0 [118] with
  |true=>
   have Q1:=Q0.step (x:=cM l [118]) (jC hs);rw [if_pos rfl] at Q1;have Q2:=Q1.step (x:=pure [118]) rfl;simp;refine bI (ds:=[.str [118]]) (d:= .d (.bool true)) aE (aV l j0 [118] p0.2 (by omega) hs) (by simp) (by simp) ?_
   have p2:j0+1≤j0+1∧j0+1<l.length:=⟨d8T _,aF hV.fin p0.2 hs⟩;obtain ⟨j2,hj2⟩:∃j2,j0+1=j2:=⟨_,rfl⟩;rw [hj2] at Q2 p2 ⊢;simp;refine cJ (ds:=[.sl (strs [[58]])]) aG (aH l [[58]] j2 p2.2 (by omega) hV.fin (by simp)) (by simp [strs]) (by simp) (fun u5 j5 x5=>?_) (fun n e hx=>by first|exact Q2.fail hx _|(simp;exact Q2.fail hx _)|(simp;exact fun s=>Q2.fail hx s));have Q5:=Q2.step x5;have p5:=aA.exp hV.fin _ _ j2 u5 j5 p2.2 x5;simp;refine kG [1] 3 [2] (.op 0 (.call [4,5,6,7] .none) (.call [0,4,5,6,7] .none)) (gS (a0H bA l j5)) (by kernel_rfl) (by kernel_rfl) ?_
   simp;refine ⟨?_,?_⟩
   all_goals
    refine tJ yX (a0Q hV.kw l j5 p5.2 (by omega)) (by simp) (by simp) (fun w j6 x6=>?_) (fun n e hx=>by first|exact Q5.fail hx _|(simp;exact Q5.fail hx _)|(simp;exact fun s=>Q5.fail hx s));have Q6:=Q5.step x6;have p6:=aA.sort hV.fin j5 w j6 p5.2 x6;refine dG.mk ?_
    simp;refine eU (by simp [mF];omega) ?_
    simp;exact Q6.ok _ j6 _ _ rfl (.inl rfl) (by simp [a1r,a3f hV])
  |false=>
   have Q1:=Q0.step (x:=cM l [118]) (jD hs);rw [if_neg (by decide)] at Q1;simp;refine bI (ds:=[.str [118]]) (d:= .d (.bool false)) aE (aW l j0 [118] p0.2 (by omega) hs) (by simp) (by simp) ?_
   simp;obtain ⟨j1,rfl⟩:∃j1,j1=j0:=⟨_,rfl⟩;have p1:=p0;refine cJ cX (dO hV.kw l j1 p1.2 (by omega)) (by simp) (by simp) (fun s j2 x2=>?_) (fun n e hx=>by first|exact Q1.fail hx _|(simp;exact Q1.fail hx _)|(simp;exact fun s=>Q1.fail hx s));have Q2:=Q1.step x2;have p2:=aA.word hV.fin j1 s j2 p1.2 x2;simp;refine cJ (ds:=[.sl (strs [[58]])]) aG (aH l [[58]] j2 p2.2 (by omega) hV.fin (by simp)) (by simp [strs]) (by simp) (fun u5 j5 x5=>?_) (fun n e hx=>by first|exact Q2.fail hx _|(simp;exact Q2.fail hx _)|(simp;exact fun s=>Q2.fail hx s));have Q5:=Q2.step x5;have p5:=aA.exp hV.fin _ _ j2 u5 j5 p2.2 x5;simp;refine kG [1] 3 [2] (.op 0 (.call [4,5,6,7] .none) (.call [0,4,5,6,7] .none)) (gS (a0H bA l j5)) (by kernel_rfl) (by kernel_rfl) ?_
   simp;refine ⟨?_,?_⟩
   all_goals
    refine tJ yX (a0Q hV.kw l j5 p5.2 (by omega)) (by simp) (by simp) (fun w j6 x6=>?_) (fun n e hx=>by first|exact Q5.fail hx _|(simp;exact Q5.fail hx _)|(simp;exact fun s=>Q5.fail hx s));have Q6:=Q5.step x6;have p6:=aA.sort hV.fin j5 w j6 p5.2 x6;refine dG.mk ?_
    simp;refine eU (by simp [mF];omega) ?_
    simp;exact Q6.ok _ j6 _ _ rfl (.inl rfl) (by simp [a1r,a3f hV])
theorem c2A (v:Bool):xR l K4 [.ptr 100001 0,.ptr 100002 0,.ptr 100003 0] (a1r v) d2z:=by
 constructor
 all_goals intros
 all_goals first
  |rfl
  |simp [a1r,aQ,aX,aT,aS,bC,getKey,aU,bE,cS,rk,dC,bQ, *]
theorem a6z (v:Bool)(out:List psV):aA l 1 (b2U l v out):=by
 refine aA.br (aA.ite (aA.skip hV.fin _) (aA.aO _)) fun b=>?_
 refine aA.br (aA.ite (aA.aO _) ((aA.word hV.fin).le (by omega))) fun nm=>?_
 exact (aA.exp hV.fin _ _).bl fun _=>((aA.sort hV.fin).le (by omega)).bl fun _=>aA.aO _
theorem b2V (v:Bool)(a:List psV)(i:Nat)(b:List psV)(j:Nat)(h:b2U l v a i= .ok b j):b.length=a.length+1:=by
 simp only [b2U,eC] at h
 repeat' split at h
 all_goals first|cases h|skip
 all_goals simp
theorem a0S (v:Bool)(i:Nat)(hi:i<l.length):pS G 132 [.bool v] l i (tX bA l v i) (fun ws=> .d (.sl (ws.map mF))):=by
 have hl:=hV.len;refine kM.dB Tryz.func132 rfl Tryz.ntmps132 rfl (by simp) ?_
 intro Q Q0;unfold tX at Q0;simp;have hone:=eX hV [44] (b2U l v) (fun out i=>out.length≤i) 0 b1J (c2A hV v) (fun a=>(a6z hV v a).le (by omega)) (fun a i _ hi h=>b7h hV v a i hi h) (fun a i b j hi h hx=>?_) (fun a i h=>by omega) [] i (by omega) hi (by simp)
 ·refine hM.mk (wJ dT hone [(100000,100000),(100001,3),(100002,2),(100003,5)] (fun a j hx=>?_) ?_ ?_ ?_ rfl rfl (fun ws j2 hx2=>?_) (fun n e hx2=>Q0.bad n e _ hx2))
  ·simp [a1r,aQ,aX,aT,aS,bC,getKey]
  ·simp [a1r,aQ,aX,aT,aS,bC,getKey]
  ·simp [aU,bE,rk]
  ·simp [a1r,aU,bE,rk,cS,dC]
  ·simp [bD,a1r,aU,bE,rk,cS,dC,bQ,gU,gE,eJ];exact Q0.ok _ j2 _ _ hx2 (.inr rfl) (by simp)
 ·have h1:=a6z hV v a i b j hi hx;have h2:=b2V hV v a i b j hx;omega
end
end
end Go.Proofs.YtjpodcmhcenjjaaGreatDoor
section
section
namespace Go.Proofs.YtjpodcmhcenjjaaGreatDoor
open Go Go.VM
variable {G:GT}
mutual
def a3u:Pr→Pr→Bool
 |⟨o,n,k,l⟩,⟨o',n',k',l'⟩=>decide (o=o')&&(decide (n=n')&&(decide (k=k')&&(decide (l.length=l'.length)&&sL l l')))
def sL:List Pr→List Pr→Bool
 |a::r,b::s=>a3u a b&&sL r s
 |[],_=>true
 |_::_,[]=>true
end
theorem c1b (a b:Pr):a3u a b=(decide (a.op=b.op)&&(decide (a.name=b.name)&&(decide (a.n=b.n)&&(decide (a.kids.length=b.kids.length)&&sL a.kids b.kids)))):=by cases a;cases b;rfl
mutual
theorem a5H:∀a b:Pr,a3u a b=true↔a=b
 |⟨o,n,k,l⟩,⟨o',n',k',l'⟩=>by
  have:=b2W l l';simp only [a3u,d8D,decide_eq_true_eq,Pr.mk.injEq];constructor
  ·rintro ⟨h1,h2,h3,h4,h5⟩;exact ⟨h1,h2,h3,(this h4).1 h5⟩
  ·rintro ⟨h1,h2,h3,rfl⟩;exact ⟨h1,h2,h3,rfl,(this rfl).2 rfl⟩
theorem b2W:∀l k:List Pr,l.length=k.length→(sL l k=true↔l=k)
 |[],[],_=>by simp [sL]
 |a::r,b::s,h=>by have h1:=a5H a b;have h2:=b2W r s (by simpa using h);simp only [sL,d8D,h1,h2,List.cons.injEq]
 |[],_::_,h=>by simp at h
 |_::_,[],h=>by simp at h
end
theorem b0a {l k:List Pr}{i:Nat}(h:i<l.length)(h':i<k.length):sL (l.drop i) (k.drop i)=(a3u l[i] k[i]&&sL (l.drop (i+1)) (k.drop (i+1))):=by
 rw [d8Q h,d8Q h']
 rfl
theorem b2X (l k:List Pr):sL (l.drop l.length) k=true:=by simp [sL]
end Go.Proofs.YtjpodcmhcenjjaaGreatDoor
end
section
namespace Go.Proofs.YtjpodcmhcenjjaaGreatDoor
open Go Go.VM
variable {G:GT}
theorem a2r:VM.Enters Tryz.prog 19:=VM.Enters.mk Tryz.func19 rfl
theorem b0b:∀t u:Pr,dM t≤900000000→CS Tryz.prog G 19 [.agg (prD t),.agg (prD u)] (.d (.bool (a3u t u))) none:=by
 refine Pr.ind fun t ih=>?_
 obtain ⟨op,nm,n,l⟩:=t;intro u hN;obtain ⟨op',nm',n',l'⟩:=u;simp only at ih;have hn:=qS ⟨op,nm,n,l⟩;have hq:=c1b ⟨op,nm,n,l⟩ ⟨op',nm',n',l'⟩;simp only at hn hq;have hl:=kE l;refine CS.bH Tryz.func19 rfl Tryz.ntmps19 rfl ?_
 by_cases h1:op=op'
 ·by_cases h2:nm=nm'
  ·by_cases h4:n=n'
   ·by_cases h3:l.length=l'.length
    ·simp only [h1,h2,h3,h4,decide_true,Bool.true_and] at hq;simp [h1,h2,h3,h4];refine SW.kJ (ι:={ i:Nat // i≤l.length∧sL (l.drop i) (l'.drop i)=sL l l' }) (fun i=>[(37,.d (.int .i64 i.1))]) (fun i=>[(2,.cells [.d (.int .i64 op'),.d (.str nm'),.d (.int .i64 n'),.d (.sl (l.map rG))]),(3,.cells [.d (.int .i64 op'),.d (.str nm'),.d (.int .i64 n'),.d (.sl (l'.map rG))])]) (fun _=>[]) (fun i=>l.length-i.1) ⟨0,by simp⟩ (by simp) ?_
     rintro ⟨i,hi,hR⟩
     try simp only at hi hR
     by_cases hlt:i<l.length
     ·have hlt':i<l'.length:=by omega
      have hg:=wF hlt;have hg':=wF hlt';have hw:=bP (show i<9223372036854775807 by omega);have hb2:=rU hlt;have hb3:=kK l (i+1);rw [b0a hlt hlt'] at hR;simp [hlt',hlt,hg,hg'];refine ⟨mK.mk (by kernel_rfl),?_⟩;refine aI.mk a2r (ih l[i] (List.getElem_mem hlt) l'[i] (by omega)) ?_
      cases hs:a3u l[i] l'[i]
      ·rw [hs,Bool.false_and] at hR;simp [hs,hq, ← hR]
      ·rw [hs,Bool.true_and] at hR;simp [hs];exact bR.mk ⟨i+1,hlt,hR⟩ (by simp [hw]) (by simp;omega)
     ·have:i=l.length:=by omega
      subst this;rw [b2X] at hR;simp [hq, ← hR, ← h3]
    ·simp only [h1,h2,h3,h4,decide_true,decide_false,Bool.true_and,Bool.false_and] at hq;have h3': ¬((l.length:Int)=(l'.length:Int)):=by omega
     simp [h1,h2,h3,h3',h4,hq]
   ·simp only [h1,h2,h4,decide_true,decide_false,Bool.true_and,Bool.false_and] at hq;simp [h1,h2,h4,hq]
  ·simp only [h1,h2,decide_true,decide_false,Bool.true_and,Bool.false_and] at hq;simp [h1,h2,hq]
 ·simp only [h1,decide_false,Bool.false_and] at hq;simp [h1,hq]
def c2B (l l':List Pr):Bool:=decide (l.length=l'.length)&&sL l l'
end Go.Proofs.YtjpodcmhcenjjaaGreatDoor
end
end
