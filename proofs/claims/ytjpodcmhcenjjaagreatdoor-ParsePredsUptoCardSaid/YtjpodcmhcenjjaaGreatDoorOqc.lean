/- Lemmas that the law of this claim needs (ZJ ZV VmR VmRT VmR5 VmRX VmRS ZB PsA PsB PsC PsE PsF PsG Z9). No condition. -/
import Derived.Test.YtjpodcmhcenjjaaGreatDoorOqb
import Derived.Laws.CopyRow
import Derived.Laws.MakeOwn
import Derived.RangeFuncOwn
import Derived.Lib.TrimByte
import Derived.Lib.Repeat
set_option linter.unusedVariables false
set_option linter.unusedSimpArgs false
set_option linter.unusedSectionVars false
set_option maxRecDepth 100000
set_option maxHeartbeats 64000000
section
section
namespace Go.Proofs.YtjpodcmhcenjjaaGreatDoor
structure gC where
 op:Int
 name:Nm
 n:Int
 kids:List gC
 params:List (Nm×Ty)
 alts:List (Nm×List Nm×gC)
 types:List Ty
abbrev zV:=Nm×Nm
structure oZ where
 name:Nm
 vars:List zV
 hyp:Pr
 goal:Pr
structure b0g where
 vars:List Nm
 vC:List zV
 abs:List zV
 bounds:List oZ
 type:Ty
 b1w:List Pr
structure jJ where
 name:Nm
 params:List Nm
 body:gC
 mode:Int
 typed:Bool
 sig:b0g
structure a2k where
 name:Nm
 names:List Nm
 fields:List Ty
structure a7m where
 name:Nm
 vars:List Nm
 a7l:List zV
 cons:List a2k
structure a3J where
 name:Nm
 var:Nm
 methods:List (Nm×Ty)
structure a7n where
 cls:Nm
 type:Ty
 vC:List zV
 defs:List jJ
structure a7o where
 name:Nm
 data:Nm
 result:Nm
 cases:List (Nm×List Nm×Pr)
 inv:Pr
structure a7p where
 name:Nm
 vars:List zV
 body:Pr
structure jK where
 a7q:List a7m
 a3K:List a3J
 insts:List a7n
 a7r:List a7o
 b3L:List a7p
 defs:List jJ
def kC:Pr:=⟨0,[],0,[]⟩
def rR:Ty:=⟨0,[],[],[],kC,[]⟩
def a0c:gC:=⟨0,[],0,[],[],[],[]⟩
def a5V:b0g:=⟨[],[],[],[],rR,[]⟩
def psT (op:Int)(name:Nm):Ty:=⟨op,name,[],[],kC,[]⟩
def jF (op:Int)(kids:List gC):gC:=⟨op,[],0,kids,[],[],[]⟩
inductive kJ (α:Type) where
 |ok (a:α) (at':Nat)
 |bad (line err:Int)
def bE (α:Type):=Nat→kJ α
def bE.bI {α:Type}(a:α):bE α:=fun i=> .ok a i
def bE.bnd {α β:Type}(x:bE α)(f:α→bE β):bE β:=fun i=>match x i with
 | .ok a j=>f a j
 | .bad n e=> .bad n e
instance:Monad bE where
 pure:=bE.bI
 bind:=bE.bnd
@[simp] theorem eV {α:Type}(a:α)(i:Nat):(pure a:bE α) i= .ok a i:=rfl
theorem hZ {α β:Type}(x:bE α)(f:α→bE β)(i:Nat):(x >>=f) i=match x i with
 | .ok a j=>f a j
 | .bad n e=> .bad n e:=rfl
theorem bQ {α β:Type}{x:bE α}{f:α→bE β}{i j:Nat}{a:α}(h:x i= .ok a j):(x >>=f) i=f a j:=by rw [hZ,h]
theorem eS {α β:Type}{x:bE α}{f:α→bE β}{i:Nat}{n e:Int}(h:x i= .bad n e):(x >>=f) i= .bad n e:=by rw [hZ,h]
section
variable (kw:Nm→Bool) (andP:Pr→Pr→Pr) (rdP:List Tok→Nat→Nat→kJ Pr) (l:List Tok)
def aZ (i:Nat):Tok:=if i<l.length then l.getD i ⟨0,[],0,0⟩ else l.getLastD ⟨0,[],0,0⟩
def jL (t:Tok)(s:Nm):Bool:=(decide (t.kind=1)||decide (t.kind=4)||decide (t.kind=2))&&decide (t.text=s)
def pF (t:Tok):Bool:=decide (t.kind=1)&& !kw t.text
def pY (t:Tok):Bool:=decide (t.kind=2)
def aQ (i:Nat)(s:Nm):Bool:=jL (aZ l i) s
def dQ {α:Type}:bE α:=fun i=> .bad (aZ l i).line 14
def eC (s:Nm):bE Bool:=fun i=>if aQ l i s then .ok true (i+1) else .ok false i
def aV:List Nm→bE Unit
 |[]=>pure ()
 |s::r=>fun i=>if aQ l i s then aV r (i+1) else dQ l i
def oI (ok:Tok→Bool):bE Nm:=fun i=>if ok (aZ l i) then .ok (aZ l i).text (i+1) else dQ l i
def cA:bE Nm:=oI l (pF kw)
def gM:bE Nm:=oI l pY
def yT:bE Nm:=oI l fun t=>pF kw t||pY t
def oJ {α:Type}(c:Nm)(one:α→bE α):Nat→α→bE α
 |0,_=>fun _=> .bad 0 0
 |g+1,a=>fun i=>match one a i with
  | .bad n e=> .bad n e
  | .ok b j=>if aQ l j c then oJ c one g b (j+1) else .ok b j
def gR {α:Type}(c:Nm)(one:α→bE α)(a:α):bE α:=oJ l c one (l.length+2) a
def eE {α:Type}(c:Nat→Bool)(one:α→bE α):Nat→α→bE α
 |0,_=>fun _=> .bad 0 0
 |g+1,a=>fun i=>if c i then (match one a i with
  | .bad n e=> .bad n e
  | .ok b j=>eE c one g b j) else .ok a i
def pZ {α:Type}(c:Nat→Bool)(one:α→bE α)(a:α):bE α:=eE c one (l.length+2) a
def jM:bE Pr:=fun i=>rdP l i l.length
def gD:bE (List Nm):=do
 aV l [[40]]
 let out ← gR l [44] (fun out=>do let w ← cA kw l;pure (out++[w])) []
 aV l [[41]]
 pure out
def rS (v:Bool):bE (List zV):=gR l [44] (fun out=>do
 let b ← (if v then eC l [118] else pure false)
 let name ← (if b then pure [118] else cA kw l)
 aV l [[58]]
 let s ← yT kw l
 pure (out++[(name,s)])) []
def kK:bE (Option Ty):=fun i=>
 if aQ l i [73,110,116] then .ok (some (psT 1 [])) (i+1)
 else if aQ l i [66,111,111,108] then .ok (some (psT 2 [])) (i+1)
 else if aQ l i [67,101,108,108] then .ok (some (psT 3 [])) (i+1)
 else if pF kw (aZ l i) then .ok (some (psT 5 (aZ l i).text)) (i+1)
 else .ok none i
section
variable (ty:bE Ty)
def tF:bE Ty:=do
 aV l [[123],[118],[58]]
 let t ← ty
 if t.op=6 then dQ l else do
 aV l [[124]]
 let p ← jM rdP l
 aV l [[125]]
 pure { t with pred:=if t.pred.op=0 then p else andP t.pred p }
def b0h (i:Nat):Bool:=pF kw (aZ l i)||pY (aZ l i)||aQ l i [123]||aQ l i [40]
def kL:bE Ty:=do
 let b ← kK kw l
 match b with
 |some t=>pure t
 |none=>
  fun i=>
  if pY (aZ l i) then .ok (psT 4 (aZ l i).text) (i+1)
  else if aQ l i [123] then tF andP rdP l ty i
  else (do
   aV l [[40]]
   let t ← ty
   aV l [[41]]
   pure t:bE Ty) i
def tV:bE Ty:=do
 let name ← gM l
 let args ← pZ l (b0h kw l) (fun out=>do let t ← kL kw andP rdP l ty;pure (out++[t])) []
 let b ← eC l [60]
 if b then do
  let ps ← gR l [44] (fun out=>do
   aV l [[118],[46]]
   let p ← jM rdP l
   pure (out++[p])) []
  aV l [[62]]
  pure { psT 4 name with args:=args,a7l:=ps }
 else pure { psT 4 name with args:=args }
def yU:bE Ty:=do
 aV l [[40]]
 let (ns,ts) ← (fun i=>if pF kw (aZ l i)&&jL (aZ l (i+1)) [58] then
   gR l [44] (fun (out:List Nm×List Ty)=>do
    let w ← cA kw l
    aV l [[58]]
    let t ← ty
    pure (out.1++[w],out.2++[t])) ([],[]) i
  else gR l [44] (fun (out:List Nm×List Ty)=>do
    let t ← ty
    pure (out.1,out.2++[t])) ([],[]) i:bE (List Nm×List Ty))
 aV l [[41]]
 fun i=>
  if decide (ns.length=0)&&decide (ts.length=1)&& !aQ l i [45,62] then .ok (ts.headD rR) i
  else (do
   aV l [[45,62]]
   let t ← ty
   pure { psT 6 [] with names:=ns,args:=ts++[t] }:bE Ty) i
def vD:bE Ty:=do
 let b ← kK kw l
 match b with
 |some t=>pure t
 |none=>
  fun i=>
  if pY (aZ l i) then tV kw andP rdP l ty i
  else if aQ l i [123] then tF andP rdP l ty i
  else yU kw l ty i
end
def rT:Nat→bE Ty
 |0=>fun _=> .bad 0 0
 |n+1=>vD kw andP rdP l (rT n)
def gW:bE Ty:=rT kw andP rdP l (l.length+2)
def wM:bE (List Ty):=do
 let b ← eC l [91]
 if b then do
  let out ← gR l [44] (fun out=>do let t ← gW kw andP rdP l;pure (out++[t])) []
  aV l [[93]]
  pure out
 else pure []
section
variable (ex:Nat→bE gC)
def mF:bE (List gC):=do
 aV l [[40]]
 let out ← gR l [44] (fun out=>do let e ← ex 0;pure (out++[e])) []
 aV l [[41]]
 pure out
def a2P:bE gC:=do
 let name ← cA kw l
 let b ← eC l [58]
 let ts ← (if b then do let t ← gW kw andP rdP l;pure [t] else pure []:bE (List Ty))
 aV l [[61]]
 let a ← ex 0
 aV l [[105,110]]
 let c ← ex 0
 pure { jF 7 [a,c] with name:=name,types:=ts }
def vE:bE gC:=do
 let e ← ex 0
 aV l [[111,102],[123]]
 let alts ← gR l [59] (fun out=>do
  let c ← gM l
  let ns ← (fun i=>if aQ l i [40] then gD kw l i else .ok [] i:bE (List Nm))
  aV l [[45,62]]
  let b ← ex 0
  pure (out++[(c,ns,b)])) []
 aV l [[125]]
 pure { jF 9 [e] with alts:=alts }
def a2Q:bE gC:=do
 aV l [[40]]
 let ps ← gR l [44] (fun out=>do
  let w ← cA kw l
  let b ← eC l [58]
  let t ← (if b then gW kw andP rdP l else pure rR)
  pure (out++[(w,t)])) []
 aV l [[41],[45,62]]
 let e ← ex 0
 pure { jF 6 [e] with params:=ps }
def a0K (op:Int):bE gC:=do
 aV l [[40]]
 let e ← ex 0
 aV l [[41]]
 pure (jF op [e])
def rU:bE gC:=do
 aV l [[40]]
 fun i=>
  if aQ l i [45]&&decide ((aZ l (i+1)).kind=3)&&jL (aZ l (i+2)) [41] then .ok ⟨1,[], -(aZ l (i+1)).n,[],[],[],[]⟩ (i+3)
  else (do
   let e ← ex 0
   let b ← eC l [58]
   let e ← (if b then do let t ← gW kw andP rdP l;pure { jF 26 [e] with types:=[t] } else pure e:bE gC)
   aV l [[41]]
   pure e:bE gC) i
def yV:bE gC:=fun i=>
 if (aZ l i).kind=3 then .ok ⟨1,[],(aZ l i).n,[],[],[],[]⟩ (i+1)
 else if aQ l i [116,114,117,101] then .ok ⟨2,[],1,[],[],[],[]⟩ (i+1)
 else if aQ l i [102,97,108,115,101] then .ok ⟨2,[],0,[],[],[],[]⟩ (i+1)
 else if aQ l i [110,101,119] then a0K l ex 22 (i+1)
 else if aQ l i [103,101,116] then a0K l ex 23 (i+1)
 else if aQ l i [115,101,116] then (do
  aV l [[40]]
  let a ← ex 0
  aV l [[44]]
  let b ← ex 0
  aV l [[41]]
  pure (jF 24 [a,b]):bE gC) (i+1)
 else if pF kw (aZ l i) then
  (if !aQ l (i+1) [91]&& !aQ l (i+1) [40] then .ok { jF 3 [] with name:=(aZ l i).text } (i+1)
  else (do
   let ts ← wM kw andP rdP l
   let ks ← mF l ex
   pure { jF 5 ks with name:=(aZ l i).text,types:=ts }:bE gC) (i+1))
 else if pY (aZ l i) then (do
  let ts ← wM kw andP rdP l
  let ks ← (fun j=>if aQ l j [40] then mF l ex j else .ok [] j:bE (List gC))
  pure { jF 4 ks with name:=(aZ l i).text,types:=ts }:bE gC) (i+1)
 else rU kw andP rdP l ex i
def a3L:bE gC:=fun i=>if aQ l i [45] then (do let e ← ex 7;pure (jF 15 [e]):bE gC) (i+1) else yV kw andP rdP l ex i
def eW (ops:List (Nm×Int))(one:bE gC):Nat→gC→bE gC
 |0,_=>fun _=> .bad 0 0
 |g+1,e=>fun i=>match ops.find? fun p=>aQ l i p.1 with
  |none=> .ok e i
  |some p=>match one (i+1) with
   | .bad n e=> .bad n e
   | .ok x j=>eW ops one g (jF p.2 [e,x]) j
def zW (ops:List (Nm×Int))(one:bE gC):bE gC:=do
 let e ← one
 eW l ops one (l.length+2) e
def a3M:bE gC:=zW l [([42],12),([100,105,118],13),([109,111,100],14)] (a3L kw andP rdP l ex)
def kM:bE gC:=zW l [([43],10),([45],11)] (a3M kw andP rdP l ex)
def a2R:bE gC:=do
 let e ← kM kw andP rdP l ex
 fun i=>
  if aQ l i [61,61] then (do let x ← kM kw andP rdP l ex;pure (jF 16 [e,x]):bE gC) (i+1)
  else if aQ l i [33,61] then (do let x ← kM kw andP rdP l ex;pure (jF 21 [jF 16 [e,x]]):bE gC) (i+1)
  else if aQ l i [60] then (do let x ← kM kw andP rdP l ex;pure (jF 17 [e,x]):bE gC) (i+1)
  else if aQ l i [60,61] then (do let x ← kM kw andP rdP l ex;pure (jF 18 [e,x]):bE gC) (i+1)
  else if aQ l i [62] then (do let x ← kM kw andP rdP l ex;pure (jF 17 [x,e]):bE gC) (i+1)
  else if aQ l i [62,61] then (do let x ← kM kw andP rdP l ex;pure (jF 18 [x,e]):bE gC) (i+1)
  else .ok e i
def yW:bE gC:=fun i=>if aQ l i [33] then (do let e ← ex 3;pure (jF 21 [e]):bE gC) (i+1) else a2R kw andP rdP l ex i
def a7s:bE gC:=zW l [([38,38],19)] (yW kw andP rdP l ex)
def b3M:bE gC:=zW l [([124,124],20)] (a7s kw andP rdP l ex)
def a7t:bE gC:=fun i=>
 if aQ l i [108,101,116] then a2P kw andP rdP l ex (i+1)
 else if aQ l i [105,102] then (do
  let a ← ex 0
  aV l [[116,104,101,110]]
  let b ← ex 0
  aV l [[101,108,115,101]]
  let c ← ex 0
  pure (jF 8 [a,b,c]):bE gC) (i+1)
 else if aQ l i [99,97,115,101] then vE kw l ex (i+1)
 else if aQ l i [102,117,110] then a2Q kw andP rdP l ex (i+1)
 else if aQ l i [117,115,101] then (do
  let name ← cA kw l
  let ks ← mF l ex
  aV l [[105,110]]
  let b ← ex 0
  pure { jF 25 (ks++[b]) with name:=name }:bE gC) (i+1)
 else b3M kw andP rdP l ex i
end
def vF:Nat→Nat→bE gC
 |0,_=>fun _=> .bad 0 0
 |n+1,k=>if k=7 then a3L kw andP rdP l (vF n) else if k=3 then yW kw andP rdP l (vF n) else a7t kw andP rdP l (vF n)
def a2S:bE gC:=vF kw andP rdP l (l.length+2) 0
def sH:bE (List zV):=gR l [44] (fun out=>do
 let c ← gM l
 let w ← cA kw l
 pure (out++[(c,w)])) []
def sI:bE oZ:=do
 let name ← cA kw l
 aV l [[40]]
 let vs ← rS kw l false
 aV l [[41]]
 let h ← jM rdP l
 aV l [[45,62]]
 let g ← jM rdP l
 aV l [[46]]
 pure ⟨name,vs,h,g⟩
def sX:Nat→Int→Nat→Nat
 |0,_,_=>l.length
 |g+1,d,i=>if i<l.length then (if jL (aZ l i) [40] then sX g (d+1) (i+1) else if jL (aZ l i) [41] then sX g (d-1) (i+1) else if jL (aZ l i) [61]&&decide (d≤0) then i else sX g d (i+1)) else l.length
def zX:bE b0g:=do
 let b ← eC l [102,111,114,97,108,108]
 let vs ← (if b then do
  let w ← cA kw l
  let ws ← pZ l (fun i=>pF kw (aZ l i)) (fun out=>do let w ← cA kw l;pure (out++[w])) [w]
  aV l [[46]]
  pure ws else pure []:bE (List Nm))
 let b ← eC l [119,104,101,114,101]
 let ns ← (if b then do
  let ns ← sH kw l
  aV l [[46]]
  pure ns else pure []:bE (List zV))
 let b ← eC l [60]
 let abs ← (if b then do
  let abs ← rS kw l false
  aV l [[62],[46]]
  pure abs else pure []:bE (List zV))
 let bs ← pZ l (fun i=>aQ l i [98,111,117,110,100]) (fun out=>do
  aV l [[98,111,117,110,100]]
  let b ← sI kw rdP l
  pure (out++[b])) []
 let t ← gW kw andP rdP l
 let b ← eC l [109,101,116,114,105,99]
 let ms ← (if b then (fun i=>gR l [44] (fun out=>do
  let p ← (fun j=>rdP l j (sX l (l.length+1) 0 i):bE Pr)
  pure (out++[p])) [] i) else pure []:bE (List Pr))
 pure ⟨vs,ns,abs,bs,t,ms⟩
def yX (mode:Int):bE jJ:=do
 let name ← cA kw l
 let ps ← (fun i=>if aQ l i [40] then (if jL (aZ l (i+1)) [41] then .ok [] (i+2) else gD kw l i) else .ok [] i:bE (List Nm))
 pure ⟨name,ps,a0c,mode,false,a5V⟩
def yY (d:jJ):bE (Option jJ):=do
 aV l [[61]]
 let e ← a2S kw andP rdP l
 pure (some { d with body:=e })
def vG:bE (Option jJ):=fun i=>
 if aQ l i [100,101,102] then (do
  let d ← yX kw l 0
  let b ← eC l [58]
  let d ← (if b then do let s ← zX kw andP rdP l;pure { d with typed:=true,sig:=s } else pure d:bE jJ)
  yY kw andP rdP l d:bE (Option jJ)) (i+1)
 else if aQ l i [97,115,115,117,109,101] then (do
  let d ← yX kw l 1
  aV l [[58]]
  let s ← zX kw andP rdP l
  pure (some { d with typed:=true,sig:=s }):bE (Option jJ)) (i+1)
 else if aQ l i [114,101,102,108,101,99,116] then (do
  let d ← yX kw l 2
  aV l [[58]]
  let s ← zX kw andP rdP l
  yY kw andP rdP l { d with typed:=true,sig:=s }:bE (Option jJ)) (i+1)
 else .ok none i
def a5B:bE a2k:=do
 let name ← gM l
 let b ← eC l [40]
 if b then do
  let (ns,ts) ← gR l [44] (fun (out:List Nm×List Ty)=>do
   let w ← cA kw l
   aV l [[58]]
   let t ← gW kw andP rdP l
   pure (out.1++[w],out.2++[t])) ([],[])
  aV l [[41]]
  pure ⟨name,ns,ts⟩
 else pure ⟨name,[],[]⟩
def yZ:bE a7m:=do
 let name ← gM l
 let vs ← pZ l (fun i=>pF kw (aZ l i)) (fun out=>do let w ← cA kw l;pure (out++[w])) []
 let b ← eC l [60]
 let ps ← (if b then do
  let ps ← rS kw l false
  aV l [[62]]
  pure ps else pure []:bE (List zV))
 aV l [[61]]
 let cs ← gR l [124] (fun out=>do let c ← a5B kw andP rdP l;pure (out++[c])) []
 pure ⟨name,vs,ps,cs⟩
def tW:bE a3J:=do
 let name ← gM l
 let v ← cA kw l
 aV l [[119,105,116,104]]
 let ms ← gR l [44] (fun out=>do
  let w ← cA kw l
  aV l [[58]]
  let t ← gW kw andP rdP l
  pure (out++[(w,t)])) []
 pure ⟨name,v,ms⟩
def a0L:bE a7n:=do
 let c ← gM l
 let t ← kL kw andP rdP l (gW kw andP rdP l)
 let b ← eC l [119,104,101,114,101]
 let ns ← (if b then sH kw l else pure [])
 aV l [[123]]
 let ds ← pZ l (fun i=>aQ l i [100,101,102]) (fun out=>do
  let d ← vG kw andP rdP l
  aV l [[59]]
  pure (out++[d.getD ⟨[],[],a0c,0,false,a5V⟩])) []
 aV l [[125]]
 pure ⟨c,t,ns,ds⟩
def a0M:bE a7o:=do
 let name ← cA kw l
 aV l [[58]]
 let d ← gM l
 aV l [[45,62]]
 let s ← yT kw l
 aV l [[123]]
 let cs ← gR l [59] (fun out=>do
  let c ← gM l
  let ns ← (fun i=>if aQ l i [40] then gD kw l i else .ok [] i:bE (List Nm))
  aV l [[61]]
  let p ← jM rdP l
  pure (out++[(c,ns,p)])) []
 aV l [[125]]
 let b ← eC l [105,110,118,97,114,105,97,110,116]
 let p ← (if b then jM rdP l else pure kC)
 pure ⟨name,d,s,cs,p⟩
def a0N:bE a7p:=do
 let name ← cA kw l
 aV l [[40]]
 let vs ← rS kw l true
 aV l [[41],[58]]
 let p ← jM rdP l
 pure ⟨name,vs,p⟩
def rV (m:jK):bE jK:=fun i=>
 if aQ l i [100,97,116,97] then (do let x ← yZ kw andP rdP l;pure { m with a7q:=m.a7q++[x] }:bE jK) (i+1)
 else if aQ l i [99,108,97,115,115] then (do let x ← tW kw andP rdP l;pure { m with a3K:=m.a3K++[x] }:bE jK) (i+1)
 else if aQ l i [105,110,115,116] then (do let x ← a0L kw andP rdP l;pure { m with insts:=m.insts++[x] }:bE jK) (i+1)
 else if aQ l i [109,101,97,115,117,114,101] then (do let x ← a0M kw rdP l;pure { m with a7r:=m.a7r++[x] }:bE jK) (i+1)
 else if aQ l i [113,117,97,108] then (do let x ← a0N kw rdP l;pure { m with b3L:=m.b3L++[x] }:bE jK) (i+1)
 else (do
  let d ← vG kw andP rdP l
  match d with
  |some d=>pure { m with defs:=m.defs++[d] }
  |none=>dQ l:bE jK) i
def xU:bE Unit:=fun i=>if (aZ l i).kind=0 then .ok () i else dQ l i
def a7u:bE jK:=pZ l (fun i=> !decide ((aZ l i).kind=0)) (fun m=>do
 let m ← rV kw andP rdP l m
 aV l [[59]]
 pure m) ⟨[],[],[],[],[],[]⟩
end
end Go.Proofs.YtjpodcmhcenjjaaGreatDoor
end
section
namespace Go.Proofs.YtjpodcmhcenjjaaGreatDoor
def sY (l:List Tok):Prop:=l≠[]∧(aZ l (l.length-1)).kind=0
def aA {α:Type}(l:List Tok)(m:Nat)(x:bE α):Prop:=∀(i:Nat) (a:α) (j:Nat),i<l.length→x i= .ok a j→i+m≤j∧j<l.length
section
variable {kw:Nm→Bool} {andP:Pr→Pr→Pr} {rdP:List Tok→Nat→Nat→kJ Pr} {l:List Tok} {α β:Type} {m k:Nat}
theorem aA.le {x:bE α}(h:aA l m x)(hk:k≤m):aA l k x:=fun i a j hi hx=>by have:=h i a j hi hx;omega
theorem aA.bI (a:α):aA l 0 (pure a:bE α):=fun i b j hi h=>by rw [eV] at h;cases h;omega
theorem aA.bl {x:bE α}{f:α→bE β}(hx:aA l m x)(hf:∀a,aA l 0 (f a)):aA l m (x >>=f):=fun i b j hi h=>by
 rw [hZ] at h;cases hxi:x i with
 |bad n e=>rw [hxi] at h;cases h
 |ok a j'=>rw [hxi] at h;have h1:=hx i a j' hi hxi;have h2:=hf a j' b j h1.2 h;omega
theorem aA.br {x:bE α}{f:α→bE β}(hx:aA l 0 x)(hf:∀a,aA l m (f a)):aA l m (x >>=f):=fun i b j hi h=>by
 rw [hZ] at h;cases hxi:x i with
 |bad n e=>rw [hxi] at h;cases h
 |ok a j'=>rw [hxi] at h;have h1:=hx i a j' hi hxi;have h2:=hf a j' b j h1.2 h;omega
theorem aA.ite {c:Prop}[Decidable c]{x y:bE α}(hx:aA l m x)(hy:aA l m y):aA l m (if c then x else y):=by
 split
 ·exact hx
 ·exact hy
theorem aA.failed:aA l m (dQ l:bE α):=fun i a j hi h=>by unfold dQ at h;cases h
variable (hE:sY l)
include hE
theorem pN {i:Nat}(hi:i<l.length)(h:(aZ l i).kind≠0):i+1<l.length:=by
 rcases Nat.lt_or_ge (i+1) l.length with h'|h'
 ·exact h'
 ·have:i=l.length-1:=by omega
  rw [this] at h;exact absurd hE.2 h
theorem vH {t:Tok}{s:Nm}(h:jL t s=true):t.kind≠0:=by unfold jL at h;simp only [d3H,d3T,decide_eq_true_eq] at h;omega
theorem aF {i:Nat}{s:Nm}(hi:i<l.length)(h:aQ l i s=true):i+1<l.length:=pN hE hi (vH hE h)
theorem b0i {i:Nat}(hi:i<l.length)(h:pY (aZ l i)=true):i+1<l.length:=pN hE hi (by unfold pY at h;simp only [decide_eq_true_eq] at h;omega)
theorem b0j {i:Nat}(hi:i<l.length)(h:pF kw (aZ l i)=true):i+1<l.length:=pN hE hi (by unfold pF at h;simp only [d3H,decide_eq_true_eq] at h;omega)
theorem aA.d1E:∀(s:List Nm),aA l s.length (aV l s)
 |[]=>aA.bI ()
 |s::r=>fun i a j hi h=>by
  unfold aV at h;split at h
  ·rename_i hs;have:=aA.d1E r (i+1) a j (aF hE hi hs) h;simp only [List.length_cons];omega
  ·unfold dQ at h;cases h
theorem aA.exp (s:Nm)(r:List Nm):aA l 1 (aV l (s::r)):=(aA.d1E hE (s::r)).le (by simp only [List.length_cons];omega)
theorem aA.skip (s:Nm):aA l 0 (eC l s):=fun i a j hi h=>by
 unfold eC at h;split at h
 ·rename_i hs;have:=aF hE hi hs;cases h;omega
 ·cases h;omega
theorem aA.take {ok:Tok→Bool}(hk:∀t,ok t=true→t.kind≠0):aA l 1 (oI l ok):=fun i a j hi h=>by
 unfold oI at h;split at h
 ·rename_i hs;have:=pN hE hi (hk _ hs);cases h;omega
 ·unfold dQ at h;cases h
theorem aA.word:aA l 1 (cA kw l):=aA.take hE fun t h=>by unfold pF at h;simp only [d3H,decide_eq_true_eq] at h;omega
theorem aA.title:aA l 1 (gM l):=aA.take hE fun t h=>by unfold pY at h;simp only [decide_eq_true_eq] at h;omega
theorem aA.sort:aA l 1 (yT kw l):=aA.take hE fun t h=>by unfold pF pY at h;simp only [d3T,d3H,decide_eq_true_eq] at h;omega
theorem aA.loop {c:Nm}{one:α→bE α}(h1:∀a,aA l m (one a)):∀(g:Nat) (a:α),aA l m (oJ l c one g a)
 |0,a=>fun i b j hi h=>by unfold oJ at h;cases h
 |g+1,a=>fun i b j hi h=>by
  unfold oJ at h;split at h
  ·cases h
  ·rename_i a' j' ho;have h2:=h1 a i a' j' hi ho;split at h
   ·rename_i hs;have h3:=aA.loop h1 g a' (j'+1) b j (aF hE h2.2 hs) h;omega
   ·cases h;exact h2
theorem aA.list {c:Nm}{one:α→bE α}(h1:∀a,aA l m (one a))(a:α):aA l m (gR l c one a):=aA.loop hE h1 _ a
omit hE in
theorem aA.c1c {c:Nat→Bool}{one:α→bE α}(h1:∀a,aA l 0 (one a)):∀(g:Nat) (a:α),aA l 0 (eE c one g a)
 |0,a=>fun i b j hi h=>by unfold eE at h;cases h
 |g+1,a=>fun i b j hi h=>by
  unfold eE at h;split at h
  ·split at h
   ·cases h
   ·rename_i a' j' ho;have h2:=h1 a i a' j' hi ho;have h3:=aA.c1c h1 g a' j' b j h2.2 h;omega
  ·cases h;omega
omit hE in
theorem aA.many {c:Nat→Bool}{one:α→bE α}(h1:∀a,aA l 0 (one a))(a:α):aA l 0 (pZ l c one a):=aA.c1c h1 _ a
theorem aA.words:aA l 1 (gD kw l):=by unfold gD;exact (aA.exp hE _ _).bl fun _=>(aA.list hE (m:=0) (fun a=>(((aA.word hE).le (by omega)).bl fun _=>aA.bI _)) _).bl fun _=>((aA.exp hE _ _).le (by omega)).bl fun _=>aA.bI _
theorem aA.vars (v:Bool):aA l 1 (rS kw l v):=by
 unfold rS;refine aA.list hE (fun a=>?_) _;refine aA.br (aA.ite (aA.skip hE _) (aA.bI _)) fun b=>?_
 refine aA.br (aA.ite (aA.bI _) ((aA.word hE).le (by omega))) fun nm=>?_
 exact (aA.exp hE _ _).bl fun _=>((aA.sort hE).le (by omega)).bl fun _=>aA.bI _
theorem a0O {i j:Nat}{t:Ty}(hi:i<l.length)(h:kK kw l i= .ok (some t) j):j=i+1∧j<l.length:=by
 unfold kK at h
 repeat' split at h
 all_goals first|cases h|skip
 all_goals rename_i hs
 all_goals first
  |exact ⟨rfl,b0j hE hi hs⟩
  |exact ⟨rfl,aF hE hi hs⟩
omit hE in
theorem qH {i j:Nat}(h:kK kw l i= .ok none j):j=i:=by
 unfold kK at h
 repeat' split at h
 all_goals first|(cases h;rfl)|cases h
theorem aA.base:aA l 0 (kK kw l):=fun i a j hi h=>by
 cases a with
 |none=>have:=qH h;omega
 |some t=>have:=a0O hE hi h;omega
section
variable {ty:bE Ty} (hty:aA l 0 ty) (hP:aA l 0 (jM rdP l))
include hty hP
theorem aA.c1d:aA l 1 (tF andP rdP l ty):=by
 unfold tF;refine (aA.exp hE _ _).bl fun _=>hty.bl fun t=>?_
 refine aA.ite aA.failed ?_
 exact ((aA.exp hE _ _).le (by omega)).bl fun _=>hP.bl fun _=>((aA.exp hE _ _).le (by omega)).bl fun _=>aA.bI _
theorem aA.zA:aA l 1 (kL kw andP rdP l ty):=fun i a j hi h=>by
 unfold kL at h;rw [hZ] at h;cases hb:kK kw l i with
 |bad n e=>rw [hb] at h;cases h
 |ok o j'=>
  rw [hb] at h;cases o with
  |some t=>have:=a0O hE hi hb;simp only [eV] at h;cases h;omega
  |none=>
   have:=qH hb;subst this;simp only at h;split at h
   ·rename_i hs;have:=b0i hE hi hs;cases h;omega
   ·split at h
    ·exact aA.c1d hE hty hP _ a j hi h
    ·exact ((aA.exp hE _ _).bl fun _=>hty.bl fun _=>((aA.exp hE _ _).le (by omega)).bl fun _=>aA.bI _) _ a j hi h
theorem aA.c1e:aA l 1 (tV kw andP rdP l ty):=by
 unfold tV;refine (aA.title hE).bl fun name=>aA.bl (aA.many (fun a=>?_) _) fun args=>(aA.skip hE _).bl fun b=>aA.ite ?_ (aA.bI _)
 ·exact ((aA.zA hE hty hP).le (by omega)).bl fun _=>aA.bI _
 ·refine aA.bl (aA.list hE (fun a=>?_) _) fun _=>((aA.exp hE _ _).le (by omega)).bl fun _=>aA.bI _
  exact ((aA.exp hE _ _).le (by omega)).bl fun _=>hP.bl fun _=>aA.bI _
theorem aA.c5P:aA l 1 (yU kw l ty):=by
 unfold yU;refine (aA.exp hE _ _).bl fun _=>aA.bl (m:=0) (fun i a j hi h=>?_) fun p=>?_
 ·split at h
  ·exact aA.list hE (fun a=>((aA.word hE).le (by omega)).bl fun _=>((aA.exp hE _ _).le (by omega)).bl fun _=>hty.bl fun _=>aA.bI _) _ i a j hi h
  ·exact aA.list hE (fun a=>hty.bl fun _=>aA.bI _) _ i a j hi h
 ·refine ((aA.exp hE _ _).le (by omega)).bl fun _=>fun i a j hi h=>?_
  split at h
  ·cases h;omega
  ·exact (((aA.exp hE _ _).le (by omega:0≤1)).bl fun _=>hty.bl fun _=>aA.bI _) i a j hi h
theorem aA.c5Q:aA l 1 (vD kw andP rdP l ty):=fun i a j hi h=>by
 unfold vD at h;rw [hZ] at h;cases hb:kK kw l i with
 |bad n e=>rw [hb] at h;cases h
 |ok o j'=>
  rw [hb] at h;cases o with
  |some t=>have:=a0O hE hi hb;simp only [eV] at h;cases h;omega
  |none=>
   have:=qH hb;subst this;simp only at h;split at h
   ·exact aA.c1e hE hty hP _ a j hi h
   ·split at h
    ·exact aA.c1d hE hty hP _ a j hi h
    ·exact aA.c5P hE hty hP _ a j hi h
end
theorem aA.b3N (hP:aA l 0 (jM rdP l)):∀n,aA l 1 (rT kw andP rdP l n)
 |0=>fun i a j hi h=>by unfold rT at h;cases h
 |n+1=>aA.c5Q hE ((aA.b3N hP n).le (by omega)) hP
theorem aA.typ (hP:aA l 0 (jM rdP l)):aA l 1 (gW kw andP rdP l):=aA.b3N hE hP _
theorem aA.types (hP:aA l 0 (jM rdP l)):aA l 0 (wM kw andP rdP l):=by
 unfold wM;refine (aA.skip hE _).bl fun b=>aA.ite ?_ (aA.bI _)
 exact aA.bl (aA.list hE (fun a=>((aA.typ hE hP).le (by omega)).bl fun _=>aA.bI _) _) fun _=>((aA.exp hE _ _).le (by omega)).bl fun _=>aA.bI _
end
end Go.Proofs.YtjpodcmhcenjjaaGreatDoor
end
section
namespace Go.Proofs.YtjpodcmhcenjjaaGreatDoor
section
variable {kw:Nm→Bool} {andP:Pr→Pr→Pr} {rdP:List Tok→Nat→Nat→kJ Pr} {l:List Tok} {α β:Type} {m k:Nat}
theorem aA.nxt {x:bE α}(hx:aA l 0 x){i j:Nat}{a:α}(hi:i+1<l.length)(h:x (i+1)= .ok a j):i+1≤j∧j<l.length:=by have:=hx (i+1) a j hi h;omega
variable (hE:sY l)
include hE
section
variable {ex:Nat→bE gC} (hx:∀k,aA l 1 (ex k))
include hx
theorem aA.mL:aA l 1 (mF l ex):=by unfold mF;exact (aA.exp hE _ _).bl fun _=>aA.bl (aA.list hE (fun a=>((hx 0).le (by omega)).bl fun _=>aA.bI _) _) fun _=>((aA.exp hE _ _).le (by omega)).bl fun _=>aA.bI _
theorem aA.c1f (op:Int):aA l 1 (a0K l ex op):=by unfold a0K;exact (aA.exp hE _ _).bl fun _=>((hx 0).le (by omega)).bl fun _=>((aA.exp hE _ _).le (by omega)).bl fun _=>aA.bI _
theorem aA.b5R:aA l 1 (vE kw l ex):=by
 unfold vE;refine (hx 0).bl fun _=>((aA.exp hE _ _).le (by omega)).bl fun _=>aA.bl (aA.list hE (fun a=>?_) _) fun _=>((aA.exp hE _ _).le (by omega)).bl fun _=>aA.bI _
 refine ((aA.title hE).le (by omega)).bl fun _=>aA.bl (fun i b j hi h=>?_) fun _=>((aA.exp hE _ _).le (by omega)).bl fun _=>((hx 0).le (by omega)).bl fun _=>aA.bI _
 split at h
 ·exact ((aA.words hE).le (by omega)) _ _ _ hi h
 ·cases h;omega
section
variable (hP:aA l 0 (jM rdP l))
include hP
theorem aA.c9U:aA l 1 (a2P kw andP rdP l ex):=by
 unfold a2P;refine (aA.word hE).bl fun _=>(aA.skip hE _).bl fun _=>aA.bl (aA.ite (((aA.typ hE hP).le (by omega)).bl fun _=>aA.bI _) (aA.bI _)) fun _=>?_
 exact ((aA.exp hE _ _).le (by omega)).bl fun _=>((hx 0).le (by omega)).bl fun _=>((aA.exp hE _ _).le (by omega)).bl fun _=>((hx 0).le (by omega)).bl fun _=>aA.bI _
theorem aA.c9V:aA l 1 (a2Q kw andP rdP l ex):=by
 unfold a2Q;refine (aA.exp hE _ _).bl fun _=>aA.bl (aA.list hE (fun a=>?_) _) fun _=>((aA.exp hE _ _).le (by omega)).bl fun _=>((hx 0).le (by omega)).bl fun _=>aA.bI _
 exact ((aA.word hE).le (by omega)).bl fun _=>(aA.skip hE _).bl fun _=>aA.bl (aA.ite ((aA.typ hE hP).le (by omega)) (aA.bI _)) fun _=>aA.bI _
theorem aA.b1x:aA l 1 (rU kw andP rdP l ex):=by
 unfold rU;refine (aA.exp hE _ _).bl fun _=>fun i a j hi h=>?_
 split at h
 ·rename_i hc;simp only [d3H,decide_eq_true_eq] at hc;have h2:=pN hE hi (vH hE (show jL (aZ l i) [45]=true from hc.1.1));have h3:=pN hE h2 (by omega);have h4:=pN hE h3 (vH hE hc.2);cases h;omega
 ·exact (((hx 0).le (by omega:0≤1)).bl fun e=>(aA.skip hE _).bl fun b=>aA.bl (aA.ite (((aA.typ (kw:=kw) (andP:=andP) hE hP).le (by omega:0≤1)).bl fun t=>aA.bI _) (aA.bI _)) fun e=>((aA.exp hE _ _).le (by omega:0≤1)).bl fun _=>aA.bI _) i a j hi h
theorem aA.c1g:aA l 1 (yV kw andP rdP l ex):=fun i a j hi h=>by
 unfold yV at h;split at h
 ·rename_i hk;have:=pN hE hi (by omega);cases h;omega
 split at h
 ·rename_i hs;have:=aF hE hi hs;cases h;omega
 split at h
 ·rename_i hs;have:=aF hE hi hs;cases h;omega
 split at h
 ·rename_i hs;exact ((aA.c1f hE hx _).le (by omega)).nxt (aF hE hi hs) h
 split at h
 ·rename_i hs;exact ((aA.c1f hE hx _).le (by omega)).nxt (aF hE hi hs) h
 split at h
 ·rename_i hs;exact (((aA.exp hE _ _).le (by omega:0≤1)).bl fun _=>((hx 0).le (by omega:0≤1)).bl fun _=>((aA.exp hE _ _).le (by omega:0≤1)).bl fun _=>((hx 0).le (by omega:0≤1)).bl fun _=>((aA.exp hE _ _).le (by omega:0≤1)).bl fun _=>aA.bI _).nxt (aF hE hi hs) h
 split at h
 ·rename_i hs;have hn:=b0j hE hi hs;split at h
  ·cases h;omega
  ·exact ((aA.types hE hP).bl fun _=>((aA.mL hE hx).le (by omega:0≤1)).bl fun _=>aA.bI _).nxt hn h
 split at h
 ·rename_i hs;refine ((aA.types hE hP).bl fun _=>aA.bl (m:=0) (fun i a j hi h=>?_) fun _=>aA.bI _).nxt (b0i hE hi hs) h;split at h
  ·exact ((aA.mL hE hx).le (by omega)) _ _ _ hi h
  ·cases h;omega
 exact aA.b1x hE hx hP _ _ _ hi h
theorem aA.unG:aA l 1 (a3L kw andP rdP l ex):=fun i a j hi h=>by
 unfold a3L at h;split at h
 ·rename_i hs;exact (((hx 7).le (by omega:0≤1)).bl fun _=>aA.bI _).nxt (aF hE hi hs) h
 ·exact aA.c1g hE hx hP _ _ _ hi h
omit hx hP in
theorem aA.chain {ops:List (Nm×Int)}{one:bE gC}(h1:aA l 0 one):∀(g:Nat) (e:gC),aA l 0 (eW l ops one g e)
 |0,e=>fun i b j hi h=>by unfold eW at h;cases h
 |g+1,e=>fun i b j hi h=>by
  unfold eW at h;split at h
  ·cases h;omega
  ·rename_i p hp;have hs:aQ l i p.1=true:=List.find?_some (p:=fun p:Nm×Int=>aQ l i p.1) hp;split at h
   ·cases h
   ·rename_i x j' ho;have h2:=h1.nxt (aF hE hi hs) ho;have h3:=aA.chain h1 g _ j' b j h2.2 h;omega
omit hx hP in
theorem aA.lvl {ops:List (Nm×Int)}{one:bE gC}(h1:aA l 1 one):aA l 1 (zW l ops one):=by unfold zW;exact h1.bl fun _=>aA.chain hE (h1.le (by omega)) _ _
theorem aA.c1h:aA l 1 (a3M kw andP rdP l ex):=aA.lvl hE (aA.unG hE hx hP)
theorem aA.a5W:aA l 1 (kM kw andP rdP l ex):=aA.lvl hE (aA.c1h hE hx hP)
theorem aA.a7v:aA l 1 (a2R kw andP rdP l ex):=by
 unfold a2R;refine (aA.a5W hE hx hP).bl fun e=>fun i a j hi h=>?_
 repeat' split at h
 all_goals first
  |(cases h;omega)
  |(rename_i hs
    have:=(((aA.a5W hE hx hP).le (by omega:0≤1)).bl fun _=>aA.bI _).nxt (aF hE hi hs) h;omega)
theorem aA.b1y:aA l 1 (yW kw andP rdP l ex):=fun i a j hi h=>by
 unfold yW at h;split at h
 ·rename_i hs;exact (((hx 3).le (by omega:0≤1)).bl fun _=>aA.bI _).nxt (aF hE hi hs) h
 ·exact aA.a7v hE hx hP _ _ _ hi h
theorem aA.orG:aA l 1 (b3M kw andP rdP l ex):=aA.lvl hE (aA.lvl hE (aA.b1y hE hx hP))
theorem aA.exG:aA l 1 (a7t kw andP rdP l ex):=fun i a j hi h=>by
 unfold a7t at h;split at h
 ·rename_i hs;exact ((aA.c9U hE hx hP).le (by omega)).nxt (aF hE hi hs) h
 split at h
 ·rename_i hs;exact (((hx 0).le (by omega:0≤1)).bl fun _=>((aA.exp hE _ _).le (by omega:0≤1)).bl fun _=>((hx 0).le (by omega:0≤1)).bl fun _=>((aA.exp hE _ _).le (by omega:0≤1)).bl fun _=>((hx 0).le (by omega:0≤1)).bl fun _=>aA.bI _).nxt (aF hE hi hs) h
 split at h
 ·rename_i hs;exact ((aA.b5R hE hx).le (by omega)).nxt (aF hE hi hs) h
 split at h
 ·rename_i hs;exact ((aA.c9V hE hx hP).le (by omega)).nxt (aF hE hi hs) h
 split at h
 ·rename_i hs;exact (((aA.word hE).le (by omega:0≤1)).bl fun _=>((aA.mL hE hx).le (by omega:0≤1)).bl fun _=>((aA.exp hE _ _).le (by omega:0≤1)).bl fun _=>((hx 0).le (by omega:0≤1)).bl fun _=>aA.bI _).nxt (aF hE hi hs) h
 exact aA.orG hE hx hP _ _ _ hi h
end
end
theorem aA.exF (hP:aA l 0 (jM rdP l)):∀n k,aA l 1 (vF kw andP rdP l n k)
 |0,k=>fun i a j hi h=>by unfold vF at h;cases h
 |n+1,k=>by unfold vF;exact aA.ite (aA.unG hE (aA.exF hP n) hP) (aA.ite (aA.b1y hE (aA.exF hP n) hP) (aA.exG hE (aA.exF hP n) hP))
theorem aA.expr (hP:aA l 0 (jM rdP l)):aA l 1 (a2S kw andP rdP l):=aA.exF hE hP _ _
end
end Go.Proofs.YtjpodcmhcenjjaaGreatDoor
end
section
namespace Go.Proofs.YtjpodcmhcenjjaaGreatDoor
section
variable {kw:Nm→Bool} {andP:Pr→Pr→Pr} {rdP:List Tok→Nat→Nat→kJ Pr} {l:List Tok} {α β:Type} {m k:Nat}
variable (hE:sY l)
include hE
theorem aA.vC:aA l 1 (sH kw l):=by unfold sH;exact aA.list hE (fun a=>(aA.title hE).bl fun _=>((aA.word hE).le (by omega)).bl fun _=>aA.bI _) _
theorem aA.head (mode:Int):aA l 1 (yX kw l mode):=by
 unfold yX;refine (aA.word hE).bl fun name=>aA.bl (m:=0) (fun i a j hi h=>?_) fun _=>aA.bI _
 split at h
 ·rename_i hs;have h1:=aF hE hi hs;split at h
  ·rename_i hf;have h2:=pN hE h1 (vH hE hf);cases h;omega
  ·exact ((aA.words hE).le (by omega)) _ _ _ hi h
 ·cases h;omega
variable (hP:aA l 0 (jM rdP l))
include hP
theorem aA.bound:aA l 1 (sI kw rdP l):=by unfold sI;exact (aA.word hE).bl fun _=>((aA.exp hE _ _).le (by omega)).bl fun _=>((aA.vars hE _).le (by omega)).bl fun _=>((aA.exp hE _ _).le (by omega)).bl fun _=>hP.bl fun _=>((aA.exp hE _ _).le (by omega)).bl fun _=>hP.bl fun _=>((aA.exp hE _ _).le (by omega)).bl fun _=>aA.bI _
theorem aA.con:aA l 1 (a5B kw andP rdP l):=by
 unfold a5B;refine (aA.title hE).bl fun _=>(aA.skip hE _).bl fun b=>aA.ite ?_ (aA.bI _)
 refine aA.bl (aA.list hE (fun a=>?_) _) fun _=>((aA.exp hE _ _).le (by omega)).bl fun _=>aA.bI _
 exact ((aA.word hE).le (by omega)).bl fun _=>((aA.exp hE _ _).le (by omega)).bl fun _=>((aA.typ hE hP).le (by omega)).bl fun _=>aA.bI _
theorem aA.data:aA l 1 (yZ kw andP rdP l):=by
 unfold yZ;refine (aA.title hE).bl fun _=>aA.bl (aA.many (fun a=>((aA.word hE).le (by omega)).bl fun _=>aA.bI _) _) fun _=>(aA.skip hE _).bl fun b=>?_
 refine aA.bl (aA.ite (((aA.vars hE _).le (by omega)).bl fun _=>((aA.exp hE _ _).le (by omega)).bl fun _=>aA.bI _) (aA.bI _)) fun _=>((aA.exp hE _ _).le (by omega)).bl fun _=>?_
 exact aA.bl (aA.list hE (fun a=>((aA.con hE hP).le (by omega)).bl fun _=>aA.bI _) _) fun _=>aA.bI _
theorem aA.cls:aA l 1 (tW kw andP rdP l):=by
 unfold tW;refine (aA.title hE).bl fun _=>((aA.word hE).le (by omega)).bl fun _=>((aA.exp hE _ _).le (by omega)).bl fun _=>aA.bl (aA.list hE (fun a=>?_) _) fun _=>aA.bI _
 exact ((aA.word hE).le (by omega)).bl fun _=>((aA.exp hE _ _).le (by omega)).bl fun _=>((aA.typ hE hP).le (by omega)).bl fun _=>aA.bI _
theorem aA.c1i:aA l 1 (a0M kw rdP l):=by
 unfold a0M;refine (aA.word hE).bl fun _=>((aA.exp hE _ _).le (by omega)).bl fun _=>((aA.title hE).le (by omega)).bl fun _=>((aA.exp hE _ _).le (by omega)).bl fun _=>((aA.sort hE).le (by omega)).bl fun _=>((aA.exp hE _ _).le (by omega)).bl fun _=>?_
 refine aA.bl (aA.list hE (fun a=>?_) _) fun _=>((aA.exp hE _ _).le (by omega)).bl fun _=>(aA.skip hE _).bl fun b=>(aA.ite hP (aA.bI _)).bl fun _=>aA.bI _
 refine ((aA.title hE).le (by omega)).bl fun _=>aA.bl (m:=0) (fun i a j hi h=>?_) fun _=>((aA.exp hE _ _).le (by omega)).bl fun _=>hP.bl fun _=>aA.bI _
 split at h
 ·exact ((aA.words hE).le (by omega)) _ _ _ hi h
 ·cases h;omega
theorem aA.c1j:aA l 1 (a0N kw rdP l):=by unfold a0N;exact (aA.word hE).bl fun _=>((aA.exp hE _ _).le (by omega)).bl fun _=>((aA.vars hE _).le (by omega)).bl fun _=>((aA.exp hE _ _).le (by omega)).bl fun _=>hP.bl fun _=>aA.bI _
theorem aA.body (d:jJ):aA l 1 (yY kw andP rdP l d):=by unfold yY;exact (aA.exp hE _ _).bl fun _=>((aA.expr hE hP).le (by omega)).bl fun _=>aA.bI _
def vI (rdP:List Tok→Nat→Nat→kJ Pr)(l:List Tok):Prop:=∀e i p j,i<l.length→rdP l i e= .ok p j→i≤j∧j<l.length
omit hE hP in
theorem vI.pred (h:vI rdP l):aA l 0 (jM rdP l):=fun i a j hi hx=>by have:=h l.length i a j hi hx;omega
end
section
variable {kw:Nm→Bool} {andP:Pr→Pr→Pr} {rdP:List Tok→Nat→Nat→kJ Pr} {l:List Tok}
variable (hE:sY l) (hB:vI rdP l)
include hE hB
theorem aA.sig:aA l 1 (zX kw andP rdP l):=by
 have hP:=hB.pred;unfold zX;refine aA.br (aA.skip hE _) fun b=>aA.br (aA.ite (((aA.word hE).le (by omega)).bl fun _=>(aA.many (fun a=>((aA.word hE).le (by omega)).bl fun _=>aA.bI _) _).bl fun _=>((aA.exp hE _ _).le (by omega)).bl fun _=>aA.bI _) (aA.bI _)) fun _=>?_
 refine aA.br (aA.skip hE _) fun b=>aA.br (aA.ite (((aA.vC hE).le (by omega)).bl fun _=>((aA.exp hE _ _).le (by omega)).bl fun _=>aA.bI _) (aA.bI _)) fun _=>?_
 refine aA.br (aA.skip hE _) fun b=>aA.br (aA.ite (((aA.vars hE _).le (by omega)).bl fun _=>((aA.exp hE _ _).le (by omega)).bl fun _=>aA.bI _) (aA.bI _)) fun _=>?_
 refine aA.br (aA.many (fun a=>((aA.exp hE _ _).le (by omega)).bl fun _=>((aA.bound hE hP).le (by omega)).bl fun _=>aA.bI _) _) fun _=>?_
 refine (aA.typ hE hP).bl fun _=>(aA.skip hE _).bl fun b=>aA.bl (aA.ite (fun i a j hi h=>?_) (aA.bI _)) fun _=>aA.bI _
 refine aA.list hE (m:=0) (fun a=>aA.bl (m:=0) (fun i' p j' hi' h'=>?_) fun _=>aA.bI _) _ i a j hi h;have:=hB _ _ _ _ hi' h';omega
theorem aA.defn {i j:Nat}{d:Option jJ}(hi:i<l.length)(h:vG kw andP rdP l i= .ok d j):(d=none∧j=i)∨(i+1≤j∧j<l.length):=by
 have hP:=hB.pred;unfold vG at h;split at h
 ·rename_i hs;refine .inr (((((aA.head hE _).le (by omega:0≤1)).bl fun _=>(aA.skip hE _).bl fun _=>aA.bl (aA.ite (((aA.sig hE hB).le (by omega:0≤1)).bl fun _=>aA.bI _) (aA.bI _)) fun _=>((aA.body hE hP _).le (by omega:0≤1)))).nxt (aF hE hi hs) h)
 split at h
 ·rename_i hs;exact .inr ((((aA.head hE _).le (by omega:0≤1)).bl fun _=>((aA.exp hE _ _).le (by omega:0≤1)).bl fun _=>((aA.sig hE hB).le (by omega:0≤1)).bl fun _=>aA.bI _).nxt (aF hE hi hs) h)
 split at h
 ·rename_i hs;exact .inr ((((aA.head hE _).le (by omega:0≤1)).bl fun _=>((aA.exp hE _ _).le (by omega:0≤1)).bl fun _=>((aA.sig hE hB).le (by omega:0≤1)).bl fun _=>((aA.body hE hP _).le (by omega:0≤1))).nxt (aF hE hi hs) h)
 cases h;exact .inl ⟨rfl,rfl⟩
theorem aA.b5S:aA l 0 (vG kw andP rdP l):=fun i d j hi h=>by
 rcases aA.defn hE hB hi h with ⟨_,rfl⟩|h'
 ·omega
 ·omega
theorem aA.inst:aA l 1 (a0L kw andP rdP l):=by
 have hP:=hB.pred;unfold a0L;refine (aA.title hE).bl fun _=>((aA.zA hE ((aA.typ hE hP).le (by omega)) hP).le (by omega)).bl fun _=>(aA.skip hE _).bl fun b=>(aA.ite ((aA.vC hE).le (by omega)) (aA.bI _)).bl fun _=>((aA.exp hE _ _).le (by omega)).bl fun _=>?_
 exact aA.bl (aA.many (fun a=>(aA.b5S hE hB).bl fun _=>((aA.exp hE _ _).le (by omega)).bl fun _=>aA.bI _) _) fun _=>((aA.exp hE _ _).le (by omega)).bl fun _=>aA.bI _
theorem aA.decl (m:jK):aA l 1 (rV kw andP rdP l m):=fun i a j hi h=>by
 have hP:=hB.pred;unfold rV at h;split at h
 ·rename_i hs;exact (((aA.data hE hP).le (by omega:0≤1)).bl fun _=>aA.bI _).nxt (aF hE hi hs) h
 split at h
 ·rename_i hs;exact (((aA.cls hE hP).le (by omega:0≤1)).bl fun _=>aA.bI _).nxt (aF hE hi hs) h
 split at h
 ·rename_i hs;exact (((aA.inst hE hB).le (by omega:0≤1)).bl fun _=>aA.bI _).nxt (aF hE hi hs) h
 split at h
 ·rename_i hs;exact (((aA.c1i hE hP).le (by omega:0≤1)).bl fun _=>aA.bI _).nxt (aF hE hi hs) h
 split at h
 ·rename_i hs;exact (((aA.c1j hE hP).le (by omega:0≤1)).bl fun _=>aA.bI _).nxt (aF hE hi hs) h
 rw [hZ] at h;cases hd:vG kw andP rdP l i with
 |bad n e=>rw [hd] at h;cases h
 |ok d j'=>
  rw [hd] at h;rcases aA.defn hE hB hi hd with ⟨rfl,rfl⟩|h'
  ·simp only [dQ] at h;cases h
  ·cases d with
   |none=>simp only [dQ] at h;cases h
   |some d=>simp only [eV] at h;cases h;exact h'
end
end Go.Proofs.YtjpodcmhcenjjaaGreatDoor
end
section
namespace Go.Proofs.YtjpodcmhcenjjaaGreatDoor
open Go Go.VM
def jR (x:zV):List D:=[.str x.1,.str x.2]
def a7w (p:Nm×Ty):List D:= .str p.1::tyC p.2
def a1V:gC→List D
 |⟨op,nm,n,ks,ps,al,ts⟩=>[.int .i64 op,.str nm,.int .i64 n,.sl (ks.map a1V),.sl (ps.map a7w),.sl (al.attach.map fun a=> .str a.1.1:: .sl (strs a.1.2.1)::a1V a.1.2.2),.sl (ts.map tyC)]
termination_by e=>SizeOf.sizeOf e
decreasing_by
 ·have:=List.sizeOf_lt_of_mem ‹_∈ks›;simp only [gC.mk.sizeOf_spec];omega
 ·obtain ⟨⟨a,b,c⟩,ha⟩:=a;have:=List.sizeOf_lt_of_mem ha;simp only [Prod.mk.sizeOf_spec] at this;simp only [gC.mk.sizeOf_spec];omega
def b3O (a:Nm×List Nm×gC):List D:= .str a.1:: .sl (strs a.2.1)::a1V a.2.2
theorem dE (e:gC):a1V e=[.int .i64 e.op,.str e.name,.int .i64 e.n,.sl (e.kids.map a1V),.sl (e.params.map a7w),.sl (e.alts.map b3O),.sl (e.types.map tyC)]:=by
 cases e;rw [a1V];simp only [List.cons.injEq,D.sl.injEq,true_and,and_true]
 first
  |exact List.attach_map_val (f:=b3O)
  |exact List.attach_map_val _ b3O
  |(conv=>rhs;rw [← List.attach_map_subtype_val ‹List (Nm×List Nm×gC)›,List.map_map]
    rfl)
def b5T (b:oZ):List D:=[.str b.name,.sl (b.vars.map jR)]++pW b.hyp++pW b.goal
def c5R (s:b0g):List D:=[.sl (strs s.vars),.sl (s.vC.map jR),.sl (s.abs.map jR),.sl (s.bounds.map b5T)]++tyC s.type++[.sl (s.b1w.map pW)]
def b1z (d:jJ):List D:=[.str d.name,.sl (strs d.params)]++a1V d.body++[.int .i64 d.mode,.bool d.typed]++c5R d.sig
def b0k (c:a2k):List D:=[.str c.name,.sl (strs c.names),.sl (c.fields.map tyC)]
def a7x (d:a7m):List D:=[.str d.name,.sl (strs d.vars),.sl (d.a7l.map jR),.sl (d.cons.map b0k)]
def b3P (c:a3J):List D:=[.str c.name,.str c.var,.sl (c.methods.map a7w)]
def b7m (x:a7n):List D:=[.str x.cls]++tyC x.type++[.sl (x.vC.map jR),.sl (x.defs.map b1z)]
def b3Q (x:a7o):List D:=[.str x.name,.str x.data,.str x.result,.sl (x.cases.map fun c=> .str c.1:: .sl (strs c.2.1)::pW c.2.2)]++pW x.inv
def b7n (q:a7p):List D:=[.str q.name,.sl (q.vars.map jR)]++pW q.body
def a2l (m:jK):List D:=[.sl (m.a7q.map a7x),.sl (m.a3K.map b3P),.sl (m.insts.map b7m),.sl (m.a7r.map b3Q),.sl (m.b3L.map b7n),.sl (m.defs.map b1z)]
end Go.Proofs.YtjpodcmhcenjjaaGreatDoor
end
end
section
section
namespace Go.VM
open Go Go.RowKit
section
variable {P:Program} {G:GT} {st:St} {Q:Exit→St→Prop}
theorem SW.mS {x y:Code}(h:SW P G x st fun e s=>match e with
  | .normal=>SW P G y s Q
  |e=>Q e s):SW P G (.seq x y) st Q:=fun base R μ a w hr=>
 wp_seq (wp_mono (h base R μ a w hr) fun e a1 w1 ⟨s,R1,μ1,q1,q2,q3⟩=>by
  cases e with
  |normal=>exact wp_mono (q1 base R1 μ1 a1 w1 q2) fun e2 a2 w2 ⟨s2,R2,μ2,p1,p2,p3⟩=>⟨s2,R2,μ2,p1,p2,q3.trans p3⟩
  |_=>exact ⟨s,R1,μ1,q1,q2,q3⟩)
theorem SW.vk {c:Code}(h:VK P G [.code c] .normal st Q):SW P G c st Q:=zU _ _ _ (b3m h)
theorem CS.b5U {f:FuncId}{fn:Func}{c:Code}{n:Nat}{ds:List D}{r:DV}{own:Option TypeId}(hf:P.funcs[f]? =some fn)(hb:fn.body=some c)(hn:fn.ntmps=n){rs:List ResultVar}(hrs:fn.results.toList=rs)(h:SW P G c (uV ds n) fun e s=>(e= .normal∨e= .ret)∧b3d (b8f P s rs) r∧b3e s rs own):CS P G f ds r own:=by
 subst hrs;intro w R args hg hR hl hv;refine calls_of_wp hf hb ?_
 have hrel:=Rel.init (P:=P) (G:=G) fn hg hR hl hv;rw [← hn] at h;refine wp_mono (h (tC w.heap.size) R _ _ w hrel) fun e a' w' ⟨s,R',μ',⟨he,hres,gU⟩,hr',hs⟩=>?_
 obtain ⟨r0,hres,hwk⟩:=a6Y hres;obtain ⟨v,hv1,hv2⟩:=b7c hr' hres;have hpost:a'.defers=[]∧∃v,(results fn a'.tmps).run P w'= .ok v w'∧∃v' R',Ending.returned v= .returned v'∧(∀μ,TV R' μ w' v' r)∧Step (tC w.heap.size) R w R' w'∧(∀b o,R' b o→b<w'.heap.size)∧(∀e,own=some e→kF P (tC w.heap.size) R' w' e v'):=
  ⟨hr'.defers,v,hv1,v,R',rfl,fun μ=>(hv2 μ).wk hwk,hs,hr'.kY,fun e he'=>by subst he';exact b3f hr' gU hv1⟩
 rcases he with rfl|rfl
 ·exact hpost
 ·exact hpost
theorem cY (a:Act){d:Nat}(v:Value)(h:d<a.tmps.size):(a.put (some d) v).eval (.tmp d)=v:=by simp [Act.put,Act.eval,h]
theorem bL (a:Act){d x:Nat}(v:Value)(h:x≠d):(a.put (some d) v).eval (.tmp x)=a.eval (.tmp x):=by simp [Act.put,Act.eval,Array.getElem?_setIfInBounds,Ne.symm h]
theorem size_put (a:Act)(d:Option Tmp)(v:Value):(a.put d v).tmps.size=a.tmps.size:=by cases d<;>simp [Act.put]
theorem b1A (w:World)(z cs:Array Value)(e:TypeId):(w.alloc (.cells z e)).setRow w.heap.size cs=w.alloc (.cells cs e):=by
 unfold World.setRow World.alloc;cases w with
 |mk heap tape drawn os output=>
  simp only;congr 1;apply Array.ext
  ·simp
  ·intro k h1 h2;simp only [Array.getElem_modify,Array.getElem_push];split
   ·rename_i hk;subst hk;simp
   ·rename_i hk;have hk2:k<heap.size:=by simp at h2;omega
    simp [hk2]
end
end Go.VM
end
section
namespace Go.VM
open Go Go.RowKit
def kN (k n:Nat):Array Bool:=((List.range n).map fun j=>decide (j<k)).toArray
def a0Q (ops:Array Oper)(m:Nat):Nat→Nat→Array Bool→Bool
 |0,_,listed=>decide (listed=kN m ops.size)
 |fuel+1,k,listed=>(Region.ready .any ops listed).contains k&&
  (match ops[k]? with
  |none=>false
  |some oi=>
   (List.range ops.size).all fun j=>j==k||listed.getD j true||eH ops ops.size j k||(match ops[j]? with
    |some oj=>oi.apart ops oj&&mB ops oi oj
    |none=>true))&&
  a0Q ops m fuel (k+1) (listed.setIfInBounds k true)
def sJ (ops:Array Oper)(m:Nat):Bool:=(List.range ops.size).all fun j=>decide (j<m)||(List.range m).all fun i=>eH ops ops.size j i
def c1k (ops:Array Oper)(m:Nat):Bool:=((dL ops).isEmpty||(ops.toList.all (b7Y ops)&&decide ((dL ops).Nodup)))&&(decide (m≤ops.size)&&sJ ops m)&&a0Q ops m m 0 (Array.replicate ops.size false)
section
variable {P:Program} {G:GT} {st:St}
theorem a2m {k n j:Nat}(h:(kN k n).getD j true=false):k≤j∧j<n:=by
 unfold kN at h;rw [d3J] at h;by_cases hj:j<n
 ·simp [hj] at h;omega
 ·simp [hj] at h
theorem a2T {ops:Array Oper}{m j i:Nat}{o:Oper}(h:sJ ops m=true)(hj:m≤j)(ho:ops[j]? =some o)(hi:i<m):eH ops ops.size j i=true:=by
 unfold sJ at h;have hjs:=(d3Q.1 ho).1;have h1:=d3K.1 h j (List.mem_range.2 hjs);simp only [d3T,decide_eq_true_eq] at h1;rcases h1 with h1|h1
 ·omega
 ·exact d3K.1 h1 i (List.mem_range.2 hi)
def a5C (P:Program)(G:GT)(ops:Array Oper)(m:Nat)(Q:St→Prop):Nat→Array Bool→St→Prop
 |0,listed,st=>listed=kN m ops.size∧Q st
 |fuel+1,listed,st=>Region.ready .any ops listed≠[]∧∀i∈Region.ready .any ops listed,i<m∧match ops[i]? with
  |none=>a5C P G ops m Q fuel (listed.setIfInBounds i true) st
  |some o=>jZ P G true ops o (a5C P G ops m Q fuel (listed.setIfInBounds i true)) st
theorem a7y {ops:Array Oper}{m r:Nat}{Q:St→Prop}{QQ:Exit→Act→World→Prop}:∀(fuel:Nat) (listed:Array Bool) (st:St),a5C P G ops m Q fuel listed st→∀(base:cM) (R:Nat→Nat→Prop) (μ:Nat→Nat) (a:Act) (w:World),Rel P G base R μ st a w→
  (∀s a' w' R' μ',Q s→Rel P G base R' μ' s a' w'→Step base R w R' w'→wpAny P .any ops QQ r (kN m ops.size) a' w')→wpAny P .any ops QQ (fuel+r) listed a w
 |0,_,st,h,base,R,μ,a,w,hr,hk=>by rw [Nat.zero_add,h.1];exact hk st a w R μ h.2 hr (.refl _ _ _)
 |fuel+1,listed,st,h,base,R,μ,a,w,hr,hk=>by
  rw [show fuel+1+r=(fuel+r)+1 by omega];refine ⟨fun h0=>absurd h0 h.1,fun i hi=>?_⟩;have h1:=(h.2 i hi).2;unfold wpOp;split
  ·rename_i ho;rw [ho] at h1;exact a7y fuel _ st h1 base R μ a w hr hk
  ·rename_i o ho;rw [ho] at h1;exact pM h1 hr fun s v w' R' μ' h' hr' hs'=>a7y fuel _ s h' base R' μ' _ w' hr' fun s a' w2 R2 μ2 q1 q2 q3=>hk s a' w2 R2 μ2 q1 q2 (hs'.trans q3)
theorem a7z {listed:Array Bool}{i j:Nat}(hj:listed.getD j true=false)(hne:j≠i):(listed.setIfInBounds i true).getD j true=false:=by rw [getD_set_ne true (Ne.symm hne)];exact hj
theorem b3R {ops:Array Oper}{m:Nat}{Q:St→Prop}{i:Nat}{oi:Oper}(him:i<m)(hT:sJ ops m=true)(hA:kH ops)(hi:ops[i]? =some oi)(hsi:(cI oi.op=true∧gZ ops oi=false)∨kB oi=true):
  ∀(fuel:Nat) (listed:Array Bool) (st s:St),dM ops listed→
   (∀j oj,ops[j]? =some oj→j≠i→listed.getD j true=false→eH ops ops.size j i=false→oi.apart ops oj=true∧mB ops oi oj=true)→
   i∈Region.ready .any ops listed→mD ops listed st→Eff P G ops oi st s→
   a5C P G ops m Q fuel (listed.setIfInBounds i true) s→a5C P G ops m Q (fuel+1) listed st:=by
 have low:∀(listed:Array Bool),dM ops listed→i∈Region.ready .any ops listed→∀j∈Region.ready .any ops listed,j<m:=fun listed hcl hr j hj=>by apply Classical.byContradiction;intro hjm;obtain ⟨_,oj,hoj,hall⟩:=mem_ready.1 hj;obtain ⟨hiun,_⟩:=mem_ready.1 hr;have h1:=a2T hT (Nat.le_of_not_lt hjm) hoj him;rw [cN hcl hiun ops.size j fun o ho=>by rw [hoj] at ho;cases ho;exact hall] at h1;cases h1
 intro fuel
 induction fuel with
 |zero=>
  intro listed st s hcl _ hr _ hy H;refine ⟨fun h=>(by rw [h] at hr;cases hr),fun j hj=>⟨low listed hcl hr j hj,?_⟩⟩;by_cases hji:j=i
  ·subst hji;rw [hi];exact (cS hsi).2 ⟨s,hy,H⟩
  ·exfalso;obtain ⟨hjun,oj,hoj,hall⟩:=mem_ready.1 hj;obtain ⟨hiun,_⟩:=mem_ready.1 hr;have h1:=a7z hjun hji;rw [H.1] at h1;have h2:=a2m h1;have:=low listed hcl hr j hj;omega
 |succ fuel ih=>
  intro listed st s hcl hfree hr hI hy H;refine ⟨fun h=>(by rw [h] at hr;cases hr),fun j hj=>⟨low listed hcl hr j hj,?_⟩⟩;by_cases hji:j=i
  ·subst hji;rw [hi];exact (cS hsi).2 ⟨s,hy,H⟩
  ·have h1:=(H.2 j (ready_mono hj hji)).2;obtain ⟨hjun,oj,hoj,hall⟩:=mem_ready.1 hj;rw [hoj] at h1 ⊢;simp only at h1 ⊢;obtain ⟨hiun,oi',hoi',halli⟩:=mem_ready.1 hr;have hnot:eH ops ops.size j i=false:=cN hcl hiun _ _ fun o ho=>by rw [hoj] at ho;cases ho;exact hall
   obtain ⟨hap,hpo⟩:=hfree j oj hoj hji hjun hnot;have hsj:(cI oj.op=true∧gZ ops oj=false)∨kB oj=true:=by
    by_cases hs:kB oj=true
    ·exact .inr hs
    ·refine .inl ⟨?_,?_⟩
     ·unfold mB at hpo;simp only [kB,d3T,d3H,Bool.not_eq_true'] at hpo hs;rcases hpo with ((((((h|h)|h)|h)|h)|h)|h)|h
      ·exact h.1.2
      ·exact absurd (.inl (.inl h.1.2)) hs
      ·exact h.1.1.2
      ·exact absurd (.inl (.inr h.2)) hs
      ·exact h.1.2
      ·exact absurd (.inl h.1.2) hs
      ·exact absurd (.inr h.2) hs
      ·exact (jI (G:=G) (st:=st) h.1.2).1
     ·cases hx:gZ ops oj with
      |false=>rfl
      |true=>
       have hlt:i<ops.size:=(d3Q.1 hi).1;rcases pV hx hoj hlt (fun e=>hji e.symm) with h'|h'
       ·have:=cN hcl hjun ops.size i fun o ho=>by rw [hoi'] at ho;cases ho;exact halli
        rw [h'] at this;cases this
       ·rw [hnot] at h';cases h'
   obtain ⟨s12,hu,hk⟩:=(cS hsj).1 h1;obtain ⟨s2,e1,e2⟩:=a3z hap hpo (fun hn d hd=>hI i oi d hi hn hiun hd) (fun hn d hd=>hI j oj d hoj hn hjun hd) hy hu;refine (cS hsj).2 ⟨s2,e1,?_⟩;refine ih (listed.setIfInBounds j true) s2 s12 (hcl.set hj) (fun k ok hk' hki hun hno=>?_) (ready_mono hr (Ne.symm hji)) (hI.step hA hoj fun k hf hn=>pI e1 hf hn) e2 ?_
   ·exact hfree k ok hk' hki (oU hun).2 hno
   ·rw [Array.setIfInBounds_comm _ _ hji];exact hk
theorem b0l {ops:Array Oper}{m:Nat}{Q:St→Prop}(hTA:sJ ops m=true)(hA:kH ops)(hT:dL ops=[]∨∀o∈ops.toList,b7Y ops o=true):∀(l:List Oper) (k:Nat) (listed:Array Bool) (st:St),k+l.length=m→(∀j,j<l.length→l[j]? =ops[k+j]?)→dM ops listed→mD ops listed st→
  a0Q ops m l.length k listed=true→pU P G true ops l st Q→a5C P G ops m Q l.length listed st
 |[],_,_,_,_,_,_,_,hB,h=>⟨by simpa [a0Q] using hB,h⟩
 |o::l,k,listed,st,hkm,hl,hcl,hI,hB,h=>by
  have hkm2:k<m:=by simp only [List.length_cons] at hkm;omega
  have h0:ops[k]? =some o:=by simpa using (hl 0 (by simp)).symm
  simp only [List.length_cons,a0Q,d3H,h0] at hB;obtain ⟨⟨hr,hf⟩,hB'⟩:=hB;have hrk:k∈Region.ready .any ops listed:=by simpa using hr
  have hnext:∀s,mD ops (listed.setIfInBounds k true) s→pU P G true ops l s Q→a5C P G ops m Q l.length (listed.setIfInBounds k true) s:=fun s hs h=>b0l hTA hA hT l (k+1) _ s (by simp only [List.length_cons] at hkm;omega) (fun j hj=>by have:=hl (j+1) (by simpa using hj);simpa [Nat.add_assoc,Nat.add_comm 1 j] using this) (hcl.set hrk) hs hB' h
  have hspec:∀j oj,ops[j]? =some oj→j≠k→listed.getD j true=false→eH ops ops.size j k=false→o.apart ops oj=true∧mB ops o oj=true:=by intro j oj hj hne hun hno;rw [d3K] at hf;have h1:=hf j (List.mem_range.2 (d3Q.1 hj).1);simp only [hj,d3T,beq_iff_eq,hne,false_or,hun,Bool.false_eq_true,hno,d3H] at h1;exact h1
  have only:(∀j oj,ops[j]? =some oj→j≠k→listed.getD j true=false→eH ops ops.size j k=false→False)→a5C P G ops m Q (l.length+1) listed st:=fun hno=>by
   have low:∀j∈Region.ready .any ops listed,j<m:=fun j hj=>by apply Classical.byContradiction;intro hjm;obtain ⟨_,oj,hoj,hall⟩:=mem_ready.1 hj;obtain ⟨hiun,_⟩:=mem_ready.1 hrk;have h1:=a2T hTA (Nat.le_of_not_lt hjm) hoj hkm2;rw [cN hcl hiun ops.size j fun o ho=>by rw [hoj] at ho;cases ho;exact hall] at h1;cases h1
   refine ⟨fun h'=>(by rw [h'] at hrk;cases hrk),fun j hj=>⟨low j hj,?_⟩⟩;by_cases hjk:j=k
   ·subst hjk;rw [h0];have hkeep:jZ P G true ops o (fun s=>pU P G true ops l s Q∧mD ops (listed.setIfInBounds j true) s) st:=by
     by_cases hT0:dL ops=[]
     ·refine dU (fun s hs=>⟨hs,fun i oi d hi hn _ hd=>?_⟩) h;have:d∈dL ops:=List.mem_filterMap.2 ⟨oi,by rw [Array.mem_toList_iff];exact Array.mem_of_getElem? hi,by rw [if_pos hn];exact hd⟩;rw [hT0] at this;cases this
     ·have hT:=hT.resolve_left hT0;refine dU (fun s hs=>⟨hs.1,hI.step hA h0 hs.2⟩) (a9Y hT0 (hT o (by rw [Array.mem_toList_iff];exact Array.mem_of_getElem? h0)) h)
    exact dU (fun s hs=>hnext s hs.2 hs.1) hkeep
   ·obtain ⟨hjun,oj,hoj,hall⟩:=mem_ready.1 hj;have hnot:eH ops ops.size j k=false:=cN hcl (mem_ready.1 hrk).1 _ _ fun o' ho'=>by rw [hoj] at ho';cases ho';exact hall
    exact (hno j oj hoj hjk hjun hnot).elim
  by_cases hs:(cI o.op=true∧gZ ops o=false)∨kB o=true
  ·obtain ⟨s,hd,hk⟩:=(cS hs).1 h;exact b3R hkm2 hTA hA h0 hs l.length listed st s hcl (fun j oj hj hne hun hno=>hspec j oj hj hne hun hno) hrk hI hd (hnext _ (hI.step hA h0 fun k hf hn=>pI hd hf hn) hk)
  ·refine only fun j oj hj hne hun hno=>?_
   obtain ⟨_,hpo⟩:=hspec j oj hj hne hun hno;cases hal:gZ ops o with
   |true=>
    obtain ⟨_,ok,hok,hallk⟩:=mem_ready.1 hrk;have hnot2:eH ops ops.size k j=false:=cN hcl hun _ _ fun o' ho'=>by rw [hok] at ho';cases ho';exact hallk
    rcases pV hal h0 (d3Q.1 hj).1 hne with h'|h'
    ·rw [hno] at h';cases h'
    ·rw [hnot2] at h';cases h'
   |false=>
    unfold mB at hpo;simp only [kB,d3T,d3H,Bool.not_eq_true'] at hpo hs;rcases hpo with ((((((h'|h')|h')|h')|h')|h')|h')|h'
    ·exact hs (.inl ⟨h'.1.1,hal⟩)
    ·exact hs (.inl ⟨h'.1.1,hal⟩)
    ·exact hs (.inr (.inl (.inl h'.1.1.1)))
    ·exact hs (.inl ⟨h'.1,hal⟩)
    ·exact hs (.inr (.inl (.inr h'.1.1)))
    ·exact hs (.inr (.inl h'.1.1))
    ·exact hs (.inl ⟨(jI (G:=G) (st:=st) h'.1.1).1,hal⟩)
    ·exact hs (.inr (.inr h'.1.1))
theorem a7A {id:Nat}{ops:Array Oper}{m:Nat}{T:St→Prop}{Q:Exit→St→Prop}(hm:P.follows .mixedOrders=true)(hB:c1k ops m=true)(hF:a4y ops st=true)(h:pU P G true ops (ops.toList.take m) st T)(hT:∀s base R μ a w (QQ:Exit→Act→World→Prop),T s→Rel P G base R μ s a w→(∀s' a' w' R' μ',Q .normal s'→Rel P G base R' μ' s' a' w'→Step base R w R' w'→QQ .normal a' w')→wpAny P .any ops QQ (ops.size-m) (kN m ops.size) a w):SW P G (.region id ops true) st Q:=by
 intro base R μ a w hr;obtain ⟨hr',hs'⟩:=hr.drew;unfold c1k at hB;rw [d3H,d3H,d3H,decide_eq_true_eq] at hB;obtain ⟨⟨hN,hmle,hTA⟩,hB⟩:=hB;rw [d3T,List.isEmpty_iff,d3H,d3K,decide_eq_true_eq] at hN;have mem:∀ {i oi d},ops[i]? =some oi→dF oi=true→oi.dst=some d→d∈dL ops:=fun hi hn hd=>List.mem_filterMap.2 ⟨_,by rw [Array.mem_toList_iff];exact Array.mem_of_getElem? hi,by rw [if_pos hn];exact hd⟩
 have hA:kH ops:=fun i j oi oj d hi hj hni hnj hdi hdj=>by
  rcases hN with hN|⟨_,hN⟩
  ·have:=mem hi hni hdi;rw [hN] at this;cases this
  ·exact a6T (l:=ops.toList) (f:=fun o=>if dF o then o.dst else none) hN i j (by simpa using hi) (by simpa using hj) (by rw [if_pos hni];exact hdi) (by rw [if_pos hnj];exact hdj)
 have hI:mD ops (Array.replicate ops.size false) st:=fun j oj d hj hn _ hd=>d3K.1 hF d (mem hj hn hd)
 have hlen:(ops.toList.take m).length=m:=by simp;omega
 have h1:=b0l (P:=P) (G:=G) hTA hA (hN.imp (fun h=>h) (fun h=>h.1)) (ops.toList.take m) 0 (Array.replicate ops.size false) st (by rw [hlen];omega) (fun j hj=>by
  rw [hlen] at hj;rw [List.getElem?_take,if_pos hj];simp) (fun k hk=>by
  rcases Nat.lt_or_ge k ops.size with h'|h'
  ·simp [h'] at hk
  ·simp [Nat.not_lt.2 h'] at hk) hI (by rw [hlen];exact hB) h
 rw [hlen] at h1;refine wp_region_any hm ?_
 have h2:=a7y (r:=ops.size-m) (QQ:=fun e a' w'=>∃s' R' μ',Q e s'∧Rel P G base R' μ' s' a' w'∧Step base R w R' w') m _ st h1 base R μ a w.drew hr' fun s a' w' R' μ' q1 q2 q3=>hT s base R' μ' a' w' _ q1 q2 fun s2 a2 w2 R2 μ2 p1 p2 p3=>⟨s2,R2,μ2,p1,p2,(hs'.trans q3).trans p3⟩
 rw [show m+(ops.size-m)=ops.size by omega] at h2;exact h2
end
end Go.VM
end
section
namespace Go.VM
open Go Go.RowKit
def spl (cur:Array Value)(off:Nat)(l:List Value):Array Value:=(cur.toList.take off++l++cur.toList.drop (off+l.length)).toArray
theorem a3O {cur:Array Value}{off:Nat}{l:List Value}(h:off+l.length≤cur.size)(k:Nat):(spl cur off l)[k]? =if k<off then cur[k]? else if k<off+l.length then l[k-off]? else cur[k]? :=by unfold spl;rw [List.getElem?_toArray,yK _ _ _ (by simpa using h)];simp
theorem a7B {cur:Array Value}{off:Nat}{l:List Value}(h:off+l.length≤cur.size):(spl cur off l).size=cur.size:=by unfold spl;simp only [List.size_toArray,List.length_append,List.length_take,List.length_drop,Array.length_toList];omega
theorem c5S {cur:Array Value}{off:Nat}{l l':List Value}(h:off+l.length≤cur.size)(hl:l'.length=l.length):spl (spl cur off l) off l'=spl cur off l':=by
 apply Array.ext_getElem?;intro k;have h1:=a7B h;rw [a3O (by rw [h1];omega),a3O h,a3O (by omega)];rw [hl];split
 ·rfl
 ·split
  ·rfl
  ·rfl
theorem c5T (a b c:List Value)(b':List Value)(h:b'.length=b.length):spl (a.toArray++b.toArray++c.toArray) a.length b'=a.toArray++b'.toArray++c.toArray:=by unfold spl;rw [h];simp
theorem setRow_setRow (w:World)(g:Nat)(a b:Array Value):(w.setRow g a).setRow g b=w.setRow g b:=by
 unfold World.setRow;cases w with
 |mk heap tape drawn os output=>
  simp only;congr 1;apply Array.ext
  ·simp
  ·intro k h1 h2;simp only [Array.getElem_modify];by_cases hk:g=k
   ·simp only [hk,if_true];generalize heap[k]'(by simpa using h1)=o;cases o<;>rfl
   ·simp [hk]
theorem a5D (w:World){g b:Nat}(hne:g≠b)(x y:Array Value):(w.setRow g x).setRow b y=(w.setRow b y).setRow g x:=by
 unfold World.setRow;cases w with
 |mk heap tape drawn os output=>
  simp only;congr 1;apply Array.ext
  ·simp
  ·intro k h1 h2;simp only [Array.getElem_modify];by_cases hk:g=k
   ·subst hk;simp [Ne.symm hne]
   ·by_cases hb:b=k
    ·subst hb;simp [hk]
    ·simp [hk,hb]
section
variable {P:Program} {G:GT} {st:St}
theorem qV {a:Act}{w:World}{o:Oper}{t:TypeId}{ad x:Operand}(ho:o.op= .store t ad x){b off:Nat}{cur:Array Value}{T:TypeId}(had:a.eval ad= .pointer (some ⟨b,off,none⟩))(hh:w.heap[b]? =some (.cells cur T (0,0)))(hsz:(a.eval x).cells.size=P.cellsOf t)(hne:P.cellsOf t≠0)(hone:∀u∈(a.eval x).cells.toList,u.oneCell'=true)(hfit:off+(a.eval x).cells.size≤cur.size):
  (execOp a.eval o).run P w= .ok .skip (w.setRow b (spl cur off (a.eval x).cells.toList)):=by
 have hst:=run_storeCells_at P b off T (a.eval x).cells.toList 0 cur w hh (by simpa using hfit) hone;simp only [Nat.add_zero] at hst;have hnn: ¬((a.eval x).cells.size≠P.cellsOf t):=by rw [hsz];simp
 unfold spl;simp only [execOp,ho,Sem.run_bind,had,Instr.storeAt,Instr.sureAddr,storeVar,Sem.run_pure,Result.andThen_ok,pL (eL hne) w,if_neg hnn,hst]
theorem xV {a:Act}{w:World}{o:Oper}{t e:TypeId}{x i:Operand}(ho:o.op= .indexAddr t x i)(hu:P.underlying t=some (.slice e)){b n cap k:Nat}{kd:IntKind}(hx:a.eval x= .slice (some ⟨b,0,none⟩) n cap)(hi:a.eval i= .int kd (k:Int))(hk:k<n)(hs:0<P.cellsOf e):
  (execOp a.eval o).run P w= .ok (.value (.pointer (some ⟨b,k*P.cellsOf e,none⟩))) w:=by
 have hso:=pL (eL (P:=P) (t:=e) (by omega)) w;have hkn: ¬(n≤k):=by omega
 simp [execOp,ho,hx,hi,Instr.indexAt,run_underlying hu,asIntOf,hk,hso,mH]
theorem a5E {base:cM}{R:Nat→Nat→Prop}{μ:Nat→Nat}{a:Act}{w:World}(hr:Rel P G base R μ st a w){t ty e:TypeId}(hok:eG P e=true)(hu:P.underlying t=some (.slice e)){i:Tmp}{x:Operand}{xs:List (List D)}{z0:List D}{dB:List (TypeId×List Loc)}(hsx:st.eval G (.tmp i)= .d (.sl xs))(htk:eD (.t i) st.own=some (e,dB))(hlx:∀c∈xs,c.length=P.cellsOf e)(hx:st.eval G x= .d (.sl [z0]))(hz0:z0.length=P.cellsOf e)(hbd:(xs.length+1)*(P.bytesOf e+1)≤140737488355328):
  ∃g cap cur1 w1,(Builtin.append_ #[t,t] ty #[a.eval (.tmp i),a.eval x]).run P w= .ok (.slice (some ⟨g,0,none⟩) (xs.length+1) cap) w1∧w1.heap[g]? =some (.cells cur1 e (0,0))∧xs.length*P.cellsOf e+P.cellsOf e≤cur1.size∧
   (∀k o,getKey k st.H=some o→μ k≠g∧w1.heap[μ k]? =w.heap[μ k]?)∧
   ∀(news:List Value) (c:List D),news.length=P.cellsOf e→c.length=P.cellsOf e→(∀u∈news,u.oneCell'=true)→(∀(j:Nat) (d:D),c[j]? =some d→d.one=true∧∃v,news[j]? =some v∧V R w v d)→
    ∃R1,Rel P G base R1 μ { st with own:=dB } a (w1.setRow g (spl cur1 (xs.length*P.cellsOf e) news))∧V R1 (w1.setRow g (spl cur1 (xs.length*P.cellsOf e) news)) (.slice (some ⟨g,0,none⟩) (xs.length+1) cap) (.sl (xs++[c]))∧
     a0n P base R1 μ { st with own:=dB } a (w1.setRow g (spl cur1 (xs.length*P.cellsOf e) news)) (.slice (some ⟨g,0,none⟩) (xs.length+1) cap) (.fresh e)∧Step base R w R1 (w1.setRow g (spl cur1 (xs.length*P.cellsOf e) news)):=by
 obtain ⟨ti,z,hi,hsize,hbytes,hpos,hz,hzs⟩:=sS hok;have hb1:xs.length+1≤140737488355328:=by rw [Nat.mul_add] at hbd;omega
 have hb2:(xs.length+1)*P.bytesOf e≤140737488355328:=by rw [Nat.mul_add] at hbd;omega
 obtain ⟨ao2,capx,hv2,hrun2⟩:=a9Q (ys:=[z0]) hr (by rw [hx];rfl);obtain ⟨b2,off2,size2,rfl,q1,q2,q3⟩:=hrun2 (by simp);have hsz2:size2=P.cellsOf e:=by rw [← q2 z0 (.head _),hz0]
 subst hsz2;obtain ⟨n0,m1,m2,m3,m4⟩:=a3t q2 q3;simp only [List.length_singleton,Nat.one_mul] at m1 hv2;obtain ⟨hr',v0,vs,hv0,gU,hkeys,hvs,hap⟩:=hr.eD htk;have hsv:a.eval (.tmp i)=v0:=by
  refine hv0 _ ?_
  show a.tmps[i]? =some (a.tmps.getD i undef)
  by_cases hs:i<a.tmps.size
  ·simp [hs]
  ·have h3: ¬i<st.tmps.length:=by rw [← hr.size];exact hs
   simp [St.eval,List.getD,List.getElem?_eq_none (Nat.le_of_not_lt h3)] at hsx
 have hV:=hr.gF hsx;have hlt:∀k o,getKey k st.H=some o→μ k<w.heap.size:=fun k o hk=>(hr.eT k o hk).2.2.lt
 have hnew:∀(olds:List Value) (old:Nat),olds.length=xs.length*P.cellsOf e→(∀(i j:Nat) (c:List D) (d:D),xs[i]? =some c→c[j]? =some d→d.one=true∧∃v,olds[i*P.cellsOf e+j]? =some v∧V R w v d)→
   (Builtin.append_ #[t,t] ty #[a.eval (.tmp i),a.eval x]).run P w= .ok (.slice (some ⟨w.heap.size,0,none⟩) (xs.length+1) (grownCap w (xs.length+1) old e)) (w.drew.alloc (.cells (olds.toArray++n0.toArray++Builtin.zeroCells z.cells (grownCap w (xs.length+1) old e-(xs.length+1))) e))→
   ∃g cap cur1 w1,(Builtin.append_ #[t,t] ty #[a.eval (.tmp i),a.eval x]).run P w= .ok (.slice (some ⟨g,0,none⟩) (xs.length+1) cap) w1∧w1.heap[g]? =some (.cells cur1 e (0,0))∧xs.length*P.cellsOf e+P.cellsOf e≤cur1.size∧
   (∀k o,getKey k st.H=some o→μ k≠g∧w1.heap[μ k]? =w.heap[μ k]?)∧
   ∀(news:List Value) (c:List D),news.length=P.cellsOf e→c.length=P.cellsOf e→(∀u∈news,u.oneCell'=true)→(∀(j:Nat) (d:D),c[j]? =some d→d.one=true∧∃v,news[j]? =some v∧V R w v d)→
    ∃R1,Rel P G base R1 μ { st with own:=dB } a (w1.setRow g (spl cur1 (xs.length*P.cellsOf e) news))∧V R1 (w1.setRow g (spl cur1 (xs.length*P.cellsOf e) news)) (.slice (some ⟨g,0,none⟩) (xs.length+1) cap) (.sl (xs++[c]))∧
     a0n P base R1 μ { st with own:=dB } a (w1.setRow g (spl cur1 (xs.length*P.cellsOf e) news)) (.slice (some ⟨g,0,none⟩) (xs.length+1) cap) (.fresh e)∧Step base R w R1 (w1.setRow g (spl cur1 (xs.length*P.cellsOf e) news)):=by
  intro olds old ho1 ho2 hrun;refine ⟨w.heap.size,_,_,_,hrun,heap_alloc_new w.drew _,?_,fun k o hk=>⟨by have:=hlt k o hk;omega,Below.heap_alloc w.drew _ _ (hlt k o hk)⟩,?_⟩
  ·simp only [Array.size_append,List.size_toArray,ho1,m1];omega
  ·intro news c hn hc h1 hcn;have hsp:spl (olds.toArray++n0.toArray++Builtin.zeroCells z.cells (grownCap w (xs.length+1) old e-(xs.length+1))) (xs.length*P.cellsOf e) news=olds.toArray++news.toArray++Builtin.zeroCells z.cells (grownCap w (xs.length+1) old e-(xs.length+1)):=by have:=c5T olds n0 (Builtin.zeroCells z.cells (grownCap w (xs.length+1) old e-(xs.length+1))).toList news (by rw [hn,m1]);rw [ho1] at this;simpa using this
   rw [hsp];have hal:=b1A w.drew (olds.toArray++n0.toArray++Builtin.zeroCells z.cells (grownCap w (xs.length+1) old e-(xs.length+1))) (olds.toArray++news.toArray++Builtin.zeroCells z.cells (grownCap w (xs.length+1) old e-(xs.length+1))) e;have hhs:w.drew.heap.size=w.heap.size:=rfl;rw [hhs] at hal;rw [hal];obtain ⟨R',n1,n2,n3,n4⟩:=a2G hr' (e:=e) (z:=z) hpos hzs (xs:=xs) (ys:=[c]) (olds:=olds) (news:=news) old (by unfold maxLen;simp;omega) hlx (by simpa using hc) ho1 (by simpa using hn) ho2 (fun i j c' d hi hj=>by
    cases i with
    |zero=>simp at hi;subst hi;simpa using hcn j d hj
    |succ i=>simp at hi) _ rfl
   exact ⟨R',n1,n3,n4,n2⟩
 have hnil:xs=[]→(∃ao,v0= .slice ao 0 0)→_:=fun hx0 ⟨ao,hao⟩=>hnew [] 0 (by rw [hx0];simp) (by rw [hx0];simp) (by
  rw [hsv,hao,hv2,hx0];cases ao with
  |none=>have:=run_append_nil (P:=P) w t ty e ti z hu hi hz ⟨b2,off2,none⟩ 1 capx n0 (by rw [m1,hsize,Nat.one_mul]) m2 (by omega) (by omega) (by rw [hbytes];rw [hx0] at hb2;simp at hb2;omega);simpa using this
  |some b0=>have:=run_append_grow (P:=P) w t ty e ti z hu hi hz b0 0 0 [] (by simp) (by simp) ⟨b2,off2,none⟩ 1 capx n0 (by rw [m1,hsize,Nat.one_mul]) m2 (by omega) (by omega) (by rw [hbytes];rw [hx0] at hb2;exact growslice_fits (by omega) (by simpa using hb2));simpa using this)
 rcases gU with ⟨ao,rfl⟩|⟨g,n,cap,cur,rfl,hbg,hg,hnc,hcm,hcs,hnR⟩
 ·have hx0:xs=[]:=by obtain ⟨ao',cap',h1,_⟩:=hV.uP;rw [hsv] at h1;exact List.eq_nil_of_length_eq_zero (Value.slice.inj h1).2.1.symm
  exact hnil hx0 ⟨ao,rfl⟩
 ·obtain ⟨ao',cap',h1,_,hrunx⟩:=hV.uP;rw [hsv] at h1;cases h1;have holds:∃olds:List Value,olds.length=xs.length*P.cellsOf e∧(∀(j:Nat) (u:Value),olds[j]? =some u→w.cell? ((⟨g,0,none⟩:Addr).add j)=some u)∧
    ∀(i j:Nat) (c:List D) (d:D),xs[i]? =some c→c[j]? =some d→d.one=true∧∃v,olds[i*P.cellsOf e+j]? =some v∧V R w v d:=by
   by_cases hx0:xs=[]
   ·subst hx0;exact ⟨[],by simp,by simp,by simp⟩
   ·obtain ⟨b,o',size,hba,q1,q2,q3⟩:=hrunx hx0;cases hba;have hsz:size=P.cellsOf e:=by
     cases xs with
     |nil=>exact absurd rfl hx0
     |cons c l=>rw [← q2 c (.head _),hlx c (.head _)]
    subst hsz;obtain ⟨olds,n1,n2,_,n4⟩:=a3t q2 q3;exact ⟨olds,n1,n2,n4⟩
  obtain ⟨olds,o1,o2,o3⟩:=holds;by_cases hroom:xs.length+1≤cap
  ·have hmul:(xs.length+1)*P.cellsOf e≤cap*P.cellsOf e:=Nat.mul_le_mul_right _ hroom;have hfit0:xs.length*P.cellsOf e+P.cellsOf e≤cur.size:=by rw [hcs];rw [Nat.add_mul,Nat.one_mul] at hmul;exact hmul
   have hfit:xs.length*P.cellsOf e+n0.length≤cur.size:=by rw [m1];exact hfit0
   have hrun:=run_append_room (P:=P) w t ty e ti hu hi g xs.length cap cur hg ⟨b2,off2,none⟩ 1 capx n0 (by rw [m1,hsize,Nat.one_mul]) m2 m3 hroom (by rw [hsize];exact hfit);rw [hsize] at hrun;have hrun2:(Builtin.append_ #[t,t] ty #[a.eval (.tmp i),a.eval x]).run P w= .ok (.slice (some ⟨g,0,none⟩) (xs.length+1) cap) (w.setRow g (spl cur (xs.length*P.cellsOf e) n0)):=by rw [hsv,hv2];exact hrun
   have hspg:aX (.slice (some ⟨g,0,none⟩) xs.length cap)=some g:=by simp [aX];omega
   have hgne:∀k o,getKey k st.H=some o→μ k≠g:=fun k o hk he=>hkeys k o hk (by rw [hspg,he])
   refine ⟨g,cap,_,_,hrun2,setRow_heap w g cur _ e _ hg,?_,fun k o hk=>⟨hgne k o hk,setRow_other w g _ _ (hgne k o hk)⟩,?_⟩
   ·rw [a7B hfit];exact hfit0
   ·intro news c hn hc h1n hcn;have hnl:news.length=n0.length:=by rw [hn,m1]
    rw [c5S hfit hnl,setRow_setRow];have hfitn:xs.length*P.cellsOf e+news.length≤cur.size:=by rw [hnl];exact hfit
    generalize hcur':spl cur (xs.length*P.cellsOf e) news=cur';have hget:∀k,cur'[k]? =if k<xs.length*P.cellsOf e then cur[k]? else if k<xs.length*P.cellsOf e+news.length then news[k-xs.length*P.cellsOf e]? else cur[k]? :=fun k=>by rw [← hcur'];exact a3O hfitn k
    obtain ⟨p1,p2,p3⟩:=hr'.b7a (g:=g) (n:=xs.length) (m:=1) (s:=P.cellsOf e) (cur':=cur') (fun k o' hk he=>hkeys k o' hk (by rw [hspg,he])) hvs (fun v' hv' hsp=>(hap v' hv').1 g hspg hsp) hbg hg hnR (fun off hoff=>by rw [hget,if_pos hoff]);have hnewg:(w.setRow g cur').heap[g]? =some (.cells cur' e (0,0)):=setRow_heap w g cur _ e _ hg
    have hcsz:cur'.size=cap*P.cellsOf e:=by rw [← hcur',a7B hfitn,hcs]
    refine ⟨_,p1,?_,?_,p2⟩
    ·have hly:∀c'∈[c],c'.length=P.cellsOf e:=by simpa using hc
     have hcell:∀(i j:Nat) (c':List D) (d:D),(xs++[c])[i]? =some c'→c'[j]? =some d→d.one=true∧∃v,(w.setRow g cur').cell? ⟨g,0+i*P.cellsOf e+j,none⟩=some v∧V R w v d:=fun i j c' d hi' hj=>by
      rw [Nat.zero_add,cell_of_row _ _ _ cur' e (0,0) hnewg,hget];by_cases hil:i<xs.length
      ·rw [d3S hil] at hi';obtain ⟨w1,v,w2,w3⟩:=o3 i j c' d hi' hj;have hlt:=(d3I.1 w2).1;have hcellv:=o2 _ v w2;rw [mH,Nat.zero_add,cell_of_row _ _ _ cur e (0,0) hg] at hcellv;rw [if_pos (by omega)];exact ⟨w1,v,hcellv,w3⟩
      ·rw [d3P (by omega)] at hi';have hi0:i=xs.length:=by have:=(d3I.1 hi').1;simp at this;omega
       subst hi0;simp at hi';subst hi';obtain ⟨w1,v,w2,w3⟩:=hcn j d hj;have hlt:=(d3I.1 w2).1;rw [if_neg (by omega),if_pos (by omega),Nat.add_sub_cancel_left];exact ⟨w1,v,w2,w3⟩
     refine .sl g 0 _ cap (P.cellsOf e) _ (fun i j=>((w.setRow g cur').cell? ⟨g,0+i*P.cellsOf e+j,none⟩).getD undef) (by simp) hroom hpos (fun c' hc'=>by simp at hc';rcases hc' with hc'|hc';exact hlx c' hc';exact hly c' (by simpa using hc')) (fun i j hi' hj=>⟨.inr ⟨rfl,?_⟩,?_⟩) (fun i j c' d hi' hj=>(hcell i j c' d hi' hj).1) (fun i j c' d hi' hj=>?_)
     ·have:(i+1)*P.cellsOf e≤(xs.length+1)*P.cellsOf e:=Nat.mul_le_mul_right _ (by omega);rw [Nat.add_mul] at this;omega
     ·have hil:i<(xs++[c]).length:=by simp;omega
      have hei:=d3L hil;have hjl:j<((xs++[c])[i]).length:=by
       have hm:(xs++[c])[i]∈xs++[c]:=List.getElem_mem hil;rw [List.mem_append] at hm;rcases hm with hm|hm
       ·rw [hlx _ hm];exact hj
       ·rw [hly _ hm];exact hj
      obtain ⟨_,v,hv,_⟩:=hcell i j _ _ hei (d3L hjl);rw [hv];rfl
     ·obtain ⟨_,v,hv,hvd⟩:=hcell i j c' d hi' hj;rw [hv];exact hvd.bC p2
    ·refine ⟨.inr ⟨g,_,cap,cur',rfl,hbg,hnewg,hroom,hcm,hcsz,fun off hoff hR=>?_⟩,fun k o' hk=>by have:=hkeys k o' hk;rw [hspg] at this;simpa [aX,show cap≠0 by omega] using this,vs,p3,fun v' hv'=>?_⟩
     ·rcases hR with hR|⟨_,hR⟩
      ·have:xs.length*P.cellsOf e≤(xs.length+1)*P.cellsOf e:=Nat.mul_le_mul_right _ (by omega);exact hnR off (by omega) hR
      ·omega
     ·have hsp2:aX (.slice (some ⟨g,0,none⟩) (xs.length+1) cap)=some g:=by simp [aX];omega
      exact ⟨fun g' hg' hg''=>(hap v' hv').1 g' (by rw [hspg, ← hsp2];exact hg') hg'',fun g' hg' hg''=>(hap v' hv').2 g' hg' (by rw [hspg, ← hsp2];exact hg'')⟩
  ·refine hnew olds cap o1 o3 ?_
   rw [hsv,hv2];exact run_append_grow (P:=P) w t ty e ti z hu hi hz ⟨g,0,none⟩ xs.length cap olds (by rw [o1,hsize]) o2 ⟨b2,off2,none⟩ 1 capx n0 (by rw [m1,hsize,Nat.one_mul]) m2 (by omega) (by omega) (by rw [hbytes];exact growslice_fits (by omega) hb2)
abbrev tl2 (s:St)(dB:List (TypeId×List Loc))(e:TypeId)(r p:Tmp)(xs:List (List D))(c:List D):St:=finish (finish { s with own:=dB } (some r) (.d (.sl (xs++[c]))) (.fresh e)) (some p) .undef .no
theorem cQ {ops:Array Oper}{Q:Exit→Act→World→Prop}{i:Nat}{K:Act→World→Prop}{a a':Act}{w w':World}{o:Oper}(ho:ops[i]? =some o)(hg:o.guard=none){v:Value}(hrun:(execOp a.eval o).run P w= .ok (.value v) w'∨((execOp a.eval o).run P w= .ok .skip w'∧v=Go.undef))(ha:a.put o.dst v=a')(h:K a' w'):wpOp P ops Q i K a w:=by
 unfold wpOp;rw [ho];have hw:∀y,Region.wanted o y=true:=fun y=>by unfold Region.wanted;rw [hg]
 simp only [hw,if_true];left;unfold Oper.wp;rcases hrun with h1|⟨h1,rfl⟩
 ·rw [h1]
  show K (a.put o.dst v) w'
  rw [ha];exact h
 ·rw [h1]
  show K (a.put o.dst Go.undef) w'
  rw [ha];exact h
theorem c5U {ops:Array Oper}{i0 i1 i2 i3:Nat}{L0:Array Bool}{t e:TypeId}{s z r p q x b:Tmp}{y0 y1 y2 y3:TypeId}{p0 p1 p2 p3:String}{f0 f1 f2 f3:Array Edge}{xs:List (List D)}{z0 c:List D}{dB:List (TypeId×List Loc)}{out:Out}{Q:St→Prop}{QQ:Exit→Act→World→Prop}(h0:ops[i0]? =some ⟨some r,.call { callee:= .builtin .append,args:= #[.tmp s,.tmp z],argTypes:= #[t,t] },y0,p0,f0,none⟩)(h1:ops[i1]? =some ⟨some p,.indexAddr t (.tmp r) (.tmp q),y1,p1,f1,none⟩)(h2:ops[i2]? =some ⟨none,.store e (.tmp p) (.tmp x),y2,p2,f2,none⟩)(h3:ops[i3]? =some ⟨none,.store t (.tmp b) (.tmp r),y3,p3,f3,none⟩)(r0:Region.ready .any ops L0=[i0])(r1:Region.ready .any ops (L0.setIfInBounds i0 true)=[i1,i3])(r2:Region.ready .any ops ((L0.setIfInBounds i0 true).setIfInBounds i1 true)=[i2,i3])(r3:Region.ready .any ops ((L0.setIfInBounds i0 true).setIfInBounds i3 true)=[i1])(r4:Region.ready .any ops (((L0.setIfInBounds i0 true).setIfInBounds i1 true).setIfInBounds i2 true)=[i3])(r5:Region.ready .any ops (((L0.setIfInBounds i0 true).setIfInBounds i1 true).setIfInBounds i3 true)=[i2])(r6:Region.ready .any ops (((L0.setIfInBounds i0 true).setIfInBounds i3 true).setIfInBounds i1 true)=[i2])(r7:Region.ready .any ops ((((L0.setIfInBounds i0 true).setIfInBounds i1 true).setIfInBounds i2 true).setIfInBounds i3 true)=[])(r8:Region.ready .any ops ((((L0.setIfInBounds i0 true).setIfInBounds i1 true).setIfInBounds i3 true).setIfInBounds i2 true)=[])(r9:Region.ready .any ops ((((L0.setIfInBounds i0 true).setIfInBounds i3 true).setIfInBounds i1 true).setIfInBounds i2 true)=[])(hok:eG P e=true)(hu:P.underlying t=some (.slice e))(hne:(r≠q∧r≠x∧r≠p∧r≠b)∧p≠x∧p≠b)(hlt:r<st.tmps.length∧p<st.tmps.length)(hsx:st.eval G (.tmp s)= .d (.sl xs))(htk:eD (.t s) st.own=some (e,dB))(hlx:∀c∈xs,c.length=P.cellsOf e)(hx:st.eval G (.tmp z)= .d (.sl [z0]))(hz0:z0.length=P.cellsOf e)(hbd:(xs.length+1)*(P.bytesOf e+1)≤140737488355328)(hq:st.eval G (.tmp q)= .d (.int .i64 (xs.length:Int)))(hxv:st.eval G (.tmp x)= .d (.agg c))(hc:c.length=P.cellsOf e)(hst:pR P G t (.tmp b) (.tmp r) (tl2 st dB e r p xs c)=some out)(hQ:Q out.st){base:cM}{R:Nat→Nat→Prop}{μ:Nat→Nat}{a:Act}{w:World}(hr:Rel P G base R μ st a w)(hk:∀s' a' w' R' μ',Q s'→Rel P G base R' μ' s' a' w'→Step base R w R' w'→QQ .normal a' w'):wpAny P .any ops QQ 4 L0 a w:=by
 obtain ⟨⟨n1,n2,n3,n4⟩,n5,n6⟩:=hne;obtain ⟨l1,l2⟩:=hlt;have hsz:=hr.size;obtain ⟨_,_,_,_,_,hpos,_,_⟩:=sS hok;obtain ⟨g,cap,cur1,w1,e0,hg,hfit,hobj,hnews⟩:=a5E (ty:=y0) hr hok hu (x:= .tmp z) hsx htk hlx hx hz0 hbd;obtain ⟨pc,hpc,hpc1,hpc2⟩:=(hr.gF hxv).yH;have hone:∀u∈pc.toList,u.oneCell'=true:=fun u hu=>by
  obtain ⟨j,hj⟩:=d3Y hu;have hjl:j<c.length:=by rw [← hpc1];simpa using (d3I.1 hj).1
  obtain ⟨k1,k2⟩:=hpc2 j c[j] (by simp [hjl]);have:pc.getD j Go.undef=u:=by
   have:pc[j]? =some u:=by simpa using hj
   simp [d3J,this]
  rw [this] at k2;exact k2.a3o k1
 obtain ⟨R1,hr1,hV1,hA1,hs1⟩:=hnews pc.toList c (by simpa [hpc1] using hc) hc hone (fun j d hj=>by
  obtain ⟨k1,k2⟩:=hpc2 j d hj;have hjl:j<pc.size:=by rw [hpc1];exact (d3I.1 hj).1
  refine ⟨k1,pc[j],by simp [hjl],?_⟩;simpa [d3J,hjl] using k2)
 generalize hvS:(Value.slice (some ⟨g,0,none⟩) (xs.length+1) cap)=vS at *;generalize hcur2:spl cur1 (xs.length*P.cellsOf e) pc.toList=cur2 at *;have hra:r<a.tmps.size:=by rw [hsz];exact l1
 have hpa:p<a.tmps.size:=by rw [hsz];exact l2
 have hr1':=hr1.put (dst:=some r) (.d _ _ hV1) hA1;have hr2:=hr1'.put (dst:=some p) (v:= .pointer (some ⟨g,xs.length*P.cellsOf e,none⟩)) (act:= .no) (.undef _) trivial;generalize ha1:a.put (some r) vS=a1 at *;generalize ha2:a1.put (some p) (.pointer (some ⟨g,xs.length*P.cellsOf e,none⟩))=a2 at *;have z1:a1.tmps.size=a.tmps.size:=by rw [← ha1];exact size_put _ _ _
 have v1r:a1.eval (.tmp r)=vS:=by rw [← ha1];exact cY _ _ hra
 have v1q:a1.eval (.tmp q)=a.eval (.tmp q):=by rw [← ha1];exact bL _ _ (Ne.symm n1)
 have v1x:a1.eval (.tmp x)=a.eval (.tmp x):=by rw [← ha1];exact bL _ _ (Ne.symm n2)
 have v1b:a1.eval (.tmp b)=a.eval (.tmp b):=by rw [← ha1];exact bL _ _ (Ne.symm n4)
 have v2p:a2.eval (.tmp p)= .pointer (some ⟨g,xs.length*P.cellsOf e,none⟩):=by rw [← ha2];exact cY _ _ (z1.symm▸hpa)
 have v2x:a2.eval (.tmp x)= .agg pc:=by rw [← ha2,bL _ _ (Ne.symm n5),v1x,hpc]
 have v2r:a2.eval (.tmp r)=vS:=by rw [← ha2,bL _ _ n3];exact v1r
 have v2b:a2.eval (.tmp b)=a.eval (.tmp b):=by rw [← ha2,bL _ _ (Ne.symm n6)];exact v1b
 have hstb:=hst;unfold pR at hstb;split at hstb;rotate_left
 ·cases hstb
 rename_i kb off ys hb hys;split at hstb;rotate_left
 ·cases hstb
 rename_i cs hkb;split at hstb;rotate_left
 ·cases hstb
 rename_i hcd
 clear hstb
 have hHs:(tl2 st dB e r p xs c).H=st.H:=rfl;rw [hHs] at hkb;have hb':a2.eval (.tmp b)= .pointer (some ⟨μ kb,off,none⟩):=hr2.dJ hb;have hys1:ys.length=1:=by
  have:(tl2 st dB e r p xs c).eval G (.tmp r)= .d (.sl (xs++[c])):=by simp [St.eval,finish,List.getD,l1,List.getElem?_set,Ne.symm n3]
  rw [this] at hys;simp only [pP,D.cells,List.map_cons,List.map_nil,d3N] at hys;rw [← hys];rfl
 obtain ⟨_,_,vs0,T0,hh0,hsz0,_⟩:=hr.eT kb _ hkb;obtain ⟨hbg,hw1b⟩:=hobj kb _ hkb;have hvc:vS.cells= #[vS]:=by rw [← hvS];rfl
 have hvo:vS.oneCell'=true:=by rw [← hvS];rfl
 have hob:w1.heap[μ kb]? =some (.cells vs0 T0 (0,0)):=hw1b.trans hh0
 generalize hX:spl vs0 off [vS]=X;have E0:(execOp a.eval ⟨some r,.call { callee:= .builtin .append,args:= #[.tmp s,.tmp z],argTypes:= #[t,t] },y0,p0,f0,none⟩).run P w= .ok (.value vS) w1:=by simp [execOp,resolve,invoke,builtin,e0]
 have E1:∀w',(execOp a1.eval ⟨some p,.indexAddr t (.tmp r) (.tmp q),y1,p1,f1,none⟩).run P w'= .ok (.value (.pointer (some ⟨g,xs.length*P.cellsOf e,none⟩))) w':=fun w'=>xV rfl hu (v1r.trans hvS.symm) (v1q.trans (hr.qQ hq)) (by omega) hpos
 have E2:∀w':World,w'.heap[g]? =some (.cells cur1 e (0,0))→(execOp a2.eval ⟨none,.store e (.tmp p) (.tmp x),y2,p2,f2,none⟩).run P w'= .ok .skip (w'.setRow g cur2):=fun w' hw'=>by have:=qV (P:=P) (a:=a2) (w:=w') (o:=⟨none,.store e (.tmp p) (.tmp x),y2,p2,f2,none⟩) rfl v2p hw' (by rw [v2x];show pc.size=_;rw [hpc1,hc]) (by omega) (by rw [v2x];exact hone) (by rw [v2x];show _+pc.size≤_;rw [hpc1,hc];exact hfit);rw [v2x] at this;have hcl:(Value.agg pc).cells=pc:=rfl;rw [hcl,hcur2] at this;exact this
 have E3:∀(ax:Act) (w':World),ax.eval (.tmp b)= .pointer (some ⟨μ kb,off,none⟩)→ax.eval (.tmp r)=vS→w'.heap[μ kb]? =some (.cells vs0 T0 (0,0))→(execOp ax.eval ⟨none,.store t (.tmp b) (.tmp r),y3,p3,f3,none⟩).run P w'= .ok .skip (w'.setRow (μ kb) X):=fun ax w' hb1 hr1 hw'=>by have:=qV (P:=P) (a:=ax) (w:=w') (o:=⟨none,.store t (.tmp b) (.tmp r),y3,p3,f3,none⟩) rfl hb1 hw' (by rw [hr1,hvc, ← hcd.1,hys1];rfl) (by omega) (by rw [hr1,hvc];simpa using hvo) (by rw [hr1,hvc];show off+1≤_;rw [hsz0];omega);rw [hr1,hvc] at this;have:(execOp ax.eval ⟨none,.store t (.tmp b) (.tmp r),y3,p3,f3,none⟩).run P w'= .ok .skip (w'.setRow (μ kb) (spl vs0 off [vS])):=this;rw [hX] at this;exact this
 have hb1:a1.eval (.tmp b)= .pointer (some ⟨μ kb,off,none⟩):=by rw [v1b, ← v2b];exact hb'
 have hgX:(w1.setRow (μ kb) X).heap[g]? =some (.cells cur1 e (0,0)):=(setRow_other w1 (μ kb) g _ (Ne.symm hbg)).trans hg
 have hbX:(w1.setRow g cur2).heap[μ kb]? =some (.cells vs0 T0 (0,0)):=(setRow_other w1 g (μ kb) _ hbg).trans hob
 have hcomm:(w1.setRow (μ kb) X).setRow g cur2=(w1.setRow g cur2).setRow (μ kb) X:=a5D w1 hbg X cur2;have hfin:QQ .normal a2 ((w1.setRow g cur2).setRow (μ kb) X):=by
  obtain ⟨v,w',R',μ',hrun,hr3,_,_,hs3⟩:=a1x (o:=⟨none,.store t (.tmp b) (.tmp r),y3,p3,f3,none⟩) rfl hst base R1 μ a2 _ hr2;rw [E3 a2 _ hb' v2r hbX] at hrun;rcases hrun with hrun|⟨hrun,_⟩
  ·cases hrun
  ·cases hrun;exact hk out.st a2 _ R' μ' hQ hr3 (hs1.trans hs3)
 refine wpAny_all r0 (by simp) fun i hi=>?_
 simp only [d3O] at hi;subst hi;refine cQ h0 rfl (.inl E0) ha1 ?_
 refine wpAny_all r1 (by simp) fun j hj=>?_
 simp only [List.mem_cons,List.not_mem_nil,or_false] at hj;rcases hj with rfl|rfl
 ·refine cQ h1 rfl (.inl (E1 w1)) ha2 ?_
  refine wpAny_all r2 (by simp) fun j hj=>?_
  simp only [List.mem_cons,List.not_mem_nil,or_false] at hj;rcases hj with rfl|rfl
  ·refine cQ h2 rfl (.inr ⟨E2 w1 hg,rfl⟩) rfl ?_
   refine wpAny_all r4 (by simp) fun j hj=>?_
   simp only [d3O] at hj;subst hj;exact cQ h3 rfl (.inr ⟨E3 a2 _ hb' v2r hbX,rfl⟩) rfl (wpAny_done r7 hfin _)
  ·refine cQ h3 rfl (.inr ⟨E3 a2 _ hb' v2r hob,rfl⟩) rfl ?_
   refine wpAny_all r5 (by simp) fun j hj=>?_
   simp only [d3O] at hj;subst hj;exact cQ h2 rfl (.inr ⟨E2 _ hgX,rfl⟩) rfl (wpAny_done r8 (by rw [hcomm];exact hfin) _)
 ·refine cQ h3 rfl (.inr ⟨E3 a1 _ hb1 v1r hob,rfl⟩) rfl ?_
  refine wpAny_all r3 (by simp) fun j hj=>?_
  simp only [d3O] at hj;subst hj;refine cQ h1 rfl (.inl (E1 _)) ha2 ?_
  refine wpAny_all r6 (by simp) fun j hj=>?_
  simp only [d3O] at hj;subst hj;exact cQ h2 rfl (.inr ⟨E2 _ hgX,rfl⟩) rfl (wpAny_done r9 (by rw [hcomm];exact hfin) _)
end
end Go.VM
end
section
namespace Go.VM
open Go Go.RowKit
section
variable {P:Program} {G:GT} {st:St} {Q:Exit→St→Prop}
theorem SW.c9Y {id:Nat}{c:Code}(h:SW P G c st fun e s=>match e with
  | .exit id'=>if id'=id then Q .normal s else Q (.exit id') s
  |e=>Q e s):SW P G (.block id c) st Q:=fun base R μ a w hr=>wp_block (wp_mono (h base R μ a w hr) fun e a1 w1 ⟨s,R1,μ1,q1,q2,q3⟩=>by
   cases e with
   |exit id'=>
    simp only [Exit.inBlock];simp only at q1;by_cases hid:id'=id
    ·rw [if_pos hid] at q1 ⊢;exact ⟨s,R1,μ1,q1,q2,q3⟩
    ·rw [if_neg hid] at q1 ⊢;exact ⟨s,R1,μ1,q1,q2,q3⟩
   |_=>exact ⟨s,R1,μ1,q1,q2,q3⟩)
theorem SW.d3c {c:Code}{ι:Type}(ws:ι→List (Nat×DV))(H:ι→List (Nat×aR))(own:ι→List (TypeId×List Loc))(m:ι→Nat)(x0:ι)(h0:tS st (kE c st (ws x0) (H x0) (own x0)))(round:∀x,SW P G c (kE c st (ws x) (H x) (own x)) fun e s=>match e with
   | .normal=>bN (fun y=>kE c st (ws y) (H y) (own y)) m x s
   |e=>Q e s):SW P G (.loop c) st Q:=by
 intro base R μ a w hr;refine wp_loop_ghost (fun n a1 w1=>∃x R1 μ1,m x=n∧Rel P G base R1 μ1 (kE c st (ws x) (H x) (own x)) a1 w1∧Step base R w R1 w1) (m x0) ⟨x0,R,μ,rfl,hr.xB h0,.refl _ _ _⟩ ?_
 rintro n a1 w1 ⟨x,R1,μ1,rfl,hr1,hs1⟩;refine wp_mono (round x base R1 μ1 a1 w1 hr1) fun e a2 w2 ⟨s,R2,μ2,q,hr2,hs2⟩=>?_
 cases e with
 |normal=>simp only at q;unfold bN at q;obtain ⟨y,hy,hlt⟩:=q;exact ⟨m y,hlt,y,R2,μ2,rfl,hr2.xB hy,hs1.trans hs2⟩
 |_=>exact ⟨s,R2,μ2,q,hr2,hs1.trans hs2⟩
theorem b5V {all:Array Oper}{rest:List Oper}{T:St→Prop}(h:VK P G [.ops true all rest] .normal st fun _ s=>T s):pU P G true all rest st T:=by simp only [VK] at h;exact h
def c9Z (P:Program)(G:GT)(t e:TypeId)(s z r p q x b:Tmp)(Q:St→Prop)(st:St):Prop:=
 ∃(xs:List (List D)) (z0 c:List D) (dB:List (TypeId×List Loc)) (out:Out),(r<st.tmps.length∧p<st.tmps.length)∧st.eval G (.tmp s)= .d (.sl xs)∧eD (.t s) st.own=some (e,dB)∧(∀c∈xs,c.length=P.cellsOf e)∧st.eval G (.tmp z)= .d (.sl [z0])∧z0.length=P.cellsOf e∧
  (xs.length+1)*(P.bytesOf e+1)≤140737488355328∧st.eval G (.tmp q)= .d (.int .i64 (xs.length:Int))∧st.eval G (.tmp x)= .d (.agg c)∧c.length=P.cellsOf e∧pR P G t (.tmp b) (.tmp r) (tl2 st dB e r p xs c)=some out∧Q out.st
def b0m (ops:Array Oper)(m:Nat):Bool:=
 let L:=kN m ops.size
 decide (ops.size=m+4)&&(Region.ready .any ops L==[m])&&(Region.ready .any ops (L.setIfInBounds m true)==[m+1,m+3])&&(Region.ready .any ops ((L.setIfInBounds m true).setIfInBounds (m+1) true)==[m+2,m+3])&&(Region.ready .any ops ((L.setIfInBounds m true).setIfInBounds (m+3) true)==[m+1])&&
 (Region.ready .any ops (((L.setIfInBounds m true).setIfInBounds (m+1) true).setIfInBounds (m+2) true)==[m+3])&&(Region.ready .any ops (((L.setIfInBounds m true).setIfInBounds (m+1) true).setIfInBounds (m+3) true)==[m+2])&&(Region.ready .any ops (((L.setIfInBounds m true).setIfInBounds (m+3) true).setIfInBounds (m+1) true)==[m+2])&&
 (Region.ready .any ops ((((L.setIfInBounds m true).setIfInBounds (m+1) true).setIfInBounds (m+2) true).setIfInBounds (m+3) true)==[])&&(Region.ready .any ops ((((L.setIfInBounds m true).setIfInBounds (m+1) true).setIfInBounds (m+3) true).setIfInBounds (m+2) true)==[])&&(Region.ready .any ops ((((L.setIfInBounds m true).setIfInBounds (m+3) true).setIfInBounds (m+1) true).setIfInBounds (m+2) true)==[])
end
end Go.VM
end
section
namespace Go.VM
open Go Go.RowKit
section
variable {P:Program} {G:GT} {st:St}
theorem Rel.alias {base:cM}{R:Nat→Nat→Prop}{μ:Nat→Nat}{a:Act}{w:World}(hr:Rel P G base R μ st a w){t:Tmp}{k off:Nat}(hk:∃o,getKey k st.H=some o)(ht:t<a.tmps.size)(h:∀u,w.cell? ⟨μ k,off,none⟩=some u→u=a.eval (.tmp t)):
  Rel P G base R μ { st with own:=addAlias (.t t) (.c k off) st.own } a w:=by
 obtain ⟨vs,hvs⟩:=hr.own;refine ⟨hr.defers,hr.size,hr.tmps,hr.eT,hr.inj,fun c hc k' off' hl=>?_,⟨vs,by simpa [addAlias] using hvs.len,fun i c v hc hv=>?_,hvs.apart⟩,hr.qL,hr.kY,hr.base,hr.pass⟩
 ·obtain ⟨i,hi⟩:=d3Y hc;obtain ⟨c',hc',_,hm⟩:=qO hi;rcases hm _ hl with hx|⟨hx,_⟩
  ·exact hr.cU c' (d3M hc') k' off' hx
  ·cases hx;exact hk
 ·obtain ⟨c',hc',he,hm⟩:=qO hc;have ho:=hvs.one i c' v hc' hv;refine ⟨fun l hl u hu=>?_,by rw [he];exact ho.own,ho.keys⟩;rcases hm l hl with hx|⟨rfl,hx⟩
  ·exact ho.cU l hx u hu
  ·have h1:=h u hu;have h2:bS a w μ (.t t)=some (a.eval (.tmp t)):=by simp [bS,Act.eval,ht]
   rw [h1];exact ho.cU _ hx _ h2
end
end Go.VM
end
section
namespace Go.VM
open Go Go.RowKit
section
variable {P:Program} {G:GT} {base:cM} {R:Nat→Nat→Prop} {μ:Nat→Nat} {st:St} {a:Act} {w:World}
theorem rW {o:Oper}{t u:TypeId}{x:Operand}{i fo:Nat}(ho:o.op= .fieldAddr t x i)(hf:aH P t i=some (fo,u))(hne:P.cellsOf u≠0){b off:Nat}(hx:a.eval x= .pointer (some ⟨b,off,none⟩)):
  (execOp a.eval o).run P w= .ok (.value (.pointer (some ⟨b,off+fo,none⟩))) w:=by
 obtain ⟨fs,f,h1,h2,rfl,rfl⟩:=qR hf;obtain ⟨ti,hti⟩:∃i,P.info? f.type=some i:=by
  cases hi:P.info? f.type with
  |none=>simp [Program.cellsOf,hi] at hne
  |some i=>exact ⟨i,rfl⟩
 simp [execOp,ho,hx,Instr.fieldAt,run_underlying h1,h2,Instr.sureAddr,uQ (w:=w) b off f hti hne]
end
end Go.VM
end
section
namespace Go.VM
open Go
section
variable {G:GT}
theorem b7o {P:Program}{id:Nat}{ops:Array Oper}{st:St}{Q:Exit→St→Prop}(hm:P.follows .mixedOrders=true)(h:a6O P G ops (fun s=>Q .normal s) ops.size (Array.replicate ops.size false) st):SW P G (.region id ops true) st Q:=by intro base R μ a w hr;obtain ⟨hr',hs'⟩:=hr.drew;exact wp_region_any hm (a6p ops.size _ st h base R μ a w.drew hr' fun s a' w' R' μ' q1 q2 q3=>⟨s,R',μ',q1,q2,hs'.trans q3⟩)
abbrev lst (l:List Nat):Array Bool:=l.foldl (fun a i=>a.setIfInBounds i true) (Array.replicate 4 false)
def four (ops:Array Oper):Bool:=decide (ops.size=4)&&(Region.ready .any ops (lst [])==[0,1])&&(Region.ready .any ops (lst [0])==[1,2])&&(Region.ready .any ops (lst [1])==[0,3])&&(Region.ready .any ops (lst [0,1])==[2,3])&&(Region.ready .any ops (lst [1,0])==[2,3])
 &&(Region.ready .any ops (lst [0,2])==[1])&&(Region.ready .any ops (lst [1,3])==[0])&&(Region.ready .any ops (lst [0,1,2])==[3])&&(Region.ready .any ops (lst [0,1,3])==[2])&&(Region.ready .any ops (lst [1,0,2])==[3])&&(Region.ready .any ops (lst [1,0,3])==[2])&&(Region.ready .any ops (lst [0,2,1])==[3])&&(Region.ready .any ops (lst [1,3,0])==[2])
 &&(Region.ready .any ops (lst [0,1,2,3])==[])&&(Region.ready .any ops (lst [0,1,3,2])==[])&&(Region.ready .any ops (lst [1,0,2,3])==[])&&(Region.ready .any ops (lst [1,0,3,2])==[])&&(Region.ready .any ops (lst [0,2,1,3])==[])&&(Region.ready .any ops (lst [1,3,0,2])==[])
theorem d2u {P:Program}{id:Nat}{ops:Array Oper}{st:St}{Q:Exit→St→Prop}{o0 o1 o2 o3:Oper}(hm:P.follows .mixedOrders=true)(hB:four ops=true)(h0:ops[0]? =some o0)(h1:ops[1]? =some o1)(h2:ops[2]? =some o2)(h3:ops[3]? =some o3)(h:let V:=jZ P G true ops
   let F:=fun s=>Q .normal s
   V o0 (fun s=>V o1 (fun s=>V o2 (V o3 F) s∧V o3 (V o2 F) s) s∧V o2 (V o1 (V o3 F)) s) st∧V o1 (fun s=>V o0 (fun s=>V o2 (V o3 F) s∧V o3 (V o2 F) s) s∧V o3 (V o0 (V o2 F)) s) st):SW P G (.region id ops true) st Q:=by
 simp only [four,d3H,decide_eq_true_eq,beq_iff_eq,List.foldl_cons,List.foldl_nil] at hB;obtain ⟨⟨⟨⟨⟨⟨⟨⟨⟨⟨⟨⟨⟨⟨⟨⟨⟨⟨⟨hsz,r⟩,r0⟩,r1⟩,r01⟩,r10⟩,r02⟩,r13⟩,r012⟩,r013⟩,r102⟩,r103⟩,r021⟩,r130⟩,r0123⟩,r0132⟩,r1023⟩,r1032⟩,r0213⟩,r1302⟩:=hB;refine b7o hm ?_
 rw [hsz];simp only [a6O,r,r0,r1,r01,r10,r02,r13,r012,r013,r102,r103,r021,r130,r0123,r0132,r1023,r1032,r0213,r1302,h0,h1,h2,h3,List.forall_mem_cons,List.not_mem_nil,false_imp_iff,implies_true,and_true,true_and,reduceCtorEq];exact h
def three (ops:Array Oper):Bool:=decide (ops.size=4)&&(Region.ready .any ops (lst [])==[0,1])&&(Region.ready .any ops (lst [0])==[1,2])&&(Region.ready .any ops (lst [1])==[0])&&(Region.ready .any ops (lst [0,1])==[2])&&(Region.ready .any ops (lst [1,0])==[2])
 &&(Region.ready .any ops (lst [0,2])==[1])&&(Region.ready .any ops (lst [0,1,2])==[3])&&(Region.ready .any ops (lst [1,0,2])==[3])&&(Region.ready .any ops (lst [0,2,1])==[3])
 &&(Region.ready .any ops (lst [0,1,2,3])==[])&&(Region.ready .any ops (lst [1,0,2,3])==[])&&(Region.ready .any ops (lst [0,2,1,3])==[])
theorem b3S {P:Program}{id:Nat}{ops:Array Oper}{st:St}{Q:Exit→St→Prop}{o0 o1 o2 o3:Oper}(hm:P.follows .mixedOrders=true)(hB:three ops=true)(h0:ops[0]? =some o0)(h1:ops[1]? =some o1)(h2:ops[2]? =some o2)(h3:ops[3]? =some o3)(h:VK P G [.ops true ops [o0]] .normal st (fun _ s=>VK P G [.ops true ops [o1,o2,o3]] .normal s (fun _ s=>Q .normal s)∧VK P G [.ops true ops [o2,o1,o3]] .normal s (fun _ s=>Q .normal s))∧VK P G [.ops true ops [o1,o0,o2,o3]] .normal st (fun _ s=>Q .normal s)):SW P G (.region id ops true) st Q:=by
 simp only [VK] at h;simp only [three,d3H,decide_eq_true_eq,beq_iff_eq,List.foldl_cons,List.foldl_nil] at hB;obtain ⟨⟨⟨⟨⟨⟨⟨⟨⟨⟨⟨⟨hsz,r⟩,r0⟩,r1⟩,r01⟩,r10⟩,r02⟩,r012⟩,r102⟩,r021⟩,r0123⟩,r1023⟩,r0213⟩:=hB;refine b7o hm ?_
 rw [hsz];simp only [a6O,r,r0,r1,r01,r10,r02,r012,r102,r021,r0123,r1023,r0213,h0,h1,h2,h3,List.forall_mem_cons,List.not_mem_nil,false_imp_iff,implies_true,and_true,true_and,reduceCtorEq];exact h
end
end Go.VM
end
section
namespace Go.VM
open Go
section
variable {P:Program} {G:GT} {base:cM} {R:Nat→Nat→Prop} {μ:Nat→Nat} {st:St} {a:Act} {w:World}
def xW (P:Program)(G:GT)(ops:Array Oper)(c:Nat)(Q:St→Prop):Nat→Array Bool→St→Prop
 |0,listed,st=>Region.ready .any ops listed=[]∧Q st
 |fuel+1,listed,st=>(Region.ready .any ops listed=[]→Q st)∧∀i∈Region.ready .any ops listed,match ops[i]? with
  |none=>xW P G ops c Q fuel (listed.setIfInBounds i true) st
  |some o=>jZ P G (i !=c) ops o (xW P G ops c Q fuel (listed.setIfInBounds i true)) st
theorem a3P {ops:Array Oper}{c:Nat}{Q:St→Prop}{QQ:Exit→Act→World→Prop}:∀(fuel:Nat) (listed:Array Bool) (st:St),xW P G ops c Q fuel listed st→∀(base:cM) (R:Nat→Nat→Prop) (μ:Nat→Nat) (a:Act) (w:World),Rel P G base R μ st a w→
  (∀s a' w' R' μ',Q s→Rel P G base R' μ' s a' w'→Step base R w R' w'→QQ .normal a' w')→wpAny P .any ops QQ fuel listed a w
 |0,_,st,h,base,R,μ,a,w,hr,hk=>⟨h.1,hk st a w R μ h.2 hr (.refl _ _ _)⟩
 |fuel+1,listed,st,h,base,R,μ,a,w,hr,hk=>by
  refine ⟨fun h0=>hk st a w R μ (h.1 h0) hr (.refl _ _ _),fun i hi=>?_⟩;have h1:=h.2 i hi;unfold wpOp;split
  ·rename_i ho;rw [ho] at h1;exact a3P fuel _ st h1 base R μ a w hr hk
  ·rename_i o ho;rw [ho] at h1;exact pM h1 hr fun s v w' R' μ' h' hr' hs'=>a3P fuel _ s h' base R' μ' _ w' hr' fun s a' w2 R2 μ2 q1 q2 q3=>hk s a' w2 R2 μ2 q1 q2 (hs'.trans q3)
theorem c1l {id:Nat}{ops:Array Oper}{c:Nat}{Q:Exit→St→Prop}(hm:P.follows .mixedOrders=true)(h:xW P G ops c (fun s=>Q .normal s) ops.size (Array.replicate ops.size false) st):SW P G (.region id ops true) st Q:=by intro base R μ a w hr;obtain ⟨hr',hs'⟩:=hr.drew;exact wp_region_any hm (a3P ops.size _ st h base R μ a w.drew hr' fun s a' w' R' μ' q1 q2 q3=>⟨s,R',μ',q1,q2,hs'.trans q3⟩)
theorem b3T {ops:Array Oper}{c:Nat}{Q:St→Prop}{i:Nat}{oi:Oper}(hA:kH ops)(hi:ops[i]? =some oi)(hic:i≠c)(hsi:(cI oi.op=true∧gZ ops oi=false)∨kB oi=true):
  ∀(fuel:Nat) (listed:Array Bool) (st s:St),dM ops listed→
   (∀j oj,ops[j]? =some oj→j≠i→listed.getD j true=false→eH ops ops.size j i=false→j≠c∧oi.apart ops oj=true∧mB ops oi oj=true)→
   i∈Region.ready .any ops listed→mD ops listed st→Eff P G ops oi st s→
   xW P G ops c Q fuel (listed.setIfInBounds i true) s→xW P G ops c Q (fuel+1) listed st:=by
 have qi:(i !=c)=true:=by simpa using hic
 intro fuel
 induction fuel with
 |zero=>
  intro listed st s _ _ hr _ hy H;refine ⟨fun h=>(by rw [h] at hr;cases hr),fun j hj=>?_⟩;by_cases hji:j=i
  ·subst hji;rw [hi,qi];exact (cS hsi).2 ⟨s,hy,H⟩
  ·have:=ready_mono hj hji;rw [H.1] at this;cases this
 |succ fuel ih=>
  intro listed st s hcl hfree hr hI hy H;refine ⟨fun h=>(by rw [h] at hr;cases hr),fun j hj=>?_⟩;by_cases hji:j=i
  ·subst hji;rw [hi,qi];exact (cS hsi).2 ⟨s,hy,H⟩
  ·have h1:=H.2 j (ready_mono hj hji);obtain ⟨hjun,oj,hoj,hall⟩:=mem_ready.1 hj;rw [hoj] at h1 ⊢;simp only at h1 ⊢;obtain ⟨hiun,oi',hoi',halli⟩:=mem_ready.1 hr;have hnot:eH ops ops.size j i=false:=cN hcl hiun _ _ fun o ho=>by rw [hoj] at ho;cases ho;exact hall
   obtain ⟨hjc,hap,hpo⟩:=hfree j oj hoj hji hjun hnot;have qj:(j !=c)=true:=by simpa using hjc
   rw [qj] at h1 ⊢;have hsj:(cI oj.op=true∧gZ ops oj=false)∨kB oj=true:=by
    by_cases hs:kB oj=true
    ·exact .inr hs
    ·refine .inl ⟨?_,?_⟩
     ·unfold mB at hpo;simp only [kB,d3T,d3H,Bool.not_eq_true'] at hpo hs;rcases hpo with ((((((h|h)|h)|h)|h)|h)|h)|h
      ·exact h.1.2
      ·exact absurd (.inl (.inl h.1.2)) hs
      ·exact h.1.1.2
      ·exact absurd (.inl (.inr h.2)) hs
      ·exact h.1.2
      ·exact absurd (.inl h.1.2) hs
      ·exact absurd (.inr h.2) hs
      ·exact (jI (G:=G) (st:=st) h.1.2).1
     ·cases hx:gZ ops oj with
      |false=>rfl
      |true=>
       have hlt:i<ops.size:=(d3Q.1 hi).1;rcases pV hx hoj hlt (fun e=>hji e.symm) with h'|h'
       ·have:=cN hcl hjun ops.size i fun o ho=>by rw [hoi'] at ho;cases ho;exact halli
        rw [h'] at this;cases this
       ·rw [hnot] at h';cases h'
   obtain ⟨s12,hu,hk⟩:=(cS hsj).1 h1;obtain ⟨s2,e1,e2⟩:=a3z hap hpo (fun hn d hd=>hI i oi d hi hn hiun hd) (fun hn d hd=>hI j oj d hoj hn hjun hd) hy hu;refine (cS hsj).2 ⟨s2,e1,?_⟩;refine ih (listed.setIfInBounds j true) s2 s12 (hcl.set hj) (fun k ok hk' hki hun hno=>?_) (ready_mono hr (Ne.symm hji)) (hI.step hA hoj fun k hf hn=>pI e1 hf hn) e2 ?_
   ·exact hfree k ok hk' hki (oU hun).2 hno
   ·rw [Array.setIfInBounds_comm _ _ hji];exact hk
def a0d (P:Program)(G:GT)(ops:Array Oper)(c:Nat):List Nat→St→(St→Prop)→Prop
 |[],st,K=>K st
 |i::r,st,K=>match ops[i]? with
  |some o=>jZ P G (i !=c) ops o (fun s=>a0d P G ops c r s K) st
  |none=>False
def a7C (ops:Array Oper)(c:Nat)(listed:Array Bool)(i:Nat):Bool:=(Region.ready .any ops listed==[i])||((Region.ready .any ops listed).contains i&&(i !=c)&&(match ops[i]? with
 |none=>false
 |some oi=>((cI oi.op&& !gZ ops oi)||kB oi)&&(List.range ops.size).all fun j=>j==i||listed.getD j true||eH ops ops.size j i||(j !=c&&(match ops[j]? with
  |some oj=>oi.apart ops oj&&mB ops oi oj
  |none=>true))))
def cD (l:List Nat)(x:Array Bool):Array Bool:=l.foldl (fun x i=>x.setIfInBounds i true) x
def a3Q (ops:Array Oper)(c:Nat):List Nat→Array Bool→Bool
 |[],_=>true
 |i::r,listed=>a7C ops c listed i&&a3Q ops c r (listed.setIfInBounds i true)
theorem b0n {ops:Array Oper}(h:dL ops=[]){i:Nat}{o:Oper}{d:Tmp}(hi:ops[i]? =some o)(hn:dF o=true)(hd:o.dst=some d):False:=by have:d∈dL ops:=List.mem_filterMap.2 ⟨o,by rw [Array.mem_toList_iff];exact Array.mem_of_getElem? hi,by rw [if_pos hn];exact hd⟩;rw [h] at this;cases this
theorem a1E {ops:Array Oper}{c:Nat}{Q:St→Prop}(hN:dL ops=[]):∀(l:List Nat) (listed:Array Bool) (st:St) (fuel:Nat),dM ops listed→a3Q ops c l listed=true→
  a0d P G ops c l st (xW P G ops c Q fuel (cD l listed))→(dM ops (cD l listed)→True)→xW P G ops c Q (l.length+fuel) listed st
 |[],listed,st,fuel,_,_,h,_=>by simpa [cD,a0d] using h
 |i::l,listed,st,fuel,hcl,hB,h,_=>by
  have hA:kH ops:=fun i j oi oj d hi _ hni _ hdi _=>(b0n hN hi hni hdi).elim
  have hI:∀listed st,mD ops listed st:=fun _ _ j oj d hj hn _ hd=>(b0n hN hj hn hd).elim
  simp only [a3Q,d3H] at hB;obtain ⟨hf,hB'⟩:=hB;simp only [a0d] at h;split at h;rotate_left
  ·cases h
  rename_i o ho;have he:(i::l).length+fuel=l.length+fuel+1:=by simp only [List.length_cons];omega
  rw [he];unfold a7C at hf;rw [d3T,beq_iff_eq] at hf;have hri:i∈Region.ready .any ops listed:=by
   rcases hf with hf|hf
   ·rw [hf];exact d3O.2 rfl
   ·simp only [d3H] at hf;simpa using hf.1.1
  have hnext:∀s,a0d P G ops c l s (xW P G ops c Q fuel (cD (i::l) listed))→xW P G ops c Q (l.length+fuel) (listed.setIfInBounds i true) s:=fun s hs=>a1E hN l _ s fuel (hcl.set hri) hB' hs fun _=>trivial
  rcases hf with hf|hf
  ·refine ⟨fun h'=>(by rw [h'] at hf;cases hf),fun j hj=>?_⟩;rw [hf,d3O] at hj;subst hj;rw [ho];exact dU hnext h
  ·rw [ho] at hf;simp only [d3H,d3T,Bool.not_eq_true',bne_iff_ne,ne_eq] at hf;obtain ⟨⟨_,hic⟩,hsi,hall⟩:=hf;have qi:(i !=c)=true:=by simpa using hic
   rw [qi] at h;obtain ⟨s,hd,hk⟩:=(cS hsi).1 h;refine b3T hA ho hic hsi _ listed st s hcl (fun j oj hj hne hun hno=>?_) hri (hI _ _) hd (hnext s hk);rw [d3K] at hall;have h1:=hall j (List.mem_range.2 (d3Q.1 hj).1);simp only [hj,d3T,beq_iff_eq,hne,false_or,hun,Bool.false_eq_true,hno,d3H,bne_iff_ne,ne_eq] at h1;exact h1
theorem b5W {ops:Array Oper}{c:Nat}{Q:St→Prop}{fuel:Nat}{listed:Array Bool}(h:Region.ready .any ops listed=[])(hq:Q st):xW P G ops c Q fuel listed st:=by
 cases fuel with
 |zero=>exact ⟨h,hq⟩
 |succ n=>exact ⟨fun _=>hq,fun i hi=>by rw [h] at hi;cases hi⟩
theorem pA {ops:Array Oper}{c:Nat}{K K':St→Prop}(hk:∀s,K s→K' s):∀(l:List Nat) (st:St),a0d P G ops c l st K→a0d P G ops c l st K'
 |[],st,h=>hk st h
 |i::r,st,h=>by
  simp only [a0d] at h ⊢;split at h
  ·exact dU (fun s hs=>pA hk r s hs) h
  ·cases h
theorem dM.cD {ops:Array Oper}{c:Nat}:∀(l:List Nat) (listed:Array Bool),dM ops listed→a3Q ops c l listed=true→dM ops (VM.cD l listed)
 |[],_,hc,_=>hc
 |i::r,listed,hc,hB=>by
  simp only [a3Q,d3H] at hB;have hri:i∈Region.ready .any ops listed:=by
   have hf:=hB.1;unfold a7C at hf;rw [d3T,beq_iff_eq] at hf;rcases hf with hf|hf
   ·rw [hf];exact d3O.2 rfl
   ·simp only [d3H] at hf;simpa using hf.1.1
  exact dM.cD r _ (hc.set hri) hB.2
inductive Ord where
 |none
 |call (rest:List Nat) (more:Ord)
 |op (i:Nat) (next more:Ord)
def sel (ops:Array Oper):List Nat→List Oper
 |[]=>[]
 |i::r=>match ops[i]? with
  |some o=>o::sel ops r
  |none=>sel ops r
def a5X (P:Program)(G:GT)(ops:Array Oper)(c:Nat)(K:St→Prop):Ord→St→Prop
 | .none,_=>True
 | .call rest more,st=>VK P G [.ops false ops (sel ops [c]),.ops true ops (sel ops rest)] .normal st (fun _ s=>K s)∧a5X P G ops c K more st
 | .op i next more,st=>VK P G [.ops true ops (sel ops [i])] .normal st (fun _ s=>a5X P G ops c K next s)∧a5X P G ops c K more st
def zB (c:Nat):Ord→Nat→Bool
 | .none,_=>false
 | .call _ more,j=>decide (j=c)||zB c more j
 | .op i _ more,j=>decide (j=i)||zB c more j
def inB (ops:Array Oper)(c:Nat)(l:List Nat):Bool:=l.all fun i=>decide (i<ops.size)&&decide (i≠c)
def a7D (ops:Array Oper)(c:Nat):Ord→Nat→Array Bool→Bool
 | .none,_,_=>true
 | .call rest more,n,listed=>decide (c<ops.size)&&inB ops c rest&&a3Q ops c rest (listed.setIfInBounds c true)&&(Region.ready .any ops (cD rest (listed.setIfInBounds c true))).isEmpty&&decide (rest.length+1≤n)&&a7D ops c more n listed
 | .op i next more,n,listed=>inB ops c [i]&&decide (2≤n)&& !(Region.ready .any ops (listed.setIfInBounds i true)).isEmpty&&((Region.ready .any ops (listed.setIfInBounds i true)).all fun j=>zB c next j)&&a7D ops c next (n-1) (listed.setIfInBounds i true)&&a7D ops c more n listed
theorem qW {ops:Array Oper}{c:Nat}{K:St→Prop}:∀(l:List Nat) (st:St),inB ops c l=true→pU P G true ops (sel ops l) st K→a0d P G ops c l st K
 |[],st,_,h=>h
 |i::r,st,hB,h=>by
  simp only [inB,List.all_cons,d3H,decide_eq_true_eq] at hB;obtain ⟨⟨hi,hic⟩,hr⟩:=hB;have qi:(i !=c)=true:=by simpa using hic
  simp only [sel,d3Z hi,pU] at h;simp only [a0d,d3Z hi,qi];exact dU (fun s hs=>qW r s hr hs) h
theorem a3R {ops:Array Oper}{c:Nat}{Q:St→Prop}(hN:dL ops=[]):∀(T:Ord) (n:Nat) (listed:Array Bool) (st:St),dM ops listed→a7D ops c T (n+1) listed=true→a5X P G ops c Q T st→∀i∈Region.ready .any ops listed,zB c T i=true→
  match ops[i]? with
  |none=>xW P G ops c Q n (listed.setIfInBounds i true) st
  |some o=>jZ P G (i !=c) ops o (xW P G ops c Q n (listed.setIfInBounds i true)) st
 | .none,_,_,_,_,_,_,_,_,ha=>by cases ha
 | .call rest more,n,listed,st,hcl,hB,h,i,hi,ha=>by
  simp only [a7D,d3H,decide_eq_true_eq,List.isEmpty_iff] at hB;obtain ⟨⟨⟨⟨⟨hc,hin⟩,hs⟩,he⟩,hlen⟩,hmore⟩:=hB;simp only [a5X] at h;simp only [zB,d3T,decide_eq_true_eq] at ha;by_cases hic:i=c
  ·subst hic;have h1:=h.1;simp only [VK,sel,d3Z hc,pU] at h1;simp only [d3Z hc,bne_self_eq_false];refine dU (fun s hs'=>?_) h1;obtain ⟨k,hk⟩:=Nat.exists_eq_add_of_le (Nat.le_of_succ_le_succ hlen);rw [hk];exact a1E hN rest _ s k (hcl.set hi) hs (pA (fun s hs=>b5W he hs) _ _ (qW rest s hin hs')) fun _=>trivial
  ·exact a3R hN more n listed st hcl hmore h.2 i hi (ha.resolve_left hic)
 | .op x next more,n,listed,st,hcl,hB,h,i,hi,ha=>by
  simp only [a7D,d3H,decide_eq_true_eq,Bool.not_eq_true',List.isEmpty_eq_false_iff,d3K] at hB;obtain ⟨⟨⟨⟨⟨hin,hn⟩,hne⟩,hall⟩,hnext⟩,hmore⟩:=hB;simp only [a5X] at h;simp only [zB,d3T,decide_eq_true_eq] at ha;by_cases hix:i=x
  ·subst hix;have h1:=h.1;simp only [inB,List.all_cons,List.all_nil,Bool.and_true,d3H,decide_eq_true_eq] at hin;have qi:(i !=c)=true:=by simpa using hin.2
   simp only [VK,sel,d3Z hin.1,pU] at h1;simp only [d3Z hin.1,qi];refine dU (fun s hs'=>?_) h1;obtain ⟨m,rfl⟩:∃m,n=m+1:=⟨n-1,by omega⟩;exact ⟨fun h'=>(hne h').elim,fun j hj=>a3R hN next m _ s (hcl.set hi) hnext hs' j hj (hall j hj)⟩
  ·exact a3R hN more n listed st hcl hmore h.2 i hi (ha.resolve_left hix)
def c1m (ops:Array Oper)(c:Nat)(anc:List Nat)(T:Ord):Bool:=(dL ops).isEmpty&&decide (anc.length+1≤ops.size)&&inB ops c anc&&a3Q ops c anc (Array.replicate ops.size false)&& !(Region.ready .any ops (cD anc (Array.replicate ops.size false))).isEmpty&&((Region.ready .any ops (cD anc (Array.replicate ops.size false))).all fun j=>zB c T j)&&a7D ops c T (ops.size-anc.length) (cD anc (Array.replicate ops.size false))
theorem d0a {id:Nat}{ops:Array Oper}{Q:Exit→St→Prop}(c:Nat)(anc:List Nat)(T:Ord)(hm:P.follows .mixedOrders=true)(hB:c1m ops c anc T=true)(h:VK P G [.ops true ops (sel ops anc)] .normal st fun _ s=>a5X P G ops c (fun s=>Q .normal s) T s):SW P G (.region id ops true) st Q:=by
 simp only [c1m,d3H,List.isEmpty_iff,decide_eq_true_eq,Bool.not_eq_true',List.isEmpty_eq_false_iff,d3K] at hB;obtain ⟨⟨⟨⟨⟨⟨hN,hlen⟩,hin⟩,hs⟩,hne⟩,hall⟩,ht⟩:=hB;refine c1l (c:=c) hm ?_
 obtain ⟨k,hk⟩:=Nat.exists_eq_add_of_le hlen;have hcl:dM ops (Array.replicate ops.size false):=fun k hk=>by
  rcases Nat.lt_or_ge k ops.size with h'|h'
  ·simp [h'] at hk
  ·simp [Nat.not_lt.2 h'] at hk
 have e:ops.size-anc.length=k+1:=by omega
 rw [e] at ht;simp only [VK] at h;have:=a1E (P:=P) (G:=G) (c:=c) (Q:=fun s=>Q .normal s) hN anc (Array.replicate ops.size false) st (k+1) hcl hs (pA (fun s hs'=>⟨fun h'=>(hne h').elim,fun j hj=>a3R hN T k _ s (dM.cD anc _ hcl hs) ht hs' j hj (hall j hj)⟩) _ _ (qW anc st hin h)) fun _=>trivial
 rw [show anc.length+(k+1)=ops.size by omega] at this;exact this
attribute [simp] sel a5X
theorem SW.d1G {st:St}{Q:Exit→St→Prop}{c:Code}{ι:Type}(ws:ι→List (Nat×DV))(H:ι→List (Nat×aR))(own:ι→List (TypeId×List Loc))(m:ι→Nat)(x0:ι)(h0:tS st (kE c st (ws x0) (H x0) (own x0)))(round:∀x,SW P G c (kE c st (ws x) (H x) (own x)) fun e s=>match e with
   | .normal=>bN (fun y=>kE c st (ws y) (H y) (own y)) m x s
   |e=>Q e s):SW P G (.loop c) st Q:=by
 intro base R μ a w hr;refine wp_loop_ghost (fun n a1 w1=>∃x R1 μ1,m x=n∧Rel P G base R1 μ1 (kE c st (ws x) (H x) (own x)) a1 w1∧Step base R w R1 w1) (m x0) ⟨x0,R,μ,rfl,hr.xB h0,.refl _ _ _⟩ ?_
 rintro n a1 w1 ⟨x,R1,μ1,rfl,hr1,hs1⟩;refine wp_mono (round x base R1 μ1 a1 w1 hr1) fun e a2 w2 ⟨s,R2,μ2,q,hr2,hs2⟩=>?_
 cases e with
 |normal=>simp only at q;unfold bN at q;obtain ⟨y,hy,hlt⟩:=q;exact ⟨m y,hlt,y,R2,μ2,rfl,hr2.xB hy,hs1.trans hs2⟩
 |_=>exact ⟨s,R2,μ2,q,hr2,hs1.trans hs2⟩
theorem SW.a2n {c:Operand}{x y:Code}{st:St}{Q:Exit→St→Prop}(hc:st.eval G c= .d (.bool true))(h:SW P G x st Q):SW P G (.cond c x y) st Q:=fun base R μ a w hr=>wp_cond (hr.xO hc) (h base R μ a w hr)
theorem SW.a5F {c:Operand}{x y:Code}{st:St}{Q:Exit→St→Prop}(hc:st.eval G c= .d (.bool false))(h:SW P G y st Q):SW P G (.cond c x y) st Q:=fun base R μ a w hr=>wp_cond (hr.xO hc) (h base R μ a w hr)
end
end Go.VM
end
section
namespace Go.VM
open Go Go.RowKit
section
variable {P:Program} {G:GT} {st:St} {base:cM} {R:Nat→Nat→Prop} {μ:Nat→Nat} {a:Act} {w:World}
abbrev tX (v:Value):List PanicEntry:=[{ v:=v,recovered:=false }]
def d1H (base:cM)(R:Nat→Nat→Prop)(w:World)(v:Value)(e:Ending)(w':World):Prop:=∃R',e= .panicked (tX v)∧Step base R w R' w'∧∀b o,R' b o→b<w'.heap.size
def CPn (P:Program)(G:GT)(f:FuncId)(s0:St)(v:Value):Prop:=
 ∀(base:cM) (R:Nat→Nat→Prop) (μ:Nat→Nat) (args:Array Value) (w:World),Rel P G base R μ s0 { tmps:=args,defers:=[] } w→Calls P f args w (d1H base R w v)
def a3S (P:Program)(G:GT)(f:FuncId)(d3F:List DV)(ls:List (Option Loc))(st:St)(v:Value):Prop:=
 ∀(base:cM) (R:Nat→Nat→Prop) (μ:Nat→Nat) (a:Act) (w:World) (args:Array Value),Rel P G base R μ st a w→args.size=d3F.length→(∀(i:Nat) (d:DV),d3F[i]? =some d→TV R μ w (args.getD i undef) d)→
  (∀(i:Nat) (l:Loc),ls[i]? =some (some l)→∀u,bS a w μ l=some u→u=args.getD i undef)→Calls P f args w (d1H base R w v)
theorem a3S.d0b {f:FuncId}{s0:St}{v:Value}(hch:CPn P G f s0 v)(K:List (Nat×Nat)){d3F:List DV}{ls:List (Option Loc)}{rest:List (TypeId×List Loc)}(hfit:aJ K s0 .undef s0.H=true)(hargs:WkT d3F (aM K s0.tmps))(hH:WkH st.H (cE K s0.H))(gU:qF st st.own (s0.own.map (kI K ls))=some rest)(kn:tE st.tmps.length ls s0.own=true):
  a3S P G f d3F ls st v:=by
 simp only [aJ,d3H,decide_eq_true_eq,d3K] at hfit;obtain ⟨⟨⟨⟨⟨⟨⟨⟨kf,ks⟩,kp⟩,kt⟩,kh⟩,kl⟩,kr⟩,kd⟩,k1⟩:=hfit;intro base R μ a w args hr hl hv hloc;obtain ⟨vs,hvs⟩:=hr.own;obtain ⟨vsT,vsR,t1,t2,t3,t4,t5,t6,t7⟩:=a0H hr _ _ _ vs ⟨hvs.len,hvs.one,hvs.apart⟩ gU;have inK:∀k o,getKey k s0.H=some o→(K.any fun p=>p.1==k)=true∧aL K o=true∧(getKey k s0.H).isSome=true:=fun k o hk=>by
  have:=kh _ (eN hk)
  try simp only [d3H] at this
  exact ⟨this.1.1,this.1.2,this.2⟩
 have inst:∀k o,getKey k s0.H=some o→∃o',getKey (rk K k) st.H=some o'∧WkO o' (cL K o):=fun k o hk=>by
  have hm:=eN hk;have:∀ {l:List (Nat×aR)},WkH st.H (cE K l)→(k,o)∈l→∃o',getKey (rk K k) st.H=some o'∧WkO o' (cL K o):=by
   intro l
   induction l with
   |nil=>intro _ h;cases h
   |cons p l ih=>
    intro hw hp;obtain ⟨h1,h2⟩:=hw;rcases List.mem_cons.1 hp with rfl|hp
    ·exact h1
    ·exact ih h2 hp
  exact this hH hm
 have big:∀k,(K.any fun p=>p.1==k)=true→100000≤k:=fun k hk=>by obtain ⟨p,h1,h2,_⟩:=uS hk;rw [← h2];exact kp p h1
 have rinj:∀k k',(K.any fun p=>p.1==k)=true→(K.any fun p=>p.1==k')=true→rk K k=rk K k'→k=k':=fun k k' h h' he=>by
  obtain ⟨p,p1,p2,p3⟩:=uS h;obtain ⟨q,q1,q2,q3⟩:=uS h';have hpq:p.2=q.2:=by rw [← p3, ← q3,he]
  have:p=q:=jQ.a5v.a1A ks p1 q1 hpq;rw [← p2, ← q2,this]
 have one:∀k,(getKey k s0.H).isSome=true→∃o,getKey k s0.H=some o:=fun k hk=>by
  obtain ⟨o,ho⟩:=Option.isSome_iff_exists.1 hk;have:=k1 _ (eN ho)
  try simp only [d3H] at this
  exact Option.isSome_iff_exists.1 this.2
 let base':cM:=⟨fun b=>w.heap.size≤b∨(∃k o,getKey k s0.H=some o∧b=μ (rk K k))∨(∃v∈vsT,aX v=some b),fun k=>μ (rk K k)⟩
 have sub:∀b,base' b→base b:=fun b hb=>by
  rcases hb with hb|⟨k,o,hk,rfl⟩|⟨v,hv,hs⟩
  ·exact hr.base b hb
  ·obtain ⟨o',ho',_⟩:=inst k o hk;exact (hr.eT _ o' ho').1
  ·obtain ⟨i,hi⟩:=d3Y hv;have hil:i<(s0.own.map (kI K ls)).length:=by rw [← t1];exact (d3I.1 hi).1
   exact (t2 i _ v (d3L hil) hi).own.wB hs
 have hrel0:Rel P G base' R (fun k=>μ (rk K k)) s0 { tmps:=args,defers:=[] } w:=by
  obtain ⟨g1,g2⟩:=uU hargs;rw [mI] at g1 g2;refine ⟨rfl,by show args.size=s0.tmps.length;rw [List.length_map] at g1;omega,fun i v d hiv hid=>?_,fun k o hk=>?_,fun k k' o o' hk hk' he=>?_,fun c hc k off hl'=>?_,⟨vsT,by simpa using t1,fun i c v hc hv'=>?_,t3⟩,hr.qL.up sub,hr.kY,fun b hb=> .inl hb,fun k hk=>rfl⟩
  ·obtain ⟨d0,hd0,hcase⟩:=g2 i (aW K d) (by rw [d3R,hid];rfl);have hva:=hv i d0 hd0;have hav:args.getD i undef=v:=by simp only at hiv;simp [d3J,hiv]
   rw [hav] at hva;have hren:TV R μ w v (aW K d):=by
    rcases hcase with hc|hc|⟨hc1,hc2⟩
    ·rw [hc];exact .undef _
    ·rw [hc];exact hva
    ·rw [hc2];rw [hc1] at hva;obtain ⟨ao,rfl⟩:=hva.a3p.gG;exact .d _ _ (.emp _ _)
   exact hren.ren (μ:=μ) (fun _ _=>rfl) (kt d (d3M hid))
  ·obtain ⟨q1,q2,_⟩:=inK k o hk;obtain ⟨o',ho',hw⟩:=inst k o hk;obtain ⟨p1,p2,p3⟩:=hr.eT _ o' ho';exact ⟨.inr (.inl ⟨k,o,hk,rfl⟩),p2,(a6q hw p3).ren (fun _ _=>rfl) q2⟩
  ·obtain ⟨o1,h1,_⟩:=inst k o hk;obtain ⟨o2,h2,_⟩:=inst k' o' hk';exact rinj k k' (inK k o hk).1 (inK k' o' hk').1 (hr.inj _ _ o1 o2 h1 h2 he)
  ·have:=d3K.1 (d3K.1 kl c hc) _ hl';exact Option.isSome_iff_exists.1 this
  ·have ho:=t2 i (kI K ls c) v (by rw [d3R,hc];rfl) hv';refine ⟨fun l hl' u hu=>?_,?_,fun k o hk=>?_⟩
   ·have hn:=d3K.1 (d3K.1 kn c (d3M hc)) l hl';cases l with
    |t j=>
     simp only at hn;split at hn
     ·rename_i t hj;simp only [decide_eq_true_eq] at hn;have ht:t<a.tmps.size:=by rw [hr.size];exact hn
      have hlv:bS a w μ (.t t)=some a.tmps[t]:=by simp [bS,ht]
      have h1:=hloc j _ hj _ hlv;have h2:=ho.cU (.t t) (List.mem_filterMap.2 ⟨.t j,hl',by simp [a7g,hj]⟩) _ hlv;simp only [bS] at hu;have h3:args.getD j undef=u:=by simp [d3J,hu]
      rw [← h3, ← h1,h2]
     ·cases hn
    |c k off=>exact ho.cU (.c (rk K k) off) (List.mem_filterMap.2 ⟨.c k off,hl',rfl⟩) u hu
   ·rcases ho.own with h|⟨g,n,cap,cur,h0,h1,h2,h3,h4⟩
    ·exact .inl h
    ·by_cases hc0:cap=0
     ·subst hc0;have:n=0:=by omega
      subst this;exact .inl ⟨_,h0⟩
     ·exact .inr ⟨g,n,cap,cur,h0,.inr (.inr ⟨v,d3M hv',by rw [h0];simp [aX,hc0]⟩),h2,h3,h4⟩
   ·obtain ⟨o',ho',_⟩:=inst k o hk;exact ho.keys _ o' ho'
 exact (hch base' R (fun k=>μ (rk K k)) args w hrel0).mono fun e w' ⟨R',he,hs,hb⟩=>⟨R',he,⟨hs.below.mono sub,hs.mono,fun b o h1 h2=>sub b (hs.new b o h1 h2),hs.cells⟩,hb⟩
theorem a2V {o:Oper}{f:FuncId}{d3F:List DV}{v:Value}(hc:dI G o st=some (f,d3F))(hcs:Enters P f∧a3S P G f d3F (gE o) st v)(hr:Rel P G base R μ st a w){K:Act→World→Prop}{Q:Exit→Act→World→Prop}(h:∀R' w',Step base R w R' w'→(∀b o,R' b o→b<w'.heap.size)→Q (.panic (tX v)) a w'):o.wp P a w K Q:=by
 obtain ⟨⟨fn,hf1,hf2,hf3⟩,hcs⟩:=hcs;have hf2': ¬fn.body=none:=fun he=>by simp [he] at hf2
 have hf3': ¬fn.name= "runtime.NumGoroutine" :=by simpa using hf3
 have main:∀args:Array Value,(execOp a.eval o).run P w= .ok (.enter f args) w→args.size=d3F.length→(∀(i:Nat) (d:DV),d3F[i]? =some d→TV R μ w (args.getD i undef) d)→
   (∀(i:Nat) (l:Loc),(gE o)[i]? =some (some l)→∀u,bS a w μ l=some u→u=args.getD i undef)→o.wp P a w K Q:=fun args hexec hl hv hloc=>by
  unfold Oper.wp;rw [hexec]
  show Calls P f args w _
  refine (hcs base R μ a w args hr hl hv hloc).mono fun e w' ⟨R',he,hs,hb⟩=>?_
  subst he;exact h R' w' hs hb
 have each:∀(l:List Operand) (i:Nat) (d:DV),(l.map (st.eval G))[i]? =some d→TV R μ w ((l.map a.eval).getD i undef) d:=fun l i d hi=>by
  rw [d3R] at hi;obtain ⟨x,hx,rfl⟩:=d3G.1 hi;have:(l.map a.eval).getD i undef=a.eval x:=by simp [List.getD,hx]
  rw [this];exact hr.eval x
 have cU:∀(args:Array Operand) (vs:Array Value),gE o=args.toList.map a0m→∀(i:Nat) (l:Loc),(gE o)[i]? =some (some l)→∀u,bS a w μ l=some u→u=(args.map a.eval++vs).getD i undef:=fun args vs qM i l hi u hu=>by
  rw [qM,d3R] at hi;obtain ⟨x,hx,hxl⟩:=d3G.1 hi;cases x with
  |tmp t=>
   simp only [a0m,d3N] at hxl;subst hxl;simp only [bS] at hu;have hlt:i<args.size:=by have:=(d3I.1 hx).1;simpa using this
   have he:args[i]? =some (.tmp t):=by simpa using hx
   rw [d3J,Array.getElem?_append_left (by simpa using hlt),Array.getElem?_map,he];simp [Act.eval,hu]
  |_=>cases hxl
 unfold dI at hc;split at hc
 ·rename_i x args ts hop;have qM:gE o=args.toList.map a0m:=by simp [gE,hop]
  split at hc
  ·rename_i f' hx;simp at hc;obtain ⟨rfl,rfl⟩:=hc;refine main (args.map a.eval) ?_ (by simp) (fun i d hi=>?_) (by simpa using cU args #[] qM)
   ·simp [execOp,hop,resolve,hr.a6E hx,Deferred.ofValue,invoke,callFunc,hf1,hf2',hf3']
   ·have:=each args.toList i d hi;simpa [d3J,List.getD] using this
  ·rename_i f' cs hx;simp at hc;obtain ⟨rfl,rfl⟩:=hc;obtain ⟨vs,he,hvs,hvc⟩:=(hr.jU hx).a3r;refine main (args.map a.eval++vs) ?_ (by simp [hvs]) (fun i d hi=>?_) (cU args vs qM)
   ·simp [execOp,hop,resolve,he,Deferred.ofValue,invoke,callFunc,hf1,hf2',hf3']
   ·by_cases hlt:i<args.size
    ·rw [d3S (by simpa using hlt)] at hi;have:=each args.toList i d hi;rw [d3J,Array.getElem?_append_left (by simpa using hlt)];simpa [d3J,List.getD] using this
    ·rw [d3P (by simp;omega)] at hi;simp only [List.length_map,Array.length_toList] at hi;have:=hvc _ d hi;rw [d3J,Array.getElem?_append_right (by simp;omega)];simpa [d3J] using this
  ·cases hc
 ·cases hc
abbrev wN (st:St):St:=⟨List.replicate st.tmps.length .undef,[],[]⟩
theorem Rel.a3T (hr:Rel P G base R μ st a w){R':Nat→Nat→Prop}{w':World}(hs:Step base R w R' w')(hb:∀b o,R' b o→b<w'.heap.size):Rel P G base R' μ (wN st) a w' where
 defers:=hr.defers
 size:=by simpa using hr.size
 tmps:=fun i v d _ hd=>by
  rw [List.getElem?_replicate] at hd;split at hd
  ·simp at hd;subst hd;exact .undef _
  ·cases hd
 eT:=fun k o h=>by cases h
 inj:=fun k k' o o' h=>by cases h
 cU:=fun c hc=>by cases hc
 own:=⟨[],rfl,fun i c v h _=>by simp at h,.nil⟩
 qL:=a1T.bC hs hr.qL
 kY:=hb
 base:=fun b h=>hr.base b (Nat.le_trans hs.below.size h)
 pass:=hr.pass
def wO (P:Program)(G:GT)(ops:Array Oper)(c:Nat)(Q:Exit→St→Prop)(st:St):Prop:=match ops[c]? with
 |some o=>dT o ops st.tmps=some true∧∃f d3F v,dI G o st=some (f,d3F)∧(Enters P f∧a3S P G f d3F (gE o) st v)∧Q (.panic (tX v)) (wN st)
 |none=>False
theorem wO.ok {ops:Array Oper}{c:Nat}{Q:Exit→St→Prop}{o:Oper}(ho:ops[c]? =some o)(h:wO P G ops c Q st)(hr:Rel P G base R μ st a w){QQ:Exit→Act→World→Prop}{KK:Act→World→Prop}{KE:Prop}(hk:∀v s w' R',Q (.panic (tX v)) s→Rel P G base R' μ s a w'→Step base R w R' w'→QQ (.panic (tX v)) a w'):
  if Region.wanted o (yielded ops a.tmps) then o.wp P a w KK QQ∨(o.asks P a w∧LetsOut QQ) else KE:=by
 unfold wO at h;rw [ho] at h;obtain ⟨hw,f,d3F,v,h1,h2,h3⟩:=h;rw [xP hr hw,if_pos rfl];exact .inl (a2V h1 h2 hr fun R' w' hs hb=>hk v _ w' R' h3 (hr.a3T hs hb) hs)
def a2o (P:Program)(G:GT)(ops:Array Oper)(c:Nat)(Z:St→Prop):Nat→Array Bool→St→Prop
 |0,_,_=>False
 |fuel+1,listed,st=>Region.ready .any ops listed≠[]∧∀i∈Region.ready .any ops listed,if i=c then Z st else match ops[i]? with
  |none=>False
  |some o=>jZ P G true ops o (a2o P G ops c Z fuel (listed.setIfInBounds i true)) st
theorem a3U {ops:Array Oper}{c:Nat}{Q:Exit→St→Prop}{QQ:Exit→Act→World→Prop}:∀(fuel:Nat) (listed:Array Bool) (st:St),a2o P G ops c (wO P G ops c Q) fuel listed st→∀(base:cM) (R:Nat→Nat→Prop) (μ:Nat→Nat) (a:Act) (w:World),Rel P G base R μ st a w→
  (∀v s a' w' R' μ',Q (.panic (tX v)) s→Rel P G base R' μ' s a' w'→Step base R w R' w'→QQ (.panic (tX v)) a' w')→wpAny P .any ops QQ fuel listed a w
 |0,_,st,h,base,R,μ,a,w,hr,hk=>h.elim
 |fuel+1,listed,st,h,base,R,μ,a,w,hr,hk=>by
  refine ⟨fun h0=>(h.1 h0).elim,fun i hi=>?_⟩;have h1:=h.2 i hi;unfold wpOp;split
  ·rename_i ho;rw [ho] at h1;split at h1
   ·rename_i hic;subst hic;unfold wO at h1;rw [ho] at h1;exact h1.elim
   ·exact h1.elim
  ·rename_i o ho;rw [ho] at h1;split at h1
   ·rename_i hic;subst hic;exact wO.ok ho h1 hr fun v s w' R' q1 q2 q3=>hk v s a w' R' μ q1 q2 q3
   ·exact pM h1 hr fun s v w' R' μ' h' hr' hs'=>a3U fuel _ s h' base R' μ' _ w' hr' fun v s a' w2 R2 μ2 q1 q2 q3=>hk v s a' w2 R2 μ2 q1 q2 (hs'.trans q3)
theorem b3U {ops:Array Oper}{c:Nat}{Z:St→Prop}{i:Nat}{oi:Oper}(hA:kH ops)(hi:ops[i]? =some oi)(hic:i≠c)(hsi:(cI oi.op=true∧gZ ops oi=false)∨kB oi=true):
  ∀(fuel:Nat) (listed:Array Bool) (st s:St),dM ops listed→
   (∀j oj,ops[j]? =some oj→j≠i→listed.getD j true=false→eH ops ops.size j i=false→j≠c∧oi.apart ops oj=true∧mB ops oi oj=true)→
   i∈Region.ready .any ops listed→mD ops listed st→Eff P G ops oi st s→
   a2o P G ops c Z fuel (listed.setIfInBounds i true) s→a2o P G ops c Z (fuel+1) listed st:=by
 intro fuel
 induction fuel with
 |zero=>intro listed st s _ _ hr _ hy H;exact H.elim
 |succ fuel ih=>
  intro listed st s hcl hfree hr hI hy H;refine ⟨fun h=>(by rw [h] at hr;cases hr),fun j hj=>?_⟩;by_cases hji:j=i
  ·subst hji;rw [if_neg hic,hi];exact (cS hsi).2 ⟨s,hy,H⟩
  ·have h1:=H.2 j (ready_mono hj hji);obtain ⟨hjun,oj,hoj,hall⟩:=mem_ready.1 hj;rw [hoj] at h1 ⊢;simp only at h1 ⊢;obtain ⟨hiun,oi',hoi',halli⟩:=mem_ready.1 hr;have hnot:eH ops ops.size j i=false:=cN hcl hiun _ _ fun o ho=>by rw [hoj] at ho;cases ho;exact hall
   obtain ⟨hjc,hap,hpo⟩:=hfree j oj hoj hji hjun hnot;rw [if_neg hjc] at h1 ⊢;have hsj:(cI oj.op=true∧gZ ops oj=false)∨kB oj=true:=by
    by_cases hs:kB oj=true
    ·exact .inr hs
    ·refine .inl ⟨?_,?_⟩
     ·unfold mB at hpo;simp only [kB,d3T,d3H,Bool.not_eq_true'] at hpo hs;rcases hpo with ((((((h|h)|h)|h)|h)|h)|h)|h
      ·exact h.1.2
      ·exact absurd (.inl (.inl h.1.2)) hs
      ·exact h.1.1.2
      ·exact absurd (.inl (.inr h.2)) hs
      ·exact h.1.2
      ·exact absurd (.inl h.1.2) hs
      ·exact absurd (.inr h.2) hs
      ·exact (jI (G:=G) (st:=st) h.1.2).1
     ·cases hx:gZ ops oj with
      |false=>rfl
      |true=>
       have hlt:i<ops.size:=(d3Q.1 hi).1;rcases pV hx hoj hlt (fun e=>hji e.symm) with h'|h'
       ·have:=cN hcl hjun ops.size i fun o ho=>by rw [hoi'] at ho;cases ho;exact halli
        rw [h'] at this;cases this
       ·rw [hnot] at h';cases h'
   obtain ⟨s12,hu,hk⟩:=(cS hsj).1 h1;obtain ⟨s2,e1,e2⟩:=a3z hap hpo (fun hn d hd=>hI i oi d hi hn hiun hd) (fun hn d hd=>hI j oj d hoj hn hjun hd) hy hu;refine (cS hsj).2 ⟨s2,e1,?_⟩;refine ih (listed.setIfInBounds j true) s2 s12 (hcl.set hj) (fun k ok hk' hki hun hno=>?_) (ready_mono hr (Ne.symm hji)) (hI.step hA hoj fun k hf hn=>pI e1 hf hn) e2 ?_
   ·exact hfree k ok hk' hki (oU hun).2 hno
   ·rw [Array.setIfInBounds_comm _ _ hji];exact hk
theorem a1F {ops:Array Oper}{c:Nat}{Z:St→Prop}(hN:dL ops=[]):∀(l:List Nat) (listed:Array Bool) (st:St) (fuel:Nat),dM ops listed→inB ops c l=true→a3Q ops c l listed=true→
  a0d P G ops c l st (a2o P G ops c Z fuel (cD l listed))→a2o P G ops c Z (l.length+fuel) listed st
 |[],listed,st,fuel,_,_,_,h=>by simpa [cD,a0d] using h
 |i::l,listed,st,fuel,hcl,hin,hB,h=>by
  have hA:kH ops:=fun i j oi oj d hi _ hni _ hdi _=>(b0n hN hi hni hdi).elim
  have hI:∀listed st,mD ops listed st:=fun _ _ j oj d hj hn _ hd=>(b0n hN hj hn hd).elim
  simp only [a3Q,d3H] at hB;obtain ⟨hf,hB'⟩:=hB;simp only [inB,List.all_cons,d3H,decide_eq_true_eq] at hin;obtain ⟨⟨_,hic⟩,hin'⟩:=hin;have qi:(i !=c)=true:=by simpa using hic
  simp only [a0d] at h;split at h;rotate_left
  ·cases h
  rename_i o ho;rw [qi] at h;have he:(i::l).length+fuel=l.length+fuel+1:=by simp only [List.length_cons];omega
  rw [he];unfold a7C at hf;rw [d3T,beq_iff_eq] at hf;have hri:i∈Region.ready .any ops listed:=by
   rcases hf with hf|hf
   ·rw [hf];exact d3O.2 rfl
   ·simp only [d3H] at hf;simpa using hf.1.1
  have hnext:∀s,a0d P G ops c l s (a2o P G ops c Z fuel (cD (i::l) listed))→a2o P G ops c Z (l.length+fuel) (listed.setIfInBounds i true) s:=fun s hs=>a1F hN l _ s fuel (hcl.set hri) hin' hB' hs
  rcases hf with hf|hf
  ·refine ⟨fun h'=>(by rw [h'] at hf;cases hf),fun j hj=>?_⟩;rw [hf,d3O] at hj;subst hj;rw [if_neg hic,ho];exact dU hnext h
  ·rw [ho] at hf;simp only [d3H,d3T,Bool.not_eq_true',bne_iff_ne,ne_eq] at hf;obtain ⟨⟨_,hic⟩,hsi,hall⟩:=hf;obtain ⟨s,hd,hk⟩:=(cS hsi).1 h;refine b3U hA ho hic hsi _ listed st s hcl (fun j oj hj hne hun hno=>?_) hri (hI _ _) hd (hnext s hk);rw [d3K] at hall;have h1:=hall j (List.mem_range.2 (d3Q.1 hj).1);simp only [hj,d3T,beq_iff_eq,hne,false_or,hun,Bool.false_eq_true,hno,d3H,bne_iff_ne,ne_eq] at h1;exact h1
def zY (P:Program)(G:GT)(ops:Array Oper)(Z:St→Prop):Ord→St→Prop
 | .none,_=>True
 | .call _ more,st=>Z st∧zY P G ops Z more st
 | .op i next more,st=>VK P G [.ops true ops (sel ops [i])] .normal st (fun _ s=>zY P G ops Z next s)∧zY P G ops Z more st
theorem a0R {ops:Array Oper}{c:Nat}{Z:St→Prop}:∀(T:Ord) (n:Nat) (listed:Array Bool) (st:St),a7D ops c T (n+1) listed=true→zY P G ops Z T st→∀i∈Region.ready .any ops listed,zB c T i=true→
  if i=c then Z st else match ops[i]? with
  |none=>False
  |some o=>jZ P G true ops o (a2o P G ops c Z n (listed.setIfInBounds i true)) st
 | .none,_,_,_,_,_,_,_,ha=>by cases ha
 | .call rest more,n,listed,st,hB,h,i,hi,ha=>by
  simp only [a7D,d3H] at hB;simp only [zY] at h;simp only [zB,d3T,decide_eq_true_eq] at ha;by_cases hic:i=c
  ·rw [if_pos hic];exact h.1
  ·exact a0R more n listed st hB.2 h.2 i hi (ha.resolve_left hic)
 | .op x next more,n,listed,st,hB,h,i,hi,ha=>by
  simp only [a7D,d3H,decide_eq_true_eq,Bool.not_eq_true',List.isEmpty_eq_false_iff,d3K] at hB;obtain ⟨⟨⟨⟨⟨hin,hn⟩,hne⟩,hall⟩,hnext⟩,hmore⟩:=hB;simp only [zY] at h;simp only [zB,d3T,decide_eq_true_eq] at ha;by_cases hix:i=x
  ·subst hix;have h1:=h.1;simp only [inB,List.all_cons,List.all_nil,Bool.and_true,d3H,decide_eq_true_eq] at hin;simp only [VK,sel,d3Z hin.1,pU] at h1;rw [if_neg hin.2];simp only [d3Z hin.1];refine dU (fun s hs'=>?_) h1;obtain ⟨m,rfl⟩:∃m,n=m+1:=⟨n-1,by omega⟩;exact ⟨hne,fun j hj=>a0R next m _ s hnext hs' j hj (hall j hj)⟩
  ·exact a0R more n listed st hmore h.2 i hi (ha.resolve_left hix)
theorem c5V {id:Nat}{ops:Array Oper}{Q:Exit→St→Prop}(c:Nat)(anc:List Nat)(T:Ord)(hm:P.follows .mixedOrders=true)(hB:c1m ops c anc T=true)(h:VK P G [.ops true ops (sel ops anc)] .normal st fun _ s=>zY P G ops (wO P G ops c Q) T s):SW P G (.region id ops true) st Q:=by
 simp only [c1m,d3H,List.isEmpty_iff,decide_eq_true_eq,Bool.not_eq_true',List.isEmpty_eq_false_iff,d3K] at hB;obtain ⟨⟨⟨⟨⟨⟨hN,hlen⟩,hin⟩,hs⟩,hne⟩,hall⟩,ht⟩:=hB;obtain ⟨k,hk⟩:=Nat.exists_eq_add_of_le hlen;have hcl:dM ops (Array.replicate ops.size false):=fun k hk=>by
  rcases Nat.lt_or_ge k ops.size with h'|h'
  ·simp [h'] at hk
  ·simp [Nat.not_lt.2 h'] at hk
 have e:ops.size-anc.length=k+1:=by omega
 rw [e] at ht;simp only [VK] at h;have:=a1F (P:=P) (G:=G) (c:=c) (Z:=wO P G ops c Q) hN anc (Array.replicate ops.size false) st (k+1) hcl hin hs (pA (fun s hs'=>⟨hne,fun j hj=>a0R T k _ s ht hs' j hj (hall j hj)⟩) _ _ (qW anc st hin h));rw [show anc.length+(k+1)=ops.size by omega] at this;intro base R μ a w hr;obtain ⟨hr',hs'⟩:=hr.drew;exact wp_region_any hm (a3U ops.size _ st this base R μ a w.drew hr' fun v s a' w' R' μ' q1 q2 q3=>⟨s,R',μ',q1,q2,hs'.trans q3⟩)
theorem CPn.a2g {f:FuncId}{fn:Func}{c:Code}{n:Nat}{s0:St}{v:Value}(hf:P.funcs[f]? =some fn)(hb:fn.body=some c)(hn:fn.ntmps=n)(hT:(s0.own.all fun c=>c.2.all fun l=>match l with| .t i=>decide (i<s0.tmps.length)|_=>true)=true)(h:SW P G c ⟨s0.tmps++List.replicate (n-s0.tmps.length) (.cF []),s0.H,s0.own⟩ fun e _=>e= .panic (tX v)):CPn P G f s0 v:=by
 intro base R μ args w hr;refine calls_of_wp hf hb ?_
 have hsz:args.size=s0.tmps.length:=hr.size;have hrel:Rel P G base R μ ⟨s0.tmps++List.replicate (n-s0.tmps.length) (.cF []),s0.H,s0.own⟩ { tmps:=args++Array.replicate (fn.ntmps-args.size) undef,defers:=[] } w:=by
  refine ⟨rfl,by simp [hsz,hn],fun i v d hiv hid=>?_,hr.eT,hr.inj,hr.cU,?_,hr.qL,hr.kY,hr.base,hr.pass⟩
  ·simp only at hid;by_cases hi:i<s0.tmps.length
   ·rw [d3S hi] at hid;rw [Array.getElem?_append_left (by omega)] at hiv;exact hr.tmps i v d hiv hid
   ·rw [d3P (by omega),List.getElem?_replicate] at hid;split at hid<;>simp at hid;subst hid;rw [Array.getElem?_append_right (by omega),Array.getElem?_replicate] at hiv;split at hiv<;>simp at hiv;subst hiv;exact .cF #[] [] rfl (by simp)
  ·obtain ⟨vs,hl,h1,hap⟩:=hr.own;refine ⟨vs,hl,fun i c v hc hv=>?_,hap⟩;have ho:=h1 i c v hc hv;refine ⟨fun l hl u hu=>?_,ho.own,ho.keys⟩;cases l with
   |t j=>have hj:=d3K.1 (d3K.1 hT c (d3M hc)) _ hl;simp only [decide_eq_true_eq] at hj;simp only [bS] at hu;rw [Array.getElem?_append_left (by omega)] at hu;exact ho.cU _ hl u hu
   |c k off=>exact ho.cU _ hl u hu
 refine wp_mono (h base R μ _ w hrel) fun e a' w' ⟨s,R',μ',he,hr',hs⟩=>?_
 subst he;exact ⟨hr'.defers,R',rfl,hs,hr'.kY⟩
attribute [simp] zY
end
end Go.VM
end
end
section
namespace Go.VM
open Go Go.RowKit
section
variable {P:Program} {G:GT} {st:St} {base:cM} {R:Nat→Nat→Prop} {μ:Nat→Nat} {a:Act} {w:World}
abbrev Ends:=Sum (DV×List (Nat×aR)×List (TypeId×List Loc)) Value
def CX (P:Program)(G:GT)(f:FuncId)(s0:St):Ends→Prop
 | .inl s1=>CH P G f s0 ⟨[s1.1],s1.2.1,s1.2.2⟩
 | .inr v=>CPn P G f s0 v
def rI (P:Program)(G:GT)(f:FuncId)(d3F:List DV)(ls:List (Option Loc))(dst:Option Tmp)(st:St)(K:St→Prop)(Q:Exit→St→Prop)(x0:Bool):Prop:=
 Enters P f∧(x0=true→∃s',jQ P G f d3F ls st dst s'∧K s')∧(x0=false→∃v,a3S P G f d3F ls st v∧Q (.panic (tX v)) (wN st))
def vJ (P:Program)(G:GT)(all:Array Oper)(l:List Oper)(K:List Oper→St→Prop)(Q:Exit→St→Prop)(x0:Bool)(st:St):Prop:=match l with
 |[]=>False
 |o::rest=>match dT o all st.tmps,jH G o st,dI G o st with
  |some true,none,some (f,d3F)=>rI P G f d3F (gE o) o.dst st (K rest) Q x0
  |_,_,_=>False
theorem a5G {all:Array Oper}{o:Oper}{rest:List Oper}{K:List Oper→St→Prop}{Q:Exit→St→Prop}{x0:Bool}(h:vJ P G all (o::rest) K Q x0 st):
  ∃f d3F,dT o all st.tmps=some true∧jH G o st=none∧dI G o st=some (f,d3F)∧rI P G f d3F (gE o) o.dst st (K rest) Q x0:=by
 unfold vJ at h;simp only at h;split at h
 ·rename_i f d3F h1 h2 h3;exact ⟨f,d3F,h1,h2,h3,h⟩
 ·exact h.elim
theorem vJ.pan {ops:Array Oper}{c:Nat}{o:Oper}{rest:List Oper}{K:List Oper→St→Prop}{Q:Exit→St→Prop}(ho:ops[c]? =some o)(h:vJ P G ops (o::rest) K Q false st):wO P G ops c Q st:=by obtain ⟨f,d3F,h2,_,h4,he,_,h5⟩:=a5G h;obtain ⟨v,h6,h7⟩:=h5 rfl;unfold wO;rw [ho];exact ⟨h2,f,d3F,v,h4,⟨he,h6⟩,h7⟩
theorem vJ.ret {all:Array Oper}{o:Oper}{rest:List Oper}{K:List Oper→St→Prop}{Q:Exit→St→Prop}(h:vJ P G all (o::rest) K Q true st):jZ P G false all o (K rest) st:=by obtain ⟨f,d3F,h2,h3,h4,he,h5,_⟩:=a5G h;obtain ⟨s',h6,h7⟩:=h5 rfl;unfold jZ;rw [h2,h3,h4];simp only [mW,Bool.false_and,wD,Bool.false_eq_true,if_false];exact ⟨s',⟨he,h6⟩,h7⟩
def LW (P:Program)(G:GT)(all:Array Oper)(l:List Oper)(st:St)(Q:Exit→St→Prop):Prop:=
 ∀(base:cM) (R:Nat→Nat→Prop) (μ:Nat→Nat) (a:Act) (w:World),Rel P G base R μ st a w→∀QQ:Exit→Act→World→Prop,(∀e s a' w' R' μ',Q e s→Rel P G base R' μ' s a' w'→Step base R w R' w'→QQ e a' w')→wpList P all QQ l a w
theorem LW.vk {all:Array Oper}{l:List Oper}{Q:Exit→St→Prop}(h:VK P G [.ops false all l] .normal st Q):LW P G all l st Q:=by intro base R μ a w hr QQ hk;simp only [VK] at h;exact b1g all _ l st (fun s=>Q .normal s) h base R μ a w hr fun s a' w' R' μ' q1 q2 q3=>hk _ s a' w' R' μ' q1 q2 q3
theorem d1I {x0:Bool}(all:Array Oper)(Q:Exit→St→Prop)(l2:List Oper)(hl:x0=false→∃(c:Nat) (o:Oper) (rest:List Oper),l2=o::rest∧all[c]? =some o):∀(l:List Oper) (st:St),pU P G false all l st (fun s=>vJ P G all l2 (fun r s=>LW P G all r s Q) Q x0 s)→∀(base:cM) (R:Nat→Nat→Prop) (μ:Nat→Nat) (a:Act) (w:World),Rel P G base R μ st a w→
  ∀QQ:Exit→Act→World→Prop,(∀e s a' w' R' μ',Q e s→Rel P G base R' μ' s a' w'→Step base R w R' w'→QQ e a' w')→wpList P all QQ (l++l2) a w
 |[],st,h,base,R,μ,a,w,hr,QQ,hk=>by
  have h:vJ P G all l2 (fun r s=>LW P G all r s Q) Q x0 st:=h
  show wpList P all QQ l2 a w
  cases l2 with
  |nil=>exact h.elim
  |cons o rest=>
   unfold wpList;cases x0 with
   |false=>obtain ⟨c,o',rest',he,hc⟩:=hl rfl;cases he;exact wO.ok hc (h.pan hc) hr fun v s w' R' q1 q2 q3=>hk _ s a w' R' μ q1 q2 q3
   |true=>
    refine pM h.ret hr fun s v w' R' μ' h' hr' hs'=>?_
    exact h' base R' μ' _ w' hr' QQ fun e s2 a2 w2 R2 μ2 q1 q2 q3=>hk e s2 a2 w2 R2 μ2 q1 q2 (hs'.trans q3)
 |x::l,st,h,base,R,μ,a,w,hr,QQ,hk=>by
  show wpList P all QQ (x::(l++l2)) a w
  unfold wpList;exact pM h hr fun s v w' R' μ' h' hr' hs'=>d1I all Q l2 hl l s h' base R' μ' _ w' hr' QQ fun e s a' w2 R2 μ2 q1 q2 q3=>hk e s a' w2 R2 μ2 q1 q2 (hs'.trans q3)
theorem LW.at {all:Array Oper}{l:List Oper}{Q:Exit→St→Prop}(c k:Nat)(x0:Bool)(hk:l[c]? =all[k]?)(hk2:∃o,l[c]? =some o)(h:VK P G [.ops false all (l.take c)] .normal st fun _ s=>vJ P G all (l.drop c) (fun r s=>LW P G all r s Q) Q x0 s):LW P G all l st Q:=by
 intro base R μ a w hr QQ hkk;simp only [VK] at h;rw [← List.take_append_drop c l];refine d1I all Q (l.drop c) (fun h0=>?_) _ st h base R μ a w hr QQ hkk;obtain ⟨o,ho⟩:=hk2;refine ⟨k,o,l.drop (c+1),?_,by rw [← hk,ho]⟩;have hlt:=(d3I.1 ho).1;rw [d3U hlt];rw [d3L hlt] at ho;cases ho
 rfl
theorem LW.app {all:Array Oper}{l:List Oper}{Q:Exit→St→Prop}(c:Nat)(h:VK P G [.ops false all (l.take c)] .normal st fun _ s=>LW P G all (l.drop c) s Q):LW P G all l st Q:=by
 intro base R μ a w hr QQ hk;simp only [VK] at h;have main:∀(l1:List Oper) (st:St),pU P G false all l1 st (fun s=>LW P G all (l.drop c) s Q)→∀(R:Nat→Nat→Prop) (μ:Nat→Nat) (a:Act) (w:World),Rel P G base R μ st a w→
   (∀e s a' w' R' μ',Q e s→Rel P G base R' μ' s a' w'→Step base R w R' w'→QQ e a' w')→wpList P all QQ (l1++l.drop c) a w:=by
  intro l1
  induction l1 with
  |nil=>intro st h R μ a w hr hk;exact h base R μ a w hr QQ hk
  |cons x l1 ih=>
   intro st h R μ a w hr hk
   show wpList P all QQ (x::(l1++l.drop c)) a w
   unfold wpList;exact pM h hr fun s v w' R' μ' h' hr' hs'=>ih s h' R' μ' _ w' hr' fun e s a' w2 R2 μ2 q1 q2 q3=>hk e s a' w2 R2 μ2 q1 q2 (hs'.trans q3)
 have:=main (l.take c) st h R μ a w hr hk
 rwa [List.take_append_drop] at this
theorem SW.lw {id:Nat}{ops:Array Oper}{Q:Exit→St→Prop}(h:LW P G ops ops.toList st Q):SW P G (.region id ops false) st Q:=fun base R μ a w hr=>wp_region_list (h base R μ a w hr _ fun e s a' w' R' μ' q1 q2 q3=>⟨s,R',μ',q1,q2,q3⟩)
theorem LW.b5X {all:Array Oper}{T y1 y2:TypeId}{td:TypeDesc}{d x:Tmp}{p1 p2:String}{f1 f2:Array Edge}{n e:Int}{Q:Exit→St→Prop}(hu:P.underlying T=some td)(hn:(match td with| .interface _=>false|_=>true)=true)(hd:d<st.tmps.length)(hx:st.eval G (.tmp x)= .d (.agg [.int .i64 n,.int .i64 e]))(h:Q (.panic (tX (.iface T (.agg #[.int .i64 n,.int .i64 e])))) (wN st)):
  LW P G all [⟨some d,.makeInterface T (.tmp x),y1,p1,f1,none⟩,⟨none,.panic (.tmp d),y2,p2,f2,none⟩] st Q:=by
 intro base R μ a w hr QQ hk;obtain ⟨pc,hpc,hpc1,hpc2⟩:=(hr.gF hx).yH;have e0:=(hpc2 0 _ rfl).2.oR;have e1:=(hpc2 1 _ rfl).2.oR;have hpcE:pc= #[.int .i64 n,.int .i64 e]:=by
  have hs:pc.size=2:=by simpa using hpc1
  apply Array.ext
  ·simpa using hs
  ·intro i h1 h2;simp only [d3J] at e0 e1;have h3:i<2:=by omega
   match i,h1,h3 with
   |0,h1,_=>simpa [h1] using e0
   |1,h1,_=>simpa [h1] using e1
 have hda:d<a.tmps.size:=by rw [hr.size];exact hd
 have hrun:(Instr.makeInterface T (.agg pc)).run P w= .ok (.iface T (.agg pc)) w:=by
  unfold Instr.makeInterface;rw [Sem.run_bind,run_underlying hu];simp only [Result.andThen_ok];split
  ·simp at hn
  ·rfl
 have hw:∀(o:Oper) y,o.guard=none→Region.wanted o y=true:=fun o y hg=>by unfold Region.wanted;rw [hg]
 unfold wpList;rw [if_pos (hw _ _ rfl)];left;unfold Oper.wp;have e2:(execOp a.eval ⟨some d,.makeInterface T (.tmp x),y1,p1,f1,none⟩).run P w= .ok (.value (.iface T (.agg pc))) w:=by simp [execOp,hpc,hrun]
 rw [e2]
 show wpList P all QQ _ (a.put (some d) (.iface T (.agg pc))) w
 unfold wpList;rw [if_pos (hw _ _ rfl)];left;unfold Oper.wp;have e3:(execOp (a.put (some d) (.iface T (.agg pc))).eval ⟨none,.panic (.tmp d),y2,p2,f2,none⟩).run P w= .halt (.panic (.iface T (.agg pc))) w:=by simp [execOp,cY _ _ hda,Instr.panic,goPanic]
 rw [e3]
 show QQ (.panic [{ v:= .iface T (.agg pc),recovered:=false }]) _ w
 rw [hpcE];refine hk _ (wN st) _ w R μ h ?_ (.refl _ _ _)
 have h1:=hr.a3T (.refl base R w) hr.kY;have h2:=h1.put (dst:=some d) (v:= .iface T (.agg #[.int .i64 n,.int .i64 e])) (dv:= .undef) (act:= .no) (.undef _) trivial;have h3:finish (wN st) (some d) .undef .no=wN st:=by
  simp only [finish,wN,St.mk.injEq];refine ⟨?_,by simp [gK,bZ],by simp [bZ]⟩;apply List.ext_getElem
  ·simp
  ·intro i q1 q2;rw [List.getElem_set];split<;>simp
 rw [h3] at h2;exact h2
def cO (P:Program)(G:GT)(ops:Array Oper)(rest:List Nat)(Q:Exit→St→Prop)(s:St):Prop:=VK P G [.ops true ops (sel ops rest)] .normal s Q
theorem cO.mk {ops:Array Oper}{rest:List Nat}{Q:Exit→St→Prop}{s:St}(h:VK P G [.ops true ops (sel ops rest)] .normal s Q):cO P G ops rest Q s:=h
def kO (P:Program)(G:GT)(ops:Array Oper)(c:Nat)(Q:Exit→St→Prop)(x0:Bool):Ord→St→Prop
 | .none,_=>True
 | .call rest more,st=>vJ P G ops (sel ops [c]) (fun _ s=>cO P G ops rest Q s) Q x0 st∧kO P G ops c Q x0 more st
 | .op i next more,st=>VK P G [.ops true ops (sel ops [i])] .normal st (fun _ s=>kO P G ops c Q x0 next s)∧kO P G ops c Q x0 more st
theorem qI {q:Bool}{ops:Array Oper}{K K':St→Prop}(hk:∀s,K s→K' s):∀(l:List Oper) (st:St),pU P G q ops l st K→pU P G q ops l st K'
 |[],st,h=>hk st h
 |o::r,st,h=>dU (fun s hs=>qI hk r s hs) h
theorem b7p {ops:Array Oper}{c:Nat}:(∃o,ops[c]? =some o∧sel ops [c]=[o])∨sel ops [c]=[]:=by
 simp only [sel];cases h:ops[c]? with
 |none=>right;rfl
 |some o=>left;exact ⟨o,rfl,rfl⟩
theorem kO.pan {ops:Array Oper}{c:Nat}{Q:Exit→St→Prop}:∀(T:Ord) (st:St),kO P G ops c Q false T st→zY P G ops (wO P G ops c Q) T st
 | .none,_,_=>trivial
 | .call rest more,st,h=>by
  refine ⟨?_,kO.pan more st h.2⟩;have h1:=h.1;rcases b7p (ops:=ops) (c:=c) with ⟨o,ho,hs⟩|hs
  ·rw [hs] at h1;exact h1.pan ho
  ·rw [hs] at h1;exact h1.elim
 | .op i next more,st,h=>by refine ⟨?_,kO.pan more st h.2⟩;have h1:=h.1;simp only [VK] at h1 ⊢;exact qI (fun s hs=>kO.pan next s hs) _ _ h1
theorem kO.ret {ops:Array Oper}{c:Nat}{Q:Exit→St→Prop}:∀(T:Ord) (st:St),kO P G ops c Q true T st→a5X P G ops c (fun s=>Q .normal s) T st
 | .none,_,_=>trivial
 | .call rest more,st,h=>by
  refine ⟨?_,kO.ret more st h.2⟩;have h1:=h.1;rcases b7p (ops:=ops) (c:=c) with ⟨o,ho,hs⟩|hs
  ·rw [hs] at h1 ⊢;have h2:=h1.ret;simp only [cO,VK,pU] at h2 ⊢;exact h2
  ·rw [hs] at h1;exact h1.elim
 | .op i next more,st,h=>by refine ⟨?_,kO.ret more st h.2⟩;have h1:=h.1;simp only [VK] at h1 ⊢;exact qI (fun s hs=>kO.ret next s hs) _ _ h1
theorem a5H {q:Bool}{ops:Array Oper}{l:List Oper}{K K':St→Prop}(hk:∀s,K s→K' s)(h:VK P G [.ops q ops l] .normal st fun _ s=>K s):VK P G [.ops q ops l] .normal st fun _ s=>K' s:=by simp only [VK] at h ⊢;exact qI hk _ _ h
theorem jP {id:Nat}{ops:Array Oper}{Q:Exit→St→Prop}(c:Nat)(anc:List Nat)(T:Ord)(x0:Bool)(hm:P.follows .mixedOrders=true)(hB:c1m ops c anc T=true)(h:VK P G [.ops true ops (sel ops anc)] .normal st fun _ s=>kO P G ops c Q x0 T s):SW P G (.region id ops true) st Q:=by
 cases x0 with
 |false=>exact c5V c anc T hm hB (a5H (fun s hs=>kO.pan T s hs) h)
 |true=>exact d0a c anc T hm hB (a5H (fun s hs=>kO.ret T s hs) h)
theorem rI.mk {ls:List (Option Loc)}{f:FuncId}{s0:St}{x:Ends}{d3F:List DV}{dst:Option Tmp}{KK:St→Prop}{Q:Exit→St→Prop}{rest:List (TypeId×List Loc)}(he:Enters P f)(hx:CX P G f s0 x)(K:List (Nat×Nat))(hfit:∀d H1 own1,x= .inl (d,H1,own1)→aJ K s0 d H1=true)(hfit2:∀v,x= .inr v→aJ K s0 .undef s0.H=true)(hargs:WkT d3F (aM K s0.tmps))(hH:WkH st.H (cE K s0.H))(gU:qF st st.own (s0.own.map (kI K ls))=some rest)(harg:tE st.tmps.length ls s0.own=true)(hok:∀d H1 own1,x= .inl (d,H1,own1)→KK (aU K dst st rest d H1 own1))(hbad:∀v,x= .inr v→Q (.panic (tX v)) (wN st)):rI P G f d3F ls dst st KK Q x.isLeft:=by
 refine ⟨he,fun h0=>?_,fun h0=>?_⟩
 ·match x,hx,hfit,hok,h0 with
  | .inl (d,H1,own1),hx,hfit,hok,_=>exact ⟨_,jQ.a5v hx K (hfit d H1 own1 rfl) hargs hH gU harg,hok d H1 own1 rfl⟩
 ·match x,hx,hfit2,hbad,h0 with
  | .inr v,hx,hfit2,hbad,_=>exact ⟨v,a3S.d0b hx K (hfit2 v rfl) hargs hH gU harg,hbad v rfl⟩
attribute [simp] kO
end
attribute [irreducible] rI LW cO
attribute [simp] vJ dT
end Go.VM
end
section
namespace Go.VM
open Go Go.RowKit
section
variable {P:Program} {G:GT} {st:St} {base:cM} {R:Nat→Nat→Prop} {μ:Nat→Nat} {a:Act} {w:World}
def zC (P:Program)(G:GT)(ops:Array Oper)(m c:Nat)(Q:St→Prop):Nat→Array Bool→St→Prop
 |0,listed,st=>listed=kN m ops.size∧Q st
 |fuel+1,listed,st=>Region.ready .any ops listed≠[]∧∀i∈Region.ready .any ops listed,i<m∧match ops[i]? with
  |none=>False
  |some o=>jZ P G (i !=c) ops o (zC P G ops m c Q fuel (listed.setIfInBounds i true)) st
theorem b0o {ops:Array Oper}{m c r:Nat}{Q:St→Prop}{QQ:Exit→Act→World→Prop}:∀(fuel:Nat) (listed:Array Bool) (st:St),zC P G ops m c Q fuel listed st→∀(base:cM) (R:Nat→Nat→Prop) (μ:Nat→Nat) (a:Act) (w:World),Rel P G base R μ st a w→
  (∀s a' w' R' μ',Q s→Rel P G base R' μ' s a' w'→Step base R w R' w'→wpAny P .any ops QQ r (kN m ops.size) a' w')→wpAny P .any ops QQ (fuel+r) listed a w
 |0,_,st,h,base,R,μ,a,w,hr,hk=>by rw [Nat.zero_add,h.1];exact hk st a w R μ h.2 hr (.refl _ _ _)
 |fuel+1,listed,st,h,base,R,μ,a,w,hr,hk=>by
  rw [show fuel+1+r=(fuel+r)+1 by omega];refine ⟨fun h0=>absurd h0 h.1,fun i hi=>?_⟩;have h1:=(h.2 i hi).2;unfold wpOp;split
  ·rename_i ho;rw [ho] at h1;exact h1.elim
  ·rename_i o ho;rw [ho] at h1;exact pM h1 hr fun s v w' R' μ' h' hr' hs'=>b0o fuel _ s h' base R' μ' _ w' hr' fun s a' w2 R2 μ2 q1 q2 q3=>hk s a' w2 R2 μ2 q1 q2 (hs'.trans q3)
theorem a7E {ops:Array Oper}{m i:Nat}(him:i<m)(hT:sJ ops m=true)(listed:Array Bool)(hcl:dM ops listed)(hr:i∈Region.ready .any ops listed):∀j∈Region.ready .any ops listed,j<m:=fun j hj=>by apply Classical.byContradiction;intro hjm;obtain ⟨_,oj,hoj,hall⟩:=mem_ready.1 hj;obtain ⟨hiun,_⟩:=mem_ready.1 hr;have h1:=a2T hT (Nat.le_of_not_lt hjm) hoj him;rw [cN hcl hiun ops.size j fun o ho=>by rw [hoj] at ho;cases ho;exact hall] at h1;cases h1
theorem b1B {ops:Array Oper}{m c:Nat}{Q:St→Prop}{i:Nat}{oi:Oper}(him:i<m)(hT:sJ ops m=true)(hA:kH ops)(hi:ops[i]? =some oi)(hic:i≠c)(hsi:(cI oi.op=true∧gZ ops oi=false)∨kB oi=true):
  ∀(fuel:Nat) (listed:Array Bool) (st s:St),dM ops listed→
   (∀j oj,ops[j]? =some oj→j≠i→listed.getD j true=false→eH ops ops.size j i=false→j≠c∧oi.apart ops oj=true∧mB ops oi oj=true)→
   i∈Region.ready .any ops listed→mD ops listed st→Eff P G ops oi st s→
   zC P G ops m c Q fuel (listed.setIfInBounds i true) s→zC P G ops m c Q (fuel+1) listed st:=by
 have qi:(i !=c)=true:=by simpa using hic
 intro fuel
 induction fuel with
 |zero=>
  intro listed st s hcl _ hr _ hy H;refine ⟨fun h=>(by rw [h] at hr;cases hr),fun j hj=>⟨a7E him hT listed hcl hr j hj,?_⟩⟩;by_cases hji:j=i
  ·subst hji;rw [hi,qi];exact (cS hsi).2 ⟨s,hy,H⟩
  ·exfalso;obtain ⟨hjun,oj,hoj,hall⟩:=mem_ready.1 hj;have h1:=a7z hjun hji;rw [H.1] at h1;have h2:=a2m h1;have:=a7E him hT listed hcl hr j hj;omega
 |succ fuel ih=>
  intro listed st s hcl hfree hr hI hy H;refine ⟨fun h=>(by rw [h] at hr;cases hr),fun j hj=>⟨a7E him hT listed hcl hr j hj,?_⟩⟩;by_cases hji:j=i
  ·subst hji;rw [hi,qi];exact (cS hsi).2 ⟨s,hy,H⟩
  ·have h1:=(H.2 j (ready_mono hj hji)).2;obtain ⟨hjun,oj,hoj,hall⟩:=mem_ready.1 hj;rw [hoj] at h1 ⊢;simp only at h1 ⊢;obtain ⟨hiun,oi',hoi',halli⟩:=mem_ready.1 hr;have hnot:eH ops ops.size j i=false:=cN hcl hiun _ _ fun o ho=>by rw [hoj] at ho;cases ho;exact hall
   obtain ⟨hjc,hap,hpo⟩:=hfree j oj hoj hji hjun hnot;have qj:(j !=c)=true:=by simpa using hjc
   rw [qj] at h1 ⊢;have hsj:(cI oj.op=true∧gZ ops oj=false)∨kB oj=true:=by
    by_cases hs:kB oj=true
    ·exact .inr hs
    ·refine .inl ⟨?_,?_⟩
     ·unfold mB at hpo;simp only [kB,d3T,d3H,Bool.not_eq_true'] at hpo hs;rcases hpo with ((((((h|h)|h)|h)|h)|h)|h)|h
      ·exact h.1.2
      ·exact absurd (.inl (.inl h.1.2)) hs
      ·exact h.1.1.2
      ·exact absurd (.inl (.inr h.2)) hs
      ·exact h.1.2
      ·exact absurd (.inl h.1.2) hs
      ·exact absurd (.inr h.2) hs
      ·exact (jI (G:=G) (st:=st) h.1.2).1
     ·cases hx:gZ ops oj with
      |false=>rfl
      |true=>
       have hlt:i<ops.size:=(d3Q.1 hi).1;rcases pV hx hoj hlt (fun e=>hji e.symm) with h'|h'
       ·have:=cN hcl hjun ops.size i fun o ho=>by rw [hoi'] at ho;cases ho;exact halli
        rw [h'] at this;cases this
       ·rw [hnot] at h';cases h'
   obtain ⟨s12,hu,hk⟩:=(cS hsj).1 h1;obtain ⟨s2,e1,e2⟩:=a3z hap hpo (fun hn d hd=>hI i oi d hi hn hiun hd) (fun hn d hd=>hI j oj d hoj hn hjun hd) hy hu;refine (cS hsj).2 ⟨s2,e1,?_⟩;refine ih (listed.setIfInBounds j true) s2 s12 (hcl.set hj) (fun k ok hk' hki hun hno=>?_) (ready_mono hr (Ne.symm hji)) (hI.step hA hoj fun k hf hn=>pI e1 hf hn) e2 ?_
   ·exact hfree k ok hk' hki (oU hun).2 hno
   ·rw [Array.setIfInBounds_comm _ _ hji];exact hk
def c1n (m:Nat)(l:List Nat):Bool:=l.all fun i=>decide (i<m)
theorem a2W {ops:Array Oper}{m c:Nat}{Q:St→Prop}(hTA:sJ ops m=true)(hN:dL ops=[]):∀(l:List Nat) (listed:Array Bool) (st:St) (fuel:Nat),c1n m l=true→dM ops listed→a3Q ops c l listed=true→
  a0d P G ops c l st (zC P G ops m c Q fuel (cD l listed))→zC P G ops m c Q (l.length+fuel) listed st
 |[],listed,st,fuel,_,_,_,h=>by simpa [cD,a0d] using h
 |i::l,listed,st,fuel,hlow,hcl,hB,h=>by
  have hA:kH ops:=fun i j oi oj d hi _ hni _ hdi _=>(b0n hN hi hni hdi).elim
  have hI:∀listed st,mD ops listed st:=fun _ _ j oj d hj hn _ hd=>(b0n hN hj hn hd).elim
  simp only [c1n,List.all_cons,d3H,decide_eq_true_eq] at hlow;obtain ⟨him,hlow'⟩:=hlow;simp only [a3Q,d3H] at hB;obtain ⟨hf,hB'⟩:=hB;simp only [a0d] at h;split at h;rotate_left
  ·cases h
  rename_i o ho;have he:(i::l).length+fuel=l.length+fuel+1:=by simp only [List.length_cons];omega
  rw [he];unfold a7C at hf;rw [d3T,beq_iff_eq] at hf;have hri:i∈Region.ready .any ops listed:=by
   rcases hf with hf|hf
   ·rw [hf];exact d3O.2 rfl
   ·simp only [d3H] at hf;simpa using hf.1.1
  have hnext:∀s,a0d P G ops c l s (zC P G ops m c Q fuel (cD (i::l) listed))→zC P G ops m c Q (l.length+fuel) (listed.setIfInBounds i true) s:=fun s hs=>a2W hTA hN l _ s fuel hlow' (hcl.set hri) hB' hs
  rcases hf with hf|hf
  ·refine ⟨fun h'=>(by rw [h'] at hf;cases hf),fun j hj=>?_⟩;rw [hf,d3O] at hj;subst hj;rw [ho];exact ⟨him,dU hnext h⟩
  ·rw [ho] at hf;simp only [d3H,d3T,Bool.not_eq_true',bne_iff_ne,ne_eq] at hf;obtain ⟨⟨_,hic⟩,hsi,hall⟩:=hf;have qi:(i !=c)=true:=by simpa using hic
   rw [qi] at h;obtain ⟨s,hd,hk⟩:=(cS hsi).1 h;refine b1B him hTA hA ho hic hsi _ listed st s hcl (fun j oj hj hne hun hno=>?_) hri (hI _ _) hd (hnext s hk);rw [d3K] at hall;have h1:=hall j (List.mem_range.2 (d3Q.1 hj).1);simp only [hj,d3T,beq_iff_eq,hne,false_or,hun,Bool.false_eq_true,hno,d3H,bne_iff_ne,ne_eq] at h1;exact h1
def a2p (ops:Array Oper)(m c:Nat):Ord→Nat→Array Bool→Bool
 | .none,_,_=>true
 | .call rest more,n,listed=>decide (c<ops.size)&&decide (c<m)&&c1n m rest&&inB ops c rest&&a3Q ops c rest (listed.setIfInBounds c true)&&decide (cD rest (listed.setIfInBounds c true)=kN m ops.size)&&decide (rest.length+1=n)&&a2p ops m c more n listed
 | .op i next more,n,listed=>inB ops c [i]&&decide (i<m)&&decide (2≤n)&& !(Region.ready .any ops (listed.setIfInBounds i true)).isEmpty&&((Region.ready .any ops (listed.setIfInBounds i true)).all fun j=>zB c next j)&&a2p ops m c next (n-1) (listed.setIfInBounds i true)&&a2p ops m c more n listed
theorem a3V {ops:Array Oper}{m c:Nat}{Q:St→Prop}(hTA:sJ ops m=true)(hN:dL ops=[]):∀(T:Ord) (n:Nat) (listed:Array Bool) (st:St),dM ops listed→a2p ops m c T (n+1) listed=true→a5X P G ops c Q T st→∀i∈Region.ready .any ops listed,zB c T i=true→
  i<m∧match ops[i]? with
  |none=>False
  |some o=>jZ P G (i !=c) ops o (zC P G ops m c Q n (listed.setIfInBounds i true)) st
 | .none,_,_,_,_,_,_,_,_,ha=>by cases ha
 | .call rest more,n,listed,st,hcl,hB,h,i,hi,ha=>by
  simp only [a2p,d3H,decide_eq_true_eq] at hB;obtain ⟨⟨⟨⟨⟨⟨⟨hc,hcm⟩,hlow⟩,hin⟩,hs⟩,he⟩,hlen⟩,hmore⟩:=hB;simp only [a5X] at h;simp only [zB,d3T,decide_eq_true_eq] at ha;by_cases hic:i=c
  ·subst hic;have h1:=h.1;simp only [VK,sel,d3Z hc,pU] at h1;simp only [d3Z hc,bne_self_eq_false];refine ⟨hcm,dU (fun s hs'=>?_) h1⟩;have hn:n=rest.length+0:=by omega
   rw [hn];exact a2W hTA hN rest _ s 0 hlow (hcl.set hi) hs (pA (fun s hs=>⟨he,hs⟩) _ _ (qW rest s hin hs'))
  ·exact a3V hTA hN more n listed st hcl hmore h.2 i hi (ha.resolve_left hic)
 | .op x next more,n,listed,st,hcl,hB,h,i,hi,ha=>by
  simp only [a2p,d3H,decide_eq_true_eq,Bool.not_eq_true',List.isEmpty_eq_false_iff,d3K] at hB;obtain ⟨⟨⟨⟨⟨⟨hin,hxm⟩,hn⟩,hne⟩,hall⟩,hnext⟩,hmore⟩:=hB;simp only [a5X] at h;simp only [zB,d3T,decide_eq_true_eq] at ha;by_cases hix:i=x
  ·subst hix;have h1:=h.1;simp only [inB,List.all_cons,List.all_nil,Bool.and_true,d3H,decide_eq_true_eq] at hin;have qi:(i !=c)=true:=by simpa using hin.2
   simp only [VK,sel,d3Z hin.1,pU] at h1;simp only [d3Z hin.1,qi];refine ⟨hxm,dU (fun s hs'=>?_) h1⟩;obtain ⟨k,rfl⟩:∃k,n=k+1:=⟨n-1,by omega⟩;exact ⟨hne,fun j hj=>a3V hTA hN next k _ s (hcl.set hi) hnext hs' j hj (hall j hj)⟩
  ·exact a3V hTA hN more n listed st hcl hmore h.2 i hi (ha.resolve_left hix)
theorem a1G {ops:Array Oper}{m c:Nat}{Z:St→Prop}:∀(T:Ord) (n n':Nat) (listed:Array Bool) (st:St),n≤n'→a2p ops m c T (n+1) listed=true→zY P G ops Z T st→∀i∈Region.ready .any ops listed,zB c T i=true→
  if i=c then Z st else match ops[i]? with
  |none=>False
  |some o=>jZ P G true ops o (a2o P G ops c Z n' (listed.setIfInBounds i true)) st
 | .none,_,_,_,_,_,_,_,_,_,ha=>by cases ha
 | .call rest more,n,n',listed,st,hn',hB,h,i,hi,ha=>by
  simp only [a2p,d3H] at hB;simp only [zY] at h;simp only [zB,d3T,decide_eq_true_eq] at ha;by_cases hic:i=c
  ·rw [if_pos hic];exact h.1
  ·exact a1G more n n' listed st hn' hB.2 h.2 i hi (ha.resolve_left hic)
 | .op x next more,n,n',listed,st,hn',hB,h,i,hi,ha=>by
  simp only [a2p,d3H,decide_eq_true_eq,Bool.not_eq_true',List.isEmpty_eq_false_iff,d3K] at hB;obtain ⟨⟨⟨⟨⟨⟨hin,hxm⟩,hn⟩,hne⟩,hall⟩,hnext⟩,hmore⟩:=hB;simp only [zY] at h;simp only [zB,d3T,decide_eq_true_eq] at ha;by_cases hix:i=x
  ·subst hix;have h1:=h.1;simp only [inB,List.all_cons,List.all_nil,Bool.and_true,d3H,decide_eq_true_eq] at hin;simp only [VK,sel,d3Z hin.1,pU] at h1;rw [if_neg hin.2];simp only [d3Z hin.1];refine dU (fun s hs'=>?_) h1;obtain ⟨k,rfl⟩:∃k,n=k+1:=⟨n-1,by omega⟩;obtain ⟨k',rfl⟩:∃k',n'=k'+1:=⟨n'-1,by omega⟩;exact ⟨hne,fun j hj=>a1G next k k' _ s (by omega) hnext hs' j hj (hall j hj)⟩
  ·exact a1G more n n' listed st hn' hmore h.2 i hi (ha.resolve_left hix)
abbrev a7F (TT:St→Prop)(Q:Exit→St→Prop):Exit→St→Prop:=fun e s=>match e with
 | .normal=>TT s
 |e=>Q e s
end
end Go.VM
end
section
namespace Go.VM
open Go Go.RowKit
section
variable {P:Program} {G:GT} {st:St}
def a6s (ops:Array Oper)(L:Array Bool)(i0 i1 i2 i3 i4:Nat):Bool:=
 let S:=L.setIfInBounds i0 true
 let A:=S.setIfInBounds i1 true
 let B:=S.setIfInBounds i3 true
 (Region.ready .any ops L==[i0])&&(Region.ready .any ops S==[i1,i3])&&(Region.ready .any ops A==[i2,i3])&&(Region.ready .any ops B==[i1,i4])&&
 (Region.ready .any ops (A.setIfInBounds i2 true)==[i3])&&(Region.ready .any ops (A.setIfInBounds i3 true)==[i2,i4])&&(Region.ready .any ops (B.setIfInBounds i1 true)==[i2,i4])&&(Region.ready .any ops (B.setIfInBounds i4 true)==[i1])&&
 (Region.ready .any ops ((A.setIfInBounds i2 true).setIfInBounds i3 true)==[i4])&&(Region.ready .any ops ((A.setIfInBounds i3 true).setIfInBounds i2 true)==[i4])&&(Region.ready .any ops ((A.setIfInBounds i3 true).setIfInBounds i4 true)==[i2])&&
 (Region.ready .any ops ((B.setIfInBounds i1 true).setIfInBounds i2 true)==[i4])&&(Region.ready .any ops ((B.setIfInBounds i1 true).setIfInBounds i4 true)==[i2])&&(Region.ready .any ops ((B.setIfInBounds i4 true).setIfInBounds i1 true)==[i2])&&
 (Region.ready .any ops (((A.setIfInBounds i2 true).setIfInBounds i3 true).setIfInBounds i4 true)==[])&&(Region.ready .any ops (((A.setIfInBounds i3 true).setIfInBounds i2 true).setIfInBounds i4 true)==[])&&(Region.ready .any ops (((A.setIfInBounds i3 true).setIfInBounds i4 true).setIfInBounds i2 true)==[])&&
 (Region.ready .any ops (((B.setIfInBounds i1 true).setIfInBounds i2 true).setIfInBounds i4 true)==[])&&(Region.ready .any ops (((B.setIfInBounds i1 true).setIfInBounds i4 true).setIfInBounds i2 true)==[])&&(Region.ready .any ops (((B.setIfInBounds i4 true).setIfInBounds i1 true).setIfInBounds i2 true)==[])
abbrev tl3 (s:St)(dB:List (TypeId×List Loc))(e:TypeId)(r p b:Tmp)(xs:List (List D))(c:List D)(kb off:Nat):St:=finish (tl2 s dB e r p xs c) (some b) (.ptr kb off) .no
theorem c1o (a:Act){p b:Nat}(u v:Value)(h:p≠b):(a.put (some p) u).put (some b) v=(a.put (some b) v).put (some p) u:=by simp only [Act.put];congr 1;exact Array.setIfInBounds_comm _ _ h
theorem b3V {ops:Array Oper}{i0 i1 i2 i3 i4:Nat}{L0:Array Bool}{t e T:TypeId}{s z r p q x b y:Tmp}{fd fo:Nat}{y0 y1 y2 y3 y4 u:TypeId}{p0 p1 p2 p3 p4:String}{f0 f1 f2 f3 f4:Array Edge}{xs:List (List D)}{z0 c:List D}{dB:List (TypeId×List Loc)}{kb0 off0:Nat}{out:Out}{Q:St→Prop}{QQ:Exit→Act→World→Prop}(h0:ops[i0]? =some ⟨some r,.call { callee:= .builtin .append,args:= #[.tmp s,.tmp z],argTypes:= #[t,t] },y0,p0,f0,none⟩)(h1:ops[i1]? =some ⟨some p,.indexAddr t (.tmp r) (.tmp q),y1,p1,f1,none⟩)(h2:ops[i2]? =some ⟨none,.store e (.tmp p) (.tmp x),y2,p2,f2,none⟩)(h3:ops[i3]? =some ⟨some b,.fieldAddr T (.tmp y) fd,y3,p3,f3,none⟩)(h4:ops[i4]? =some ⟨none,.store t (.tmp b) (.tmp r),y4,p4,f4,none⟩)(hR:a6s ops L0 i0 i1 i2 i3 i4=true)(hok:eG P e=true)(hu:P.underlying t=some (.slice e))(hne:(r≠q∧r≠x∧r≠p∧r≠b∧r≠y)∧(p≠x∧p≠b∧p≠y)∧b≠q∧b≠x)(hlt:r<st.tmps.length∧p<st.tmps.length∧b<st.tmps.length)(hsx:st.eval G (.tmp s)= .d (.sl xs))(htk:eD (.t s) st.own=some (e,dB))(hlx:∀c∈xs,c.length=P.cellsOf e)(hx:st.eval G (.tmp z)= .d (.sl [z0]))(hz0:z0.length=P.cellsOf e)(hbd:(xs.length+1)*(P.bytesOf e+1)≤140737488355328)(hq:st.eval G (.tmp q)= .d (.int .i64 (xs.length:Int)))(hxv:st.eval G (.tmp x)= .d (.agg c))(hc:c.length=P.cellsOf e)(hy:st.eval G (.tmp y)= .ptr kb0 off0)(hfo:aH P T fd=some (fo,u))(hfc:P.cellsOf u≠0)(hst:pR P G t (.tmp b) (.tmp r) (tl3 st dB e r p b xs c kb0 (off0+fo))=some out)(hQ:Q out.st){base:cM}{R:Nat→Nat→Prop}{μ:Nat→Nat}{a:Act}{w:World}(hr:Rel P G base R μ st a w)(hk:∀s' a' w' R' μ',Q s'→Rel P G base R' μ' s' a' w'→Step base R w R' w'→QQ .normal a' w'):wpAny P .any ops QQ 5 L0 a w:=by
 obtain ⟨⟨n1,n2,n3,n4,n7⟩,⟨n5,n6,n8⟩,n9,n10⟩:=hne;obtain ⟨l1,l2,l3⟩:=hlt;have hsz:=hr.size;obtain ⟨_,_,_,_,_,hpos,_,_⟩:=sS hok;obtain ⟨g,cap,cur1,w1,e0,hg,hfit,hobj,hnews⟩:=a5E (ty:=y0) hr hok hu (x:= .tmp z) hsx htk hlx hx hz0 hbd;obtain ⟨pc,hpc,hpc1,hpc2⟩:=(hr.gF hxv).yH;have hone:∀u∈pc.toList,u.oneCell'=true:=fun u hu=>by
  obtain ⟨j,hj⟩:=d3Y hu;have hjl:j<c.length:=by rw [← hpc1];simpa using (d3I.1 hj).1
  obtain ⟨k1,k2⟩:=hpc2 j c[j] (by simp [hjl]);have:pc.getD j Go.undef=u:=by
   have:pc[j]? =some u:=by simpa using hj
   simp [d3J,this]
  rw [this] at k2;exact k2.a3o k1
 obtain ⟨R1,hr1,hV1,hA1,hs1⟩:=hnews pc.toList c (by simpa [hpc1] using hc) hc hone (fun j d hj=>by
  obtain ⟨k1,k2⟩:=hpc2 j d hj;have hjl:j<pc.size:=by rw [hpc1];exact (d3I.1 hj).1
  refine ⟨k1,pc[j],by simp [hjl],?_⟩;simpa [d3J,hjl] using k2)
 generalize hvS:(Value.slice (some ⟨g,0,none⟩) (xs.length+1) cap)=vS at *;generalize hcur2:spl cur1 (xs.length*P.cellsOf e) pc.toList=cur2 at *;have hra:r<a.tmps.size:=by rw [hsz];exact l1
 have hpa:p<a.tmps.size:=by rw [hsz];exact l2
 have hr1':=hr1.put (dst:=some r) (.d _ _ hV1) hA1;have hr2:=hr1'.put (dst:=some p) (v:= .pointer (some ⟨g,xs.length*P.cellsOf e,none⟩)) (act:= .no) (.undef _) trivial;generalize ha1:a.put (some r) vS=a1 at *;generalize ha2:a1.put (some p) (.pointer (some ⟨g,xs.length*P.cellsOf e,none⟩))=a2 at *;have z1:a1.tmps.size=a.tmps.size:=by rw [← ha1];exact size_put _ _ _
 have v1r:a1.eval (.tmp r)=vS:=by rw [← ha1];exact cY _ _ hra
 have v1q:a1.eval (.tmp q)=a.eval (.tmp q):=by rw [← ha1];exact bL _ _ (Ne.symm n1)
 have v1x:a1.eval (.tmp x)=a.eval (.tmp x):=by rw [← ha1];exact bL _ _ (Ne.symm n2)
 have v1b:a1.eval (.tmp b)=a.eval (.tmp b):=by rw [← ha1];exact bL _ _ (Ne.symm n4)
 have v2p:a2.eval (.tmp p)= .pointer (some ⟨g,xs.length*P.cellsOf e,none⟩):=by rw [← ha2];exact cY _ _ (z1.symm▸hpa)
 have v2x:a2.eval (.tmp x)= .agg pc:=by rw [← ha2,bL _ _ (Ne.symm n5),v1x,hpc]
 have v2r:a2.eval (.tmp r)=vS:=by rw [← ha2,bL _ _ n3];exact v1r
 have v2b:a2.eval (.tmp b)=a.eval (.tmp b):=by rw [← ha2,bL _ _ (Ne.symm n6)];exact v1b
 have v1y:a1.eval (.tmp y)= .pointer (some ⟨μ kb0,off0,none⟩):=by rw [← ha1,bL _ _ (Ne.symm n7)];exact hr.dJ hy
 have hb0:b<a.tmps.size:=by rw [hsz];exact l3
 have z2:a2.tmps.size=a.tmps.size:=by rw [← ha2,size_put];exact z1
 have hr3:=hr2.put (dst:=some b) (v:= .pointer (some ⟨μ kb0,off0+fo,none⟩)) (act:= .no) (.ptr kb0 (off0+fo)) trivial;generalize ha3:a2.put (some b) (.pointer (some ⟨μ kb0,off0+fo,none⟩))=a3 at *;generalize hab:a1.put (some b) (.pointer (some ⟨μ kb0,off0+fo,none⟩))=ab at *;have hab3:ab.put (some p) (.pointer (some ⟨g,xs.length*P.cellsOf e,none⟩))=a3:=by rw [← hab, ← ha3, ← ha2];exact (c1o a1 _ _ n6).symm
 have v2y:a2.eval (.tmp y)= .pointer (some ⟨μ kb0,off0,none⟩):=by rw [← ha2,bL _ _ (Ne.symm n8)];exact v1y
 have v3b:a3.eval (.tmp b)= .pointer (some ⟨μ kb0,off0+fo,none⟩):=by rw [← ha3];exact cY _ _ (z2.symm▸hb0)
 have v3r:a3.eval (.tmp r)=vS:=by rw [← ha3,bL _ _ n4];exact v2r
 have v3p:a3.eval (.tmp p)= .pointer (some ⟨g,xs.length*P.cellsOf e,none⟩):=by rw [← ha3,bL _ _ n6];exact v2p
 have v3x:a3.eval (.tmp x)= .agg pc:=by rw [← ha3,bL _ _ (Ne.symm n10)];exact v2x
 have vbb:ab.eval (.tmp b)= .pointer (some ⟨μ kb0,off0+fo,none⟩):=by rw [← hab];exact cY _ _ (z1.symm▸hb0)
 have vbr:ab.eval (.tmp r)=vS:=by rw [← hab,bL _ _ n4];exact v1r
 have vbq:ab.eval (.tmp q)=a.eval (.tmp q):=by rw [← hab,bL _ _ (Ne.symm n9)];exact v1q
 have hstb:=hst;unfold pR at hstb;split at hstb;rotate_left
 ·cases hstb
 rename_i kb off ys hb hys;split at hstb;rotate_left
 ·cases hstb
 rename_i cs hkb;split at hstb;rotate_left
 ·cases hstb
 rename_i hcd
 clear hstb
 have hHs:(tl3 st dB e r p b xs c kb0 (off0+fo)).H=st.H:=rfl;rw [hHs] at hkb;have hbe:(tl3 st dB e r p b xs c kb0 (off0+fo)).eval G (.tmp b)= .ptr kb0 (off0+fo):=by simp [St.eval,finish,List.getD,l3]
 rw [hbe] at hb;cases hb;have hys1:ys.length=1:=by
  have:(tl3 st dB e r p b xs c kb0 (off0+fo)).eval G (.tmp r)= .d (.sl (xs++[c])):=by simp [St.eval,finish,List.getD,l1,List.getElem?_set,Ne.symm n3,Ne.symm n4]
  rw [this] at hys;simp only [pP,D.cells,List.map_cons,List.map_nil,d3N] at hys;rw [← hys];rfl
 obtain ⟨_,_,vs0,T0,hh0,hsz0,_⟩:=hr.eT kb0 _ hkb;obtain ⟨hbg,hw1b⟩:=hobj kb0 _ hkb;have hvc:vS.cells= #[vS]:=by rw [← hvS];rfl
 have hvo:vS.oneCell'=true:=by rw [← hvS];rfl
 have hob:w1.heap[μ kb0]? =some (.cells vs0 T0 (0,0)):=hw1b.trans hh0
 generalize hX:spl vs0 (off0+fo) [vS]=X;have E0:(execOp a.eval ⟨some r,.call { callee:= .builtin .append,args:= #[.tmp s,.tmp z],argTypes:= #[t,t] },y0,p0,f0,none⟩).run P w= .ok (.value vS) w1:=by simp [execOp,resolve,invoke,builtin,e0]
 have E1:∀(ax:Act) (w':World),ax.eval (.tmp r)=vS→ax.eval (.tmp q)=a.eval (.tmp q)→(execOp ax.eval ⟨some p,.indexAddr t (.tmp r) (.tmp q),y1,p1,f1,none⟩).run P w'= .ok (.value (.pointer (some ⟨g,xs.length*P.cellsOf e,none⟩))) w':=fun ax w' k1 k2=>xV rfl hu (k1.trans hvS.symm) (k2.trans (hr.qQ hq)) (by omega) hpos
 have E2:∀(ax:Act) (w':World),ax.eval (.tmp p)= .pointer (some ⟨g,xs.length*P.cellsOf e,none⟩)→ax.eval (.tmp x)= .agg pc→w'.heap[g]? =some (.cells cur1 e (0,0))→(execOp ax.eval ⟨none,.store e (.tmp p) (.tmp x),y2,p2,f2,none⟩).run P w'= .ok .skip (w'.setRow g cur2):=fun ax w' kp kx hw'=>by have:=qV (P:=P) (a:=ax) (w:=w') (o:=⟨none,.store e (.tmp p) (.tmp x),y2,p2,f2,none⟩) rfl kp hw' (by rw [kx];show pc.size=_;rw [hpc1,hc]) (by omega) (by rw [kx];exact hone) (by rw [kx];show _+pc.size≤_;rw [hpc1,hc];exact hfit);rw [kx] at this;have hcl:(Value.agg pc).cells=pc:=rfl;rw [hcl,hcur2] at this;exact this
 have E3:∀(ax:Act) (w':World),ax.eval (.tmp y)= .pointer (some ⟨μ kb0,off0,none⟩)→(execOp ax.eval ⟨some b,.fieldAddr T (.tmp y) fd,y3,p3,f3,none⟩).run P w'= .ok (.value (.pointer (some ⟨μ kb0,off0+fo,none⟩))) w':=fun ax w' ky=>rW (P:=P) rfl hfo hfc ky
 have E4:∀(ax:Act) (w':World),ax.eval (.tmp b)= .pointer (some ⟨μ kb0,off0+fo,none⟩)→ax.eval (.tmp r)=vS→w'.heap[μ kb0]? =some (.cells vs0 T0 (0,0))→(execOp ax.eval ⟨none,.store t (.tmp b) (.tmp r),y4,p4,f4,none⟩).run P w'= .ok .skip (w'.setRow (μ kb0) X):=fun ax w' hb1 hr1 hw'=>by have:=qV (P:=P) (a:=ax) (w:=w') (o:=⟨none,.store t (.tmp b) (.tmp r),y4,p4,f4,none⟩) rfl hb1 hw' (by rw [hr1,hvc, ← hcd.1,hys1];rfl) (by omega) (by rw [hr1,hvc];simpa using hvo) (by rw [hr1,hvc];show off0+fo+1≤_;rw [hsz0];omega);rw [hr1,hvc] at this;have:(execOp ax.eval ⟨none,.store t (.tmp b) (.tmp r),y4,p4,f4,none⟩).run P w'= .ok .skip (w'.setRow (μ kb0) (spl vs0 (off0+fo) [vS])):=this;rw [hX] at this;exact this
 have hgX:(w1.setRow (μ kb0) X).heap[g]? =some (.cells cur1 e (0,0)):=(setRow_other w1 (μ kb0) g _ (Ne.symm hbg)).trans hg
 have hbX:(w1.setRow g cur2).heap[μ kb0]? =some (.cells vs0 T0 (0,0)):=(setRow_other w1 g (μ kb0) _ hbg).trans hob
 have hcomm:(w1.setRow (μ kb0) X).setRow g cur2=(w1.setRow g cur2).setRow (μ kb0) X:=a5D w1 hbg X cur2;have hfin:QQ .normal a3 ((w1.setRow g cur2).setRow (μ kb0) X):=by
  obtain ⟨v,w',R',μ',hrun,hr4,_,_,hs3⟩:=a1x (o:=⟨none,.store t (.tmp b) (.tmp r),y4,p4,f4,none⟩) rfl hst base R1 μ a3 _ hr3;rw [E4 a3 _ v3b v3r hbX] at hrun;rcases hrun with hrun|⟨hrun,_⟩
  ·cases hrun
  ·cases hrun;exact hk out.st a3 _ R' μ' hQ hr4 (hs1.trans hs3)
 simp only [a6s,d3H,beq_iff_eq] at hR;obtain ⟨⟨⟨⟨⟨⟨⟨⟨⟨⟨⟨⟨⟨⟨⟨⟨⟨⟨⟨r0,r1⟩,rA⟩,rB⟩,rAC⟩,rAB⟩,rBA⟩,rBD⟩,rACB⟩,rABC⟩,rABD⟩,rBAC⟩,rBAD⟩,rBDA⟩,e1⟩,e2⟩,e3⟩,e4⟩,e5⟩,e6⟩:=hR;refine wpAny_all r0 (by simp) fun i hi=>?_
 simp only [d3O] at hi;subst hi;refine cQ h0 rfl (.inl E0) ha1 ?_
 refine wpAny_all r1 (by simp) fun j hj=>?_
 simp only [List.mem_cons,List.not_mem_nil,or_false] at hj;rcases hj with rfl|rfl
 ·refine cQ h1 rfl (.inl (E1 a1 w1 v1r v1q)) ha2 ?_
  refine wpAny_all rA (by simp) fun j hj=>?_
  simp only [List.mem_cons,List.not_mem_nil,or_false] at hj;rcases hj with rfl|rfl
  ·refine cQ h2 rfl (.inr ⟨E2 a2 w1 v2p v2x hg,rfl⟩) rfl ?_
   refine wpAny_all rAC (by simp) fun j hj=>?_
   simp only [d3O] at hj;subst hj;refine cQ h3 rfl (.inl (E3 a2 _ v2y)) ha3 ?_
   refine wpAny_all rACB (by simp) fun j hj=>?_
   simp only [d3O] at hj;subst hj;exact cQ h4 rfl (.inr ⟨E4 a3 _ v3b v3r hbX,rfl⟩) rfl (wpAny_done e1 hfin _)
  ·refine cQ h3 rfl (.inl (E3 a2 _ v2y)) ha3 ?_
   refine wpAny_all rAB (by simp) fun j hj=>?_
   simp only [List.mem_cons,List.not_mem_nil,or_false] at hj;rcases hj with rfl|rfl
   ·refine cQ h2 rfl (.inr ⟨E2 a3 w1 v3p v3x hg,rfl⟩) rfl ?_
    refine wpAny_all rABC (by simp) fun j hj=>?_
    simp only [d3O] at hj;subst hj;exact cQ h4 rfl (.inr ⟨E4 a3 _ v3b v3r hbX,rfl⟩) rfl (wpAny_done e2 hfin _)
   ·refine cQ h4 rfl (.inr ⟨E4 a3 _ v3b v3r hob,rfl⟩) rfl ?_
    refine wpAny_all rABD (by simp) fun j hj=>?_
    simp only [d3O] at hj;subst hj;exact cQ h2 rfl (.inr ⟨E2 a3 _ v3p v3x hgX,rfl⟩) rfl (wpAny_done e3 (by rw [hcomm];exact hfin) _)
 ·refine cQ h3 rfl (.inl (E3 a1 _ v1y)) hab ?_
  refine wpAny_all rB (by simp) fun j hj=>?_
  simp only [List.mem_cons,List.not_mem_nil,or_false] at hj;rcases hj with rfl|rfl
  ·refine cQ h1 rfl (.inl (E1 ab _ vbr vbq)) hab3 ?_
   refine wpAny_all rBA (by simp) fun j hj=>?_
   simp only [List.mem_cons,List.not_mem_nil,or_false] at hj;rcases hj with rfl|rfl
   ·refine cQ h2 rfl (.inr ⟨E2 a3 w1 v3p v3x hg,rfl⟩) rfl ?_
    refine wpAny_all rBAC (by simp) fun j hj=>?_
    simp only [d3O] at hj;subst hj;exact cQ h4 rfl (.inr ⟨E4 a3 _ v3b v3r hbX,rfl⟩) rfl (wpAny_done e4 hfin _)
   ·refine cQ h4 rfl (.inr ⟨E4 a3 _ v3b v3r hob,rfl⟩) rfl ?_
    refine wpAny_all rBAD (by simp) fun j hj=>?_
    simp only [d3O] at hj;subst hj;exact cQ h2 rfl (.inr ⟨E2 a3 _ v3p v3x hgX,rfl⟩) rfl (wpAny_done e5 (by rw [hcomm];exact hfin) _)
  ·refine cQ h4 rfl (.inr ⟨E4 ab _ vbb vbr hob,rfl⟩) rfl ?_
   refine wpAny_all rBD (by simp) fun j hj=>?_
   simp only [d3O] at hj;subst hj;refine cQ h1 rfl (.inl (E1 ab _ vbr vbq)) hab3 ?_
   refine wpAny_all rBDA (by simp) fun j hj=>?_
   simp only [d3O] at hj;subst hj;exact cQ h2 rfl (.inr ⟨E2 a3 _ v3p v3x hgX,rfl⟩) rfl (wpAny_done e6 (by rw [hcomm];exact hfin) _)
def b7q (P:Program)(G:GT)(t e T:TypeId)(s z r p q x b y:Tmp)(fd:Nat)(Q:St→Prop)(st:St):Prop:=
 ∃(xs:List (List D)) (z0 c:List D) (dB:List (TypeId×List Loc)) (kb0 off0 fo:Nat) (u:TypeId) (out:Out),(r<st.tmps.length∧p<st.tmps.length∧b<st.tmps.length)∧st.eval G (.tmp s)= .d (.sl xs)∧eD (.t s) st.own=some (e,dB)∧(∀c∈xs,c.length=P.cellsOf e)∧st.eval G (.tmp z)= .d (.sl [z0])∧z0.length=P.cellsOf e∧
  (xs.length+1)*(P.bytesOf e+1)≤140737488355328∧st.eval G (.tmp q)= .d (.int .i64 (xs.length:Int))∧st.eval G (.tmp x)= .d (.agg c)∧c.length=P.cellsOf e∧st.eval G (.tmp y)= .ptr kb0 off0∧aH P T fd=some (fo,u)∧P.cellsOf u≠0∧pR P G t (.tmp b) (.tmp r) (tl3 st dB e r p b xs c kb0 (off0+fo))=some out∧Q out.st
theorem wP {id:Nat}{ops:Array Oper}{Q:Exit→St→Prop}{m:Nat}{t e T:TypeId}{s z r p q x b y:Tmp}{fd:Nat}{y0 y1 y2 y3 y4:TypeId}{p0 p1 p2 p3 p4:String}{f0 f1 f2 f3 f4:Array Edge}(h0:ops[m]? =some ⟨some r,.call { callee:= .builtin .append,args:= #[.tmp s,.tmp z],argTypes:= #[t,t] },y0,p0,f0,none⟩)(h1:ops[m+1]? =some ⟨some p,.indexAddr t (.tmp r) (.tmp q),y1,p1,f1,none⟩)(h2:ops[m+2]? =some ⟨none,.store e (.tmp p) (.tmp x),y2,p2,f2,none⟩)(h3:ops[m+3]? =some ⟨some b,.fieldAddr T (.tmp y) fd,y3,p3,f3,none⟩)(h4:ops[m+4]? =some ⟨none,.store t (.tmp b) (.tmp r),y4,p4,f4,none⟩)(hB:(P.follows .mixedOrders&&c1k ops m&&decide (ops.size=m+5)&&a6s ops (kN m ops.size) m (m+1) (m+2) (m+3) (m+4))=true)(hok:(eG P e&&decide ((r≠q∧r≠x∧r≠p∧r≠b∧r≠y)∧(p≠x∧p≠b∧p≠y)∧b≠q∧b≠x))=true)(hu:P.underlying t=some (.slice e))(hF:a4y ops st=true)(h:VK P G [.ops true ops (ops.toList.take m)] .normal st fun _ s1=>b7q P G t e T s z r p q x b y fd (fun s'=>Q .normal s') s1):SW P G (.region id ops true) st Q:=by
 rw [d3H,d3H,d3H,decide_eq_true_eq] at hB;obtain ⟨⟨⟨hm,hL⟩,hsz⟩,hR⟩:=hB;rw [d3H,decide_eq_true_eq] at hok;have h5:ops.size-m=5:=by rw [hsz];exact Nat.add_sub_cancel_left ..
 refine a7A hm hL hF (b5V h) ?_
 rintro s1 base R μ a w QQ ⟨xs,z0,c,dB,kb0,off0,fo,u,out,k0,k1,k2,k3,k4,k5,k6,k7,k8,k9,k10,k11,k12,k13,k14⟩ hr hk;rw [h5];exact b3V (Q:=fun s'=>Q .normal s') h0 h1 h2 h3 h4 hR hok.1 hu hok.2 k0 k1 k2 k3 k4 k5 k6 k7 k8 k9 k10 k11 k12 k13 k14 hr hk
end
end Go.VM
end
section
namespace Go.VM
open Go Go.RowKit
section
variable {P:Program} {G:GT} {st:St} {base:cM} {R:Nat→Nat→Prop} {μ:Nat→Nat} {a:Act} {w:World}
def a7G (P:Program)(G:GT)(all:Array Oper):List Oper→St→(Exit→St→Prop)→Prop
 |[],st,Q=>Q .normal st
 |o::rest,st,Q=>
  match dT o all st.tmps with
  |some true=>
   match jH G o st with
   |some (f,ds)=>(∃r own,(Enters P f∧CS P G f ds r own)∧a7G P G all rest (finish st o.dst r (a0s own)) Q)∨∃s',(Enters P f∧jQ P G f (ds.map .d) (gE o) st o.dst s')∧a7G P G all rest s' Q
   |none=>
    match dI G o st with
    |some (f,d3F)=>∃x0,rI P G f d3F (gE o) o.dst st (fun s=>a7G P G all rest s Q) Q x0
    |none=>
     match gY P G o st with
     |some out=>a7G P G all rest (finish out.st o.dst out.v (a3v false all o out.v out.act)) Q
     |none=>False
  |some false=>a7G P G all rest (finish st o.dst (.cF []) .no) Q
  |none=>False
theorem b7r {all:Array Oper}:∀(l:List Oper) (st:St) (Q:Exit→St→Prop),a7G P G all l st Q→∀(base:cM) (R:Nat→Nat→Prop) (μ:Nat→Nat) (a:Act) (w:World),Rel P G base R μ st a w→
  ∀QQ:Exit→Act→World→Prop,(∀e s a' w' R' μ',Q e s→Rel P G base R' μ' s a' w'→Step base R w R' w'→QQ e a' w')→wpList P all QQ l a w
 |[],st,Q,h,base,R,μ,a,w,hr,QQ,hk=>hk _ st a w R μ h hr (.refl _ _ _)
 |o::rest,st,Q,h,base,R,μ,a,w,hr,QQ,hk=>by
  have go:jZ P G false all o (fun s=>a7G P G all rest s Q) st→wpList P all QQ (o::rest) a w:=fun h1=>by unfold wpList;exact pM h1 hr fun s v w' R' μ' h' hr' hs'=>b7r rest s Q h' base R' μ' _ w' hr' QQ fun e s a' w2 R2 μ2 q1 q2 q3=>hk e s a' w2 R2 μ2 q1 q2 (hs'.trans q3)
  unfold a7G at h;split at h
  ·rename_i hw;split at h
   ·rename_i f ds hc;refine go ?_
    unfold jZ;rw [hw,hc];rcases h with ⟨r,own,h1,h2⟩|⟨s',h1,h2⟩
    ·exact .inl ⟨r,own,h1,fun e=>Bool.noConfusion e,by simpa using h2⟩
    ·exact .inr ⟨by simp [mW],s',h1,h2⟩
   ·rename_i hc;split at h
    ·rename_i f d3F hH;obtain ⟨x0,h0⟩:=h;unfold rI at h0;obtain ⟨he,h1,h2⟩:=h0;cases x0 with
     |true=>
      obtain ⟨s',h3,h4⟩:=h1 rfl;refine go ?_
      unfold jZ;rw [hw,hc,hH];simp only [mW,Bool.false_and,wD,Bool.false_eq_true,if_false];exact ⟨s',⟨he,h3⟩,h4⟩
     |false=>obtain ⟨v,h3,h4⟩:=h2 rfl;unfold wpList;rw [xP hr hw,if_pos rfl];exact .inl (a2V hH ⟨he,h3⟩ hr fun R' w' hs hb=>hk _ _ _ w' R' μ h4 (hr.a3T hs hb) hs)
    ·rename_i hH;split at h
     ·rename_i out hv;refine go ?_
      unfold jZ;rw [hw,hc,hH,hv];exact h
     ·exact h.elim
  ·rename_i hw;refine go ?_
   unfold jZ;rw [hw];exact h
  ·exact h.elim
def XW (P:Program)(G:GT):Code→St→(Exit→St→Prop)→Prop
 | .skip,st,Q=>Q .normal st
 | .region id ops draw,st,Q=>match draw with
  |true=>SW P G (.region id ops true) st Q
  |false=>a7G P G ops ops.toList st Q
 | .seq x y,st,Q=>XW P G x st fun e s=>match e with
  | .normal=>XW P G y s Q
  |e=>Q e s
 | .cond c x y,st,Q=>
  match st.eval G c with
  | .d (.bool t)=>if t then XW P G x st Q else XW P G y st Q
  | .kW=>XW P G x st Q∧XW P G y st Q
  |_=>False
 | .block id c,st,Q=>XW P G c st fun e s=>match e with
  | .exit id'=>if id'=id then Q .normal s else Q (.exit id') s
  |e=>Q e s
 | .loop c,st,Q=>SW P G (.loop c) st Q
 | .exit id,st,Q=>Q (.exit id) st
 | .ret,st,Q=>Q .ret st
 | .label _,st,Q=>Q .normal st
 | .scope c,st,Q=>XW P G c st fun e s=>match e with
  | .goto _=>False
  |e=>Q e s
 |_,_,_=>False
theorem a3W:∀(c:Code) (st:St) (Q:Exit→St→Prop),XW P G c st Q→SW P G c st Q
 | .skip,st,Q,h=>fun base R μ a w hr=>wp_skip ⟨st,R,μ,h,hr,.refl _ _ _⟩
 | .region id ops draw,st,Q,h=>by
  unfold XW at h;cases draw with
  |true=>exact h
  |false=>exact fun base R μ a w hr=>wp_region_list (b7r ops.toList st Q h base R μ a w hr _ fun e s a' w' R' μ' q1 q2 q3=>⟨s,R',μ',q1,q2,q3⟩)
 | .seq x y,st,Q,h=>fun base R μ a w hr=>wp_seq (wp_mono (a3W x st _ h base R μ a w hr) fun e a1 w1 ⟨s,R1,μ1,q1,q2,q3⟩=>by
   cases e with
   |normal=>exact wp_mono (a3W y s Q q1 base R1 μ1 a1 w1 q2) fun e2 a2 w2 ⟨s2,R2,μ2,p1,p2,p3⟩=>⟨s2,R2,μ2,p1,p2,q3.trans p3⟩
   |_=>exact ⟨s,R1,μ1,q1,q2,q3⟩)
 | .cond c x y,st,Q,h=>fun base R μ a w hr=>by
  unfold XW at h;split at h
  ·rename_i t hc;refine wp_cond (hr.xO hc) ?_
   cases t
   ·exact a3W y st Q h base R μ a w hr
   ·exact a3W x st Q h base R μ a w hr
  ·rename_i hc;obtain ⟨t,ht⟩:=hr.b6X hc;refine wp_cond ht ?_
   cases t
   ·exact a3W y st Q h.2 base R μ a w hr
   ·exact a3W x st Q h.1 base R μ a w hr
  ·cases h
 | .block id c,st,Q,h=>fun base R μ a w hr=>wp_block (wp_mono (a3W c st _ h base R μ a w hr) fun e a1 w1 ⟨s,R1,μ1,q1,q2,q3⟩=>by
   cases e with
   |exit id'=>
    simp only [Exit.inBlock];simp only at q1;by_cases hid:id'=id
    ·rw [if_pos hid] at q1 ⊢;exact ⟨s,R1,μ1,q1,q2,q3⟩
    ·rw [if_neg hid] at q1 ⊢;exact ⟨s,R1,μ1,q1,q2,q3⟩
   |_=>exact ⟨s,R1,μ1,q1,q2,q3⟩)
 | .loop c,st,Q,h=>h
 | .exit id,st,Q,h=>fun base R μ a w hr=>wp_exit ⟨st,R,μ,h,hr,.refl _ _ _⟩
 | .ret,st,Q,h=>fun base R μ a w hr=>wp_ret ⟨st,R,μ,h,hr,.refl _ _ _⟩
 | .rangeFunc ..,_,_,h=>by simp [XW] at h
 | .scope c,st,Q,h=>fun base R μ a w hr=>wp_scope_straight (wp_mono (a3W c st _ h base R μ a w hr) fun e a1 w1 ⟨s,R1,μ1,q1,q2,q3⟩=>by
   cases e with
   |goto l=>exact q1.elim
   |_=>exact ⟨s,R1,μ1,q1,q2,q3⟩)
 | .label l,st,Q,h=>fun base R μ a w hr=>wp_label ⟨st,R,μ,h,hr,.refl _ _ _⟩
 | .goto ..,_,_,h=>by simp [XW] at h
inductive XI where
 |code (c:Code)
 |blk (id:Nat)
 |ops (all:Array Oper) (rest:List Oper)
 |scp
def XK (P:Program)(G:GT):List XI→Exit→St→(Exit→St→Prop)→Prop
 |[],e,st,Q=>Q e st
 | .code c::k,.normal,st,Q=>XW P G c st fun e s=>XK P G k e s Q
 | .code _::k,e,st,Q=>XK P G k e st Q
 | .blk id::k,.exit id',st,Q=>if id'=id then XK P G k .normal st Q else XK P G k (.exit id') st Q
 | .blk _::k,e,st,Q=>XK P G k e st Q
 | .ops all rest::k,.normal,st,Q=>a7G P G all rest st fun e s=>XK P G k e s Q
 | .ops _ _::k,e,st,Q=>XK P G k e st Q
 | .scp::_,.goto _,_,_=>False
 | .scp::k,e,st,Q=>XK P G k e st Q
def b3W (P:Program)(G:GT)(v:DV)(x y:Code)(k:List XI)(st:St)(Q:Exit→St→Prop):Prop:=
 match v with
 | .d (.bool t)=>if t then XK P G (.code x::k) .normal st Q else XK P G (.code y::k) .normal st Q
 | .kW=>XK P G (.code x::k) .normal st Q∧XK P G (.code y::k) .normal st Q
 |_=>False
end
section
variable {P:Program} {G:GT} {k:List XI} {st:St} {Q:Exit→St→Prop}
theorem d0c (e:Exit):XK P G [] e st Q=Q e st:=rfl
theorem c5X:XK P G (.code .skip::k) .normal st Q=XK P G k .normal st Q:=rfl
theorem d0d (x y:Code):XK P G (.code (.seq x y)::k) .normal st Q=XK P G (.code x:: .code y::k) .normal st Q:=by simp only [XK,XW];congr 1;funext e s;cases e<;>rfl
theorem c5Y (c:Operand)(x y:Code):XK P G (.code (.cond c x y)::k) .normal st Q=b3W P G (st.eval G c) x y k st Q:=rfl
theorem c1p (id:Nat)(c:Code):XK P G (.code (.block id c)::k) .normal st Q=XK P G (.code c:: .blk id::k) .normal st Q:=by simp only [XK,XW];congr 1;funext e s;cases e<;>rfl
theorem c1q (l:Nat):XK P G (.code (.label l)::k) .normal st Q=XK P G k .normal st Q:=rfl
theorem a9b:XK P G (.scp::k) .normal st Q=XK P G k .normal st Q:=rfl
theorem b5Y:XK P G (.scp::k) .ret st Q=XK P G k .ret st Q:=rfl
theorem b3X (id:Nat):XK P G (.scp::k) (.exit id) st Q=XK P G k (.exit id) st Q:=rfl
theorem b8z (id:Nat)(ops:Array Oper):XK P G (.code (.region id ops false)::k) .normal st Q=XK P G (.ops ops ops.toList::k) .normal st Q:=rfl
theorem c1r (id:Nat)(ops:Array Oper):XK P G (.code (.region id ops true)::k) .normal st Q=SW P G (.region id ops true) st (fun e s=>XK P G k e s Q):=rfl
theorem c5Z (id:Nat):XK P G (.code (.exit id)::k) .normal st Q=XK P G k (.exit id) st Q:=rfl
theorem d0e:XK P G (.code .ret::k) .normal st Q=XK P G k .ret st Q:=rfl
theorem c6a (c:Code):XK P G (.code (.loop c)::k) .normal st Q=SW P G (.loop c) st (fun e s=>XK P G k e s Q):=rfl
theorem b3Y (c:Code):XK P G (.code c::k) .ret st Q=XK P G k .ret st Q:=rfl
theorem b1C (c:Code)(id:Nat):XK P G (.code c::k) (.exit id) st Q=XK P G k (.exit id) st Q:=rfl
theorem a9c (id:Nat):XK P G (.blk id::k) .normal st Q=XK P G k .normal st Q:=rfl
theorem b5Z (id:Nat):XK P G (.blk id::k) .ret st Q=XK P G k .ret st Q:=rfl
theorem b3Z (id id':Nat):XK P G (.blk id::k) (.exit id') st Q=if id'=id then XK P G k .normal st Q else XK P G k (.exit id') st Q:=rfl
theorem b6a (all:Array Oper):XK P G (.ops all []::k) .normal st Q=XK P G k .normal st Q:=rfl
theorem xX (ps:List PanicEntry):∀k:List XI,XK P G k (.panic ps) st Q=Q (.panic ps) st
 |[]=>rfl
 | .code _::k=>by simpa only [XK] using xX ps k
 | .blk _::k=>by simpa only [XK] using xX ps k
 | .ops _ _::k=>by simpa only [XK] using xX ps k
 | .scp::k=>by simpa only [XK] using xX ps k
def kU (P:Program)(G:GT)(f:FuncId)(ds:List D)(ls:List (Option Loc))(dst:Option Tmp)(all:Array Oper)(rest:List Oper)(k:List XI)(st:St)(Q:Exit→St→Prop):Prop:=
 (∃r own,(Enters P f∧CS P G f ds r own)∧XK P G (.ops all rest::k) .normal (finish st dst r (a0s own)) Q)∨
 (∃s',(Enters P f∧jQ P G f (ds.map .d) ls st dst s')∧XK P G (.ops all rest::k) .normal s' Q)
theorem kU.mk {ls:List (Option Loc)}{f:FuncId}{ds:List D}{r:DV}{own:Option TypeId}{dst:Option Tmp}{all:Array Oper}{rest:List Oper}(he:Enters P f)(hc:CS P G f ds r own)(h:XK P G (.ops all rest::k) .normal (finish st dst r (a0s own)) Q):kU P G f ds ls dst all rest k st Q:= .inl ⟨r,own,⟨he,hc⟩,h⟩
def b0p (P:Program)(G:GT)(x:Option Out)(dst:Option Tmp)(all:Array Oper)(rest:List Oper)(k:List XI)(Q:Exit→St→Prop):Prop:=
 match x with
 |some out=>XK P G (.ops all rest::k) .normal (finish out.st dst out.v out.act) Q
 |none=>False
theorem b6b {st':St}{v:DV}{act:OA}{dst:Option Tmp}{all:Array Oper}{rest:List Oper}:b0p P G (some ⟨v,act,st'⟩) dst all rest k Q=XK P G (.ops all rest::k) .normal (finish st' dst v act) Q:=rfl
theorem pB {c:Prop}[Decidable c]{out:Out}{dst:Option Tmp}{all:Array Oper}{rest:List Oper}(hc:c)(h:b0p P G (some out) dst all rest k Q):b0p P G (if c then some out else none) dst all rest k Q:=by rw [if_pos hc];exact h
theorem b6c (x y:Code):b3W P G (.d (.bool true)) x y k st Q=XK P G (.code x::k) .normal st Q:=rfl
theorem b8A (x y:Code):b3W P G .kW x y k st Q=(XK P G (.code x::k) .normal st Q∧XK P G (.code y::k) .normal st Q):=rfl
theorem b4a (x y:Code):b3W P G (.d (.bool false)) x y k st Q=XK P G (.code y::k) .normal st Q:=rfl
def eU (P:Program)(G:GT)(f:FuncId)(d3F:List DV)(ls:List (Option Loc))(dst:Option Tmp)(all:Array Oper)(rest:List Oper)(k:List XI)(st:St)(Q:Exit→St→Prop):Prop:=
 ∃x0,rI P G f d3F ls dst st (fun s=>XK P G (.ops all rest::k) .normal s Q) (fun e s=>XK P G k e s Q) x0
theorem eU.mk {f:FuncId}{d3F:List DV}{ls:List (Option Loc)}{dst:Option Tmp}{all:Array Oper}{rest:List Oper}{x0:Bool}(h:rI P G f d3F ls dst st (fun s=>XK P G (.ops all rest::k) .normal s Q) Q x0):eU P G f d3F ls dst all rest k st Q:=by
 refine ⟨x0,?_⟩;unfold rI at h ⊢;refine ⟨h.1,h.2.1,fun h0=>?_⟩;obtain ⟨v,h1,h2⟩:=h.2.2 h0;refine ⟨v,h1,?_⟩
 show XK P G k (.panic (tX v)) (wN st) Q
 rw [xX];exact h2
def a0S (P:Program)(G:GT)(o:Oper)(all:Array Oper)(rest:List Oper)(k:List XI)(st:St)(Q:Exit→St→Prop):Prop:=
 match jH G o st with
 |some (f,ds)=>kU P G f ds (gE o) o.dst all rest k st Q
 |none=>
  match dI G o st with
  |some (f,d3F)=>eU P G f d3F (gE o) o.dst all rest k st Q
  |none=>b0p P G ((gY P G o st).map fun out=>⟨out.v,a3v false all o out.v out.act,out.st⟩) o.dst all rest k Q
def zD (P:Program)(G:GT)(y:DV)(want:Bool)(o:Oper)(all:Array Oper)(rest:List Oper)(k:List XI)(st:St)(Q:Exit→St→Prop):Prop:=
 match y with
 | .undef=>False
 | .kW=>False
 | .d (.bool b)=>if b=want then a0S P G o all rest k st Q else XK P G (.ops all rest::k) .normal (finish st o.dst (.cF []) .no) Q
 |_=>XK P G (.ops all rest::k) .normal (finish st o.dst (.cF []) .no) Q
theorem wQ (b want:Bool)(o:Oper)(all:Array Oper)(rest:List Oper):zD P G (.d (.bool b)) want o all rest k st Q=if b=want then a0S P G o all rest k st Q else XK P G (.ops all rest::k) .normal (finish st o.dst (.cF []) .no) Q:=rfl
theorem b6d (ds:List D)(want:Bool)(o:Oper)(all:Array Oper)(rest:List Oper):zD P G (.cF ds) want o all rest k st Q=XK P G (.ops all rest::k) .normal (finish st o.dst (.cF []) .no) Q:=rfl
theorem b8B (o:Oper)(all:Array Oper)(rest:List Oper):zD P G (.d (.bool true)) true o all rest k st Q=a0S P G o all rest k st Q:=by rw [wQ,if_pos rfl]
theorem b8C (o:Oper)(all:Array Oper)(rest:List Oper):zD P G (.d (.bool false)) false o all rest k st Q=a0S P G o all rest k st Q:=by rw [wQ,if_pos rfl]
theorem b8D (o:Oper)(all:Array Oper)(rest:List Oper):zD P G (.d (.bool true)) false o all rest k st Q=XK P G (.ops all rest::k) .normal (finish st o.dst (.cF []) .no) Q:=by rw [wQ,if_neg (by decide)]
theorem b8E (o:Oper)(all:Array Oper)(rest:List Oper):zD P G (.d (.bool false)) true o all rest k st Q=XK P G (.ops all rest::k) .normal (finish st o.dst (.cF []) .no) Q:=by rw [wQ,if_neg (by decide)]
theorem a5I (all:Array Oper)(o:Oper)(rest:List Oper):XK P G (.ops all (o::rest)::k) .normal st Q=match dT o all st.tmps with
  |some true=>a0S P G o all rest k st Q
  |some false=>XK P G (.ops all rest::k) .normal (finish st o.dst (.cF []) .no) Q
  |none=>False:=by
 simp only [XK,a7G,a0S,kU,eU,b0p];cases dT o all st.tmps with
 |none=>rfl
 |some b=>
  cases b with
  |false=>rfl
  |true=>
   simp only;cases jH G o st with
   |some p=>rfl
   |none=>
    simp only;cases dI G o st with
    |some p=>rfl
    |none=>simp only;cases gY P G o st<;>rfl
theorem b4b (all:Array Oper)(dst:Option Tmp)(op:Op)(ty:TypeId)(pos:String)(after:Array Edge)(rest:List Oper):
  XK P G (.ops all (⟨dst,op,ty,pos,after,none⟩::rest)::k) .normal st Q=a0S P G ⟨dst,op,ty,pos,after,none⟩ all rest k st Q:=by
 rw [a5I]
 rfl
theorem b1D (all:Array Oper)(dst:Option Tmp)(op:Op)(ty:TypeId)(pos:String)(after:Array Edge)(j:Nat)(want:Bool)(rest:List Oper):
  XK P G (.ops all (⟨dst,op,ty,pos,after,some (j,want)⟩::rest)::k) .normal st Q=zD P G (pG all st.tmps j) want ⟨dst,op,ty,pos,after,some (j,want)⟩ all rest k st Q:=by
 rw [a5I];simp only [dT,zD];generalize pG all st.tmps j=y;cases y with
 |d x=>
  cases x with
  |bool b=>cases b<;>cases want<;>rfl
  |_=>rfl
 |_=>rfl
theorem SW.xk {c:Code}(h:XK P G [.code c] .normal st Q):SW P G c st Q:=a3W c st Q h
theorem SW.wR {c:Code}{ι:Type}(ws:ι→List (Nat×DV))(H:ι→List (Nat×aR))(own:ι→List (TypeId×List Loc))(m:ι→Nat)(x0:ι)(h0:tS st (kE c st (ws x0) (H x0) (own x0)))(round:∀x,XK P G [.code c] .normal (kE c st (ws x) (H x) (own x)) fun e s=>match e with
   | .normal=>bN (fun y=>kE c st (ws y) (H y) (own y)) m x s
   |e=>Q e s):SW P G (.loop c) st Q:=SW.d1G ws H own m x0 h0 fun x=>SW.xk (round x)
end
attribute [irreducible] XK kU eU b0p b3W zD
attribute [simp] c1q a9b b5Y b3X d0c c5X d0d c5Y c1p b8z c1r c5Z d0e c6a b3Y b1C a9c b5Z b3Z b6a b4b b1D a0S b6b b6c b4a b8A b6d b8B b8C b8D b8E xX
end Go.VM
end
section
namespace Go.VM
open Go Go.RowKit
section
variable {P:Program} {G:GT} {st:St} {base:cM} {R:Nat→Nat→Prop} {μ:Nat→Nat} {a:Act} {w:World}
def a6t:Op→Bool
 | .move _=>true
 | .nilCheck _=>true
 | .fieldAddr _ _ _=>true
 |_=>false
theorem b6e {o:Oper}{all:Array Oper}{K:St→Prop}(hg:o.guard=none)(hk:a6t o.op=true)(h:jZ P G true all o K st)(hr:Rel P G base R μ st a w):∃v,∀w',(execOp a.eval o).run P w'= .ok (.value v) w':=by
 unfold jZ at h;rw [show dT o all st.tmps=some true from by unfold dT;rw [hg]] at h;cases hop:o.op with
 |move x=>exact ⟨a.eval x,fun w'=>by simp [execOp,hop]⟩
 |nilCheck x=>
  simp only [jH,dI,hop,gY] at h;unfold qD at h;split at h
  ·rename_i out ho;split at ho
   ·rename_i k off hx;exact ⟨_,fun w'=>by simp [execOp,hop,hr.dJ hx];rfl⟩
   ·rename_i cs hx;obtain ⟨b,off,he,_⟩:=(hr.jU hx).a4w;exact ⟨_,fun w'=>by simp [execOp,hop,he];rfl⟩
   ·rename_i f hx;exact ⟨_,fun w'=>by simp [execOp,hop,hr.a6E hx];rfl⟩
   ·rename_i f cs hx;obtain ⟨vs,he,_,_⟩:=(hr.jU hx).a3r;exact ⟨_,fun w'=>by simp [execOp,hop,he];rfl⟩
   ·cases ho
  ·exact h.elim
 |fieldAddr t x i=>
  simp only [jH,dI,hop,gY] at h;unfold oB at h;split at h
  ·rename_i out ho;split at ho
   ·rename_i off u hf;split at ho
    ·cases ho
    ·rename_i hne;split at ho
     ·rename_i k o2 hx;exact ⟨_,fun w'=>rW (P:=P) hop hf hne (hr.dJ hx)⟩
     ·rename_i cs hx;obtain ⟨b,o2,he,_⟩:=(hr.jU hx).a4w;exact ⟨_,fun w'=>rW (P:=P) hop hf hne he⟩
     ·cases ho
   ·cases ho
  ·exact h.elim
 |_=>simp [a6t,hop] at hk
theorem b4c {o:Oper}{all:Array Oper}{K:St→Prop}(hg:o.guard=none)(hk:a6t o.op=true)(h:jZ P G true all o K st)(hr:Rel P G base R μ st a w):
  ∃v s R' μ',(∀w',(execOp a.eval o).run P w'= .ok (.value v) w')∧K s∧Rel P G base R' μ' s (a.put o.dst v) w∧Step base R w R' w:=by
 obtain ⟨v,hv⟩:=b6e hg hk h hr;have h1:=pM (Q:=fun _ _ _=>False) (KK:=fun a' w'=>∃s R' μ',K s∧Rel P G base R' μ' s a' w'∧Step base R w R' w') h hr (fun s v w' R' μ' q1 q2 q3=>⟨s,R',μ',q1,q2,q3⟩);rw [if_pos (by unfold Region.wanted;rw [hg])] at h1;rcases h1 with h1|⟨_,_,_,h2⟩
 ·unfold Oper.wp at h1;rw [hv w] at h1;obtain ⟨s,R',μ',q1,q2,q3⟩:=h1;exact ⟨v,s,R',μ',hv,q1,q2,q3⟩
 ·exact h2.elim
def a7H (ops:Array Oper):List Nat→Array Bool→Bool
 |[],_=>true
 |i::r,listed=>(match ops[i]? with
  |some o=>a6t o.op&&(o.guard==none)&&o.dst.isSome
  |none=>false)&&Region.noSelect ops&&Region.free .any ops listed i&&(Region.ready .any ops listed).contains i&&a7H ops r (listed.setIfInBounds i true)
theorem b1E {ops:Array Oper}{K:St→Prop}{QQ:Exit→Act→World→Prop}(hQ:∀c a a' w,a.defers=a'.defers→a.tmps.size=a'.tmps.size→QQ (.panic c) a w→QQ (.panic c) a' w):∀(l:List Nat) (listed:Array Bool) (fuel:Nat) (st:St),a7H ops l listed=true→pU P G true ops (sel ops l) st K→
  ∀(base:cM) (R:Nat→Nat→Prop) (μ:Nat→Nat) (a:Act) (w:World),Rel P G base R μ st a w→(∀s a' R' μ',K s→Rel P G base R' μ' s a' w→Step base R w R' w→wpAny P .any ops QQ fuel (cD l listed) a' w)→wpAny P .any ops QQ (l.length+fuel) listed a w
 |[],listed,fuel,st,_,h,base,R,μ,a,w,hr,hk=>by simpa [cD] using hk st a R μ h hr (.refl _ _ _)
 |i::l,listed,fuel,st,hB,h,base,R,μ,a,w,hr,hk=>by
  simp only [a7H,d3H] at hB;obtain ⟨⟨⟨⟨ho,hsel⟩,hf⟩,hrd⟩,hB'⟩:=hB;split at ho;rotate_left
  ·cases ho
  rename_i o hoi;simp only [d3H,beq_iff_eq] at ho;obtain ⟨⟨hsk,hg⟩,hd⟩:=ho;simp only [sel,hoi,pU] at h;obtain ⟨v,s,R',μ',hv,hK,hr',hs'⟩:=b4c hg hsk h hr;rw [show (i::l).length+fuel=(l.length+fuel)+1 by simp only [List.length_cons];omega];refine wpAny_take (v:=v) hoi hsel hf hrd (fun c a w h=>hQ c _ _ w ?_ ?_ h) (.inl ⟨by unfold Region.wanted;rw [hg],hv⟩) ?_
  ·cases o.dst<;>rfl
  ·cases o.dst<;>simp [Act.put]
  ·exact b1E hQ l _ fuel s hB' hK base R' μ' _ w hr' fun s2 a2 R2 μ2 q1 q2 q3=>hk s2 a2 R2 μ2 q1 q2 (hs'.trans q3)
def vK (Q:Exit→St→Prop):Exit→St→Prop:=fun e s=>match e with
 | .panic c=>∀s,Q (.panic c) s
 |e=>Q e s
theorem b1F {Q:Exit→St→Prop}{s:St}:vK Q .normal s=Q .normal s:=rfl
theorem b4d {Q:Exit→St→Prop}{s:St}{c:List PanicEntry}:vK Q (.panic c) s=∀s,Q (.panic c) s:=rfl
theorem b4e {Q:Exit→St→Prop}{e:Exit}{s:St}(h:vK Q e s):Q e s:=by cases e<;>first|exact h|exact h s
theorem Rel.b4f (hr:Rel P G base R μ st a w)(a':Act)(hd:a'.defers=[]):Rel P G base R μ ⟨List.replicate a'.tmps.size .undef,[],[]⟩ a' w where
 defers:=hd
 size:=by simp
 tmps:=fun i v d _ hd=>by
  rw [List.getElem?_replicate] at hd;split at hd
  ·simp at hd;subst hd;exact .undef _
  ·cases hd
 eT:=fun k o h=>by cases h
 inj:=fun k k' o o' h=>by cases h
 cU:=fun c hc=>by cases hc
 own:=⟨[],rfl,fun i c v h _=>by simp at h,.nil⟩
 qL:=hr.qL
 kY:=hr.kY
 base:=hr.base
 pass:=hr.pass
theorem a0T {ops:Array Oper}:∀(l:List Nat) (listed:Array Bool),a7H ops l listed=true→dM ops listed→dM ops (cD l listed)
 |[],_,_,h=>h
 |i::l,listed,hB,h=>by simp only [a7H,d3H] at hB;exact a0T l _ hB.2 (h.set (by simpa using hB.1.2))
def c7X (ops:Array Oper)(ss:List Nat)(c:Nat)(anc:List Nat)(T:Ord):Bool:=(dL ops).isEmpty&&a7H ops ss (Array.replicate ops.size false)&&decide (ss.length+anc.length+1≤ops.size)&&inB ops c anc&&a3Q ops c anc (cD ss (Array.replicate ops.size false))&& !(Region.ready .any ops (cD anc (cD ss (Array.replicate ops.size false)))).isEmpty&&((Region.ready .any ops (cD anc (cD ss (Array.replicate ops.size false)))).all fun j=>zB c T j)&&a7D ops c T (ops.size-ss.length-anc.length) (cD anc (cD ss (Array.replicate ops.size false)))
theorem dM.zero {ops:Array Oper}:dM ops (Array.replicate ops.size false):=fun k hk=>by
 rcases Nat.lt_or_ge k ops.size with h'|h'
 ·simp [h'] at hk
 ·simp [Nat.not_lt.2 h'] at hk
theorem jA {id:Nat}{ops:Array Oper}{Q:Exit→St→Prop}(ss:List Nat)(c:Nat)(anc:List Nat)(T:Ord)(x0:Bool)(hm:P.follows .mixedOrders=true)(hB:c7X ops ss c anc T=true)(h:VK P G [.ops true ops (sel ops ss)] .normal st fun _ s=>VK P G [.ops true ops (sel ops anc)] .normal s fun _ s=>kO P G ops c (vK Q) x0 T s):SW P G (.region id ops true) st Q:=by
 simp only [c7X,d3H,List.isEmpty_iff,decide_eq_true_eq,Bool.not_eq_true',List.isEmpty_eq_false_iff,d3K] at hB;obtain ⟨⟨⟨⟨⟨⟨⟨hN,hst⟩,hlen⟩,hin⟩,hs⟩,hne⟩,hall⟩,ht⟩:=hB;obtain ⟨k,hk⟩:=Nat.exists_eq_add_of_le hlen;have hcl:=a0T ss _ hst dM.zero;have e:ops.size-ss.length-anc.length=k+1:=by omega
 rw [e] at ht;refine SW.mono (fun e s=>b4e) ?_
 intro base R μ a w hr;obtain ⟨hr',hs'⟩:=hr.drew;refine wp_region_any hm ?_
 simp only [VK] at h;have main:=b1E (QQ:=fun e a' w'=>∃s' R' μ',vK Q e s'∧Rel P G base R' μ' s' a' w'∧Step base R w R' w') (K:=fun s=>pU P G true ops (sel ops anc) s fun s=>kO P G ops c (vK Q) x0 T s) (fun c a a' w h1 h2 ⟨s',R',μ',q1,q2,q3⟩=>⟨⟨List.replicate a'.tmps.size .undef,[],[]⟩,R',μ',q1,q2.b4f a' (h1▸q2.defers),q3⟩) ss _ (anc.length+(k+1)) st hst h base R μ a w.drew hr' fun s a' R1 μ1 q1 q2 q3=>by
  cases x0 with
  |false=>have h2:=qI (fun s hs=>kO.pan T s hs) _ _ q1;have:=a1F (P:=P) (G:=G) (c:=c) (Z:=wO P G ops c (vK Q)) hN anc _ s (k+1) hcl hin hs (pA (fun s hs'=>⟨hne,fun j hj=>a0R T k _ s ht hs' j hj (hall j hj)⟩) _ _ (qW anc s hin h2));exact a3U _ _ s this base R1 μ1 a' w.drew q2 fun v s a' w' R' μ' p1 p2 p3=>⟨s,R',μ',p1,p2,hs'.trans (q3.trans p3)⟩
  |true=>
   have h2:=qI (fun s hs=>kO.ret T s hs) _ _ q1;have:=a1E (P:=P) (G:=G) (c:=c) (Q:=fun s=>vK Q .normal s) hN anc _ s (k+1) hcl hs (pA (fun s hs'=>⟨fun h'=>(hne h').elim,fun j hj=>a3R hN T k _ s (dM.cD anc _ hcl hs) ht hs' j hj (hall j hj)⟩) _ _ (qW anc s hin h2)) fun _=>trivial
   exact a3P _ _ s this base R1 μ1 a' w.drew q2 fun s a' w' R' μ' p1 p2 p3=>⟨s,R',μ',p1,p2,hs'.trans (q3.trans p3)⟩
 rw [show ss.length+(anc.length+(k+1))=ops.size by omega] at main;exact main
def b1G (ops:Array Oper)(m:Nat)(ss:List Nat)(c:Nat)(anc:List Nat)(T:Ord):Bool:=(dL ops).isEmpty&&a7H ops ss (Array.replicate ops.size false)&&c1n m ss&&decide (ss.length+anc.length+1≤m)&&decide (m≤ops.size)&&sJ ops m&&c1n m anc&&inB ops c anc&&a3Q ops c anc (cD ss (Array.replicate ops.size false))&& !(Region.ready .any ops (cD anc (cD ss (Array.replicate ops.size false)))).isEmpty&&((Region.ready .any ops (cD anc (cD ss (Array.replicate ops.size false)))).all fun j=>zB c T j)&&a2p ops m c T (m-ss.length-anc.length) (cD anc (cD ss (Array.replicate ops.size false)))
theorem a3X {id:Nat}{ops:Array Oper}{m:Nat}{TT:St→Prop}{Q:Exit→St→Prop}(ss:List Nat)(c:Nat)(anc:List Nat)(T:Ord)(x0:Bool)(hm:P.follows .mixedOrders=true)(hB:b1G ops m ss c anc T=true)(h:VK P G [.ops true ops (sel ops ss)] .normal st fun _ s=>VK P G [.ops true ops (sel ops anc)] .normal s fun _ s=>kO P G ops c (a7F TT (vK Q)) x0 T s)(hT:∀s base R μ a w (QQ:Exit→Act→World→Prop),TT s→Rel P G base R μ s a w→(∀s' a' w' R' μ',Q .normal s'→Rel P G base R' μ' s' a' w'→Step base R w R' w'→QQ .normal a' w')→wpAny P .any ops QQ (ops.size-m) (kN m ops.size) a w):SW P G (.region id ops true) st Q:=by
 simp only [b1G,d3H,List.isEmpty_iff,decide_eq_true_eq,Bool.not_eq_true',List.isEmpty_eq_false_iff,d3K] at hB;obtain ⟨⟨⟨⟨⟨⟨⟨⟨⟨⟨⟨hN,hst⟩,hlowS⟩,hlen⟩,hmle⟩,hTA⟩,hlow⟩,hin⟩,hs⟩,hne⟩,hall⟩,ht⟩:=hB;obtain ⟨k,hk⟩:=Nat.exists_eq_add_of_le hlen;have hcl:=a0T ss _ hst dM.zero;have e:m-ss.length-anc.length=k+1:=by omega
 rw [e] at ht;obtain ⟨k',hk'⟩:=Nat.exists_eq_add_of_le (Nat.le_trans hlen hmle);refine SW.mono (fun e s=>b4e) ?_
 intro base R μ a w hr;obtain ⟨hr',hs'⟩:=hr.drew;refine wp_region_any hm ?_
 simp only [VK] at h;have main:=b1E (QQ:=fun e a' w'=>∃s' R' μ',vK Q e s'∧Rel P G base R' μ' s' a' w'∧Step base R w R' w') (K:=fun s=>pU P G true ops (sel ops anc) s fun s=>kO P G ops c (a7F TT (vK Q)) x0 T s) (fun c a a' w h1 h2 ⟨s',R',μ',q1,q2,q3⟩=>⟨⟨List.replicate a'.tmps.size .undef,[],[]⟩,R',μ',q1,q2.b4f a' (h1▸q2.defers),q3⟩) ss _ (anc.length+(k'+1)) st hst h base R μ a w.drew hr' fun s a' R1 μ1 q1 q2 q3=>by
  cases x0 with
  |false=>have h2:=qI (fun s hs=>kO.pan T s hs) _ _ q1;have:=a1F (P:=P) (G:=G) (c:=c) (Z:=wO P G ops c (a7F TT (vK Q))) hN anc _ s (k'+1) hcl hin hs (pA (fun s hs'=>⟨hne,fun j hj=>a1G T k k' _ s (by omega) ht hs' j hj (hall j hj)⟩) _ _ (qW anc s hin h2));exact a3U _ _ s this base R1 μ1 a' w.drew q2 fun v s a' w' R' μ' p1 p2 p3=>⟨s,R',μ',p1,p2,hs'.trans (q3.trans p3)⟩
  |true=>
   have h2:=qI (fun s hs=>kO.ret T s hs) _ _ q1;have h3:=a2W (P:=P) (G:=G) (m:=m) (c:=c) (Q:=TT) hTA hN anc _ s (k+1) hlow hcl hs (pA (fun s hs'=>⟨hne,fun j hj=>a3V hTA hN T k _ s (dM.cD anc _ hcl hs) ht hs' j hj (hall j hj)⟩) _ _ (qW anc s hin h2));have h4:=b0o (r:=ops.size-m) (QQ:=fun e a' w'=>∃s' R' μ',vK Q e s'∧Rel P G base R' μ' s' a' w'∧Step base R w R' w') _ _ s h3 base R1 μ1 a' w.drew q2 fun s a' w' R' μ' p1 p2 p3=>hT s base R' μ' a' w' _ p1 p2 fun s2 a2 w2 R2 μ2 o1 o2 o3=>⟨s2,R2,μ2,o1,o2,hs'.trans (q3.trans (p3.trans o3))⟩
   rw [show anc.length+(k+1)+(ops.size-m)=anc.length+(k'+1) by omega] at h4;exact h4
 rw [show ss.length+(anc.length+(k'+1))=ops.size by omega] at main;exact main
theorem a3Y {id:Nat}{ops:Array Oper}{Q:Exit→St→Prop}(m:Nat){t e:TypeId}{s z r p q x b:Tmp}{y0 y1 y2 y3:TypeId}{p0 p1 p2 p3:String}{f0 f1 f2 f3:Array Edge}(ss:List Nat)(c:Nat)(anc:List Nat)(T:Ord)(x0:Bool)(h0:ops[m]? =some ⟨some r,.call { callee:= .builtin .append,args:= #[.tmp s,.tmp z],argTypes:= #[t,t] },y0,p0,f0,none⟩)(h1:ops[m+1]? =some ⟨some p,.indexAddr t (.tmp r) (.tmp q),y1,p1,f1,none⟩)(h2:ops[m+2]? =some ⟨none,.store e (.tmp p) (.tmp x),y2,p2,f2,none⟩)(h3:ops[m+3]? =some ⟨none,.store t (.tmp b) (.tmp r),y3,p3,f3,none⟩)(hB:(P.follows .mixedOrders&&b1G ops m ss c anc T&&b0m ops m)=true)(hok:(eG P e&&decide ((r≠q∧r≠x∧r≠p∧r≠b)∧p≠x∧p≠b))=true)(hu:P.underlying t=some (.slice e))(h:VK P G [.ops true ops (sel ops ss)] .normal st fun _ s1=>VK P G [.ops true ops (sel ops anc)] .normal s1 fun _ s1=>kO P G ops c (a7F (c9Z P G t e s z r p q x b (fun s'=>Q .normal s')) (vK Q)) x0 T s1):SW P G (.region id ops true) st Q:=by
 rw [d3H,d3H] at hB;obtain ⟨⟨hm,hL⟩,hR⟩:=hB;rw [d3H,decide_eq_true_eq] at hok;simp only [b0m,d3H,decide_eq_true_eq,beq_iff_eq] at hR;obtain ⟨⟨⟨⟨⟨⟨⟨⟨⟨⟨hsz,r0⟩,r1⟩,r2⟩,r3⟩,r4⟩,r5⟩,r6⟩,r7⟩,r8⟩,r9⟩:=hR;have h4:ops.size-m=4:=by rw [hsz];exact Nat.add_sub_cancel_left ..
 refine a3X ss c anc T x0 hm hL h ?_
 rintro s1 base R μ a w QQ ⟨xs,z0,c,dB,out,k0,k1,k2,k3,k4,k5,k6,k7,k8,k9,k10,k11⟩ hr hk;rw [h4];exact c5U (Q:=fun s'=>Q .normal s') h0 h1 h2 h3 r0 r1 r2 r3 r4 r5 r6 r7 r8 r9 hok.1 hu hok.2 k0 k1 k2 k3 k4 k5 k6 k7 k8 k9 k10 k11 hr hk
theorem cV {id:Nat}{ops:Array Oper}{Q:Exit→St→Prop}(m:Nat){t e T:TypeId}{s z r p q x b y:Tmp}{fd:Nat}{y0 y1 y2 y3 y4:TypeId}{p0 p1 p2 p3 p4:String}{f0 f1 f2 f3 f4:Array Edge}(ss:List Nat)(c:Nat)(anc:List Nat)(O:Ord)(x0:Bool)(h0:ops[m]? =some ⟨some r,.call { callee:= .builtin .append,args:= #[.tmp s,.tmp z],argTypes:= #[t,t] },y0,p0,f0,none⟩)(h1:ops[m+1]? =some ⟨some p,.indexAddr t (.tmp r) (.tmp q),y1,p1,f1,none⟩)(h2:ops[m+2]? =some ⟨none,.store e (.tmp p) (.tmp x),y2,p2,f2,none⟩)(h3:ops[m+3]? =some ⟨some b,.fieldAddr T (.tmp y) fd,y3,p3,f3,none⟩)(h4:ops[m+4]? =some ⟨none,.store t (.tmp b) (.tmp r),y4,p4,f4,none⟩)(hB:(P.follows .mixedOrders&&b1G ops m ss c anc O&&decide (ops.size=m+5)&&a6s ops (kN m ops.size) m (m+1) (m+2) (m+3) (m+4))=true)(hok:(eG P e&&decide ((r≠q∧r≠x∧r≠p∧r≠b∧r≠y)∧(p≠x∧p≠b∧p≠y)∧b≠q∧b≠x))=true)(hu:P.underlying t=some (.slice e))(h:VK P G [.ops true ops (sel ops ss)] .normal st fun _ s1=>VK P G [.ops true ops (sel ops anc)] .normal s1 fun _ s1=>kO P G ops c (a7F (b7q P G t e T s z r p q x b y fd (fun s'=>Q .normal s')) (vK Q)) x0 O s1):SW P G (.region id ops true) st Q:=by
 rw [d3H,d3H,d3H,decide_eq_true_eq] at hB;obtain ⟨⟨⟨hm,hL⟩,hsz⟩,hR⟩:=hB;rw [d3H,decide_eq_true_eq] at hok;have h5:ops.size-m=5:=by rw [hsz];exact Nat.add_sub_cancel_left ..
 refine a3X ss c anc O x0 hm hL h ?_
 rintro s1 base R μ a w QQ ⟨xs,z0,c,dB,kb0,off0,fo,u,out,k0,k1,k2,k3,k4,k5,k6,k7,k8,k9,k10,k11,k12,k13,k14⟩ hr hk;rw [h5];exact b3V (Q:=fun s'=>Q .normal s') h0 h1 h2 h3 h4 hR hok.1 hu hok.2 k0 k1 k2 k3 k4 k5 k6 k7 k8 k9 k10 k11 k12 k13 k14 hr hk
def c1s:List DV→List DV→Prop
 |[],[]=>True
 |d::ds,d'::ds'=>(d'= .undef∨a4z d d')∧c1s ds ds'
 |_,_=>False
def c6b:aR→aR→Prop
 | .cells cs,.cells cs'=>c1s cs cs'
 |o,o'=>o'=o
def c1t (H:List (Nat×aR)):List (Nat×aR)→Prop
 |[]=>True
 |(k,o')::r=>(∃o,getKey k H=some o∧c6b o o')∧c1t H r
theorem b0q:∀ {cs cs':List DV},c1s cs cs'→cs'.length=cs.length∧∀(i:Nat) (d':DV),cs'[i]? =some d'→∃d,cs[i]? =some d∧(d'= .undef∨a4z d d')
 |[],[],_=>⟨rfl,fun i d' h=>by simp at h⟩
 |d::ds,d'::ds',h=>by
  obtain ⟨h1,h2⟩:=b0q h.2;refine ⟨by simp [h1],fun i e he=>?_⟩;cases i with
  |zero=>simp at he;subst he;exact ⟨d,rfl,h.1⟩
  |succ i=>simpa using h2 i e (by simpa using he)
theorem b0r {H:List (Nat×aR)}:∀ {H1:List (Nat×aR)},c1t H H1→∀k o',getKey k H1=some o'→∃o,getKey k H=some o∧c6b o o'
 |[],_,k,o',h=>by simp [getKey] at h
 |(k0,o0)::r,hw,k,o',h=>by
  unfold getKey at h;split at h
  ·rename_i he;cases h;subst he;exact hw.1
  ·exact b0r hw.2 k o' h
theorem c6c {x y:D}(h:WkD x y)(hx:x.one=true):y.one=true:=by cases h<;>first|exact hx|rfl|(simp [D.one] at hx ⊢)
theorem b8F {d d':DV}(h:a4z d d')(hc:d.cell=true):d'.cell=true:=by cases d<;>cases d'<;>simp only [a4z] at h<;>first|exact c6c h hc|(cases h;exact hc)|(cases h;done)|(simp [DV.cell] at hc)
theorem c1u {b:Nat}{o o':aR}(h:c6b o o')(hr:eJ R μ w b o):eJ R μ w b o':=by
 cases o with
 |cells cs=>
  cases o' with
  |cells cs'=>
   obtain ⟨q1,q2⟩:=b0q h;obtain ⟨vs,T,h1,h2,h3,h4⟩:=hr;refine ⟨vs,T,h1,by rw [h2,q1],fun i d' hd'=>?_,fun T' hm=>?_⟩
   ·obtain ⟨d,hd,hc⟩:=q2 i d' hd';obtain ⟨p1,p2⟩:=h3 i d hd;rcases hc with rfl|hc
    ·exact ⟨rfl,.undef _⟩
    ·exact ⟨b8F hc p1,p2.wk hc⟩
   ·obtain ⟨i,hi⟩:=d3Y hm;obtain ⟨d,hd,hc⟩:=q2 i _ hi;rcases hc with hc|hc
    ·cases hc
    ·have:d= .sN T':=by cases d<;>simp only [a4z] at hc<;>first|exact hc|cases hc
     subst this;exact h4 T' (d3M hd)
  |map es=>cases h
  |iter s p=>cases h
  |bld T u es=>cases h
 |map es=>cases o'<;>first|(cases h;exact hr)|cases h
 |iter s p=>cases o'<;>first|(cases h;exact hr)|cases h
 |bld T u es=>cases o'<;>first|(cases h;exact hr)|cases h
structure c1v (s s':St):Prop where
 tmps:WkT s.tmps s'.tmps
 H:c1t s.H s'.H
 own:a3A s s.own s'.own=true
 keys:aT s'.H s'.own=true
theorem b8G (s s':St):c1v s s'↔WkT s.tmps s'.tmps∧c1t s.H s'.H∧a3A s s.own s'.own=true∧aT s'.H s'.own=true:=⟨fun h=>⟨h.tmps,h.H,h.own,h.keys⟩,fun h=>⟨h.1,h.2.1,h.2.2.1,h.2.2.2⟩⟩
theorem Rel.c7Y {st':St}(hr:Rel P G base R μ st a w)(h:c1v st st'):Rel P G base R μ st' a w:=by
 obtain ⟨h1,h2⟩:=uU h.tmps;have h3:=b0r h.H;refine ⟨hr.defers,by rw [hr.size,h1],fun i v d' hv hd'=>?_,fun k o' hk=>?_,fun k k' o o' hk hk' he=>?_,fun c hc k off hl=>?_,?_,hr.qL,hr.kY,hr.base,hr.pass⟩
 ·obtain ⟨d,hd,hc⟩:=h2 i d' hd';have:=hr.tmps i v d hv hd;rcases hc with rfl|rfl|⟨rfl,rfl⟩
  ·exact .undef _
  ·exact this
  ·obtain ⟨ao,rfl⟩:=this.a3p.gG;exact .d _ _ (.emp _ _)
 ·obtain ⟨o,ho,hw⟩:=h3 k o' hk;obtain ⟨q1,q2,q3⟩:=hr.eT k o ho;exact ⟨q1,q2,c1u hw q3⟩
 ·obtain ⟨o1,ho1,_⟩:=h3 k o hk;obtain ⟨o2,ho2,_⟩:=h3 k' o' hk';exact hr.inj k k' o1 o2 ho1 ho2 he
 ·have:=d3K.1 h.keys c hc;have:=d3K.1 this _ hl;exact Option.isSome_iff_exists.1 this
 ·obtain ⟨vs,hvs⟩:=hr.own;obtain ⟨vs',hv',_⟩:=a0z hr st'.own st.own vs ⟨hvs.len,hvs.one,hvs.apart⟩ h.own;refine ⟨vs',hv'.len,fun i c v hc hv=>?_,hv'.apart⟩;have ho:=hv'.one i c v hc hv;exact ⟨ho.cU,ho.own,fun k o hk=>by obtain ⟨o1,ho1,_⟩:=h3 k o hk;exact ho.keys k o1 ho1⟩
theorem rX (a:List (List D))(x y:List D)(h:WkL x y):b8d (a++[x]) (a++[y]):=by
 refine ⟨by simp,fun i d d' h1 h2=>?_⟩;by_cases hi:i<a.length
 ·rw [d3S hi] at h1 h2;rw [h1] at h2;cases h2;simp
 ·rw [d3P (by omega)] at h1 h2;cases hk:i-a.length with
  |zero=>rw [hk] at h1 h2;simp at h1 h2;subst h1 h2;exact h
  |succ n=>rw [hk] at h1;simp at h1
def a0U (P:Program)(s:St)(rs:List ResultVar)(d:DV)(H1:List (Nat×aR))(own1:List (TypeId×List Loc)):Prop:=match wJ P s rs with
 |some r=>c1v (a5t s rs r) ⟨[r],H1,own1⟩∧a4z r d
 |none=>False
theorem Rel.d1L {r d:DV}{H1:List (Nat×aR)}{own1:List (TypeId×List Loc)}{v:Value}(hr':Rel P G base R μ ⟨[r],H1,own1⟩ { tmps:= #[v],defers:=[] } w)(hw:a4z r d):Rel P G base R μ ⟨[d],H1,own1⟩ { tmps:= #[v],defers:=[] } w:=
 ⟨hr'.defers,hr'.size,fun i u d0 hu hd=>by
  cases i with
  |zero=>simp at hd;subst hd;exact (hr'.tmps 0 u r hu rfl).wk hw
  |succ i=>simp at hd,hr'.eT,hr'.inj,hr'.cU,by
  obtain ⟨vs,h1,h2,h3⟩:=hr'.own;exact ⟨vs,h1,fun i c v hc hv=>⟨(h2 i c v hc hv).cU,(h2 i c v hc hv).own,(h2 i c v hc hv).keys⟩,h3⟩,hr'.qL,hr'.kY,hr'.base,hr'.pass⟩
theorem CH.b1H {f:FuncId}{fn:Func}{c:Code}{n:Nat}{s0:St}{d:DV}{H1:List (Nat×aR)}{own1:List (TypeId×List Loc)}(hf:P.funcs[f]? =some fn)(hb:fn.body=some c)(hn:fn.ntmps=n){rs:List ResultVar}(hrs:fn.results.toList=rs)(hT:(s0.own.all fun c=>c.2.all fun l=>match l with| .t i=>decide (i<s0.tmps.length)|_=>true)=true)(h:SW P G c ⟨s0.tmps++List.replicate (n-s0.tmps.length) (.cF []),s0.H,s0.own⟩ fun e s=>(e= .normal∨e= .ret)∧a0U P s rs d H1 own1):CH P G f s0 ⟨[d],H1,own1⟩:=by
 subst hrs;intro base R μ args w hr;refine calls_of_wp hf hb ?_
 have hsz:args.size=s0.tmps.length:=hr.size;have hrel:Rel P G base R μ ⟨s0.tmps++List.replicate (n-s0.tmps.length) (.cF []),s0.H,s0.own⟩ { tmps:=args++Array.replicate (fn.ntmps-args.size) undef,defers:=[] } w:=by
  refine ⟨rfl,by simp [hsz,hn],fun i v d hiv hid=>?_,hr.eT,hr.inj,hr.cU,?_,hr.qL,hr.kY,hr.base,hr.pass⟩
  ·simp only at hid;by_cases hi:i<s0.tmps.length
   ·rw [d3S hi] at hid;rw [Array.getElem?_append_left (by omega)] at hiv;exact hr.tmps i v d hiv hid
   ·rw [d3P (by omega),List.getElem?_replicate] at hid;split at hid<;>simp at hid;subst hid;rw [Array.getElem?_append_right (by omega),Array.getElem?_replicate] at hiv;split at hiv<;>simp at hiv;subst hiv;exact .cF #[] [] rfl (by simp)
  ·obtain ⟨vs,hl,h1,hap⟩:=hr.own;refine ⟨vs,hl,fun i c v hc hv=>?_,hap⟩;have ho:=h1 i c v hc hv;refine ⟨fun l hl u hu=>?_,ho.own,ho.keys⟩;cases l with
   |t j=>have hj:=d3K.1 (d3K.1 hT c (d3M hc)) _ hl;simp only [decide_eq_true_eq] at hj;simp only [bS] at hu;rw [Array.getElem?_append_left (by omega)] at hu;exact ho.cU _ hl u hu
   |c k off=>exact ho.cU _ hl u hu
 refine wp_mono (h base R μ _ w hrel) fun e a' w' ⟨s,R',μ',⟨he,hend⟩,hr',hs⟩=>?_
 unfold a0U at hend;split at hend
 ·rename_i r hres;obtain ⟨v,hv1,hv2⟩:=uZ hr' hres;have hpost:a'.defers=[]∧∃v,(results fn a'.tmps).run P w'= .ok v w'∧∃v' R' μ',Ending.returned v= .returned v'∧Rel P G base R' μ' ⟨[d],H1,own1⟩ { tmps:= #[v'],defers:=[] } w'∧Step base R w R' w':=
   ⟨hr'.defers,v,hv1,v,R',μ',rfl,((hr'.ret hv1 hv2).c7Y hend.1).d1L hend.2,hs⟩
  rcases he with rfl|rfl
  ·exact hpost
  ·exact hpost
 ·exact hend.elim
theorem CX.b1H {f:FuncId}{fn:Func}{c:Code}{n:Nat}{s0:St}{x:Ends}(hf:P.funcs[f]? =some fn)(hb:fn.body=some c)(hn:fn.ntmps=n){rs:List ResultVar}(hrs:fn.results.toList=rs)(hT:(s0.own.all fun c=>c.2.all fun l=>match l with| .t i=>decide (i<s0.tmps.length)|_=>true)=true)(h:∀Q:Exit→St→Prop,(∀d H1 own1 e s,x= .inl (d,H1,own1)→(e= .normal∨e= .ret)→a0U P s rs d H1 own1→Q e s)→(∀v s,x= .inr v→Q (.panic (tX v)) s)→SW P G c ⟨s0.tmps++List.replicate (n-s0.tmps.length) (.cF []),s0.H,s0.own⟩ Q):CX P G f s0 x:=by
 match x,h with
 | .inl (d,H1,own1),h=>exact CH.b1H hf hb hn hrs hT (h _ (fun d' H1' own1' e s he=>by cases he;exact fun h1 h2=>⟨h1,h2⟩) (fun v s he=>by cases he))
 | .inr v,h=>exact CPn.a2g hf hb hn hT (h _ (fun d' H1' own1' e s he=>by cases he) (fun v' s he=>by cases he;rfl))
theorem b1I {TT:St→Prop}{Q:Exit→St→Prop}{s:St}:a7F TT Q .normal s=TT s:=rfl
theorem b4g {TT:St→Prop}{Q:Exit→St→Prop}{s:St}{c:List PanicEntry}:a7F TT Q (.panic c) s=Q (.panic c) s:=rfl
def a0f (a b d:Nat):Ord:=
 .op a (.op b (.op d (.call [] .none) (.call [d] .none)) (.op d (.op b (.call [] .none) (.call [b] .none)) (.call [b,d] .none)))
  (.op d (.op a (.op b (.call [] .none) (.call [b] .none)) (.call [a,b] .none)) (.call [a,b,d] .none))
attribute [simp] b1F b4d a0U b8G c1t c6b c1s b1I b4g a0f
end
end Go.VM
end
section
section
namespace Go.Proofs.YtjpodcmhcenjjaaGreatDoor
open Go Go.VM
variable {G:GT}
def smI (c:Int):Bool:=decide (97≤c)&&decide (c≤122)
def caI (c:Int):Bool:=decide (65≤c)&&decide (c≤90)
def dgI (c:Int):Bool:=decide (48≤c)&&decide (c≤57)
def inI (c:Int):Bool:=smI c||caI c||dgI c||decide (c=95)
theorem a2q:VM.Enters Tryz.prog 159:=VM.Enters.mk Tryz.func159 rfl
theorem zZ:VM.Enters Tryz.prog 162:=VM.Enters.mk Tryz.func162 rfl
theorem xE:VM.Enters Tryz.prog 163:=VM.Enters.mk Tryz.func163 rfl
theorem a9d:VM.Enters Tryz.prog 161:=VM.Enters.mk Tryz.func161 rfl
theorem a3Z (c:Int):CS Tryz.prog G 159 [.int .i32 c] (.d (.bool (smI c))) none:=by
 refine CS.bB Tryz.func159 rfl Tryz.ntmps159 rfl ?_
 by_cases h:97≤c<;>simp [h,smI]
theorem a0V (c:Int):CS Tryz.prog G 162 [.int .i32 c] (.d (.bool (caI c))) none:=by
 refine CS.bB Tryz.func162 rfl Tryz.ntmps162 rfl ?_
 by_cases h:65≤c<;>simp [h,caI]
theorem zE (c:Int):CS Tryz.prog G 163 [.int .i32 c] (.d (.bool (dgI c))) none:=by
 refine CS.bB Tryz.func163 rfl Tryz.ntmps163 rfl ?_
 by_cases h:48≤c<;>simp [h,dgI]
theorem b1J (c:Int):CS Tryz.prog G 161 [.int .i32 c] (.d (.bool (inI c))) none:=by
 refine CS.bB Tryz.func161 rfl Tryz.ntmps161 rfl ?_
 simp;refine aG.mk a2q (a3Z c) ?_
 by_cases h1:smI c=true
 ·simp [h1,inI]
 ·simp [h1];refine aG.mk zZ (a0V c) ?_
  by_cases h2:caI c=true
  ·simp [h2,inI]
  ·simp [h2];refine aG.mk xE (zE c) ?_
   by_cases h3:dgI c=true
   ·simp [h3,inI]
   ·simp [h1,h2,h3,inI]
end Go.Proofs.YtjpodcmhcenjjaaGreatDoor
end
section
namespace Go.Proofs.YtjpodcmhcenjjaaGreatDoor
open Go Go.VM Go.RowKit
variable {G:GT}
theorem b1K:VM.Enters Tryz.prog 188:=VM.Enters.mk Tryz.func188 rfl
theorem a9e:VM.Enters Tryz.prog 165:=VM.Enters.mk Tryz.func165 rfl
theorem c7Z {args:Array Value}(h:args.size=2):args= #[args.getD 0 undef,args.getD 1 undef]:=by
 obtain ⟨l⟩:=args
 match l,h with
 |[a,b],_=>rfl
theorem b4h (s:List UInt8)(c:UInt8)(hc:c.toNat<128):CS Tryz.prog G 188 [.str s,.str [c]] (.d (.str (Lib.trimLeftB s c))) none:=
 CS.b7h fun w R args hg hR hs hv=>by rw [c7Z hs,(hv 0 _ rfl).jT,(hv 1 _ rfl).jT];exact (Tryz.strings_TrimLeft_one ⟨s.toArray⟩ c hc w).mono fun e w' ⟨he,hw⟩=>⟨_,he,.str _,hw▸Below.refl _ _⟩
theorem b1L (s p:List UInt8):CS Tryz.prog G 165 [.str s,.str p] (.d (.bool (p.isPrefixOf s))) none:=
 CS.b7h fun w R args hg hR hs hv=>by rw [c7Z hs,(hv 0 _ rfl).jT,(hv 1 _ rfl).jT];exact (Tryz.strings_HasPrefix ⟨s.toArray⟩ ⟨p.toArray⟩ w).mono fun e w' ⟨he,hw⟩=>⟨_,he,.bool _,hw▸Below.refl _ _⟩
def jS (s:List UInt8):Int×Bool:=if gV s≤1000000000000 then ((gV s:Int),true) else (0,false)
theorem c6d (l:List UInt8):∀a,a*10 ^ l.length≤b5L a l:=by
 induction l with
 |nil=>intro a;simp [b5L]
 |cons c r ih=>
  intro a;have h:=ih (10*a+(c.toNat-48));have e:b5L a (c::r)=b5L (10*a+(c.toNat-48)) r:=rfl;rw [e];refine Nat.le_trans ?_ h
  rw [List.length_cons,Nat.pow_succ];have:a*(10 ^ r.length*10)=(10*a)*10 ^ r.length:=by rw [Nat.mul_comm (10 ^ r.length) 10, ← Nat.mul_assoc,Nat.mul_comm a 10]
  rw [this];exact Nat.mul_le_mul_right _ (by omega)
theorem b0s (s:List UInt8):gV (Lib.trimLeftB s 48)=gV s:=by
 unfold Lib.trimLeftB
 induction s with
 |nil=>rfl
 |cons c r ih=>
  by_cases h:c=48
  ·subst h;have e:gV (48::r)=gV r:=rfl;rw [e, ← ih];simp
  ·have:(c==48)=false:=by simpa using h
   rw [List.dropWhile_cons,this]
   rfl
theorem b8H {s:List UInt8}(h:Lib.trimLeftB s 48≠[]):∃c r,Lib.trimLeftB s 48=c::r∧c≠48:=by
 unfold Lib.trimLeftB at h ⊢
 induction s with
 |nil=>exact absurd rfl h
 |cons c r ih=>
  by_cases hc:c=48
  ·subst hc;simp only [List.dropWhile_cons,beq_self_eq_true,if_true] at h ⊢;exact ih h
  ·have:(c==48)=false:=by simpa using hc
   rw [List.dropWhile_cons,this];exact ⟨c,r,rfl,hc⟩
theorem c1w {s:List UInt8}:∀c∈Lib.trimLeftB s 48,c∈s:=fun c hc=>(List.dropWhile_sublist _).subset hc
theorem b1M {s:List UInt8}(hs:∀c∈s,rF c=true)(hne:Lib.trimLeftB s 48≠[]):mE (Lib.trimLeftB s 48)=jS s:=by
 obtain ⟨c,r,he,hc⟩:=b8H hne;have hall:∀x∈c::r,rF x=true:=fun x hx=>hs x (c1w x (he▸hx))
 have hv:gV s=gV (c::r):=by rw [← he,b0s]
 rw [he];have hcd:=mJ.1 (hall c (.head _));have hn:a4F (c::r)=false:=by
  have:c≠45:=by rintro rfl;revert hcd;decide
  simp [a4F,this]
 have hb:kT (c::r)=c::r:=by simp [kT,hn]
 have hlow:10 ^ r.length≤gV (c::r):=by
  have h1:1≤c.toNat-48:=by
   have:c.toNat≠48:=fun e=>hc (UInt8.toNat.inj (by simpa using e))
   omega
  have e:gV (c::r)=b5L (10*0+(c.toNat-48)) r:=rfl;rw [e];refine Nat.le_trans ?_ (c6d r _)
  calc 10 ^ r.length=1*10 ^ r.length:=by rw [Nat.one_mul]
   _≤_:=Nat.mul_le_mul_right _ (by omega)
 have hform:mK (c::r)=decide (r.length≤12):=by simp only [mK,hb,hn];by_cases h:r.length≤12<;>simp [h,hc]<;>omega
 have hd:(c::r).all rF=true:=d3K.2 hall;unfold mE jS;rw [hform,hb,hd,hn,hv];by_cases h:r.length≤12
 ·have hup:=yS _ _ rfl hall;simp [h,sgn,chk];have hi:inB ((gV (c::r):Nat):Int)=decide (gV (c::r)≤1000000000000):=by unfold inB;by_cases h2:gV (c::r)≤1000000000000<;>simp [h2]<;>omega
  rw [hi];by_cases h2:gV (c::r)≤1000000000000<;>simp [h2]
 ·have:10 ^ 13≤gV (c::r):=Nat.le_trans (Nat.pow_le_pow_right (by omega) (by omega)) hlow;have h2: ¬gV (c::r)≤1000000000000:=by omega
  simp [h,h2]
theorem a7I:VM.Enters Tryz.prog 164:=VM.Enters.mk Tryz.func164 rfl
theorem a9f (s:List UInt8)(hs:∀c∈s,rF c=true):CS Tryz.prog G 164 [.str s] (.cF [.int .i64 (jS s).1,.bool (jS s).2]) none:=by
 refine CS.bB Tryz.func164 rfl Tryz.ntmps164 rfl ?_
 simp;refine aG.mk b1K (b4h s 48 (by decide)) ?_
 by_cases h:Lib.trimLeftB s 48=[]
 ·have hv:gV s=0:=by rw [← b0s,h];rfl
  simp [h,jS,hv]
 ·have he:(Lib.trimLeftB s 48).isEmpty=false:=by simpa using h
  simp [he];refine aG.mk b3G (b5N (Lib.trimLeftB s 48)) ?_
  simp [b1M hs h]
end Go.Proofs.YtjpodcmhcenjjaaGreatDoor
end
section
namespace Go.Proofs.YtjpodcmhcenjjaaGreatDoor
open Go Go.VM
variable {G:GT}
theorem a0W {p:UInt8→Bool}{s:List UInt8}{i:Nat}(h:i<s.length)(ht:∀b∈s.take i,p b=true)(hn:p s[i]=false):(s.takeWhile p).length=i:=by
 have e:s=s.take i++s[i]::s.drop (i+1):=by rw [← d3U h,List.take_append_drop]
 generalize hx:s[i]=x at e hn;rw [e,List.takeWhile_append_of_pos ht,List.takeWhile_cons,hn];simp;omega
theorem sK {p:UInt8→Bool}{s:List UInt8}(ht:∀b∈s,p b=true):s.takeWhile p=s:=by have:=List.takeWhile_append_of_pos (l₂:=[]) ht;simpa using this
theorem a5J (F:FuncId)(p:Int→Bool)(pb:UInt8→Bool)(hF:VM.Enters Tryz.prog F)(hcs:∀c,CS Tryz.prog G F [.int .i32 c] (.d (.bool (p c))) none)(qM:∀b:UInt8,p b.toNat=pb b)(hhi:∀c,128≤c→p c=false)(s:List UInt8):
  CH Tryz.prog G 160 ⟨[.d (.str s),.fn F],[],[]⟩ ⟨[.d (.int .i64 (s.takeWhile pb).length)],[],[]⟩:=by
 refine CH.bB Tryz.func160 rfl Tryz.ntmps160 rfl (by simp) ?_
 simp;refine SW.jV (ι:={ i:Nat // i≤s.length∧∀b∈s.take i,pb b=true }) (fun _=>[]) (fun i=>[(8,.iter s i.1)]) (fun _=>[]) (fun i=>s.length-i.1) ⟨0,by simp⟩ (by simp) ?_
 rintro ⟨i,hi,ht⟩
 try simp only at hi ht
 by_cases hlt:i<s.length
 ·simp [hlt];refine aG.mk hF (hcs _) ?_
  by_cases hb:s[i].toNat<128
  ·have hd:=c0Y hlt hb;have hpl:=qM s[i];by_cases hpb:pb s[i]=true
   ·rw [hpb] at hpl;simp [hd,hpl];refine bN.mk ⟨i+1,hlt,fun b hm=>?_⟩ (by simp) (by simp;omega);rw [d3W hlt] at hm;rcases List.mem_append.1 hm with hm|hm
    ·exact ht b hm
    ·simp at hm;rw [hm];exact hpb
   ·have hpf:pb s[i]=false:=by simpa using hpb
    rw [hpf] at hpl;simp [hd,hpl,a0W hlt ht hpf]
  ·obtain ⟨h1,_⟩:=c0Z hlt (by omega);have hpf:pb s[i]=false:=by rw [← qM];exact hhi _ (by omega)
   have hpl:=hhi ((Utf8.decode ⟨s.toArray⟩ i).1:Int) (by omega);simp [hpl,a0W hlt ht hpf]
 ·have:i=s.length:=by omega
  subst this;rw [List.take_length] at ht;simp [sK ht]
def gN:List UInt8→Nat→Bool→List UInt8×Nat
 |[],n,_=>([],n)
 |c::r,n,cm=>if c=10 then gN r (n+1) false else if cm=true∨c=32∨c=9 then gN r n cm else if c=35 then gN r n true else (c::r,n)
theorem a4a:∀(s:List UInt8) (n:Nat) (cm:Bool),(gN s n cm).2≤n+s.length∧(gN s n cm).1.length≤s.length
 |[],n,cm=>by simp [gN]
 |c::r,n,cm=>by
  unfold gN;split
  ·have:=a4a r (n+1) false;simp only [List.length_cons];omega
  ·split
   ·have:=a4a r n cm;simp only [List.length_cons];omega
   ·split
    ·have:=a4a r n true;simp only [List.length_cons];omega
    ·simp only [List.length_cons];omega
theorem b4i (s:List UInt8)(n:Nat):∀(k i:Nat),(∀j,i≤j→j<i+k→∃h:j<s.length,128≤s[j].toNat)→gN (s.drop i) n true=gN (s.drop (i+k)) n true
 |0,i,_=>rfl
 |k+1,i,h=>by
  obtain ⟨hi,hb⟩:=h i (by omega) (by omega);have ih:=b4i s n k (i+1) fun j h1 h2=>h j (by omega) (by omega)
  have h10:s[i]≠10:=fun e=>by rw [e] at hb;simp at hb
  rw [d3U hi,gN,if_neg h10,if_pos (.inl rfl),ih];congr 2;omega
theorem a4I (c:UInt8)(k:Nat)(hk:k<256):((c.toNat:Int)=(k:Int))↔c=UInt8.ofNat k:=by
 constructor
 ·intro h;apply UInt8.toNat.inj;simp;omega
 ·rintro rfl;simp;omega
theorem b1N:VM.Enters Tryz.prog 112:=VM.Enters.mk Tryz.func112 rfl
theorem b4j (s:List UInt8)(hl:s.length≤900000000):CS Tryz.prog G 112 [.str s] (.cF [.str (gN s 0 false).1,.int .i64 (gN s 0 false).2]) none:=by
 obtain ⟨res,hres0⟩:∃x,gN s 0 false=x:=⟨_,rfl⟩;rw [hres0];refine CS.bB Tryz.func112 rfl Tryz.ntmps112 rfl ?_
 simp;refine SW.jV (ι:={ x:Nat×Nat×Bool // x.1≤s.length∧x.2.1≤x.1∧gN (s.drop x.1) x.2.1 x.2.2=res }) (fun x=>[(4,.d (.int .i64 x.1.2.1)),(5,.d (.bool x.1.2.2))]) (fun x=>[(9,.iter s x.1.1)]) (fun _=>[]) (fun x=>s.length-x.1.1) ⟨(0,0,false),by simp [hres0]⟩ (by simp) ?_
 rintro ⟨⟨i,n,cm⟩,hi,hn,hR⟩
 try simp only at hi hn hR
 by_cases hlt:i<s.length
 ·have hw:=bO (show n<9223372036854775807 by omega);have hle:=Nat.le_of_lt hlt;have hdrop:s.drop i=s[i]::s.drop (i+1):=d3U hlt;by_cases hb:s[i].toNat<128
  ·have hd:=c0Y hlt hb;have c10:=a4I s[i] 10 (by omega);have c32:=a4I s[i] 32 (by omega);have c9:=a4I s[i] 9 (by omega);have c35:=a4I s[i] 35 (by omega);simp at c10 c32 c9 c35;by_cases h10:s[i]=10
   ·have e:=c10.2 h10;simp [hlt,hd,e];refine bN.mk ⟨(i+1,n+1,false),hlt,by simp;omega,?_⟩ (by simp [hw]) (by simp;omega);rw [← hR,hdrop,gN,if_pos h10]
   ·have e: ¬s[i].toNat=10:=fun h=>h10 (c10.1 h)
    simp [hlt,hd,e];cases cm with
    |true=>
     try simp
     refine bN.mk ⟨(i+1,n,true),hlt,by simp;omega,?_⟩ (by simp) (by simp;omega);rw [← hR,hdrop,gN,if_neg h10,if_pos (.inl rfl)]
    |false=>
     try simp
     by_cases h32:s[i]=32
     ·have e2:=c32.2 h32;simp [e2];refine bN.mk ⟨(i+1,n,false),hlt,by simp;omega,?_⟩ (by simp) (by simp;omega);rw [← hR,hdrop,gN,if_neg h10,if_pos (.inr (.inl h32))]
     ·have e2: ¬s[i].toNat=32:=fun h=>h32 (c32.1 h)
      simp [e2];by_cases h9:s[i]=9
      ·have e3:=c9.2 h9;simp [e3];refine bN.mk ⟨(i+1,n,false),hlt,by simp;omega,?_⟩ (by simp) (by simp;omega);rw [← hR,hdrop,gN,if_neg h10,if_pos (.inr (.inr h9))]
      ·have e3: ¬s[i].toNat=9:=fun h=>h9 (c9.1 h)
       simp [e3];by_cases h35:s[i]=35
       ·have e4:=c35.2 h35;simp [e4];refine bN.mk ⟨(i+1,n,true),hlt,by simp;omega,?_⟩ (by simp) (by simp;omega);rw [← hR,hdrop,gN,if_neg h10,if_neg (by simp [h32,h9]),if_pos h35]
       ·have e4: ¬s[i].toNat=35:=fun h=>h35 (c35.1 h)
        have hres:res=(s.drop i,n):=by rw [← hR,hdrop,gN,if_neg h10,if_neg (by simp [h32,h9]),if_neg h35]
        simp [e4,hres,hle]
  ·obtain ⟨h1,h2,h3,h4⟩:=c0Z hlt (by omega);obtain ⟨rw,hrw⟩:∃rw,Utf8.decode ⟨s.toArray⟩ i=rw:=⟨_,rfl⟩;rw [hrw] at h1 h2 h3 h4;have e10: ¬((rw.1:Int)=10):=by omega
   have e32: ¬((rw.1:Int)=32):=by omega
   have e9: ¬((rw.1:Int)=9):=by omega
   have e35: ¬((rw.1:Int)=35):=by omega
   have hbb:∀k,k<128→s[i]≠UInt8.ofNat k:=fun k hk e=>by rw [e] at hb;simp at hb;omega
   have b10:s[i]≠10:=hbb 10 (by omega);have b32:s[i]≠32:=hbb 32 (by omega);have b9:s[i]≠9:=hbb 9 (by omega);have b35:s[i]≠35:=hbb 35 (by omega);simp [hlt,hrw,e10];cases cm with
   |true=>simp;refine bN.mk ⟨(i+rw.2,n,true),h3,by simp;omega,?_⟩ (by simp) (by simp;omega);rw [← hR,b4i s n rw.2 i h4]
   |false=>
    have hres:res=(s.drop i,n):=by rw [← hR,hdrop,gN,if_neg b10,if_neg (by simp [b32,b9]),if_neg b35]
    simp [e32,e9,e35,hres,hle]
 ·have:i=s.length:=by omega
  subst this;rw [List.drop_length] at hR;have hres:res=([],n):=by rw [← hR,gN]
  simp [hres]
end Go.Proofs.YtjpodcmhcenjjaaGreatDoor
end
section
namespace Go.Proofs.YtjpodcmhcenjjaaGreatDoor
open Go Go.VM
variable {G:GT}
def sL:List D:=[.sl (eA.map fun t=>[D.str t])]
theorem c8a (b:UInt8):smI b.toNat=smU b:=by rw [Bool.eq_iff_iff];simp only [smI,smU,d3H,decide_eq_true_eq];omega
theorem c8b (b:UInt8):caI b.toNat=caU b:=by rw [Bool.eq_iff_iff];simp only [caI,caU,d3H,decide_eq_true_eq];omega
theorem c1x (b:UInt8):dgI b.toNat=dgU b:=by rw [Bool.eq_iff_iff];simp only [dgI,dgU,d3H,decide_eq_true_eq];omega
theorem d1M (b:UInt8):inI b.toNat=inU b:=by unfold inI inU;rw [c8a,c8b,c1x];congr 1;simp only [decide_eq_decide];omega
theorem d1N {c:Int}(h:128≤c):inI c=false:=by simp only [inI,smI,caI,dgI,Bool.or_eq_false_iff,Bool.and_eq_false_iff,decide_eq_false_iff_not];omega
theorem d1O {c:Int}(h:128≤c):dgI c=false:=by simp only [dgI,Bool.and_eq_false_iff,decide_eq_false_iff_not];omega
theorem b7s (p:UInt8→Bool)(s:List UInt8):s.take (s.takeWhile p).length=s.takeWhile p:=by have h:=List.takeWhile_prefix (l:=s) p;exact (List.prefix_iff_eq_take.1 h).symm
theorem c8c (p:UInt8→Bool)(s:List UInt8):(s.takeWhile p).length≤s.length:=(List.takeWhile_prefix (l:=s) p).length_le
theorem w32 (c:UInt8):IntKind.i32.wrap (c.toNat:Int)=c.toNat:=by have:=c.toNat_lt;unfold IntKind.wrap;simp [IntKind.bits,IntKind.signed];omega
theorem c6e (c:UInt8):dgU c=rF c:=by rw [Bool.eq_iff_iff];simp only [dgU,rF,d3H,decide_eq_true_eq]
theorem c1y {p:UInt8→Bool}:∀ {s:List UInt8} {b:UInt8},b∈s.takeWhile p→p b=true
 |[],b,h=>by simp at h
 |c::r,b,h=>by
  rw [List.takeWhile_cons] at h;split at h
  ·rename_i hc;rcases List.mem_cons.1 h with rfl|h
   ·exact hc
   ·exact c1y h
  ·cases h
def a0X (s:List UInt8):List D:=[.int .i64 (firstT jS s).1,.str (firstT jS s).2.1,.int .i64 (firstT jS s).2.2.1,.int .i64 0]
theorem b7t (s:List UInt8):CH Tryz.prog G 160 ⟨[.d (.str s),.fn 161],[],[]⟩ ⟨[.d (.int .i64 (s.takeWhile inU).length)],[],[]⟩:=a5J 161 inI inU a9d b1J d1M (fun _=>d1N) s
theorem c6f (s:List UInt8):CH Tryz.prog G 160 ⟨[.d (.str s),.fn 163],[],[]⟩ ⟨[.d (.int .i64 (s.takeWhile dgU).length)],[],[]⟩:=a5J 163 dgI dgU xE zE c1x (fun _=>d1O) s
theorem c6g {s:List UInt8}{i:Nat}(h:i<eA.length)(hn:∀t∈eA.take i,t.isPrefixOf s=false)(hp:eA[i].isPrefixOf s=true):qG s=eA[i]:=by
 have e:eA=eA.take i++eA[i]::eA.drop (i+1):=by rw [← d3U h,List.take_append_drop]
 generalize eA[i]=x at e hp ⊢;unfold qG;rw [e,List.find?_append];have h0:(eA.take i).find? (fun t=>t.isPrefixOf s)=none:=List.find?_eq_none.2 fun t ht=>by rw [hn t ht];simp
 rw [h0];simp [List.find?_cons,hp]
theorem b8I {s:List UInt8}(hn:∀t∈eA,t.isPrefixOf s=false):qG s=[]:=by
 unfold qG;rw [List.find?_eq_none.2 fun t ht=>by rw [hn t ht];simp]
 rfl
theorem c6h:∀t∈eA,t≠[]:=by decide
theorem a7J:VM.Enters Tryz.prog 160:=VM.Enters.mk Tryz.func160 rfl
theorem a9g:VM.Enters Tryz.prog 113:=VM.Enters.mk Tryz.func113 rfl
theorem b1O (hS:G 0=some sL)(c:UInt8)(r:List UInt8)(hl:(c::r).length≤900000000):CS Tryz.prog G 113 [.str (c::r)] (.cF [.agg (a0X (c::r)),.bool (firstT jS (c::r)).2.2.2]) none:=by
 obtain ⟨s,hs⟩:∃s,c::r=s:=⟨_,rfl⟩;have h0:0<s.length:=by rw [← hs];simp
 have hc0:s[0]=c:=by subst hs;rfl
 have hf:firstT jS s=if smU c then (1,s.takeWhile inU,0,true) else if caU c then (2,s.takeWhile inU,0,true)
  else if dgU c then (3,s.takeWhile dgU,(jS (s.takeWhile dgU)).1,(jS (s.takeWhile dgU)).2)
  else if qG s=[] then (0,[],0,false) else (4,qG s,0,true):=by subst hs;rfl
 rw [hs] at hl ⊢
 clear hs
 have hw:=w32 c;have l1:=c8c inU s;have l2:=c8c dgU s;have t1:=b7s inU s;have t2:=b7s dgU s;refine CS.bB Tryz.func113 rfl Tryz.ntmps113 rfl ?_
 simp [h0,hc0,hw];refine aG.mk a2q (a3Z (c.toNat:Int)) ?_
 rw [c8a];by_cases h1:smU c=true
 ·simp [h1];refine dY.ro a7J (b7t s) [] (by simp) (by simp) (by simp) (by simp) (by simp) ?_
  simp [l1,t1,a0X,hf,h1]
 simp [h1];refine aG.mk zZ (a0V (c.toNat:Int)) ?_
 rw [c8b];by_cases h2:caU c=true
 ·simp [h2];refine dY.ro a7J (b7t s) [] (by simp) (by simp) (by simp) (by simp) (by simp) ?_
  simp [l1,t1,a0X,hf,h1,h2]
 simp [h2];refine aG.mk xE (zE (c.toNat:Int)) ?_
 rw [c1x];by_cases h3:dgU c=true
 ·simp [h3];refine dY.ro a7J (c6f s) [] (by simp) (by simp) (by simp) (by simp) (by simp) ?_
  simp [l2,t2];refine aG.mk a7I (a9f (s.takeWhile dgU) (fun b hb=>by rw [← c6e];exact c1y hb)) ?_
  simp [a0X,hf,h1,h2,h3]
 simp [h3,hS,sL];have hlen:(eA.map fun t=>[D.str t]).length=eA.length:=by simp
 refine SW.jV (ι:={ i:Nat // i≤eA.length∧∀t∈eA.take i,t.isPrefixOf s=false }) (fun i=>[(47,.d (.int .i64 i.1))]) (fun _=>[(2,.cells [.d (.int .i64 0),.d (.str []),.d (.int .i64 0),.d (.int .i64 0)])]) (fun _=>[]) (fun i=>eA.length-i.1) ⟨0,by simp⟩ (by simp) ?_
 rintro ⟨i,hi,hn⟩
 try simp only at hi hn
 by_cases hlt:i<eA.length
 ·have hsl:eA.length=31:=rfl;have hw2:=bO (show i<9223372036854775807 by omega);have hg:(eA.map fun t=>[D.str t])[i]? =some [.str eA[i]]:=by simp [hlt]
  simp [hlt,hg];refine aG.mk a9e (b1L s eA[i]) ?_
  by_cases hp:eA[i].isPrefixOf s=true
  ·have hsg:=c6g hlt hn hp;have hne:=c6h _ (List.getElem_mem hlt);simp [hp,a0X,hf,h1,h2,h3,hsg,hne]
  ·have hp':eA[i].isPrefixOf s=false:=Bool.eq_false_iff.2 hp;simp [hp'];refine bN.mk ⟨i+1,hlt,fun t ht=>?_⟩ (by simp [hw2]) (by simp;omega);rw [d3W hlt] at ht;rcases List.mem_append.1 ht with ht|ht
   ·exact hn t ht
   ·simp at ht;rw [ht];exact hp'
 ·have:i=eA.length:=by omega
  subst this;rw [List.take_length] at hn;have hsg:=b8I hn;simp [a0X,hf,h1,h2,h3,hsg]
end Go.Proofs.YtjpodcmhcenjjaaGreatDoor
end
section
namespace Go.Proofs.YtjpodcmhcenjjaaGreatDoor
open Go Go.VM
variable {G:GT}
def cC (t:Tok):List D:=[.int .i64 t.kind,.str t.text,.int .i64 t.n,.int .i64 t.line]
def a9h (l:List Tok):List (List D):=l.map cC
@[simp] theorem d1P (l:List Tok):(a9h l).length=l.length:=by simp [a9h]
@[simp] theorem d1Q:a9h []=[]:=rfl
@[simp] theorem d1R (l:List Tok):((a9h l).all fun c=>c.length==4)=true:=by simp [a9h,cC]
theorem b0t (l:List Tok)(t:Tok):a9h (l++[t])=a9h l++[[.int .i64 t.kind,.str t.text,.int .i64 t.n,.int .i64 t.line]]:=by simp [a9h,cC]
theorem a1H:∀(s:List UInt8) (n:Nat) (cm:Bool) (ln:Int),gQ jS s 0 (ln+n) cm=gQ jS (gN s n cm).1 0 (ln+(gN s n cm).2) false
 |[],n,cm,ln=>by simp [gN,gQ]
 |c::r,n,cm,ln=>by
  unfold gN;split
  ·rename_i h;rw [← a1H r (n+1) false ln,gQ,if_pos h];congr 1;omega
  ·rename_i h;split
   ·rename_i h2;rw [← a1H r n cm ln]
    conv=>lhs;rw [gQ]
    rw [if_neg h,if_pos h2]
   ·rename_i h2;split
    ·rename_i h3;rw [← a1H r n true ln]
     conv=>lhs;rw [gQ]
     rw [if_neg h,if_neg h2,if_pos h3]
    ·simp only [not_or,Bool.not_eq_true] at h2;rw [h2.1]
theorem a1I:∀(s:List UInt8) (n:Nat) (cm:Bool),(gN s n cm).2+(gN s n cm).1.length≤n+s.length
 |[],n,cm=>by simp [gN]
 |c::r,n,cm=>by
  unfold gN;split
  ·have:=a1I r (n+1) false;simp only [List.length_cons];omega
  ·split
   ·have:=a1I r n cm;simp only [List.length_cons];omega
   ·split
    ·have:=a1I r n true;simp only [List.length_cons];omega
    ·simp only [List.length_cons];omega
theorem a1J:∀(s:List UInt8) (n:Nat) (cm:Bool) (c:UInt8) (r:List UInt8),(gN s n cm).1=c::r→c≠10∧c≠32∧c≠9∧c≠35
 |[],n,cm,c,r,h=>by simp [gN] at h
 |a::s,n,cm,c,r,h=>by
  unfold gN at h;split at h
  ·exact a1J s _ _ c r h
  ·rename_i h1;split at h
   ·exact a1J s _ _ c r h
   ·rename_i h2;split at h
    ·exact a1J s _ _ c r h
    ·rename_i h3;simp only [not_or] at h2;cases h;exact ⟨h1,h2.2.1,h2.2.2,h3⟩
def d0h (out:List Tok):Except Int (List Tok)→Except Int (List Tok)
 | .ok l=> .ok (out++l)
 | .error e=> .error e
def d0i:Except Int (List Tok)→D
 | .ok l=> .sl (a9h l)
 | .error _=> .aI
def d0j:Except Int (List Tok)→Int
 | .ok _=>0
 | .error e=>e
def d0k:Except Int (List Tok)→Int
 | .ok _=>0
 | .error _=>14
theorem qX:VM.Enters Tryz.prog 64:=VM.Enters.mk Tryz.func64 rfl
theorem a9i (hS:G 0=some sL)(s:List UInt8)(hl:s.length≤900000000):CS Tryz.prog G 64 [.str s] (.cF (if 40000<s.length then [.aI,.int .i64 0,.int .i64 7] else
  [d0i (gQ jS s 0 1 false),.int .i64 (d0j (gQ jS s 0 1 false)),.int .i64 (d0k (gQ jS s 0 1 false))])) none:=by
 obtain ⟨res,hres⟩:∃x,gQ jS s 0 1 false=x:=⟨_,rfl⟩;rw [hres];refine CS.bB Tryz.func64 rfl Tryz.ntmps64 rfl ?_
 by_cases hlong:40000<s.length
 ·have h2:(40000:Int)<s.length:=by omega
  simp [hlong,h2]
 have h2: ¬(40000:Int)<s.length:=by omega
 simp [hlong,h2];refine SW.jV (ι:={ x:List UInt8×List Tok×Int // x.1.length≤s.length∧1≤x.2.2∧x.2.2+x.1.length≤s.length+1∧x.2.1.length+x.1.length≤s.length∧d0h x.2.1 (gQ jS x.1 0 x.2.2 false)=res }) (fun x=>[(0,.d (.str x.1.1)),(5,.d (.sl (a9h x.1.2.1))),(6,.d (.int .i64 x.1.2.2))]) (fun _=>[]) (fun _=>[(96,[.t 5])]) (fun x=>x.1.1.length) ⟨(s,[],1),by refine ⟨d3X _,by simp,by simp;omega,by simp,?_⟩;simp only;rw [hres];cases res<;>rfl⟩ (by simp) ?_
 rintro ⟨⟨t,out,ln⟩,ht,hln,hb,ho,hR⟩
 try simp only at ht hln hb ho hR
 obtain ⟨q1,q2⟩:=a4a t 0 false;have q3:=a1I t 0 false;have hsk:=a1H t 0 false ln;have hhd:=a1J t 0 false;simp;refine aG.mk b1N (b4j t (by omega)) ?_
 obtain ⟨⟨rest,n⟩,hrn⟩:∃x,gN t 0 false=x:=⟨_,rfl⟩;rw [hrn] at hsk hhd q1 q2 q3;simp only [Int.natCast_zero,Int.add_zero] at hsk;simp only at hsk hhd q1 q2 q3;rw [hsk] at hR;have hw:IntKind.i64.wrap (ln+n)=ln+n:=wrap64 (by omega);have hsz:(out.length+1)*41≤140737488355328:=by omega
 simp [hrn,hw];cases rest with
 |nil=>
  have e:res= .ok (out++[⟨0,[],0,ln+n⟩]):=by rw [← hR];rfl
  simp [e,d0i,d0j,d0k,b0t,hsz]
 |cons c r=>
  obtain ⟨g1,g2,g3,g4⟩:=hhd c r rfl;rw [b5P (ln+n) g1 g2 g3 g4] at hR;simp;refine aG.mk a9g (b1O hS c r (by omega)) ?_
  obtain ⟨ff,hff⟩:∃ff,firstT jS (c::r)=ff:=⟨_,rfl⟩;have hok:= @a3H jS (c::r);rw [hff] at hR hok;obtain ⟨k,tx,m,ok⟩:=ff;simp only at hR hok;cases ok with
  |false=>
   have e:res= .error (ln+n):=by rw [← hR];rfl
   simp [hff,a0X,e,d0i,d0j,d0k]
  |true=>
   obtain ⟨p1,p2,_⟩:=hok rfl;have hle:=p2.length_le;have hpos:0<tx.length:=List.length_pos_iff.2 p1;simp only [List.length_cons] at hle q2 q3;simp [hff,a0X,hsz,hle];have hR2:d0h (out++[⟨k,tx,m,ln+n⟩]) (gQ jS ((c::r).drop tx.length) 0 (ln+n) false)=res:=by
    rw [← hR,if_pos rfl];generalize gQ jS ((c::r).drop tx.length) 0 (ln+n) false=y;cases y with
    |ok l=>simp [d0h]
    |error e=>rfl
   have hdl:((c::r).drop tx.length).length=r.length+1-tx.length:=by simp
   refine bN.mk ⟨((c::r).drop tx.length,out++[⟨k,tx,m,ln+n⟩],ln+n),?_⟩ (by simp [b0t]) (by simp only [hdl];omega);refine ⟨by simp only [hdl];omega,by simp only;omega,by simp only [hdl];omega,by simp only [hdl,List.length_append,List.length_cons,List.length_nil];omega,hR2⟩
end Go.Proofs.YtjpodcmhcenjjaaGreatDoor
end
end
namespace Go.Proofs.YtjpodcmhcenjjaaGreatDoor
section
open Go Go.VM
variable {G:GT}
abbrev rdO (l:List Tok)(i:Nat):aR:= .cells [.d (.sl (l.map cC)),.d (.int .i64 i)]
abbrev rH (l:List Tok)(i:Nat):List (Nat×aR):=[(100000,rdO l i)]
abbrev jW (n e:Int):Value:= .iface 127 (.agg #[.int .i64 n,.int .i64 e])
def eK {α:Type}:kJ α→Bool
 | .ok _ _=>true
 | .bad _ _=>false
def rdE {α:Type}(l:List Tok)(enc:α→DV)(Y:α→List (Nat×aR))(own:List (TypeId×List VM.Loc)):kJ α→VM.Ends
 | .ok a j=> .inl (enc a,rH l j++Y a,own)
 | .bad n e=> .inr (jW n e)
theorem b4k {α:Type}{l:List Tok}{enc:α→DV}{Y:α→List (Nat×aR)}{own:List (TypeId×List VM.Loc)}(r:kJ α):(rdE l enc Y own r).isLeft=eK r:=by cases r<;>rfl
def jG (G:GT){α:Type}(f:FuncId)(av:List DV)(X:List (Nat×aR))(own:List (TypeId×List VM.Loc))(l:List Tok)(i:Nat)(r:kJ α)(enc:α→DV)(Y:α→List (Nat×aR)):Prop:=CX Tryz.prog G f ⟨av,rH l i++X,own⟩ (rdE l enc Y own r)
abbrev mX (G:GT){α:Type}(f:FuncId)(ds:List D)(l:List Tok)(i:Nat)(r:kJ α)(enc:α→DV):Prop:=jG G f (.ptr 100000 0::ds.map .d) [] [] l i r enc fun _=>[]
structure sZ {α:Type} (Q:Exit→St→Prop) (rs:List ResultVar) (l:List Tok) (enc:α→DV) (Y:α→List (Nat×aR)) (own:List (TypeId×List VM.Loc)) (r:kJ α):Prop where
 ok:∀a j e s,r= .ok a j→(e= .normal∨e= .ret)→a0U Tryz.prog s rs (enc a) (rH l j++Y a) own→Q e s
 bad:∀n e s,r= .bad n e→Q (.panic (tX (jW n e))) s
section
variable {α β:Type} {Q:Exit→St→Prop} {rs:List ResultVar} {l:List Tok} {i j:Nat} {enc:β→DV} {Y:β→List (Nat×aR)} {own:List (TypeId×List VM.Loc)} {n e:Int} {a:α}
theorem sZ.step {x:bE α}{f:α→bE β}(h:sZ Q rs l enc Y own ((x >>=f) i))(hx:x i= .ok a j):sZ Q rs l enc Y own (f a j):=by rwa [bQ hx] at h
theorem sZ.fail {x:bE α}{f:α→bE β}(h:sZ Q rs l enc Y own ((x >>=f) i))(hx:x i= .bad n e)(s:St):Q (.panic (tX (jW n e))) s:=h.bad _ _ _ (eS hx)
theorem sZ.ifp {c:Prop}[Decidable c]{x y:kJ β}(h:sZ Q rs l enc Y own (if c then x else y))(hc:c):sZ Q rs l enc Y own x:=by rwa [if_pos hc] at h
theorem sZ.vX {c:Prop}[Decidable c]{x y:kJ β}(h:sZ Q rs l enc Y own (if c then x else y))(hc: ¬c):sZ Q rs l enc Y own y:=by rwa [if_neg hc] at h
theorem jG.a2g {f:FuncId}{fn:Func}{c:Code}{k:Nat}{av:List DV}{X:List (Nat×aR)}{r:kJ β}(hf:Tryz.prog.funcs[f]? =some fn)(hb:fn.body=some c)(hn:fn.ntmps=k)(hrs:fn.results.toList=rs)(hT:(own.all fun c=>c.2.all fun l=>match l with| .t i=>decide (i<av.length)|_=>true)=true)(h:∀Q:Exit→St→Prop,sZ Q rs l enc Y own r→SW Tryz.prog G c ⟨av++List.replicate (k-av.length) (.cF []),rH l i++X,own⟩ Q):jG G f av X own l i r enc Y:=by
 refine CX.b1H hf hb hn hrs hT fun Q h1 h2=>h Q ⟨fun a j e s hr he hs=>?_,fun n e s hr=>?_⟩
 ·subst hr;exact h1 _ _ _ e s rfl he hs
 ·subst hr;exact h2 _ s rfl
theorem gS (K:List (Nat×Nat)):∀ds:List D,aM K (ds.map .d)=ds.map .d
 |[]=>rfl
 |d::r=>by simp only [List.map_cons,aM,aW,gS K r]
theorem eF (K:List (Nat×Nat)):∀ds:List D,(ds.map DV.d).all (aP K)=true
 |[]=>rfl
 |d::r=>by simp only [List.map_cons,List.all_cons,aP,eF K r,Bool.and_self]
theorem tY {f:FuncId}{av0 av:List DV}{X:List (Nat×aR)}{r:kJ β}{st:St}{ls:List (Option VM.Loc)}{dst:Option Tmp}{KK:St→Prop}{rest:List (TypeId×List VM.Loc)}(he:VM.Enters Tryz.prog f)(hc:jG G f av0 X own l i r enc Y)(K:List (Nat×Nat))(hfit:∀a j,r= .ok a j→aJ K ⟨av0,rH l i++X,own⟩ (enc a) (rH l j++Y a)=true)(hfit2:aJ K ⟨av0,rH l i++X,own⟩ .undef (rH l i++X)=true)(hargs:WkT av (aM K av0))(hH:WkH st.H (cE K (rH l i++X)))(gU:qF st st.own (own.map (kI K ls))=some rest)(harg:tE st.tmps.length ls own=true)(hok:∀a j,r= .ok a j→KK (aU K dst st rest (enc a) (rH l j++Y a) own))(hbad:∀n e,r= .bad n e→Q (.panic (tX (jW n e))) (wN st)):rI Tryz.prog G f av ls dst st KK Q (eK r):=by
 rw [← b4k (l:=l) (enc:=enc) (Y:=Y) (own:=own) r];refine rI.mk he hc K (fun d H1 own1 hx=>?_) (fun v hx=>hfit2) hargs hH gU harg (fun d H1 own1 hx=>?_) (fun v hx=>?_)
 ·cases r with
  |bad n e=>cases hx
  |ok a j=>cases hx;exact hfit a j rfl
 ·cases r with
  |bad n e=>cases hx
  |ok a j=>cases hx;exact hok a j rfl
 ·cases r with
  |bad n e=>cases hx;exact hbad n e rfl
  |ok a j=>cases hx
abbrev K1:List (Nat×Nat):=[(100000,100000)]
theorem rE {f:FuncId}{ds:List D}{av:List DV}{r:kJ β}{st:St}{ls:List (Option VM.Loc)}{dst:Option Tmp}{KK:St→Prop}(he:VM.Enters Tryz.prog f)(hc:mX G f ds l i r enc)(hw:WkT av (.ptr 100000 0::ds.map .d))(hH:getKey 100000 st.H=some (rdO l i))(hok:∀a j,r= .ok a j→KK ⟨oH dst (enc a) st.tmps,bX 100000 (rdO l j) st.H,oX dst (dropKey 100000 st.own)⟩)(hbad:∀n e,r= .bad n e→Q (.panic (tX (jW n e))) (wN st))(hk:∀a,aP K1 (enc a)=true∧aW K1 (enc a)=enc a:=by intro a;exact ⟨rfl,rfl⟩):rI Tryz.prog G f av ls dst st KK Q (eK r):=by
 refine tY he hc K1 (fun a j hr=>?_) ?_ ?_ ?_ rfl rfl (fun a j hr=>?_) hbad (rest:=st.own)
 ·simp [aJ,aP,aL,aK,eF,aT,getKey,(hk a).1]
 ·simp [aJ,aP,aL,aK,eF,aT,getKey]
 ·simpa [aM,aW,rk,gS] using hw
 ·simp only [cE,rdO,List.append_nil,List.map_cons,List.map_nil,rk,if_true,cL,aM,aW,WkH,and_true];exact ⟨_,hH,by simp [WkO]⟩
 ·have:=hok a j hr;simpa [aU,bH,cL,aM,aW,rk,dC,(hk a).2] using this
theorem b1P {f:FuncId}{ds:List D}{d:D}{av:List DV}{st:St}{q ro:Bool}{ls:List (Option VM.Loc)}{dst:Option Tmp}{all:Array Oper}{ops:List Oper}{k:List KI}(he:VM.Enters Tryz.prog f)(hc:CH Tryz.prog G f ⟨.ptr 100000 0::ds.map .d,rH l i,[]⟩ ⟨[.d d],rH l i,[]⟩)(hw:WkT av (.ptr 100000 0::ds.map .d))(hH:getKey 100000 st.H=some (rdO l i))(hno:gL [100000] st.own=true)(h:VK Tryz.prog G (.ops q all ops::k) .normal (finish st dst (.d d) .no) Q):dY Tryz.prog G q ro f av ls dst all ops k st Q:=by
 refine dY.ro he hc K1 ?_ ?_ ?_ hno ?_ h
 ·simp [aJ,aP,aL,aK,eF,aT,getKey]
 ·simpa [aM,aW,rk,gS] using hw
 ·simp only [cE,rdO,List.map_cons,List.map_nil,rk,if_true,cL,aM,aW,a2h,and_true];exact hH
 ·simp [hH]
theorem jG.cK {f:FuncId}{fn:Func}{c:Code}{k:Nat}{av:List DV}{X:List (Nat×aR)}{r:kJ β}(hf:Tryz.prog.funcs[f]? =some fn)(hb:fn.body=some c)(hn:fn.ntmps=k)(hrs:fn.results.toList=rs)(hT:(own.all fun c=>c.2.all fun l=>match l with| .t i=>decide (i<av.length)|_=>true)=true)(h:∀Q:Exit→St→Prop,sZ Q rs l enc Y own r→XK Tryz.prog G [.code c] .normal ⟨av++List.replicate (k-av.length) (.cF []),rH l i++X,own⟩ Q):jG G f av X own l i r enc Y:=jG.a2g hf hb hn hrs hT fun Q hQ=>SW.xk (h Q hQ)
theorem bY {f:FuncId}{ds:List D}{av:List DV}{r:kJ β}{st:St}{ls:List (Option VM.Loc)}{dst:Option Tmp}{all:Array Oper}{ops:List Oper}{k:List XI}(he:VM.Enters Tryz.prog f)(hc:mX G f ds l i r enc)(hw:WkT av (.ptr 100000 0::ds.map .d))(hH:getKey 100000 st.H=some (rdO l i))(hok:∀a j,r= .ok a j→XK Tryz.prog G (.ops all ops::k) .normal ⟨oH dst (enc a) st.tmps,bX 100000 (rdO l j) st.H,oX dst (dropKey 100000 st.own)⟩ Q)(hbad:∀n e,r= .bad n e→Q (.panic (tX (jW n e))) (wN st))(hk:∀a,aP K1 (enc a)=true∧aW K1 (enc a)=enc a:=by intro a;exact ⟨rfl,rfl⟩):eU Tryz.prog G f av ls dst all ops k st Q:=eU.mk (rE he hc hw hH hok hbad hk)
theorem aY {f:FuncId}{ds:List D}{d:DV}{av:List DV}{st:St}{ls:List (Option VM.Loc)}{dst:Option Tmp}{all:Array Oper}{ops:List Oper}{k:List XI}(he:VM.Enters Tryz.prog f)(hc:CH Tryz.prog G f ⟨.ptr 100000 0::ds.map .d,rH l i,[]⟩ ⟨[d],rH l j,[]⟩)(hw:WkT av (.ptr 100000 0::ds.map .d))(hH:getKey 100000 st.H=some (rdO l i))(h:XK Tryz.prog G (.ops all ops::k) .normal ⟨oH dst d st.tmps,bX 100000 (rdO l j) st.H,oX dst (dropKey 100000 st.own)⟩ Q)(hk:aP K1 d=true∧aW K1 d=d:=by exact ⟨rfl,rfl⟩):eU Tryz.prog G f av ls dst all ops k st Q:=
 bY (r:=kJ.ok () j) (enc:=fun _=>d) he hc hw hH (fun a j' hr=>by cases hr;exact h) (fun n e hr=>by cases hr) fun _=>hk
end
theorem d1S:List.range 2=[0,1]:=rfl
theorem d1T:List.range 3=[0,1,2]:=rfl
attribute [simp] oH oX d1S d1T
end
section
open Go Go.VM
variable {G:GT}
theorem gT:VM.Enters Tryz.prog 127:=VM.Enters.mk Tryz.func127 rfl
theorem gH:VM.Enters Tryz.prog 120:=VM.Enters.mk Tryz.func120 rfl
theorem bJ:VM.Enters Tryz.prog 41:=VM.Enters.mk Tryz.func41 rfl
theorem dV:VM.Enters Tryz.prog 76:=VM.Enters.mk Tryz.func76 rfl
theorem aC:VM.Enters Tryz.prog 60:=VM.Enters.mk Tryz.func60 rfl
theorem qJ:VM.Enters Tryz.prog 59:=VM.Enters.mk Tryz.func59 rfl
theorem aD:VM.Enters Tryz.prog 43:=VM.Enters.mk Tryz.func43 rfl
theorem wS:VM.Enters Tryz.prog 119:=VM.Enters.mk Tryz.func119 rfl
theorem cH:VM.Enters Tryz.prog 71:=VM.Enters.mk Tryz.func71 rfl
theorem eO:VM.Enters Tryz.prog 116:=VM.Enters.mk Tryz.func116 rfl
theorem wT:VM.Enters Tryz.prog 137:=VM.Enters.mk Tryz.func137 rfl
theorem jN (t:Tok)(s:Nm):CS Tryz.prog G 127 [.agg (cC t),.str s] (.d (.bool (jL t s))) none:=by
 obtain ⟨k,x,n,ln⟩:=t;refine CS.bB Tryz.func127 rfl Tryz.ntmps127 rfl ?_
 by_cases h1:k=1
 ·by_cases h2:x=s<;>simp [cC,jL,h1,h2]
 ·by_cases h4:k=4
  ·by_cases h2:x=s<;>simp [cC,jL,h4,h2]
  ·by_cases h5:k=2
   ·by_cases h2:x=s<;>simp [cC,jL,h5,h2]
   ·simp [cC,jL,h1,h4,h5]
theorem jE (hG:G 1=some cX)(t:Tok):CS Tryz.prog G 120 [.agg (cC t)] (.d (.bool (pF bD t))) none:=by
 obtain ⟨k,x,n,ln⟩:=t;refine CS.bB Tryz.func120 rfl Tryz.ntmps120 rfl ?_
 by_cases h1:k=1
 ·simp [cC,pF,h1];refine aG.mk sF (tT hG x) ?_
  simp
 ·simp [cC,pF,h1]
theorem cB (l:List Tok)(i m:Nat)(x:Int)(hx:(i:Int)+x=m)(hm:m≤l.length+10)(h0:l≠[])(hl:l.length≤2000000):CH Tryz.prog G 41 ⟨[.ptr 100000 0,.d (.int .i64 x)],rH l i,[]⟩ ⟨[.d (.agg (cC (aZ l m)))],rH l i,[]⟩:=by
 have hw:IntKind.i64.wrap ((i:Int)+x)=(m:Int):=by rw [hx,wrap64 (by omega)]
 have hlen:0<l.length:=List.length_pos_iff.2 h0;have hw2:IntKind.i64.wrap ((l.length:Int)-1)=((l.length-1:Nat):Int):=by rw [wrap64 (by omega)];omega
 by_cases h:m<l.length
 ·have hg:aZ l m=l[m]:=by simp [aZ,h]
  rw [hg];obtain ⟨T,hT⟩:∃T,l[m]=T:=⟨_,rfl⟩;rw [hT];obtain ⟨k,s,n,ln⟩:=T;refine CH.bB Tryz.func41 rfl Tryz.ntmps41 rfl (by simp) ?_
  simp [hw,h,hT,cC];exact ⟨oG.mk (by kernel_rfl),oG.mk (by kernel_rfl)⟩
 ·have hl1:l.length-1<l.length:=by omega
  have hg:aZ l m=l[l.length-1]:=by simp [aZ,h,List.getLastD_eq_getLast?,List.getLast?_eq_getElem?,hl1]
  rw [hg];obtain ⟨N,hN⟩:∃N,l.length-1=N:=⟨_,rfl⟩;rw [hN] at hl1 hw2;obtain ⟨T,hT⟩:∃T,l[N]=T:=⟨_,rfl⟩;have hT2:l[l.length-1]=T:=by simp only [hN];exact hT
  rw [hT2];obtain ⟨k,s,n,ln⟩:=T;refine CH.bB Tryz.func41 rfl Tryz.ntmps41 rfl (by simp) ?_
  simp [hw,hw2,h,h0,hT,hl1,cC];exact ⟨oG.mk (by kernel_rfl),oG.mk (by kernel_rfl)⟩
theorem eY (l:List Tok)(i:Nat)(s:Nm)(hi:i<l.length)(hl:l.length≤2000000):CH Tryz.prog G 76 ⟨[.ptr 100000 0,.d (.str s)],rH l i,[]⟩ ⟨[.d (.bool (aQ l i s))],rH l i,[]⟩:=by
 have ht:=cB (G:=G) l i i 0 (by omega) (by omega) (by intro e;subst e;simp at hi) hl;refine CH.bB Tryz.func76 rfl Tryz.ntmps76 rfl (by simp) ?_
 simp;refine b1P (i:=i) (ds:=[.int .i64 0]) bJ ht (by simp) (by simp) (by simp) ?_
 simp;refine aG.mk gT (jN (aZ l i) s) ?_
 simp [aQ]
theorem aN (l:List Tok)(i:Nat)(s:Nm)(hi:i<l.length)(hl:l.length≤2000000)(h:aQ l i s=true):CH Tryz.prog G 60 ⟨[.ptr 100000 0,.d (.str s)],rH l i,[]⟩ ⟨[.d (.bool true)],rH l (i+1),[]⟩:=by
 have hc:=eY (G:=G) l i s hi hl;rw [h] at hc;have hw:=bO (show i<9223372036854775807 by omega);refine CH.bB Tryz.func60 rfl Tryz.ntmps60 rfl (by simp) ?_
 simp;refine b1P (i:=i) (ds:=[.str s]) dV hc (by simp) (by simp) (by simp) ?_
 simp [hw]
theorem aO (l:List Tok)(i:Nat)(s:Nm)(hi:i<l.length)(hl:l.length≤2000000)(h:aQ l i s=false):CH Tryz.prog G 60 ⟨[.ptr 100000 0,.d (.str s)],rH l i,[]⟩ ⟨[.d (.bool false)],rH l i,[]⟩:=by
 have hc:=eY (G:=G) l i s hi hl;rw [h] at hc;refine CH.bB Tryz.func60 rfl Tryz.ntmps60 rfl (by simp) ?_
 simp;refine b1P (i:=i) (ds:=[.str s]) dV hc (by simp) (by simp) (by simp) ?_
 simp
theorem rY {α:Type}(l:List Tok)(i:Nat)(hi:i<l.length)(hl:l.length≤2000000)(enc:α→DV):mX G 59 [] l i (dQ l i:kJ α) enc:=by
 have ht:=cB (G:=G) l i i 0 (by omega) (by omega) (by intro e;subst e;simp at hi) hl;refine jG.a2g Tryz.func59 rfl Tryz.ntmps59 rfl (by simp) ?_
 intro Q hE;refine SW.lw (LW.app 4 ?_);simp;refine b1P (i:=i) (ds:=[.int .i64 0]) bJ ht (by simp) (by simp) (by simp) ?_
 generalize hT:aZ l i=T;have hb:=fun s=>hE.bad T.line 14 s (by unfold dQ;rw [hT])
 obtain ⟨k,s,n,ln⟩:=T;simp [cC];refine LW.b5X (td:=_) (n:=ln) (e:=14) rfl rfl (by simp) (by simp) ?_
 exact hb _
end
section
open Go Go.VM
variable {G:GT}
theorem b1Q {l:List Tok}{s:Nm}{r:List Nm}{i:Nat}(h:aQ l i s=true):aV l (s::r) i=aV l r (i+1):=by
 show (if aQ l i s=true then aV l r (i+1) else dQ l i)=_
 rw [if_pos h]
theorem c6i {l:List Tok}{s:Nm}{r:List Nm}{i:Nat}(h:aQ l i s=false):aV l (s::r) i=dQ l i:=by
 show (if aQ l i s=true then aV l r (i+1) else dQ l i)=_
 rw [if_neg (by rw [h];decide)]
theorem aE (l:List Tok)(ss:List Nm)(i:Nat)(hi:i<l.length)(hl:l.length≤2000000)(hE:sY l)(hss:ss.length≤1000):mX G 43 [.sl (strs ss)] l i (aV l ss i) (fun _=> .cF []):=by
 refine jG.cK Tryz.func43 rfl Tryz.ntmps43 rfl (by simp) ?_
 intro Q hQ;simp;refine SW.wR (ι:={ k:Nat // k≤ss.length∧i+k<l.length∧aV l (ss.drop k) (i+k)=aV l ss i }) (fun k=>[(8,.d (.int .i64 k.1))]) (fun k=>rH l (i+k.1)) (fun _=>[]) (fun k=>ss.length-k.1) ⟨0,by simp [hi]⟩ (by simp) ?_
 rintro ⟨k,hk,hik,hp⟩;rw [← hp] at hQ;by_cases hlt:k<ss.length
 ·have hg:=c0P hlt;have hw:=bO (show k<9223372036854775807 by omega);have hd:ss.drop k=ss[k]::ss.drop (k+1):=d3U hlt;rw [hd] at hQ hp;simp [hlt,hg];cases hs:aQ l (i+k) ss[k] with
  |true=>
   have hn:=aF hE hik hs;rw [b1Q hs] at hp;refine aY (ds:=[.str ss[k]]) (d:= .d (.bool true)) aC (aN l (i+k) ss[k] hik hl hs) (by simp) (by simp) ?_
   simp [hw];exact bN.mk ⟨k+1,hlt,by omega,hp⟩ (by simp [Nat.add_assoc]) (by simp;omega)
  |false=>
   rw [c6i hs] at hQ;refine aY (ds:=[.str ss[k]]) (d:= .d (.bool false)) aC (aO l (i+k) ss[k] hik hl hs) (by simp) (by simp) ?_
   simp;refine bY (ds:=[]) qJ (rY (α:=Unit) l (i+k) hik hl fun _=> .cF []) (by simp) (by simp) (fun a j hx=>by unfold dQ at hx;cases hx) (fun n e hx=>?_);simp;exact hQ.bad n e _ hx
 ·have hd:ss.drop k=[]:=List.drop_eq_nil_of_le (by omega);rw [hd] at hQ;simp [hlt];exact hQ.ok () (i+k) _ _ rfl (.inl rfl) (by simp)
theorem a2X (l:List Tok)(i:Nat)(ok:Tok→Bool)(hi:i<l.length)(hl:l.length≤2000000):mX G 119 [.bool (ok (aZ l i))] l i (oI l ok i) (fun s=> .d (.str s)):=by
 have ht:=cB (G:=G) l (i+1) i (-1) (by omega) (by omega) (by intro e;subst e;simp at hi) hl;have hw:=bO (show i<9223372036854775807 by omega);refine jG.cK Tryz.func119 rfl Tryz.ntmps119 rfl (by simp) ?_
 intro Q hQ;cases h:ok (aZ l i) with
 |true=>
  simp [hw];refine aY (i:=i+1) (ds:=[.int .i64 (-1)]) bJ ht (by simp) (by simp) ?_
  generalize hT:aZ l i=T at hQ ht h ⊢;have hk:=hQ.ok T.text (i+1) .ret;obtain ⟨k,s,n,ln⟩:=T;simp [cC];exact hk _ (by unfold oI;rw [hT,if_pos h]) (.inr rfl) (by simp)
 |false=>simp;refine bY (ds:=[]) qJ (rY (α:=Nm) l i hi hl fun _=> .cF []) (by simp) (by simp) (fun a j hx=>by unfold dQ at hx;cases hx) (fun n e hx=>?_);exact hQ.bad n e _ (by unfold oI;rw [if_neg (by rw [h];decide)];exact hx)
section
variable (hG:G 1=some cX)
include hG
theorem cR (l:List Tok)(i:Nat)(hi:i<l.length)(hl:l.length≤2000000):mX G 71 [] l i (cA bD l i) (fun s=> .d (.str s)):=by
 have ht:=cB (G:=G) l i i 0 (by omega) (by omega) (by intro e;subst e;simp at hi) hl;refine jG.cK Tryz.func71 rfl Tryz.ntmps71 rfl (by simp) ?_
 intro Q hQ;simp;refine aY (ds:=[.int .i64 0]) bJ ht (by simp) (by simp) ?_
 simp;refine kU.mk gH (jE hG (aZ l i)) ?_
 simp;refine bY (ds:=[.bool (pF bD (aZ l i))]) wS (a2X l i (pF bD) hi hl) (by simp) (by simp) (fun s j hx=>?_) (fun n e hx=>hQ.bad n e _ hx);simp;exact hQ.ok s j _ _ hx (.inr rfl) (by simp)
theorem zF (l:List Tok)(i:Nat)(hi:i<l.length)(hl:l.length≤2000000):mX G 137 [] l i (yT bD l i) (fun s=> .d (.str s)):=by
 have ht:=cB (G:=G) l i i 0 (by omega) (by omega) (by intro e;subst e;simp at hi) hl;refine jG.cK Tryz.func137 rfl Tryz.ntmps137 rfl (by simp) ?_
 intro Q hQ;simp;refine aY (ds:=[.int .i64 0]) bJ ht (by simp) (by simp) ?_
 simp;refine kU.mk gH (jE hG (aZ l i)) ?_
 have hc:=a2X (G:=G) l i (fun t=>pF bD t||pY t) hi hl;cases h:pF bD (aZ l i) with
 |true=>simp only [h,Bool.true_or] at hc;simp;refine bY (ds:=[.bool true]) wS hc (by simp) (by simp) (fun s j hx=>?_) (fun n e hx=>hQ.bad n e _ hx);simp;exact hQ.ok s j _ _ hx (.inr rfl) (by simp)
 |false=>
  simp only [h,Bool.false_or] at hc;simp;refine aY (ds:=[.int .i64 0]) bJ ht (by simp) (by simp) ?_
  generalize hT:aZ l i=T at hc ⊢;obtain ⟨k,x,n,ln⟩:=T;simp [cC];refine bY (ds:=[.bool (pY ⟨k,x,n,ln⟩)]) wS hc (by simp [pY]) (by simp) (fun s j hx=>?_) (fun n e hx=>hQ.bad n e _ hx);simp;exact hQ.ok s j _ _ hx (.inr rfl) (by simp)
end
theorem gI (l:List Tok)(i:Nat)(hi:i<l.length)(hl:l.length≤2000000):mX G 116 [] l i (gM l i) (fun s=> .d (.str s)):=by
 have ht:=cB (G:=G) l i i 0 (by omega) (by omega) (by intro e;subst e;simp at hi) hl;have hc:=a2X (G:=G) l i pY hi hl;refine jG.cK Tryz.func116 rfl Tryz.ntmps116 rfl (by simp) ?_
 intro Q hQ;simp;refine aY (ds:=[.int .i64 0]) bJ ht (by simp) (by simp) ?_
 generalize hT:aZ l i=T at hc ⊢;obtain ⟨k,x,n,ln⟩:=T;simp [cC];refine bY (ds:=[.bool (pY ⟨k,x,n,ln⟩)]) wS hc (by simp [pY]) (by simp) (fun s j hx=>?_) (fun n e hx=>hQ.bad n e _ hx);simp;exact hQ.ok s j _ _ hx (.inr rfl) (by simp)
end
section
open Go Go.VM
variable {G:GT}
abbrev d0l:Pr→DV:=fun p=> .d (.agg (prD p))
structure jX (G:GT) (rdP:List Tok→Nat→Nat→kJ Pr) (l:List Tok):Prop where
 kw:G 1=some cX
 len:l.length≤50000
 fin:sY l
 bef:∀i e,i<l.length→e≤l.length→mX G 155 [.int .i64 e] l i (rdP l i e) d0l
 tM:vI rdP l
 nod:∀i e p j,i<l.length→rdP l i e= .ok p j→cW p+i≤j∧p.op≠0
theorem a2r:VM.Enters Tryz.prog 155:=VM.Enters.mk Tryz.func155 rfl
theorem kV:VM.Enters Tryz.prog 126:=VM.Enters.mk Tryz.func126 rfl
theorem cT:VM.Enters Tryz.prog 114:=VM.Enters.mk Tryz.func114 rfl
theorem zG:VM.Enters Tryz.prog 117:=VM.Enters.mk Tryz.func117 rfl
theorem a7K:VM.Enters Tryz.prog 166:=VM.Enters.mk Tryz.func166 rfl
section
variable {rdP:List Tok→Nat→Nat→kJ Pr} {l:List Tok} (hV:jX G rdP l)
include hV
theorem oK (i:Nat)(hi:i<l.length):mX G 126 [] l i (jM rdP l i) d0l:=by
 have hl:=hV.len;refine jG.cK Tryz.func126 rfl Tryz.ntmps126 rfl (by simp) ?_
 intro Q hQ;simp;refine bY (ds:=[.int .i64 l.length]) a2r (hV.bef i l.length hi (d3X _)) (by simp) (by simp) (fun p j hx=>?_) (fun n e hx=>hQ.bad n e _ hx);simp;exact hQ.ok p j _ _ hx (.inr rfl) (by simp)
omit hV in
structure vL {α:Type} (l:List Tok) (K:List (Nat×Nat)) (caps:List DV) (X:α→List (Nat×aR)) (own:List (TypeId×List VM.Loc)):Prop where
 fit:∀a b i j,aJ K ⟨caps,rH l i++X a,own⟩ (.cF []) (rH l j++X b)=true
 d1U:∀a i,aJ K ⟨caps,rH l i++X a,own⟩ .undef (rH l i++X a)=true
 cap:WkT caps (aM K caps)
 hh:∀a i,WkH (rH l i++X a) (cE K (rH l i++X a))
 tk:∀a i tmps,qF ⟨tmps,rH l i++X a,own⟩ own (own.map (kI K []))=some []
 ow:∀t,own.map (eM K (some t))=own
 arg:∀n,tE n [] own=true
 st:∀a b i j,bH K (rH l j++X b) ((100000,rdO l i)::X a)=(100000,rdO l j)::X b
 dk:dropKey 100000 own=own
 d0:∀t:Nat,bZ (.t t) own=own
 dl:∀t:Nat,List.map (fun c=>(c.1,List.filter (fun x=> !decide (x=VM.Loc.t t)) c.2)) own=own
 tt:(own.all fun c=>c.2.all fun l=>match l with| .t i=>decide (i<3)|_=>true)=true
 wk:∀a i t1 t2,WkT t1 t2→tS ⟨t1,rH l i++X a,own⟩ ⟨t2,rH l i++X a,own⟩
 ed:∀a i (s:St),s.H=rH l i++X a→s.own=own→a0U Tryz.prog s [] (.cF []) (rH l i++X a) own
theorem b0u {α:Type}{c:Nm}{one:α→bE α}{g:Nat}{a b:α}{i j:Nat}(h:one a i= .ok b j):oJ l c one (g+1) a i=if aQ l j c then oJ l c one g b (j+1) else .ok b j:=by rw [oJ];simp only [h]
theorem a7L {α:Type}{c:Nm}{one:α→bE α}{g:Nat}{a:α}{i:Nat}{n e:Int}(h:one a i= .bad n e):oJ l c one (g+1) a i= .bad n e:=by rw [oJ];simp only [h]
theorem a2Y:∀K:List (Nat×Nat),dC K []=[]
 |[]=>rfl
 |p::r=>by unfold dC;exact a2Y r
theorem dR {α:Type}(c:Nm){F:FuncId}{caps:List DV}{X:α→List (Nat×aR)}{own:List (TypeId×List VM.Loc)}{K:List (Nat×Nat)}(one:α→bE α)(Inv:α→Nat→Prop)(low:Nat)(he:VM.Enters Tryz.prog F)(hX:vL l K caps X own)(hadv:∀a,aA l 0 (one a))(hone:∀a i,low≤i→i<l.length→Inv a i→jG G F caps (X a) own l i (one a i) (fun _=> .cF []) X)(hinv:∀a i b j,i<l.length→Inv a i→one a i= .ok b j→Inv b j)(hmono:∀a i,Inv a i→Inv a (i+1))(a0:α)(i0:Nat)(hlow:low≤i0)(hi0:i0<l.length)(h0:Inv a0 i0):jG G 114 [.ptr 100000 0,.d (.str c),.xL F caps] (X a0) own l i0 (gR l c one a0 i0) (fun _=> .cF []) X:=by
 have hl:=hV.len;refine jG.cK Tryz.func114 rfl Tryz.ntmps114 rfl hX.tt ?_
 intro Q hQ;unfold gR at hQ;simp [hX.dl];refine eU.mk (tY he (hone a0 i0 hlow hi0 h0) K (fun a j hx=>hX.fit _ _ _ _) (hX.d1U _ _) hX.cap (hX.hh _ _) (hX.tk _ _ _) (hX.arg _) (fun b j hx=>?_) (fun n e hx=>hQ.bad n e _ (a7L hV hx)));rw [b0u hV hx] at hQ;simp only [aU,hX.st,hX.ow,a2Y hV,aW,oX,oH,bZ,List.map_nil,List.append_nil];simp [aM];refine SW.wR (ι:={ x:α×Nat×Nat // low≤x.2.1∧x.2.1<l.length∧l.length<x.2.2+x.2.1∧Inv x.1 x.2.1∧(if aQ l x.2.1 c=true then oJ l c one x.2.2 x.1 (x.2.1+1) else .ok x.1 x.2.1)=(if aQ l j c=true then oJ l c one (l.length+1) b (j+1) else .ok b j) }) (fun _=>[]) (fun x=>rH l x.1.2.1++X x.1.1) (fun _=>own) (fun x=>l.length-x.1.2.1) ⟨(b,j,l.length+1),?_⟩ ?_ ?_
 ·have h1:=hadv a0 i0 b j hi0 hx;exact ⟨by simp only;omega,h1.2,by simp only;omega,hinv a0 i0 b j hi0 h0 hx,rfl⟩
 ·refine hX.wk b j _ _ ?_
  simp
 ·rintro ⟨⟨b1,j1,g1⟩,hl1,hj1,hg1,hI1,hp1⟩;simp only at hl1 hj1 hg1 hI1 hp1;rw [← hp1] at hQ;simp [hX.dl];by_cases hs:aQ l j1 c=true
  ·have hn:=aF hV.fin hj1 hs;rw [hs,if_pos rfl] at hQ hp1;obtain ⟨g2,rfl⟩:∃g,g1=g+1:=⟨g1-1,by omega⟩;refine aY (ds:=[.str c]) (d:= .d (.bool true)) aC (aN l j1 c hj1 (by omega) hs) (by simp) (by simp) ?_
   simp only [oX,hX.dk,hX.d0];simp [hX.dl];refine eU.mk (tY he (hone b1 (j1+1) (by omega) hn (hmono _ _ hI1)) K (fun a j hx=>hX.fit _ _ _ _) (hX.d1U _ _) hX.cap (hX.hh _ _) (hX.tk _ _ _) (hX.arg _) (fun b2 j2 hx2=>?_) (fun n e hx2=>?_))
   ·have ha:=hadv b1 (j1+1) b2 j2 hn hx2;rw [b0u hV hx2] at hp1;simp only [aU,hX.st,hX.ow,a2Y hV,aW,oX,oH,bZ,List.map_nil,List.append_nil];simp [aM];refine bN.mk ⟨(b2,j2,g2),by simp only;omega,ha.2,by simp only;omega,hinv _ _ _ _ hn (hmono _ _ hI1) hx2,hp1⟩ ?_ (by simp;omega)
    refine hX.wk b2 j2 _ _ ?_
    simp
   ·simp;exact hQ.bad n e _ (a7L hV hx2)
  ·have hs:=Bool.eq_false_iff.2 hs;rw [hs,if_neg (by decide)] at hQ;refine aY (ds:=[.str c]) (d:= .d (.bool false)) aC (aO l j1 c hj1 (by omega) hs) (by simp) (by simp) ?_
   simp only [oX,hX.dk,hX.d0];simp [hX.dl];exact hQ.ok b1 j1 _ _ rfl (.inl rfl) (hX.ed b1 j1 _ rfl rfl)
end
end
section
open Go Go.VM
variable {G:GT}
theorem xY (l:List Nm)(s:Nm):strs (l++[s])=strs l++[[.str s]]:=by simp [strs]
abbrev K3:List (Nat×Nat):=[(100000,100000),(100001,100001),(100002,100002)]
theorem wU:VM.Enters Tryz.prog 132:=VM.Enters.mk Tryz.func132 rfl
theorem a9j:VM.Enters Tryz.prog 173:=VM.Enters.mk Tryz.func173 rfl
section
variable {rdP:List Tok→Nat→Nat→kJ Pr} {l:List Tok} (hV:jX G rdP l)
include hV
def xF (out:List Nm):List (Nat×aR):=[(100001,.cells [.d (.sl (strs out))]),(100002,.cells [.ptr 100000 0])]
abbrev c1z:List (TypeId×List VM.Loc):=[(9,[.c 100001 0])]
abbrev tG (l:List Tok)(out:List Nm):bE (List Nm):=do let w ← cA bD l;pure (out++[w])
theorem b1R (out:List Nm)(i:Nat)(hi:i<l.length)(hout:out.length≤i):jG G 166 [.ptr 100001 0,.ptr 100002 0] (xF out) c1z l i (tG l out i) (fun _=> .cF []) xF:=by
 have hl:=hV.len;refine jG.cK Tryz.func166 rfl Tryz.ntmps166 rfl (by simp) ?_
 intro Q hQ;simp [xF];refine jP 2 [1] (.op 0 (.call [3,4,5] .none) (.call [0,3,4,5] .none)) (eK (cA bD l i)) (by kernel_rfl) (by kernel_rfl) ?_
 simp;refine ⟨?_,?_⟩
 all_goals
  refine rE (ds:=[]) cH (cR hV.kw l i hi (by omega)) (by simp) (by simp) (fun w j hx=>?_) (fun n e hx=>hQ.fail hx _);have hQ2:=hQ.step hx;refine cO.mk ?_
  simp;refine dH (by omega) ?_
  simp;exact hQ2.ok _ j _ _ rfl (.inl rfl) (by simp [xF,xY])
theorem b6f:vL l K3 [.ptr 100001 0,.ptr 100002 0] xF c1z:=by
 constructor
 all_goals intros
 all_goals first
  |rfl
  |simp [xF,aJ,aP,aL,aK,aT,getKey,aM,aW,cE,rk,cL,bH, *]
theorem a0Y (i:Nat)(hi:i<l.length):mX G 117 [] l i (gD bD l i) (fun ws=> .d (.sl (strs ws))):=by
 have hl:=hV.len;refine jG.cK Tryz.func117 rfl Tryz.ntmps117 rfl (by simp) ?_
 intro Q hQ;unfold gD at hQ;simp;refine bY (ds:=[.sl (strs [[40]])]) aD (aE l [[40]] i hi (by omega) hV.fin (by simp)) (by simp [strs]) (by simp) (fun u j hx=>?_) (fun n e hx=>hQ.fail hx _);have hQ2:=hQ.step hx;have hj:=aA.exp hV.fin _ _ i u j hi hx;simp;have hone:=dR hV [44] (tG l) (fun out i=>out.length≤i) 0 a7K (b6f hV) (fun a=>((aA.word hV.fin).le (by omega)).bl fun _=>aA.bI _) (fun a i _ hi h=>b1R hV a i hi h) (fun a i b j hi h hx=>?_) (fun a i h=>by omega) [] j (by omega) hj.2 (by simp)
 ·refine eU.mk (tY cT hone [(100000,100000),(100001,3),(100002,1)] (fun a j hx=>?_) ?_ ?_ ?_ rfl rfl (fun ws j2 hx2=>?_) (fun n e hx2=>hQ2.fail hx2 _))
  ·simp [xF,aJ,aP,aL,aK,aT,getKey]
  ·simp [xF,aJ,aP,aL,aK,aT,getKey]
  ·simp [aM,aW,rk]
  ·simp [xF,aM,aW,rk,cE,cL]
  ·have hQ3:=hQ2.step hx2;have hj2:=aA.list hV.fin (m:=0) (fun a=>((aA.word hV.fin).le (by omega)).bl fun _=>aA.bI _) [] j ws j2 hj.2 hx2;simp [aU,xF,aM,aW,rk,cE,cL,bH,eM,dZ,dC];refine bY (ds:=[.sl (strs [[41]])]) aD (aE l [[41]] j2 hj2.2 (by omega) hV.fin (by simp)) (by simp [strs]) (by simp) (fun u j hx=>?_) (fun n e hx=>hQ3.fail hx _);have hQ4:=hQ3.step hx;simp;exact hQ4.ok _ j _ _ rfl (.inr rfl) (by simp)
 ·simp only [tG] at hx;rw [hZ] at hx;cases hw:cA bD l i with
  |bad n e=>rw [hw] at hx;cases hx
  |ok w k=>rw [hw] at hx;have:=aA.word (kw:=bD) hV.fin i w k hi hw;cases hx;simp;omega
end
end
section
open Go Go.VM
variable {G:GT}
theorem eZ {l:List Tok}{s:Nm}{i:Nat}(h:aQ l i s=true):eC l s i= .ok true (i+1):=by unfold eC;rw [if_pos h]
theorem gA {l:List Tok}{s:Nm}{i:Nat}(h:aQ l i s=false):eC l s i= .ok false i:=by unfold eC;rw [if_neg (by rw [h];decide)]
section
variable {rdP:List Tok→Nat→Nat→kJ Pr} {l:List Tok} (hV:jX G rdP l)
include hV
def a0a (v:Bool)(out:List zV):List (Nat×aR):=[(100001,.cells [.d (.bool v)]),(100002,.cells [.ptr 100000 0]),(100003,.cells [.d (.sl (out.map jR))])]
abbrev c8d:List (TypeId×List VM.Loc):=[(179,[.c 100003 0])]
abbrev K4:List (Nat×Nat):=[(100000,100000),(100001,100001),(100002,100002),(100003,100003)]
abbrev b0v (l:List Tok)(v:Bool)(out:List zV):bE (List zV):=do
 let b ← (if v then eC l [118] else pure false)
 let name ← (if b then pure [118] else cA bD l)
 aV l [[58]]
 let s ← yT bD l
 pure (out++[(name,s)])
theorem a1K (l:List zV)(x:zV):(l++[x]).map jR=l.map jR++[[.str x.1,.str x.2]]:=by simp [jR]
theorem c1A (l:List zV):∀x∈l.map jR,x.length=2:=fun x hx=>by
 obtain ⟨y,_,rfl⟩:=List.mem_map.1 hx
 rfl
theorem b4l (v:Bool)(out:List zV)(i:Nat)(hi:i<l.length)(hout:out.length≤i):jG G 173 [.ptr 100001 0,.ptr 100002 0,.ptr 100003 0] (a0a v out) c8d l i (b0v l v out i) (fun _=> .cF []) (a0a v):=by
 have hl:=hV.len;refine jG.cK Tryz.func173 rfl Tryz.ntmps173 rfl (by simp) ?_
 intro Q Q0;obtain ⟨j0,rfl⟩:∃j0,j0=i:=⟨_,rfl⟩;have p0:j0≤j0∧j0<l.length:=⟨d3X _,hi⟩;simp [a0a];cases v with
 |false=>
  have Q1:=Q0.step (x:=pure false) rfl;rw [if_neg (by decide)] at Q1;simp;obtain ⟨j1,rfl⟩:∃j1,j1=j0:=⟨_,rfl⟩;have p1:=p0;refine bY cH (cR hV.kw l j1 p1.2 (by omega)) (by simp) (by simp) (fun s j2 x2=>?_) (fun n e hx=>by first|exact Q1.fail hx _|(simp;exact Q1.fail hx _)|(simp;exact fun s=>Q1.fail hx s));have Q2:=Q1.step x2;have p2:=aA.word hV.fin j1 s j2 p1.2 x2;simp;refine bY (ds:=[.sl (strs [[58]])]) aD (aE l [[58]] j2 p2.2 (by omega) hV.fin (by simp)) (by simp [strs]) (by simp) (fun u5 j5 x5=>?_) (fun n e hx=>by first|exact Q2.fail hx _|(simp;exact Q2.fail hx _)|(simp;exact fun s=>Q2.fail hx s));have Q5:=Q2.step x5;have p5:=aA.exp hV.fin _ _ j2 u5 j5 p2.2 x5;simp;refine jA [1] 3 [2] (.op 0 (.call [4,5,6,7] .none) (.call [0,4,5,6,7] .none)) (eK (yT bD l j5)) (by kernel_rfl) (by kernel_rfl) ?_
  simp;refine ⟨?_,?_⟩
  all_goals
   refine rE wT (zF hV.kw l j5 p5.2 (by omega)) (by simp) (by simp) (fun w j6 x6=>?_) (fun n e hx=>by first|exact Q5.fail hx _|(simp;exact Q5.fail hx _)|(simp;exact fun s=>Q5.fail hx s));have Q6:=Q5.step x6;have p6:=aA.sort hV.fin j5 w j6 p5.2 x6;refine cO.mk ?_
   simp;refine dH (by simp [jR];omega) ?_
   simp;exact Q6.ok _ j6 _ _ rfl (.inl rfl) (by simp [a0a,a1K hV])
 |true=>
  cases hs:aQ l j0 [118] with
  |true=>
   have Q1:=Q0.step (x:=eC l [118]) (eZ hs);rw [if_pos rfl] at Q1;have Q2:=Q1.step (x:=pure [118]) rfl;simp;refine aY (ds:=[.str [118]]) (d:= .d (.bool true)) aC (aN l j0 [118] p0.2 (by omega) hs) (by simp) (by simp) ?_
   have p2:j0+1≤j0+1∧j0+1<l.length:=⟨d3X _,aF hV.fin p0.2 hs⟩;obtain ⟨j2,hj2⟩:∃j2,j0+1=j2:=⟨_,rfl⟩;rw [hj2] at Q2 p2 ⊢;simp;refine bY (ds:=[.sl (strs [[58]])]) aD (aE l [[58]] j2 p2.2 (by omega) hV.fin (by simp)) (by simp [strs]) (by simp) (fun u5 j5 x5=>?_) (fun n e hx=>by first|exact Q2.fail hx _|(simp;exact Q2.fail hx _)|(simp;exact fun s=>Q2.fail hx s));have Q5:=Q2.step x5;have p5:=aA.exp hV.fin _ _ j2 u5 j5 p2.2 x5;simp;refine jA [1] 3 [2] (.op 0 (.call [4,5,6,7] .none) (.call [0,4,5,6,7] .none)) (eK (yT bD l j5)) (by kernel_rfl) (by kernel_rfl) ?_
   simp;refine ⟨?_,?_⟩
   all_goals
    refine rE wT (zF hV.kw l j5 p5.2 (by omega)) (by simp) (by simp) (fun w j6 x6=>?_) (fun n e hx=>by first|exact Q5.fail hx _|(simp;exact Q5.fail hx _)|(simp;exact fun s=>Q5.fail hx s));have Q6:=Q5.step x6;have p6:=aA.sort hV.fin j5 w j6 p5.2 x6;refine cO.mk ?_
    simp;refine dH (by simp [jR];omega) ?_
    simp;exact Q6.ok _ j6 _ _ rfl (.inl rfl) (by simp [a0a,a1K hV])
  |false=>
   have Q1:=Q0.step (x:=eC l [118]) (gA hs);rw [if_neg (by decide)] at Q1;simp;refine aY (ds:=[.str [118]]) (d:= .d (.bool false)) aC (aO l j0 [118] p0.2 (by omega) hs) (by simp) (by simp) ?_
   simp;obtain ⟨j1,rfl⟩:∃j1,j1=j0:=⟨_,rfl⟩;have p1:=p0;refine bY cH (cR hV.kw l j1 p1.2 (by omega)) (by simp) (by simp) (fun s j2 x2=>?_) (fun n e hx=>by first|exact Q1.fail hx _|(simp;exact Q1.fail hx _)|(simp;exact fun s=>Q1.fail hx s));have Q2:=Q1.step x2;have p2:=aA.word hV.fin j1 s j2 p1.2 x2;simp;refine bY (ds:=[.sl (strs [[58]])]) aD (aE l [[58]] j2 p2.2 (by omega) hV.fin (by simp)) (by simp [strs]) (by simp) (fun u5 j5 x5=>?_) (fun n e hx=>by first|exact Q2.fail hx _|(simp;exact Q2.fail hx _)|(simp;exact fun s=>Q2.fail hx s));have Q5:=Q2.step x5;have p5:=aA.exp hV.fin _ _ j2 u5 j5 p2.2 x5;simp;refine jA [1] 3 [2] (.op 0 (.call [4,5,6,7] .none) (.call [0,4,5,6,7] .none)) (eK (yT bD l j5)) (by kernel_rfl) (by kernel_rfl) ?_
   simp;refine ⟨?_,?_⟩
   all_goals
    refine rE wT (zF hV.kw l j5 p5.2 (by omega)) (by simp) (by simp) (fun w j6 x6=>?_) (fun n e hx=>by first|exact Q5.fail hx _|(simp;exact Q5.fail hx _)|(simp;exact fun s=>Q5.fail hx s));have Q6:=Q5.step x6;have p6:=aA.sort hV.fin j5 w j6 p5.2 x6;refine cO.mk ?_
    simp;refine dH (by simp [jR];omega) ?_
    simp;exact Q6.ok _ j6 _ _ rfl (.inl rfl) (by simp [a0a,a1K hV])
theorem b8J (v:Bool):vL l K4 [.ptr 100001 0,.ptr 100002 0,.ptr 100003 0] (a0a v) c8d:=by
 constructor
 all_goals intros
 all_goals first
  |rfl
  |simp [a0a,aJ,aP,aL,aK,aT,getKey,aM,aW,cE,rk,cL,bH, *]
theorem a4J (v:Bool)(out:List zV):aA l 1 (b0v l v out):=by
 refine aA.br (aA.ite (aA.skip hV.fin _) (aA.bI _)) fun b=>?_
 refine aA.br (aA.ite (aA.bI _) ((aA.word hV.fin).le (by omega))) fun nm=>?_
 exact (aA.exp hV.fin _ _).bl fun _=>((aA.sort hV.fin).le (by omega)).bl fun _=>aA.bI _
theorem b0w (v:Bool)(a:List zV)(i:Nat)(b:List zV)(j:Nat)(h:b0v l v a i= .ok b j):b.length=a.length+1:=by
 simp only [b0v,hZ] at h
 repeat' split at h
 all_goals first|cases h|skip
 all_goals simp
theorem zH (v:Bool)(i:Nat)(hi:i<l.length):mX G 132 [.bool v] l i (rS bD l v i) (fun ws=> .d (.sl (ws.map jR))):=by
 have hl:=hV.len;refine jG.cK Tryz.func132 rfl Tryz.ntmps132 rfl (by simp) ?_
 intro Q Q0;unfold rS at Q0;simp;have hone:=dR hV [44] (b0v l v) (fun out i=>out.length≤i) 0 a9j (b8J hV v) (fun a=>(a4J hV v a).le (by omega)) (fun a i _ hi h=>b4l hV v a i hi h) (fun a i b j hi h hx=>?_) (fun a i h=>by omega) [] i (by omega) hi (by simp)
 ·refine eU.mk (tY cT hone [(100000,100000),(100001,3),(100002,2),(100003,5)] (fun a j hx=>?_) ?_ ?_ ?_ rfl rfl (fun ws j2 hx2=>?_) (fun n e hx2=>Q0.bad n e _ hx2))
  ·simp [a0a,aJ,aP,aL,aK,aT,getKey]
  ·simp [a0a,aJ,aP,aL,aK,aT,getKey]
  ·simp [aM,aW,rk]
  ·simp [a0a,aM,aW,rk,cE,cL]
  ·simp [aU,a0a,aM,aW,rk,cE,cL,bH,eM,dZ,dC];exact Q0.ok _ j2 _ _ hx2 (.inr rfl) (by simp)
 ·have h1:=a4J hV v a i b j hi hx;have h2:=b0w hV v a i b j hx;omega
end
end
end Go.Proofs.YtjpodcmhcenjjaaGreatDoor
section
section
namespace Go.Proofs.YtjpodcmhcenjjaaGreatDoor
open Go Go.VM
variable {G:GT}
mutual
def a1W:Pr→Pr→Bool
 |⟨o,n,k,l⟩,⟨o',n',k',l'⟩=>decide (o=o')&&(decide (n=n')&&(decide (k=k')&&(decide (l.length=l'.length)&&qK l l')))
def qK:List Pr→List Pr→Bool
 |a::r,b::s=>a1W a b&&qK r s
 |[],_=>true
 |_::_,[]=>true
end
theorem b7u (a b:Pr):a1W a b=(decide (a.op=b.op)&&(decide (a.name=b.name)&&(decide (a.n=b.n)&&(decide (a.kids.length=b.kids.length)&&qK a.kids b.kids)))):=by cases a;cases b;rfl
mutual
theorem a4c:∀a b:Pr,a1W a b=true↔a=b
 |⟨o,n,k,l⟩,⟨o',n',k',l'⟩=>by
  have:=b0x l l';simp only [a1W,d3H,decide_eq_true_eq,Pr.mk.injEq];constructor
  ·rintro ⟨h1,h2,h3,h4,h5⟩;exact ⟨h1,h2,h3,(this h4).1 h5⟩
  ·rintro ⟨h1,h2,h3,rfl⟩;exact ⟨h1,h2,h3,rfl,(this rfl).2 rfl⟩
theorem b0x:∀l k:List Pr,l.length=k.length→(qK l k=true↔l=k)
 |[],[],_=>by simp [qK]
 |a::r,b::s,h=>by have h1:=a4c a b;have h2:=b0x r s (by simpa using h);simp only [qK,d3H,h1,h2,List.cons.injEq]
 |[],_::_,h=>by simp at h
 |_::_,[],h=>by simp at h
end
theorem a7M {l k:List Pr}{i:Nat}(h:i<l.length)(h':i<k.length):qK (l.drop i) (k.drop i)=(a1W l[i] k[i]&&qK (l.drop (i+1)) (k.drop (i+1))):=by
 rw [d3U h,d3U h']
 rfl
theorem b0y (l k:List Pr):qK (l.drop l.length) k=true:=by simp [qK]
end Go.Proofs.YtjpodcmhcenjjaaGreatDoor
end
section
namespace Go.Proofs.YtjpodcmhcenjjaaGreatDoor
open Go Go.VM
variable {G:GT}
theorem a0Z:VM.Enters Tryz.prog 19:=VM.Enters.mk Tryz.func19 rfl
theorem b6g:∀t u:Pr,cW t≤900000000→CS Tryz.prog G 19 [.agg (prD t),.agg (prD u)] (.d (.bool (a1W t u))) none:=by
 refine Pr.ind fun t ih=>?_
 obtain ⟨op,nm,n,l⟩:=t;intro u hN;obtain ⟨op',nm',n',l'⟩:=u;simp only at ih;have hn:=oY ⟨op,nm,n,l⟩;have hq:=b7u ⟨op,nm,n,l⟩ ⟨op',nm',n',l'⟩;simp only at hn hq;have hl:=hU l;refine CS.bB Tryz.func19 rfl Tryz.ntmps19 rfl ?_
 by_cases h1:op=op'
 ·by_cases h2:nm=nm'
  ·by_cases h4:n=n'
   ·by_cases h3:l.length=l'.length
    ·simp only [h1,h2,h3,h4,decide_true,Bool.true_and] at hq;simp [h1,h2,h3,h4];refine SW.jV (ι:={ i:Nat // i≤l.length∧qK (l.drop i) (l'.drop i)=qK l l' }) (fun i=>[(37,.d (.int .i64 i.1))]) (fun i=>[(2,.cells [.d (.int .i64 op'),.d (.str nm'),.d (.int .i64 n'),.d (.sl (l.map pW))]),(3,.cells [.d (.int .i64 op'),.d (.str nm'),.d (.int .i64 n'),.d (.sl (l'.map pW))])]) (fun _=>[]) (fun i=>l.length-i.1) ⟨0,by simp⟩ (by simp) ?_
     rintro ⟨i,hi,hR⟩
     try simp only at hi hR
     by_cases hlt:i<l.length
     ·have hlt':i<l'.length:=by omega
      have hg:=wL hlt;have hg':=wL hlt';have hw:=bO (show i<9223372036854775807 by omega);have hb2:=pX hlt;have hb3:=jD l (i+1);rw [a7M hlt hlt'] at hR;simp [hlt',hlt,hg,hg'];refine ⟨oG.mk (by kernel_rfl),?_⟩;refine aG.mk a0Z (ih l[i] (List.getElem_mem hlt) l'[i] (by omega)) ?_
      cases hs:a1W l[i] l'[i]
      ·rw [hs,Bool.false_and] at hR;simp [hs,hq, ← hR]
      ·rw [hs,Bool.true_and] at hR;simp [hs];exact bN.mk ⟨i+1,hlt,hR⟩ (by simp [hw]) (by simp;omega)
     ·have:i=l.length:=by omega
      subst this;rw [b0y] at hR;simp [hq, ← hR, ← h3]
    ·simp only [h1,h2,h3,h4,decide_true,decide_false,Bool.true_and,Bool.false_and] at hq;have h3': ¬((l.length:Int)=(l'.length:Int)):=by omega
     simp [h1,h2,h3,h3',h4,hq]
   ·simp only [h1,h2,h4,decide_true,decide_false,Bool.true_and,Bool.false_and] at hq;simp [h1,h2,h4,hq]
  ·simp only [h1,h2,decide_true,decide_false,Bool.true_and,Bool.false_and] at hq;simp [h1,h2,hq]
 ·simp only [h1,decide_false,Bool.false_and] at hq;simp [h1,hq]
def b8K (l l':List Pr):Bool:=decide (l.length=l'.length)&&qK l l'
end Go.Proofs.YtjpodcmhcenjjaaGreatDoor
end
end
