/- Lemmas that the law of this claim needs (ZS ZT ZW PrO PsZ PtA PrP PtB VmRP VmRQ PtC PtD PtE PtF VmRF). No condition. -/
import Derived.Test.YtjpodcmhcenjjaaGreatDoorOba
import Derived.Test.YtjpodcmhcenjjaaGreatDoorObc
import Derived.Test.YtjpodcmhcenjjaaGreatDoorObd
import Derived.Test.YtjpodcmhcenjjaaGreatDoorObe
import Derived.Test.YtjpodcmhcenjjaaGreatDoorObf
import Derived.Test.YtjpodcmhcenjjaaGreatDoorObg
import Derived.Test.YtjpodcmhcenjjaaGreatDoorObh
import Derived.Test.YtjpodcmhcenjjaaGreatDoorObj
import Derived.Defers
import Derived.Recover
import Derived.Tactics2
import Derived.Laws.Pointers
set_option linter.unusedVariables false
set_option linter.unusedSimpArgs false
set_option linter.unusedSectionVars false
set_option maxRecDepth 100000
set_option maxHeartbeats 64000000
open Go.Proofs.Tryz
section
section
namespace Go.Proofs.YtjpodcmhcenjjaaGreatDoor
open Go Go.VM
variable {G:GT}
theorem rg1:List.range 1=[0]:=rfl
theorem rg2:List.range 2=[0,1]:=rfl
theorem rg3:List.range 3=[0,1,2]:=rfl
abbrev rdD(l:List Tok):D:=.agg [.sl (l.map cH)]
theorem c2X{l:List Tok}{i:Nat}(h:i<l.length)(s:List UInt8):tU l i s=(decide (l[i].kind=4)&&decide (l[i].text=s)):=by simp[tU,h]
theorem c9Z{l:List Tok}{i:Nat}(h: ¬i<l.length)(s:List UInt8):tU l i s=false:=by unfold tU;rw[List.getElem?_eq_none (by omega)]
theorem b7A{l:List Tok}{i:Nat}(h:i<l.length)(k:Int):kdB l i k=decide (l[i].kind=k):=by simp[kdB,h]
theorem d0a{l:List Tok}{i:Nat}(h: ¬i<l.length)(k:Int):kdB l i k=false:=by unfold kdB;rw[List.getElem?_eq_none (by omega)]
theorem c2Y{l:List Tok}{i:Nat}(h:i<l.length):txA l i=l[i].text:=by simp[txA,h]
theorem e0E{l:List Tok}{i:Nat}(h:i<l.length):nmA l i=l[i].n:=by simp[nmA,h]
theorem bN:VM.Enters prog 209:=.mk func209 rfl
theorem oW(l:List Tok)(i:Nat)(s:List UInt8)(hl:l.length<=900000000):CS prog G 209 [rdD l,.int .i64 i,.str s] (.d (.bool (tU l i s))) none:=by
 refine CS.aZ func209 rfl ntmps209 rfl ?_;by_cases aI:i<l.length
 .rw[c2X aI];obtain⟨t,ht⟩:∃t,l[i]=t:=⟨_,rfl⟩;rw[ht];simp[aI,ht,cH];by_cases h1:t.kind=4
  .by_cases h2:t.text=s<;>simp[h1,h2,aI,ht,cH]
  .simp[h1,aI,ht,cH]
 .rw[c9Z aI];simp[aI]
theorem rZ:VM.Enters prog 210:=.mk func210 rfl
theorem sS(op:Int)(a b:Pr):CS prog G 210 [.int .i64 op,.agg (prD a),.agg (prD b)] (.d (.agg (prD (tw op a b)))) none:=by refine CS.aZ func210 rfl ntmps210 rfl ?_;simp[tw,rg2,eH]
def a5i(k:Nat):List (List D):=(opL k).map λp=>[.int .i64 p.1]
theorem uR:VM.Enters prog 234:=.mk func234 rfl
theorem a3h(k:Nat):CS prog G 234 [.int .i64 k] (.d (.sl (a5i k))) none:=by
 refine CS.aZ func234 rfl ntmps234 rfl ?_
 match k with
 |0=>simp[a5i,opL,rg1,rg2]
 |1=>simp[a5i,opL,rg1,rg2]
 |2=>simp[a5i,opL,rg1,rg2]
 |3=>simp[a5i,opL,rg1,rg2]
 |4=>simp[a5i,opL,rg1,rg2]
 |5=>simp[a5i,opL,rg1,rg2]
 |6=>simp[a5i,opL,rg1,rg2]
 |7=>simp[a5i,opL,rg1,rg2]
 |8=>simp[a5i,opL,rg1,rg2]
 |k+9=>
  have h1: ¬(k:Int)+9=1:=by omega
  have h3: ¬(k:Int)+9=3:=by omega
  have h4: ¬(k:Int)+9=4:=by omega
  have h7: ¬(k:Int)+9=7:=by omega
  have h8: ¬(k:Int)+9=8:=by omega
  simp[a5i,opL,h1,h3,h4,h7,h8]
def frm(op:Int):Option (Int×Int×Int×List UInt8):=
 if op=18 then some (1,1,2,[60,61,62]) else if op=17 then some (2,3,2,[61,62]) else if op=16 then some (3,3,4,[124,124]) else if op=15 then some (4,4,5,[38,38])
 else if op=10 then some (6,7,7,[61]) else if op=11 then some (6,7,7,[33,61]) else if op=12 then some (6,7,7,[60]) else if op=13 then some (6,7,7,[60,61])
 else if op=6 then some (7,7,8,[43]) else if op=7 then some (7,7,8,[45]) else if op=8 then some (8,8,9,[42]) else none
def a8b:Option (Int×Int×Int×List UInt8)->DV
 |some (a,b,c,s)=>.cJ [.agg [.int .i64 a,.int .i64 b,.int .i64 c,.str s],.bool true]
 |none=>.cJ [.agg [.int .i64 0,.int .i64 0,.int .i64 0,.str []],.bool false]
theorem a6I:VM.Enters prog 236:=.mk func236 rfl
theorem a8c(op:Int):CS prog G 236 [.int .i64 op] (a8b (frm op)) none:=by
 refine CS.aZ func236 rfl ntmps236 rfl ?_;simp;by_cases h18:op=18
 .simp[h18,frm,a8b]
 by_cases h17:op=17
 .simp[h17,frm,a8b]
 by_cases h16:op=16
 .simp[h16,frm,a8b]
 by_cases h15:op=15
 .simp[h15,frm,a8b]
 by_cases h10:op=10
 .simp[h10,frm,a8b]
 by_cases h11:op=11
 .simp[h11,frm,a8b]
 by_cases h12:op=12
 .simp[h12,frm,a8b]
 by_cases h13:op=13
 .simp[h13,frm,a8b]
 by_cases h6:op=6
 .simp[h6,frm,a8b]
 by_cases h7:op=7
 .simp[h7,frm,a8b]
 by_cases h8:op=8
 .simp[h8,frm,a8b]
 simp[h18,h17,h16,h15,h10,h11,h12,h13,h6,h7,h8,frm,a8b]
end Go.Proofs.YtjpodcmhcenjjaaGreatDoor
end
section
namespace Go.Proofs.YtjpodcmhcenjjaaGreatDoor
open Go Go.VM
variable {G:GT}
theorem d5i(k:Nat):∀p∈opL k,∃a b c,frm p.1=some (a,b,c,p.2):=by unfold opL;split<;>simp[frm]
abbrev d0b(l:List Tok)(n:Nat):List (Nat×aW):=[(100000,.cells [.d (.sl (l.map cH))]),(100001,.cells [.d (.int .i64 n)])]
theorem c2Z:VM.Enters prog 235:=.mk func235 rfl
theorem c6F(l:List Tok)(n:Nat)(hl:l.length<=900000000){op a b c:Int}{s:List UInt8}(h:frm op=some (a,b,c,s)):CH prog G 235 ⟨[.d (.int .i64 op),.ptr 100000 0,.ptr 100001 0],d0b l n,[]⟩ ⟨[.d (.bool (tU l n s))],d0b l n,[]⟩:=by have h1:=a8c (G:=G) op;rw[h,a8b]at h1;have h2:=oW (G:=G) l n s hl;refine CH.aZ func235 rfl ntmps235 rfl (by simp) ?_;simp;refine aE.mk a6I h1 ?_;simp;refine aE.mk bN h2 ?_;simp
def ixO(l:List Tok)(n:Nat):List (Int×List UInt8)->Nat->Int
 |[],_=> -1
 |p::r,i=>if tU l n p.2=true then(i:Int) else ixO l n r (i+1)
theorem d0c{l:List Tok}{n:Nat}{o:List (Int×List UInt8)}{i:Nat}(h:i<o.length):ixO l n (o.drop i) i=if tU l n o[i].2=true then(i:Int) else ixO l n (o.drop (i+1)) (i+1):=by rw[f3a h,ixO]
theorem d0d:VM.Enters prog 233:=.mk func233 rfl
theorem d5j(l:List Tok)(n:Nat)(o:List (Int×List UInt8))(ho:∀p∈o,∃a b c,frm p.1=some (a,b,c,p.2))(hl:l.length<=900000000)(hol:o.length<=10):
  CH prog G 233 ⟨[.d (.sl (o.map λp=>[.int .i64 p.1])),.clo 235 [.ptr 100000 0,.ptr 100001 0]],d0b l n,[]⟩ ⟨[.d (.int .i64 (ixO l n o 0))],d0b l n,[]⟩:=by
 obtain⟨r,hr⟩:∃r,ixO l n o 0=r:=⟨_,rfl⟩;rw[hr];refine CH.aZ func233 rfl ntmps233 rfl (by simp) ?_;simp;refine SW.eL (ι:={i:Nat//i<=o.length/\ixO l n (o.drop i) i=r}) (λi=>[(8,.d (.int .i64 i.1))]) (λ_=>d0b l n) (λ_=>[]) (λi=>o.length-i.1) ⟨0,by simpa using hr⟩ (by simp) ?_;rintro⟨i,hi,hR⟩
 try simp only at hi hR
 by_cases aI:i<o.length
 .have hw:=bC (show i<9223372036854775807 by omega);obtain⟨q,hq⟩:∃q,o[i]=q:=⟨_,rfl⟩;obtain⟨a,b,c,hf⟩:=ho o[i] (List.getElem_mem aI);rw[d0c aI]at hR;rw[hq]at hf hR;have hc:=c6F (G:=G) l n hl hf;simp[aI,hq];refine eR.ro c2Z hc [(100000,100000),(100001,100001)] (by simp) (by simp) (by simp) (by simp) (by simp) ?_;cases hs:tU l n q.2
  .rw[if_neg (by simp[hs])]at hR;simp;exact bJ.mk ⟨i+1,aI,hR⟩ (by simp[hw]) (by simp;omega)
  .rw[if_pos hs]at hR;simp[hR]
 .have:i=o.length:=by omega
  subst this;rw[List.drop_length,ixO]at hR;simp[<-hR]
end Go.Proofs.YtjpodcmhcenjjaaGreatDoor
end
section
namespace Go.Proofs.YtjpodcmhcenjjaaGreatDoor
open Go Go.VM
variable {G:GT}
theorem d0e:VM.Enters prog 265:=.mk func265 rfl
theorem d5k(xs:List (List UInt8))(sep:List UInt8)(hl:xs.length<=140737488355328)(hj:(Lib.join xs sep).length<=140737488355328):CS prog G 265 [.sl (xs.map λs=>[.str s]),.str sep] (.d (.str (Lib.join xs sep))) none:=
 d4k strings_Join_none strings_Join hl hj
theorem b5L:∀xs:List (List UInt8),Lib.join xs []=xs.flatten
 |[]=>rfl
 |x::r=>by rw[Lib.join_cons,Lib.joinTail];simp
theorem kH:VM.Enters prog 248:=.mk func248 rfl
theorem a0a(xs:List (List UInt8))(hl:xs.length<=1000000)(hj:xs.flatten.length<=900000000):CS prog G 248 [.sl (xs.map λs=>[.str s])] (.d (.str xs.flatten)) none:=by have h:=d5k (G:=G) xs [] (by omega) (by rw[b5L];omega);rw[b5L]at h;refine CS.aZ func248 rfl ntmps248 rfl ?_;simp;refine aE.mk d0e h ?_;simp
theorem d5l(a b:List UInt8)(h:(a++b).length<=900000000):CS prog G 248 [.sl [[.str a],[.str b]]] (.d (.str (a++b))) none:=by have:=a0a (G:=G) [a,b] (by simp) (by simpa using h);simpa using this
theorem d5m(a b c:List UInt8)(h:(a++(b++c)).length<=900000000):CS prog G 248 [.sl [[.str a],[.str b],[.str c]]] (.d (.str (a++(b++c)))) none:=by have:=a0a (G:=G) [a,b,c] (by simp) (by simpa using h);simpa using this
def txS:List Tok->Nat
 |[]=>0
 |t::r=>t.text.length+1+txS r
theorem b7B:∀a b:List Tok,txS (a++b)=txS a+txS b
 |[],b=>by simp[txS]
 |t::a,b=>by rw[List.cons_append,txS,txS,b7B a b];omega
theorem a8d{l:List Tok}{i:Nat}(h:i<l.length):txS (l.take (i+1))=txS (l.take i)+(l[i].text.length+1):=by rw[f3c h,b7B];simp[txS]
theorem e0F(l:List Tok)(i:Nat):txS (l.take i)<=txS l:=by have:=b7B (l.take i) (l.drop i);rw[List.take_append_drop]at this;omega
def a4r(l:List Tok):Prop:=l.length<=50000/\txS l<=900000
theorem c3a{l:List Tok}{j:Nat}{s:List UInt8}(hs:s.length<=txS (l.take j))(h1:j+1<l.length):(s++([46]++(l[j+1]).text)).length<=txS (l.take (j+2)):=by have q1:=a8d (l:=l) (i:=j) (by omega);have q2:txS (l.take (j+2))=txS (l.take (j+1))+((l[j+1]).text.length+1):=a8d h1;simp only[List.length_append,List.length_cons,List.length_nil];omega
theorem c0I{l:List Tok}{j:Nat}{s:List UInt8}(hs:s.length<=txS (l.take (j+2)))(h1:j+2<l.length):(s++(l[j+2]).text).length<=txS (l.take (j+3)):=by have q2:txS (l.take (j+3))=txS (l.take (j+2))+((l[j+2]).text.length+1):=a8d h1;simp only[List.length_append];omega
theorem a4r.le{l:List Tok}(h:a4r l){i n:Nat}(hn:n<=txS (l.take i)):n<=900000000:=by have h1:=e0F l i;have h2:=h.2;omega
theorem c3b{l:List Tok}{i:Nat}(h:i<l.length):wtB l i=(decide (l[i].kind=1)||decide (l[i].kind=2)):=by simp[wtB,b7A h]
theorem c3c{l:List Tok}{i:Nat}(h: ¬i<l.length):wtB l i=false:=by simp[wtB,d0a h]
theorem c3d{l:List Tok}{f i:Nat}{s:List UInt8}(h:tU l i [46]=false):qJ l f i s=(s,i):=by
 cases f with
 |zero=>rfl
 |succ f=>rw[qJ,if_neg (by simp[h])]
def a8Y:Option (List UInt8×Nat)->DV
 |some (s,n)=>.cJ [.str s,.int .i64 n]
 |none=>.cJ [.str [],.int .i64 (-1)]
theorem yM(o):qM (a8Y o)=true:=by
 cases o with
 |none=>rfl
 |some q=>obtain⟨a,b⟩:=q;rfl
theorem b3f{P:Program}{x y:Code}{st:St}{Q:Exit->St->Prop}(st':St)(h1:SW P G x st λe s=>match e with
  | .normal=>yF s st'
  |e=>Q e s)(h2:SW P G y st' Q):SW P G (.seq x y) st Q:=SW.qH λbase R μ a w hr=>
 wp_mono (h1 base R μ a w hr) λe a1 w1 ⟨s,R1,μ1,q1,q2,q3⟩=>by
  cases e with
  |normal=>exact⟨s,R1,μ1,λbase R μ a w hr=>h2 base R μ a w (hr.a0X q1),q2,q3⟩
  |_=>exact⟨s,R1,μ1,q1,q2,q3⟩
theorem a5a:VM.Enters prog 230:=.mk func230 rfl
theorem c0J(hG:G 1=some dK)(l:List Tok)(i:Nat)(hl:a4r l)(hi:i<=l.length):CS prog G 230 [rdD l,.int .i64 i] (a8Y (xX aX l i)) none:=by
 have hll:=hl.1;obtain⟨o,ho⟩:∃o,xX aX l i=o:=⟨_,rfl⟩;rw[ho];refine CS.b1V func230 rfl ntmps230 rfl ?_;refine SW.qH (SW.vk ?_);simp;by_cases aI:i<l.length;rotate_left
 .have hge:l.length<=i:=Nat.le_of_not_lt aI;have:o=none:=by rw[<-ho];simp[xX,c6C,c3c aI]
  subst this;refine SW.qH (SW.vk ?_);simp[hge,a8Y]
 have hge: ¬l.length<=i:=by omega
 unfold xX c6C at ho;rw[c3b aI,c2Y aI]at ho;obtain⟨t,ht⟩:∃t,l[i]=t:=⟨_,rfl⟩;rw[ht]at ho;by_cases hw:t.kind=1\/t.kind=2;rotate_left
 .have k1: ¬t.kind=1:=λh=>hw (.inl h);have k2: ¬t.kind=2:=λh=>hw (.inr h);have:o=none:=by rw[<-ho];simp[k1,k2]
  subst this;refine SW.qH (SW.vk ?_);simp[hge,aI,ht,cH];simp[k1,k2,aI,ht,cH,a8Y]
 have hwd:(decide (t.kind=1)||decide (t.kind=2))=true:=by simpa using hw
 rw[hwd,Bool.true_and]at ho;refine b3f ⟨[.d (rdD l),.d (.int .i64 i),.ptr 2 0,.undef,.d (.str []),.d (.int .i64 0)]++List.replicate 125 .undef,[(2,.cells [.d (.sl (l.map cH))])],[]⟩ (SW.vk ?_) ?_
 .simp[hge,aI,ht,cH];by_cases k1:t.kind=1
  .simp[k1,aI,ht,cH,List.replicate]
  .have k2:=hw.resolve_left k1;simp[k1,k2,aI,ht,cH,List.replicate]
 refine SW.qH (SW.vk ?_);simp[aI,ht,cH,List.replicate];cases rK:(!aX t.text||decide (t.text=[118])||decide (t.text=[116,97,103])||decide (t.text=[118,97,108]))
 .have:o=none:=by rw[<-ho];simp[rK]
  subst this;simp at rK;obtain⟨⟨⟨q1,q2⟩,q3⟩,q4⟩:=rK;refine SW.qH (SW.vk ?_);simp;refine aE.mk wF (yG hG t.text) ?_;simp[q1,q2,q3,q4,a8Y]
 rw[if_pos rK]at ho;refine b3f ⟨[.d (rdD l),.d (.int .i64 i),.ptr 2 0,.undef,.d (.str []),.d (.int .i64 0),.d (.str t.text)]++List.replicate 124 .undef,[(2,.cells [.d (.sl (l.map cH))])],[]⟩ (SW.vk ?_) ?_
 .simp;refine aE.mk wF (yG hG t.text) ?_;by_cases q1:aX t.text=true
  .by_cases q2:t.text=[118]
   .rw[q2]at q1;simp[q1,q2,List.replicate]
   .by_cases q3:t.text=[116,97,103]
    .rw[q3]at q1;simp[q1,q3,List.replicate]
    .have q4:t.text=[118,97,108]:=by simpa[q1,q2,q3]using rK
     rw[q4]at q1;simp[q1,q4,List.replicate]
  .simp[q1,List.replicate]
 obtain⟨rs,rn,hrr⟩:∃rs rn,qJ l l.length (i+1) t.text=(rs,rn):=⟨_,_,rfl⟩;rw[hrr]at ho;subst ho;have hw1:=bC (show i<9223372036854775807 by omega);refine SW.vk ?_;simp[hw1,List.replicate];refine SW.eL (ι:={p:Nat×List UInt8//p.1<=l.length/\p.2.length<=txS (l.take p.1)/\∃f,l.length<=f+p.1/\qJ l f p.1 p.2=(rs,rn)}) (λp=>[(1,.d (.int .i64 p.1.1)),(6,.d (.str p.1.2))]) (λ_=>[(2,.cells [.d (.sl (l.map cH))])]) (λ_=>[]) (λp=>l.length-p.1.1) ⟨(i+1,t.text),aI,by have:=a8d aI;rw[ht]at this;simp only;omega,l.length,by omega,hrr⟩ (by simp) ?_;rintro⟨⟨j,s⟩,hj,hs,f,hf,hp⟩;simp only at hj hs hf hp;have hsg:=oW (G:=G) l j [46] (by omega);have sR:=bC (show j<9223372036854775807 by omega);have tI:IntKind.i64.wrap ((j:Int)+2)=((j+2:Nat):Int):=by rw[wrap64 (by omega)];simp
 have hj3:IntKind.i64.wrap ((j:Int)+2+1)=((j+3:Nat):Int):=by rw[wrap64 (by omega)];omega
 simp;refine aE.mk bN hsg ?_;cases hd:tU l j [46]with
 |false=>rw[c3d hd]at hp;cases hp;simp[a8Y]
 |true=>
  have xU:=zZ hd;obtain⟨f,rfl⟩:∃g,f=g+1:=⟨f-1,by omega⟩;rw[qJ,if_pos hd]at hp;simp[sR];by_cases a6K:j+1<l.length;rotate_left
  .rw[if_neg (by rw[c3c a6K];simp),if_neg (by rw[d0a a6K];simp)]at hp;cases hp;simp[a6K,a8Y]
  obtain⟨u,hu⟩:∃u,l[j+1]=u:=⟨_,rfl⟩;have hgr:=c3a hs a6K;rw[hu]at hgr;rw[c3b a6K,b7A a6K,c2Y a6K,hu]at hp;have d0f:=d5m (G:=G) s [46] u.text (hl.le hgr);simp[sR,a6K,hu,cH];by_cases k1:u.kind=1
  .simp[k1]at hp;simp[k1,sR,a6K,hu,cH,rg3];refine aE.mk kH d0f ?_;simp[tI,k1];exact bJ.mk ⟨(j+2,s++([46]++u.text)),a6K,hgr,f,by omega,by simpa using hp⟩ (by simp[tI]) (by simp;omega)
  by_cases k2:u.kind=2
  .simp[k2]at hp;simp[k1,k2,sR,a6K,hu,cH,rg3];refine aE.mk kH d0f ?_;simp[tI,k2];exact bJ.mk ⟨(j+2,s++([46]++u.text)),a6K,hgr,f,by omega,by simpa using hp⟩ (by simp[tI]) (by simp;omega)
  by_cases k3:u.kind=3;rotate_left
  .simp[k1,k2,k3]at hp;obtain⟨rfl,rfl⟩:=hp;simp[k1,k2,k3,a8Y]
  simp[k3]at hp;simp[k1,k2,k3,sR,a6K,hu,cH,rg3];refine aE.mk kH d0f ?_;simp[tI,k3];by_cases b0k:j+2<l.length;rotate_left
  .rw[if_neg (by rw[c3c b0k];simp)]at hp;have b5M: ¬(j:Int)+2<(l.length:Int):=by omega
   simp[b5M];exact bJ.mk ⟨(j+2,s++([46]++u.text)),a6K,hgr,f,by omega,by simpa using hp⟩ (by simp[tI]) (by simp;omega)
  have b5M:(j:Int)+2<(l.length:Int):=by omega
  have hnn:(0:Int)<=(j:Int)+2:=by omega
  have htn:((j:Int)+2).toNat=j+2:=by omega
  obtain⟨v,hv⟩:∃v,l[j+2]=v:=⟨_,rfl⟩;have d5n:=c0I hgr b0k;rw[hv]at d5n;rw[c3b b0k,c2Y b0k,hv]at hp;have c3e:=d5l (G:=G) (s++([46]++u.text)) v.text (hl.le d5n);simp at c3e;simp[b5M,b0k,hnn,htn,hv,cH];by_cases m1:v.kind=1
  .simp[m1]at hp;simp[m1,b0k,b5M,hnn,htn,hv,cH,rg2];refine aE.mk kH c3e ?_;simp[hj3];exact bJ.mk ⟨(j+3,s++([46]++u.text)++v.text),b0k,d5n,f,by omega,by simpa using hp⟩ (by simp[hj3]) (by simp;omega)
  by_cases m2:v.kind=2
  .simp[m2]at hp;simp[m1,m2,b0k,b5M,hnn,htn,hv,cH,rg2];refine aE.mk kH c3e ?_;simp[hj3];exact bJ.mk ⟨(j+3,s++([46]++u.text)++v.text),b0k,d5n,f,by omega,by simpa using hp⟩ (by simp[hj3]) (by simp;omega)
  simp[m1,m2]at hp;simp[m1,m2,b0k,b5M,hnn,htn,hv,cH];exact bJ.mk ⟨(j+2,s++([46]++u.text)),a6K,hgr,f,by omega,by simpa using hp⟩ (by simp[tI]) (by simp;omega)
end Go.Proofs.YtjpodcmhcenjjaaGreatDoor
end
section
namespace Go.Proofs.YtjpodcmhcenjjaaGreatDoor
open Go Go.VM
variable {G:GT}
def dN:Option (Pr×Nat)->Pr->DV
 |some (p,n),_=>.cJ [.agg (prD p),.int .i64 n]
 |none,j=>.cJ [.agg (prD j),.int .i64 (-1)]
def b4z:Option (List Pr×Nat)->DV
 |some (ks,n)=>.cJ [.sl (ks.map oO),.int .i64 n]
 |none=>.cJ [.sl [],.int .i64 (-1)]
theorem bT(o)(j):qM (dN o j)=true:=by
 cases o with
 |none=>rfl
 |some q=>obtain⟨a,b⟩:=q;rfl
theorem a2y(o):qM (b4z o)=true:=by
 cases o with
 |none=>rfl
 |some q=>obtain⟨a,b⟩:=q;rfl
theorem d0g(l:List Pr):∀x:List D,x∈l.map oO->x.length=4:=λx hx=>by
 obtain⟨p,_,rfl⟩:=List.mem_map.1 hx;rw[eH]
 rfl
section
variable {l:List Tok} {f:Nat}
def AtC(G:GT)(l:List Tok)(f:Nat):Prop:=∀i k,1<=k->k<=9->k≠6->i<=l.length->mu l.length i k<=f->∃j,CS prog G 198 [rdD l,.int .i64 i,.int .i64 k] (dN (oG aX l f i k) j) none
def CmC(G:GT)(l:List Tok)(f:Nat):Prop:=∀i,i<=l.length->mu l.length i 6<=f->∃j,CS prog G 211 [rdD l,.int .i64 i] (dN (oG aX l f i 6) j) none
def PrC(G:GT)(l:List Tok)(f:Nat):Prop:=∀i,i<=l.length->mu l.length i 10<=f->∃j,CS prog G 212 [rdD l,.int .i64 i] (dN (oG aX l f i 10) j) none
theorem uS:VM.Enters prog 198:=.mk func198 rfl
theorem a8Z:VM.Enters prog 231:=.mk func231 rfl
theorem e0H{L n:Nat}(h:n<L):mu L (n+1) 1=(L-n)*12+10:=by unfold mu;omega
theorem c0K(hl:a4r l)(hA:AtC G l f)(n:Nat)(hf:(l.length-n)*12+10<=f):CS prog G 231 [rdD l,.int .i64 n] (b4z (wZ (oG aX l f) l n)) none:=by
 have hll:=hl.1;obtain⟨o,ho⟩:∃o,wZ (oG aX l f) l n=o:=⟨_,rfl⟩;rw[ho];unfold wZ at ho;have hsg:=oW (G:=G) l n [40] (by omega);refine CS.aZ func231 rfl ntmps231 rfl ?_;simp;refine aE.mk bN hsg ?_;cases hd:tU l n [40]with
 |false=>rw[if_neg (by simp[hd])]at ho;subst ho;simp[b4z]
 |true=>
  have hnl:=zZ hd;rw[if_pos hd]at ho;simp;refine SW.eL (ι:={p:Nat×List Pr//p.1<l.length/\(l.length-p.1)*12+10<=f/\p.2.length<=p.1/\∃g,l.length<=g+p.1/\jX (oG aX l f) l g p.1 p.2=o}) (λp=>[(1,.d (.int .i64 p.1.1)),(6,.d (.sl (p.1.2.map oO)))]) (λ_=>[(2,.cells [.d (.sl (l.map cH))])]) (λ_=>[(43,[.t 6])]) (λp=>l.length-p.1.1) ⟨(n,[]),hnl,hf,by simp,l.length,by omega,ho⟩ (by simp) ?_;rintro⟨⟨i,acc⟩,hi,hf,hal,g,hg,hR⟩;simp only at hi hf hal hg hR;have hi1:=bC (show i<9223372036854775807 by omega);obtain⟨g,rfl⟩:∃h,g=h+1:=⟨g-1,by omega⟩;rw[jX]at hR;obtain⟨jk,hat⟩:=hA (i+1) 1 (by omega) (by omega) (by omega) hi (by rw[e0H hi];exact hf);simp[hi1];refine aE.mk (hkl:=bT _ _) uS hat ?_;cases hr:oG aX l f (i+1) 1 with
  |none=>rw[hr]at hR;simp only at hR;subst hR;simp[dN,b4z]
  |some q=>
   obtain⟨p,m⟩:=q;have a2r:=uQ aX l f _ _ _ _ hr;rw[hr]at hR;simp only at hR;have hm1:=bC (show m<9223372036854775807 by omega);have hs1:=oW (G:=G) l m [41] (by omega);have hs2:=oW (G:=G) l m [44] (by omega);have e9o:=d0g acc;have xE:acc.map oO++[prD p]=(acc++[p]).map oO:=by simp[eH]
   simp[dN];have hU:(acc.length+1)*57<=140737488355328:=by omega
   simp[hU];refine aE.mk bN hs1 ?_;cases hd1:tU l m [41]with
   |true=>rw[if_pos hd1]at hR;subst hR;simp[hm1,b4z,eH]
   |false=>
    rw[if_neg (by simp[hd1])]at hR;simp;refine aE.mk bN hs2 ?_;cases hd2:tU l m [44]with
    |false=>rw[if_neg (by simp[hd2])]at hR;subst hR;simp[b4z]
    |true=>
     rw[if_pos hd2]at hR;have hml:=zZ hd2;have hmu:(l.length-m)*12+10<=f:=by omega
     have hac:(acc++[p]).length<=m:=by simp;omega
     simp;exact bJ.mk ⟨(m,acc++[p]),hml,hmu,hac,g,by omega,hR⟩ (by simp[eH]) (by simp;omega)
theorem a1N:VM.Enters prog 213:=.mk func213 rfl
theorem d5o{l:List Tok}{n k:Nat}:(match b7y l n k with
  |none=>ixO l n (opL k) 0= -1
  |some op=>∃(q:Nat) (h:q<(opL k).length),ixO l n (opL k) 0=q/\(opL k)[q].1=op):=by
 have gen:∀(o:List (Int×List UInt8)) (i:Nat),(match (o.find? λp=>tU l n p.2).map (·.1)with
   |none=>ixO l n o i= -1
   |some op=>∃(q:Nat) (h:q<o.length),ixO l n o i=((q+i:Nat):Int)/\o[q].1=op):=by
  intro o
  induction o with
  |nil=>intro i;rfl
  |cons p r ih=>
   intro i;rw[List.find?_cons,ixO];cases hs:tU l n p.2 with
   |true=>exact⟨0,by simp,by simp,rfl⟩
   |false=>
    have:=ih (i+1);simp only[Bool.false_eq_true,if_false];cases ho:(r.find? λp=>tU l n p.2).map (·.1)with
    |none=>rw[ho]at this;exact this
    |some op=>rw[ho]at this;obtain⟨q,hq,h1,h2⟩:=this;exact⟨q+1,by simpa using hq,by rw[h1];congr 1;omega,by simpa using h2⟩
 have:=gen (opL k) 0;unfold b7y;cases ho:((opL k).find? λp=>tU l n p.2).map (·.1)with
 |none=>rw[ho]at this;exact this
 |some op=>rw[ho]at this;simpa using this
theorem d5p(k:Nat):(opL k).length<=2:=by unfold opL;split<;>simp
def b7C(p:Pr)(z:Int):St:=⟨List.replicate 6 .undef++[.ptr 6 0,.d (.int .i64 0),.ptr 8 0,.ptr 9 0]++List.replicate 41 .undef,[(6,.cells [.d (.int .i64 0),.d (.str []),.d (.int .i64 0),.d .aJ]),(8,.cells ((prD p).map .d)),(9,.cells [.d (.int .i64 z)])],[]⟩
theorem a4s(hl:a4r l)(hA:AtC G l f)(i k:Nat)(hk:1<=k/\k<=8/\k≠5)(hi:i<=l.length)(hf:mu l.length i k<=f+1):
  ∃j,CS prog G 213 [rdD l,.int .i64 i,.int .i64 k] (dN ((oG aX l f i (k+1)).map λq=>eU (oG aX l f) l k l.length q.1 q.2) j) none:=by
 have hll:=hl.1;obtain⟨ja,hat⟩:=hA i (k+1) (by omega) (by omega) (by omega) hi (by unfold mu at hf|-;omega);refine⟨ja,?_⟩;obtain⟨o,ho⟩:∃o,((oG aX l f i (k+1)).map λq=>eU (oG aX l f) l k l.length q.1 q.2)=o:=⟨_,rfl⟩;rw[ho];have e4r:=a3h (G:=G) k;have hk1:=bC (show k<9223372036854775807 by omega);refine CS.b1V func213 rfl ntmps213 rfl ?_;refine SW.qH (SW.vk ?_);simp;refine SW.qH (SW.vk ?_);simp[hk1];refine aE.mk (hkl:=bT _ _) uS hat ?_;cases hr:oG aX l f i (k+1)with
 |none=>
  rw[hr]at ho;subst ho;simp[dN];refine b3f (b7C ja (-1)) (SW.vk ?_) ?_;rotate_left
  .skip
   refine SW.qH (b9I (by kernel_rfl) (by kernel_rfl) rfl rfl rfl rfl ⟨?_,?_⟩)
   .simp[b7C,List.replicate];refine SW.vk ?_;simp
   .simp[b7C,List.replicate];refine SW.vk ?_;simp
  simp;refine SW.eL (ι:={x:Unit//True}) (λ_=>[]) (λ_=>[(3,.cells [.d (.sl (l.map cH))]),(6,.cells [.d (.int .i64 0),.d (.str []),.d (.int .i64 0),.d .aJ]),(8,.cells ((prD ja).map .d)),(9,.cells [.d (.int .i64 (-1))])]) (λ_=>[]) (λ_=>0) ⟨(),trivial⟩ (by simp) ?_;rintro⟨_,_⟩;simp[b7C,List.replicate]
 |some q=>
  obtain⟨a,n⟩:=q;have a2r:=uQ aX l f _ _ _ _ hr;rw[hr]at ho;simp only[Option.map_some]at ho;obtain⟨⟨rp,rn⟩,kC⟩:∃r,eU (oG aX l f) l k l.length a n=r:=⟨_,rfl⟩;rw[kC]at ho;subst ho;simp[dN];refine b3f (b7C rp rn) (SW.vk ?_) ?_;rotate_left
  .skip
   refine SW.qH (b9I (by kernel_rfl) (by kernel_rfl) rfl rfl rfl rfl ⟨?_,?_⟩)
   .simp[b7C,List.replicate];refine SW.vk ?_;simp
   .simp[b7C,List.replicate];refine SW.vk ?_;simp
  simp;refine SW.eL (ι:={p:Pr×Nat//p.2<=l.length/\i<p.2/\∃g,l.length<=g+p.2/\eU (oG aX l f) l k g p.1 p.2=(rp,rn)}) (λ_=>[]) (λp=>[(3,.cells [.d (.sl (l.map cH))]),(6,.cells [.d (.int .i64 0),.d (.str []),.d (.int .i64 0),.d .aJ]),(8,.cells ((prD p.1.1).map .d)),(9,.cells [.d (.int .i64 p.1.2)])]) (λ_=>[]) (λp=>l.length-p.1.2) ⟨(a,n),a2r.2,a2r.1,l.length,by omega,kC⟩ (by simp) ?_;rintro⟨⟨a,n⟩,hn,hin,g,hg,hR⟩;simp only at hn hin hg hR;have hcx:=d5j (G:=G) l n (opL k) (d5i k) (by omega) (by have:=d5p k;omega);have hix:=d5o (l:=l) (n:=n) (k:=k);have hn1:=bC (show n<9223372036854775807 by omega)
  change CH _ _ _ ⟨[.d (.sl (a5i k)),_],_,_⟩ _ at hcx
  simp;refine aE.mk uR e4r ?_;simp;refine eR.ro d0d hcx [(100000,3),(100001,9)] (by simp) (by simp) (by simp) (by simp) (by simp) ?_;cases mV:b7y l n k with
  |none=>
   rw[mV]at hix;simp only at hix;have:(a,n)=(rp,rn):=by
    rw[<-hR];cases g with
    |zero=>rfl
    |succ g=>rw[eU,mV]
   cases this;simp[hix,b7C,List.replicate]
  |some op=>
   rw[mV]at hix;obtain⟨q,hq,hx,hqo⟩:=hix;obtain⟨hnl,_,_⟩:=c6D mV;obtain⟨g,rfl⟩:∃h,g=h+1:=⟨g-1,by omega⟩;rw[eU,mV]at hR;obtain⟨jb,d0h⟩:=hA (n+1) (k+1) (by omega) (by omega) (by omega) hnl (by have:=a4Z (L:=l.length) (i:=i) (i':=n+1) (k:=k) (k':=k+1) (by omega) hnl (by omega) (by omega);omega)
   have hql:q<(a5i k).length:=by simpa[a5i]using hq
   have hqe:(a5i k)[q]=[.int .i64 op]:=by simp[a5i,hqo]
   simp[hx,hn1,hk1];refine aE.mk (hkl:=bT _ _) uS d0h ?_;cases hr2:oG aX l f (n+1) (k+1)with
   |none=>rw[hr2]at hR;cases hR;simp[dN,b7C,List.replicate]
   |some z=>obtain⟨b,m⟩:=z;have e4s:=uQ aX l f _ _ _ _ hr2;rw[hr2]at hR;simp only at hR;have htw:=sS (G:=G) op a b;simp[dN];refine⟨gE.mk (by kernel_rfl),?_⟩;refine aE.mk uR e4r ?_;simp[hql,hqe];refine aE.mk rZ htw ?_;simp;exact bJ.mk ⟨(tw op a b,m),e4s.2,by simp only;omega,g,by simp only;omega,hR⟩ (by simp) (by simp;omega)
end
end Go.Proofs.YtjpodcmhcenjjaaGreatDoor
end
end
section
section
namespace Go.Proofs.YtjpodcmhcenjjaaGreatDoor
open Go Go.VM
variable {G:GT}
section
variable {l:List Tok} {f:Nat}
theorem b7D:VM.Enters prog 211:=.mk func211 rfl
def b3g(s:List UInt8):Option (Int×Bool):=(cmpL.find? λp=>decide (s=p.1)).map (·.2)
theorem d0i{n:Nat}(h:n<l.length):b0i l n=if l[n].kind=4 then b3g l[n].text else none:=by
 unfold b0i b3g;by_cases hk:l[n].kind=4
 .simp[c2X h,hk]
 .simp[c2X h,hk]
theorem d0j{n:Nat}(h: ¬n<l.length):b0i l n=none:=by unfold b0i;simp[c9Z h]
def c0L(l:List Tok)(a:Pr)(n:Nat)(op:Int)(ex:Bool):St:=⟨[.undef,.undef,.ptr 2 0,.undef,.ptr 4 0,.d (.int .i64 0),.ptr 6 0,.d (.int .i64 n),.d (.int .i64 op),.d (.bool ex)]++List.replicate 79 .undef,[(2,.cells [.d (.sl (l.map cH))]),(4,.cells [.d (.int .i64 0),.d (.str []),.d (.int .i64 0),.d .aJ]),(6,.cells ((prD a).map .d))],[]⟩
theorem c0M(hl:a4r l)(hA:AtC G l f)(i:Nat)(hi:i<=l.length)(hf:mu l.length i 6<=f+1):
  ∃j,CS prog G 211 [rdD l,.int .i64 i] (dN (a5f (oG aX l f) l i) j) none:=by
 have hll:=hl.1;obtain⟨ja,hat⟩:=hA i 7 (by omega) (by omega) (by omega) hi (by unfold mu at hf|-;omega);refine⟨ja,?_⟩;obtain⟨o,ho⟩:∃o,a5f (oG aX l f) l i=o:=⟨_,rfl⟩;rw[ho];unfold a5f at ho;refine CS.b1V func211 rfl ntmps211 rfl ?_;refine SW.qH (SW.vk ?_);simp;refine SW.qH (SW.vk ?_);simp;refine aE.mk (hkl:=bT _ _) uS hat ?_;cases hr:oG aX l f i 7 with
 |none=>rw[hr]at ho;subst ho;simp[dN];refine SW.vk ?_;simp
 |some q=>
  obtain⟨a,n⟩:=q;have a2r:=uQ aX l f _ _ _ _ hr;rw[hr]at ho;simp only at ho;simp[dN];by_cases aI:n<l.length;rotate_left
  .rw[d0j aI]at ho;subst ho;have hge:l.length<=n:=Nat.le_of_not_lt aI;refine SW.vk ?_;simp[hge,dN]
  have hge: ¬l.length<=n:=by omega
  rw[d0i aI]at ho;obtain⟨t,ht⟩:∃t,l[n]=t:=⟨_,rfl⟩;rw[ht]at ho;by_cases hk:t.kind=4;rotate_left
  .rw[if_neg hk]at ho;subst ho;refine SW.vk ?_;simp[hge,aI,ht,cH];simp[hk,dN]
  rw[if_pos hk]at ho;refine SW.qH (SW.vk ?_);simp[hge,aI,ht,cH];simp[hk];refine SW.qH (SW.vk ?_);simp;cases hc:b3g t.text with
  |none=>rw[hc]at ho;simp only at ho;subst ho;simp[b3g,cmpL]at hc;obtain⟨e1,e2,e3,e4,e5,e6⟩:=hc;refine SW.qH (SW.vk ?_);simp[aI,ht,cH,e1,e2,e3,e4,e5,e6,dN]
  |some c=>
   obtain⟨op,ex⟩:=c;rw[hc]at ho;simp only at ho;refine b3f (c0L l a n op ex) (SW.vk ?_) ?_
   .simp[aI,ht,cH];by_cases e1:t.text=[61]
    .obtain⟨rfl,rfl⟩:10=op/\false=ex:=by simpa[b3g,cmpL,e1]using hc
     simp[e1,c0L,List.replicate]
    by_cases e2:t.text=[33,61]
    .obtain⟨rfl,rfl⟩:11=op/\false=ex:=by simpa[b3g,cmpL,e2]using hc
     simp[e2,c0L,List.replicate]
    by_cases e3:t.text=[60]
    .obtain⟨rfl,rfl⟩:12=op/\false=ex:=by simpa[b3g,cmpL,e3]using hc
     simp[e3,aI,ht,cH];refine⟨gE.mk (by kernel_rfl),?_⟩;simp[e3,aI,ht,cH,c0L,List.replicate]
    by_cases e4:t.text=[62]
    .obtain⟨rfl,rfl⟩:12=op/\true=ex:=by simpa[b3g,cmpL,e4]using hc
     simp[e4,aI,ht,cH];refine⟨gE.mk (by kernel_rfl),?_⟩;simp[e4,aI,ht,cH,c0L,List.replicate]
    by_cases e5:t.text=[60,61]
    .obtain⟨rfl,rfl⟩:13=op/\false=ex:=by simpa[b3g,cmpL,e5]using hc
     simp[e5,aI,ht,cH];refine⟨gE.mk (by kernel_rfl),?_⟩;simp[e5,aI,ht,cH,c0L,List.replicate]
    by_cases e6:t.text=[62,61]
    .obtain⟨rfl,rfl⟩:13=op/\true=ex:=by simpa[b3g,cmpL,e6]using hc
     simp[e6,aI,ht,cH];refine⟨gE.mk (by kernel_rfl),?_⟩;simp[e6,aI,ht,cH,c0L,List.replicate]
    simp[b3g,cmpL,e1,e2,e3,e4,e5,e6]at hc
   have hn1:=bC (show n<9223372036854775807 by omega);obtain⟨jb,d0h⟩:=hA (n+1) 7 (by omega) (by omega) (by omega) aI (by have:=a4Z (L:=l.length) (i:=i) (i':=n+1) (k:=6) (k':=7) (by omega) aI (by omega) (by omega);omega)
   refine SW.vk ?_;simp[c0L,List.replicate,hn1];refine aE.mk (hkl:=bT _ _) uS d0h ?_;cases hr2:oG aX l f (n+1) 7 with
   |none=>rw[hr2]at ho;simp only at ho;subst ho;simp[dN]
   |some z=>
    obtain⟨b,m⟩:=z;rw[hr2]at ho;simp only at ho;subst ho;cases ex with
    |false=>simp[dN];refine aE.mk rZ (sS op a b) ?_;simp
    |true=>simp[dN];refine aE.mk rZ (sS op b a) ?_;simp
end
end Go.Proofs.YtjpodcmhcenjjaaGreatDoor
end
section
namespace Go.Proofs.YtjpodcmhcenjjaaGreatDoor
open Go Go.VM
variable {G:GT}
section
variable {l:List Tok} {f:Nat}
theorem d7H{L i k f:Nat}(h:mu L i k<=f+1)(hk:k+1<=10):mu L i (k+1)<=f:=by have:=c9X (L:=L) (i:=i) (show k<k+1 by omega) hk;omega
theorem c0N:VM.Enters prog 212:=.mk func212 rfl
theorem e4t(hl:a4r l)(hA:AtC G l f)(hC:CmC G l f)(hP:PrC G l f):AtC G l (f+1):=by
 have hll:=hl.1;intro i k h1 h9 h6 hi hf;obtain rfl|rfl|rfl|rfl|rfl|rfl|rfl|rfl:k=1\/k=2\/k=3\/k=4\/k=5\/k=7\/k=8\/k=9:=by omega
 .skip
  obtain⟨j,hc⟩:=a4s hl hA i 1 (by omega) hi hf;refine⟨j,?_⟩;have he:oG aX l (f+1) i 1=(oG aX l f i (1+1)).map λq=>eU (oG aX l f) l 1 l.length q.1 q.2:=rfl;rw[he];refine CS.aZ func198 rfl ntmps198 rfl ?_;simp;refine aE.mk (hkl:=bT _ _) a1N hc ?_;cases (oG aX l f i (1+1)).map λq=>eU (oG aX l f) l 1 l.length q.1 q.2 with
  |none=>simp[dN]
  |some q=>obtain⟨p,n⟩:=q;simp[dN]
 .obtain⟨ja,hat⟩:=hA i 3 (by omega) (by omega) (by omega) hi (by unfold mu at hf|-;omega);refine⟨ja,?_⟩;obtain⟨o,ho⟩:∃o,b7z (oG aX l f) l i=o:=⟨_,rfl⟩;have he:oG aX l (f+1) i 2=o:=ho;rw[he];unfold b7z at ho;refine CS.aZ func198 rfl ntmps198 rfl ?_;simp;refine aE.mk (hkl:=bT _ _) uS hat ?_;cases hr:oG aX l f i 3 with
  |none=>rw[hr]at ho;subst ho;simp[dN]
  |some q=>
   obtain⟨a,n⟩:=q;have a2r:=uQ aX l f _ _ _ _ hr;rw[hr]at ho;simp only at ho;have hsg:=oW (G:=G) l n [61,62] (by omega);simp[dN];refine aE.mk bN hsg ?_;cases hd:tU l n [61,62]with
   |false=>rw[if_neg (by simp[hd])]at ho;subst ho;simp[dN]
   |true=>
    rw[if_pos hd]at ho;have hnl:=zZ hd;have hn1:=bC (show n<9223372036854775807 by omega);obtain⟨jb,d0h⟩:=hA (n+1) 2 (by omega) (by omega) (by omega) hnl (by have:=a4Z (L:=l.length) (i:=i) (i':=n+1) (k:=2) (k':=2) (by omega) hnl (by omega) (by omega);omega)
    simp[hn1];refine aE.mk (hkl:=bT _ _) uS d0h ?_;cases hr2:oG aX l f (n+1) 2 with
    |none=>rw[hr2]at ho;subst ho;simp[dN]
    |some z=>obtain⟨b,m⟩:=z;rw[hr2]at ho;subst ho;simp[dN];refine aE.mk rZ (sS 17 a b) ?_;simp
 .skip
  obtain⟨j,hc⟩:=a4s hl hA i 3 (by omega) hi hf;refine⟨j,?_⟩;have he:oG aX l (f+1) i 3=(oG aX l f i (3+1)).map λq=>eU (oG aX l f) l 3 l.length q.1 q.2:=rfl;rw[he];refine CS.aZ func198 rfl ntmps198 rfl ?_;simp;refine aE.mk (hkl:=bT _ _) a1N hc ?_;cases (oG aX l f i (3+1)).map λq=>eU (oG aX l f) l 3 l.length q.1 q.2 with
  |none=>simp[dN]
  |some q=>obtain⟨p,n⟩:=q;simp[dN]
 .skip
  obtain⟨j,hc⟩:=a4s hl hA i 4 (by omega) hi hf;refine⟨j,?_⟩;have he:oG aX l (f+1) i 4=(oG aX l f i (4+1)).map λq=>eU (oG aX l f) l 4 l.length q.1 q.2:=rfl;rw[he];refine CS.aZ func198 rfl ntmps198 rfl ?_;simp;refine aE.mk (hkl:=bT _ _) a1N hc ?_;cases (oG aX l f i (4+1)).map λq=>eU (oG aX l f) l 4 l.length q.1 q.2 with
  |none=>simp[dN]
  |some q=>obtain⟨p,n⟩:=q;simp[dN]
 .skip
  have hsg:=oW (G:=G) l i [33] (by omega);cases hd:tU l i [33]with
  |true=>
   have tT:=zZ hd;have hi1:=bC (show i<9223372036854775807 by omega);obtain⟨ja,hat⟩:=hA (i+1) 5 (by omega) (by omega) (by omega) tT (by have:=a4Z (L:=l.length) (i:=i) (i':=i+1) (k:=5) (k':=5) (by omega) tT (by omega) (by omega);omega)
   refine⟨⟨0,[],0,[]⟩,?_⟩;have he:oG aX l (f+1) i 5=(oG aX l f (i+1) 5).map λq=>((⟨14,[],0,[q.1]⟩:Pr),q.2):=by
    show(if tU l i [33]=true then _ else _)=_
    rw[if_pos hd]
   rw[he];rw[hd]at hsg;refine CS.aZ func198 rfl ntmps198 rfl ?_;simp;refine aE.mk bN hsg ?_;simp[hi1];refine aE.mk (hkl:=bT _ _) uS hat ?_;cases oG aX l f (i+1) 5 with
   |none=>simp[dN]
   |some q=>obtain⟨p,n⟩:=q;simp[dN,rg1,eH]
  |false=>
   obtain⟨j,hc⟩:=hC i hi (d7H hf (by omega));refine⟨j,?_⟩;have he:oG aX l (f+1) i 5=oG aX l f i (5+1):=by
    show(if tU l i [33]=true then _ else _)=_
    rw[if_neg (by simp[hd])]
   rw[he];rw[hd]at hsg;refine CS.aZ func198 rfl ntmps198 rfl ?_;simp;refine aE.mk bN hsg ?_;simp;refine aE.mk (hkl:=bT _ _) b7D hc ?_;cases oG aX l f i (5+1)with
   |none=>simp[dN]
   |some q=>obtain⟨p,n⟩:=q;simp[dN]
 .skip
  obtain⟨j,hc⟩:=a4s hl hA i 7 (by omega) hi hf;refine⟨j,?_⟩;have he:oG aX l (f+1) i 7=(oG aX l f i (7+1)).map λq=>eU (oG aX l f) l 7 l.length q.1 q.2:=rfl;rw[he];refine CS.aZ func198 rfl ntmps198 rfl ?_;simp;refine aE.mk (hkl:=bT _ _) a1N hc ?_;cases (oG aX l f i (7+1)).map λq=>eU (oG aX l f) l 7 l.length q.1 q.2 with
  |none=>simp[dN]
  |some q=>obtain⟨p,n⟩:=q;simp[dN]
 .skip
  obtain⟨j,hc⟩:=a4s hl hA i 8 (by omega) hi hf;refine⟨j,?_⟩;have he:oG aX l (f+1) i 8=(oG aX l f i (8+1)).map λq=>eU (oG aX l f) l 8 l.length q.1 q.2:=rfl;rw[he];refine CS.aZ func198 rfl ntmps198 rfl ?_;simp;refine aE.mk (hkl:=bT _ _) a1N hc ?_;cases (oG aX l f i (8+1)).map λq=>eU (oG aX l f) l 8 l.length q.1 q.2 with
  |none=>simp[dN]
  |some q=>obtain⟨p,n⟩:=q;simp[dN]
 .skip
  have hsg:=oW (G:=G) l i [45] (by omega);cases hd:tU l i [45]with
  |true=>
   have tT:=zZ hd;have hi1:=bC (show i<9223372036854775807 by omega);obtain⟨ja,hat⟩:=hA (i+1) 9 (by omega) (by omega) (by omega) tT (by have:=a4Z (L:=l.length) (i:=i) (i':=i+1) (k:=9) (k':=9) (by omega) tT (by omega) (by omega);omega)
   refine⟨⟨0,[],0,[]⟩,?_⟩;have he:oG aX l (f+1) i 9=(oG aX l f (i+1) 9).map λq=>((⟨9,[],0,[q.1]⟩:Pr),q.2):=by
    show(if tU l i [45]=true then _ else _)=_
    rw[if_pos hd]
   rw[he];rw[hd]at hsg;refine CS.aZ func198 rfl ntmps198 rfl ?_;simp;refine aE.mk bN hsg ?_;simp[hi1];refine aE.mk (hkl:=bT _ _) uS hat ?_;cases oG aX l f (i+1) 9 with
   |none=>simp[dN]
   |some q=>obtain⟨p,n⟩:=q;simp[dN,rg1,eH]
  |false=>
   obtain⟨j,hc⟩:=hP i hi (d7H hf (by omega));refine⟨j,?_⟩;have he:oG aX l (f+1) i 9=oG aX l f i (9+1):=by
    show(if tU l i [45]=true then _ else _)=_
    rw[if_neg (by simp[hd])]
   rw[he];rw[hd]at hsg;refine CS.aZ func198 rfl ntmps198 rfl ?_;simp;refine aE.mk bN hsg ?_;simp;refine aE.mk (hkl:=bT _ _) c0N hc ?_;cases oG aX l f i (9+1)with
   |none=>simp[dN]
   |some q=>obtain⟨p,n⟩:=q;simp[dN]
end
end Go.Proofs.YtjpodcmhcenjjaaGreatDoor
end
section
namespace Go.Proofs.YtjpodcmhcenjjaaGreatDoor
open Go Go.VM
variable {G:GT}
section
variable {l:List Tok} {f:Nat}
def b7E(rd:Nat->Nat->Option (Pr×Nat))(l:List Tok)(i:Nat):Option (Pr×Nat):=match xX aX l i with
 |none=>none
 |some (s,n)=>(match wZ rd l n with
  |some (ks,m)=>some (⟨4,s,0,ks⟩,m)
  |none=>some (⟨3,s,0,[]⟩,n))
theorem b5N{L i n f:Nat}(hf:mu L i 10<=f+1)(hn:i<n)(hl:n<=L):(L-n)*12+10<=f:=by unfold mu at hf;omega
theorem c6I:VM.Enters prog 232:=.mk func232 rfl
theorem c6J(hG:G 1=some dK)(hl:a4r l)(hA:AtC G l f)(i:Nat)(hi:i<=l.length)(hf:mu l.length i 10<=f+1):
  CS prog G 232 [rdD l,.int .i64 i] (dN (b7E (oG aX l f) l i) ⟨0,[],0,[]⟩) none:=by
 have hll:=hl.1;have hnm:=c0J (G:=G) hG l i hl hi;obtain⟨o,ho⟩:∃o,b7E (oG aX l f) l i=o:=⟨_,rfl⟩;rw[ho];unfold b7E at ho;refine CS.aZ func232 rfl ntmps232 rfl ?_;simp;refine aE.mk (hkl:=yM _) a5a hnm ?_;cases hn:xX aX l i with
 |none=>rw[hn]at ho;subst ho;simp[a8Y,dN]
 |some q=>
  obtain⟨s,n⟩:=q;have a2r:=a1M hn;rw[hn]at ho;simp only at ho;have hli:=c0K (G:=G) hl hA n (b5N hf a2r.1 a2r.2);simp[a8Y];refine aE.mk (hkl:=a2y _) a8Z hli ?_;cases hL:wZ (oG aX l f) l n with
  |none=>rw[hL]at ho;subst ho;simp[b4z,dN]
  |some z=>obtain⟨ks,m⟩:=z;rw[hL]at ho;subst ho;simp[b4z,dN]
theorem c3f(hG:G 1=some dK)(hl:a4r l)(hA:AtC G l f):PrC G l (f+1):=by
 have hll:=hl.1;intro i hi hf;obtain⟨o,ho⟩:∃o,a2T aX (oG aX l f) l i=o:=⟨_,rfl⟩;have he:oG aX l (f+1) i 10=o:=ho;rw[he];unfold a2T at ho;by_cases aI:i<l.length;rotate_left
 .rw[List.getElem?_eq_none (by omega)]at ho;subst ho;have hge:l.length<=i:=Nat.le_of_not_lt aI;refine⟨⟨0,[],0,[]⟩,?_⟩;refine CS.aZ func212 rfl ntmps212 rfl ?_;simp[hge,dN]
 have hge: ¬l.length<=i:=by omega
 rw[f2R aI]at ho;obtain⟨t,ht⟩:∃t,l[i]=t:=⟨_,rfl⟩;rw[ht]at ho;simp only at ho;have hi1:=bC (show i<9223372036854775807 by omega);have hi2:IntKind.i64.wrap ((i:Int)+2)=((i+2:Nat):Int):=by rw[wrap64 (by omega)];simp
 have hi3:IntKind.i64.wrap ((i:Int)+3)=((i+3:Nat):Int):=by rw[wrap64 (by omega)];simp
 have hi4:IntKind.i64.wrap ((i:Int)+4)=((i+4:Nat):Int):=by rw[wrap64 (by omega)];simp
 by_cases k3:t.kind=3
 .rw[if_pos k3]at ho;subst ho;refine⟨⟨0,[],0,[]⟩,?_⟩;refine CS.aZ func212 rfl ntmps212 rfl ?_;simp[hge,aI,ht,cH];simp[k3,hi1,dN]
 rw[if_neg k3]at ho;by_cases kt:t.kind=1/\t.text=[116,114,117,101]
 .rw[if_pos kt]at ho;subst ho;refine⟨⟨0,[],0,[]⟩,?_⟩;refine CS.aZ func212 rfl ntmps212 rfl ?_;simp[hge,aI,ht,cH];simp[kt.1,kt.2,hi1,dN]
 rw[if_neg kt]at ho;by_cases kf:t.kind=1/\t.text=[102,97,108,115,101]
 .rw[if_pos kf]at ho;subst ho;refine⟨⟨0,[],0,[]⟩,?_⟩;refine CS.aZ func212 rfl ntmps212 rfl ?_;simp[hge,aI,ht,cH];simp[kf.1,kf.2,hi1,dN]
 rw[if_neg kf]at ho;have hk:t.kind=1-> ¬t.text=[116,114,117,101]/\ ¬t.text=[102,97,108,115,101]:=λh=>⟨λe=>kt ⟨h,e⟩,λe=>kf ⟨h,e⟩⟩;have hsq:=oW (G:=G) l i [63] (by omega);have hsp:=oW (G:=G) l i [40] (by omega);cases hq:tU l i [63]with
 |true=>
  rw[if_pos hq]at ho;rw[hq]at hsq;have hnm:=c0J (G:=G) hG l (i+1) hl aI;cases hn:xX aX l (i+1)with
  |none=>
   rw[hn]at ho hnm;subst ho;refine⟨⟨0,[],0,[]⟩,?_⟩;refine CS.aZ func212 rfl ntmps212 rfl ?_;simp[hge,aI,ht,cH];simp[k3];rcases Classical.em (t.kind=1)with k1|k1
   case' inl=>simp[k1,(hk k1).1,(hk k1).2]
   case' inr=>simp[k1]
   all_goals
    refine aE.mk bN hsq ?_;simp[hi1];refine aE.mk (hkl:=yM _) a5a hnm ?_;simp[a8Y,dN]
  |some q=>
   obtain⟨s,n⟩:=q;have a2r:=a1M hn;rw[hn]at ho hnm;simp only at ho;have hli:=c0K (G:=G) hl hA n (b5N hf (by omega) a2r.2);cases hL:wZ (oG aX l f) l n with
   |none=>
    rw[hL]at ho hli;subst ho;refine⟨⟨5,s,0,[]⟩,?_⟩;refine CS.aZ func212 rfl ntmps212 rfl ?_;simp[hge,aI,ht,cH];simp[k3];rcases Classical.em (t.kind=1)with k1|k1
    case' inl=>simp[k1,(hk k1).1,(hk k1).2]
    case' inr=>simp[k1]
    all_goals
     refine aE.mk bN hsq ?_;simp[hi1];refine aE.mk (hkl:=yM _) a5a hnm ?_;simp[a8Y];refine aE.mk (hkl:=a2y _) a8Z hli ?_;simp[b4z,dN]
   |some z=>
    obtain⟨ks,m⟩:=z;rw[hL]at ho hli;subst ho;refine⟨⟨0,[],0,[]⟩,?_⟩;refine CS.aZ func212 rfl ntmps212 rfl ?_;simp[hge,aI,ht,cH];simp[k3];rcases Classical.em (t.kind=1)with k1|k1
    case' inl=>simp[k1,(hk k1).1,(hk k1).2]
    case' inr=>simp[k1]
    all_goals
     refine aE.mk bN hsq ?_;simp[hi1];refine aE.mk (hkl:=yM _) a5a hnm ?_;simp[a8Y];refine aE.mk (hkl:=a2y _) a8Z hli ?_;simp[b4z,dN]
 |false=>
 rw[if_neg (by simp[hq])]at ho;rw[hq]at hsq;cases hp:tU l i [40]with
 |false=>
  rw[if_neg (by simp[hp])]at ho;rw[hp]at hsp;have hnd:=c6J hG hl hA i hi hf;have hx:b7E (oG aX l f) l i=o:=ho;rw[hx]at hnd;refine⟨⟨0,[],0,[]⟩,?_⟩;refine CS.aZ func212 rfl ntmps212 rfl ?_;simp[hge,aI,ht,cH];simp[k3];rcases Classical.em (t.kind=1)with k1|k1
  case' inl=>simp[k1,(hk k1).1,(hk k1).2]
  case' inr=>simp[k1]
  all_goals
   refine aE.mk bN hsq ?_;simp;refine aE.mk bN hsp ?_;simp;refine aE.mk (hkl:=bT _ _) c6I hnd ?_;cases o with
   |none=>simp[dN]
   |some q=>obtain⟨p,n⟩:=q;simp[dN]
 |true=>
 rw[if_pos hp]at ho;rw[hp]at hsp;have hsm:=oW (G:=G) l (i+1) [45] (by omega);have hsc:=oW (G:=G) l (i+3) [41] (by omega);by_cases a7r:tU l (i+1) [45]=true/\kdB l (i+2) 3=true/\tU l (i+3) [41]=true
 .rw[if_pos a7r]at ho;subst ho;obtain⟨n1,n2,n3⟩:=a7r;have h2:=c2V n2;rw[b7A h2]at n2;rw[e0E h2];obtain⟨u,hu⟩:∃u,l[i+2]=u:=⟨_,rfl⟩;rw[hu]at n2|-;have ku:u.kind=3:=of_decide_eq_true n2;rw[n1]at hsm;rw[n3]at hsc;have h2':(i:Int)+2<(l.length:Int):=by omega
  have hnn:(0:Int)<=(i:Int)+2:=by omega
  have htn:((i:Int)+2).toNat=i+2:=by omega
  refine⟨⟨0,[],0,[]⟩,?_⟩;refine CS.aZ func212 rfl ntmps212 rfl ?_;simp[hge,aI,ht,cH];simp[k3];rcases Classical.em (t.kind=1)with k1|k1
  case' inl=>simp[k1,(hk k1).1,(hk k1).2]
  case' inr=>simp[k1]
  all_goals
   refine aE.mk bN hsq ?_;simp;refine aE.mk bN hsp ?_;simp[hi1];refine aE.mk bN hsm ?_;simp[hi2,h2,h2',hnn,htn,hu,ku,cH,hi3];refine aE.mk bN hsc ?_;simp[hi2,h2,h2',hnn,htn,hu,ku,cH,hi4,dN]
 .rw[if_neg a7r]at ho;obtain⟨jp,hat⟩:=hA (i+1) 1 (by omega) (by omega) (by omega) aI (by have:=a4Z (L:=l.length) (i:=i) (i':=i+1) (k:=10) (k':=1) (by omega) aI (by omega) (by omega);omega)
  refine⟨⟨0,[],0,[]⟩,?_⟩;have tail:∀n:Nat,CS prog G 209 [rdD l,.int .i64 n,.str [41]] (.d (.bool (tU l n [41]))) none:=λn=>oW (G:=G) l n [41] (by omega);cases n1:tU l (i+1) [45]with
  |false=>
   rw[n1]at hsm;refine CS.aZ func212 rfl ntmps212 rfl ?_;simp[hge,aI,ht,cH];simp[k3];rcases Classical.em (t.kind=1)with k1|k1
   case' inl=>simp[k1,(hk k1).1,(hk k1).2]
   case' inr=>simp[k1]
   all_goals
    refine aE.mk bN hsq ?_;simp;refine aE.mk bN hsp ?_;simp[hi1];refine aE.mk bN hsm ?_;simp[hi1];refine aE.mk (hkl:=bT _ _) uS hat ?_;cases hr:oG aX l f (i+1) 1 with
    |none=>rw[hr]at ho;subst ho;simp[dN]
    |some q=>
     obtain⟨p,n⟩:=q;have a2r:=uQ aX l f _ _ _ _ hr;have pR:=tail n;rw[hr]at ho;simp only at ho;simp[dN];refine aE.mk bN pR ?_;cases hc:tU l n [41]with
     |false=>rw[if_neg (by simp[hc])]at ho;subst ho;simp[dN]
     |true=>rw[if_pos hc]at ho;subst ho;have hn1:=bC (show n<9223372036854775807 by omega);simp[hn1,dN]
  |true=>
  rw[n1]at hsm;have hnn:(0:Int)<=(i:Int)+2:=by omega
  have htn:((i:Int)+2).toNat=i+2:=by omega
  by_cases h2:i+2<l.length;rotate_left
  .have h2': ¬(i:Int)+2<(l.length:Int):=by omega
   refine CS.aZ func212 rfl ntmps212 rfl ?_;simp[hge,aI,ht,cH];simp[k3];rcases Classical.em (t.kind=1)with k1|k1
   case' inl=>simp[k1,(hk k1).1,(hk k1).2]
   case' inr=>simp[k1]
   all_goals
    refine aE.mk bN hsq ?_;simp;refine aE.mk bN hsp ?_;simp[hi1];refine aE.mk bN hsm ?_;simp[hi1,hi2,h2'];refine aE.mk (hkl:=bT _ _) uS hat ?_;cases hr:oG aX l f (i+1) 1 with
    |none=>rw[hr]at ho;subst ho;simp[dN]
    |some q=>
     obtain⟨p,n⟩:=q;have a2r:=uQ aX l f _ _ _ _ hr;have pR:=tail n;rw[hr]at ho;simp only at ho;simp[dN];refine aE.mk bN pR ?_;cases hc:tU l n [41]with
     |false=>rw[if_neg (by simp[hc])]at ho;subst ho;simp[dN]
     |true=>rw[if_pos hc]at ho;subst ho;have hn1:=bC (show n<9223372036854775807 by omega);simp[hn1,dN]
  have h2':(i:Int)+2<(l.length:Int):=by omega
  obtain⟨u,hu⟩:∃u,l[i+2]=u:=⟨_,rfl⟩;by_cases ku:u.kind=3;rotate_left
  .skip
   refine CS.aZ func212 rfl ntmps212 rfl ?_;simp[hge,aI,ht,cH];simp[k3];rcases Classical.em (t.kind=1)with k1|k1
   case' inl=>simp[k1,(hk k1).1,(hk k1).2]
   case' inr=>simp[k1]
   all_goals
    refine aE.mk bN hsq ?_;simp;refine aE.mk bN hsp ?_;simp[hi1];refine aE.mk bN hsm ?_;simp[hi1,hi2,h2,h2',hnn,htn,hu,ku,cH];refine aE.mk (hkl:=bT _ _) uS hat ?_;cases hr:oG aX l f (i+1) 1 with
    |none=>rw[hr]at ho;subst ho;simp[dN]
    |some q=>
     obtain⟨p,n⟩:=q;have a2r:=uQ aX l f _ _ _ _ hr;have pR:=tail n;rw[hr]at ho;simp only at ho;simp[dN];refine aE.mk bN pR ?_;cases hc:tU l n [41]with
     |false=>rw[if_neg (by simp[hc])]at ho;subst ho;simp[dN]
     |true=>rw[if_pos hc]at ho;subst ho;have hn1:=bC (show n<9223372036854775807 by omega);simp[hn1,dN]
  have n3:tU l (i+3) [41]=false:=by
   cases n3:tU l (i+3) [41]with
   |false=>rfl
   |true=>exact absurd ⟨n1,by rw[b7A h2,hu];simp[ku],n3⟩ a7r
  rw[n3]at hsc;refine CS.aZ func212 rfl ntmps212 rfl ?_;simp[hge,aI,ht,cH];simp[k3];rcases Classical.em (t.kind=1)with k1|k1
  case' inl=>simp[k1,(hk k1).1,(hk k1).2]
  case' inr=>simp[k1]
  all_goals
   refine aE.mk bN hsq ?_;simp;refine aE.mk bN hsp ?_;simp[hi1];refine aE.mk bN hsm ?_;simp[hi2,h2,h2',hnn,htn,hu,ku,cH,hi3];refine aE.mk bN hsc ?_;simp[hi1];refine aE.mk (hkl:=bT _ _) uS hat ?_;cases hr:oG aX l f (i+1) 1 with
   |none=>rw[hr]at ho;subst ho;simp[dN]
   |some q=>
    obtain⟨p,n⟩:=q;have a2r:=uQ aX l f _ _ _ _ hr;have pR:=tail n;rw[hr]at ho;simp only at ho;simp[dN];refine aE.mk bN pR ?_;cases hc:tU l n [41]with
    |false=>rw[if_neg (by simp[hc])]at ho;subst ho;simp[dN]
    |true=>rw[if_pos hc]at ho;subst ho;have hn1:=bC (show n<9223372036854775807 by omega);simp[hn1,dN]
end
end Go.Proofs.YtjpodcmhcenjjaaGreatDoor
end
end
section
section
namespace Go.Proofs.YtjpodcmhcenjjaaGreatDoor
def Nod(rd:Nat->Nat->Option (Pr×Nat)):Prop:=∀i k p n,rd i k=some (p,n)->cB p+i<=n
theorem c3g(op:Int)(a b:Pr):cB (tw op a b)=cB a+cB b+1:=by simp[tw,cB,dT];omega
theorem c4u(op:Int)(a:Pr):cB ⟨op,[],0,[a]⟩=cB a+1:=by simp[cB,dT];omega
theorem a4t(op:Int)(s:List UInt8)(n:Int):cB ⟨op,s,n,[]⟩=1:=by simp[cB,dT]
theorem c4v(op:Int)(s:List UInt8)(ks:List Pr):cB ⟨op,s,0,ks⟩=dT ks+1:=by simp[cB];omega
section
variable {kw:List UInt8->Bool} {rd:Nat->Nat->Option (Pr×Nat)} {l:List Tok}
theorem b5O(h:Nod rd)(k:Nat):∀(g:Nat) (a:Pr) (n i:Nat),cB a+i<=n->cB (eU rd l k g a n).1+i<=(eU rd l k g a n).2
 |0,a,n,i,hn=>hn
 |g+1,a,n,i,hn=>by
  rw[eU];split
  .exact hn
  .split
   .exact hn
   .rename_i op _ _ b m hr;have h1:=h _ _ _ _ hr;exact b5O h k g (tw op a b) m i (by rw[c3g];omega)
theorem c0O(h:Nod rd):∀(g i:Nat) (acc ks:List Pr) (m b:Nat),dT acc+b<=i->jX rd l g i acc=some (ks,m)->dT ks+b+1<=m
 |0,_,_,_,_,_,_,hr=>by cases hr
 |g+1,i,acc,ks,m,b,hb,hr=>by
  rw[jX]at hr;split at hr
  .cases hr
  .rename_i p n hp;have h1:=h _ _ _ _ hp;have h2:dT (acc++[p])=dT acc+cB p:=by rw[a8H];simp[dT]
   split at hr
   .cases hr;omega
   .split at hr
    .exact c0O h g n _ ks m b (by omega) hr
    .cases hr
theorem c0P(h:Nod rd){i m:Nat}{ks:List Pr}(hr:wZ rd l i=some (ks,m)):dT ks+i+1<=m:=by
 unfold wZ at hr;split at hr
 .exact c0O h _ _ _ _ _ _ (by simp[dT]) hr
 .cases hr
theorem d0k(h:Nod rd){i n:Nat}{p:Pr}(hr:a2T kw rd l i=some (p,n)):cB p+i<=n:=by
 unfold a2T at hr;split at hr
 .cases hr
 .split at hr
  .cases hr;rw[a4t];omega
  split at hr
  .cases hr;rw[a4t];omega
  split at hr
  .cases hr;rw[a4t];omega
  split at hr
  .split at hr
   .cases hr
   .rename_i s m hn;have h1:=a1M hn;rw[f2M]at hr;obtain⟨⟨ks,q⟩,hq,he⟩:=hr;have h2:=c0P h hq;cases he;rw[c4v];simp only at *;omega
  split at hr
  .split at hr
   .cases hr;rw[a4t];omega
   .split at hr
    .cases hr
    .rename_i q m hq;have h1:=h _ _ _ _ hq;split at hr
     .cases hr;omega
     .cases hr
  .split at hr
   .cases hr
   .rename_i s m hn;have h1:=a1M hn;split at hr
    .rename_i ks q hq;have h2:=c0P h hq;cases hr;rw[c4v];omega
    .cases hr;rw[a4t];omega
theorem e0J(h:Nod rd){i k n:Nat}{p:Pr}(hr:atG kw rd l i k=some (p,n)):cB p+i<=n:=by
 unfold atG at hr;split at hr
 .unfold b7z at hr;split at hr
  .cases hr
  .rename_i a m ha;have h1:=h _ _ _ _ ha;split at hr
   .split at hr
    .rename_i b q hb;have h2:=h _ _ _ _ hb;cases hr;rw[c3g];omega
    .cases hr;exact h1
   .cases hr;exact h1
 .split at hr
  .rw[f2M]at hr;obtain⟨⟨a,m⟩,ha,he⟩:=hr;have h1:=h _ _ _ _ ha;cases he;rw[c4u];simp only;omega
  .exact h _ _ _ _ hr
 .unfold a5f at hr;split at hr
  .cases hr
  .rename_i a m ha;have h1:=h _ _ _ _ ha;split at hr
   .cases hr;exact h1
   .split at hr
    .cases hr;exact h1
    .rename_i b q hb;have h2:=h _ _ _ _ hb;cases hr;split<;>rw[c3g]<;>omega
 .split at hr
  .rw[f2M]at hr;obtain⟨⟨a,m⟩,ha,he⟩:=hr;have h1:=h _ _ _ _ ha;cases he;rw[c4u];simp only;omega
  .exact h _ _ _ _ hr
 .exact d0k h hr
 .rw[f2M]at hr;obtain⟨⟨a,m⟩,ha,he⟩:=hr;have h1:=h _ _ _ _ ha;have h2:=b5O (l:=l) h k l.length a m i h1;simp only at he;rw[he]at h2;exact h2
end
theorem b7F(kw:List UInt8->Bool)(l:List Tok):∀f,Nod (oG kw l f)
 |0=>λ_ _ _ _ h=>by cases h
 |f+1=>λ_ _ _ _ h=>e0J (b7F kw l f) h
end Go.Proofs.YtjpodcmhcenjjaaGreatDoor
end
section
namespace Go.Proofs.YtjpodcmhcenjjaaGreatDoor
theorem d0l(s:List UInt8):(sL s).length<=s.length:=by
 unfold sL;cases h:eT.find? λt=>t.isPrefixOf s with
 |none=>simp
 |some t=>have h1:t.isPrefixOf s=true:=List.find?_some (p:=λt:List UInt8=>t.isPrefixOf s) h;exact(List.isPrefixOf_iff_prefix.1 h1).length_le
theorem c6K(num:List UInt8->Int×Bool)(c:UInt8)(r:List UInt8):(firstT num (c::r)).2.1.length<=r.length+1:=by
 have h1:∀p:UInt8->Bool,((c::r).takeWhile p).length<=r.length+1:=λp=>(List.takeWhile_sublist p).length_le;have h2:(sL (c::r)).length<=r.length+1:=d0l (c::r)
 show(if smU c then _ else _:Int×List UInt8×Int×Bool).2.1.length<=_
 split
 .exact h1 _
 split
 .exact h1 _
 split
 .exact h1 _
 split
 .simp
 .exact h2
theorem wA(num:List UInt8->Int×Bool):∀(s:List UInt8) (k:Nat) (ln:Int) (cm:Bool) (l:List Tok),jH num s k ln cm=.ok l->1<=l.length/\l.length<=s.length+1/\txS l<=2*(s.length-k)+1
 |[],k,ln,cm,l,h=>by cases k<;>(simp[jH]at h;subst h;simp[txS])
 |c::r,k+1,ln,cm,l,h=>by rw[jH]at h;obtain⟨h1,h2,h3⟩:=wA num r k ln cm l h;simp only[List.length_cons];omega
 |c::r,0,ln,cm,l,h=>by
  rw[jH]at h;simp only[List.length_cons];split at h
  .obtain⟨h1,h2,h3⟩:=wA num r 0 (ln+1) false l h;omega
  split at h
  .obtain⟨h1,h2,h3⟩:=wA num r 0 ln cm l h;omega
  split at h
  .obtain⟨h1,h2,h3⟩:=wA num r 0 ln true l h;omega
  split at h
  .generalize hT:(firstT num (c::r)).2.1=T at h;split at h
   .rename_i l' hl';obtain⟨h1,h2,h3⟩:=wA num r (T.length-1) ln false l' hl';cases h;have hTl:T.length<=r.length+1:=by rw[<-hT];exact c6K num c r
    simp only[List.length_cons,txS];omega
   .cases h
  .cases h
end Go.Proofs.YtjpodcmhcenjjaaGreatDoor
end
section
namespace Go.Proofs.YtjpodcmhcenjjaaGreatDoor
open Go Go.VM
variable {G:GT}
theorem b3h(hG:G 1=some dK){l:List Tok}(hl:a4r l):∀f,AtC G l f/\CmC G l f/\PrC G l f
 |0=>⟨λi k _ h9 _ hi h=>by unfold mu at h;omega,λi hi h=>by unfold mu at h;omega,λi hi h=>by unfold mu at h;omega⟩
 |f+1=>by obtain⟨hA,hC,hP⟩:=b3h hG hl f;exact⟨e4t hl hA hC hP,λi hi h=>c0M hl hA i hi h,c3f hG hl hA⟩
def a2U(l:List Tok):Option (Pr×Nat):=oG aX l (mu l.length 0 1) 0 1
theorem e0K(hG:G 1=some dK){l:List Tok}(hl:a4r l):∃j,CS prog G 198 [rdD l,.int .i64 0,.int .i64 1] (dN (a2U l) j) none:=
 (b3h hG hl _).1 0 1 (by omega) (by omega) (by omega) (by omega) (f3d _)
theorem a9a{l:List Tok}{p:Pr}{n:Nat}(h:a2U l=some (p,n)):0<n/\n<=l.length:=uQ aX l _ _ _ _ _ h
def c0Q(l:List Tok):DV:=match a2U l with
 |none=>.cJ [.agg (prD ⟨0,[],0,[]⟩),.int .i64 0,.int .i64 14]
 |some (p,n)=>if b2v p=0 then .cJ [.agg (prD p),.int .i64 n,.int .i64 0] else .cJ [.agg (prD ⟨0,[],0,[]⟩),.int .i64 0,.int .i64 (b2v p)]
theorem a8e:VM.Enters prog 186:=.mk func186 rfl
theorem a9b(hG:G 1=some dK)(l:List Tok)(hl:a4r l)(hn:∀p n,a2U l=some (p,n)->cB p<=1000000):CS prog G 186 [.sl (l.map cH)] (c0Q l) none:=by
 obtain⟨j,hat⟩:=e0K hG hl;obtain⟨o,ho⟩:∃o,a2U l=o:=⟨_,rfl⟩;rw[ho]at hat hn;unfold c0Q;rw[ho];refine CS.aZ func186 rfl ntmps186 rfl ?_;simp;refine aE.mk (hkl:=bT _ _) uS hat ?_;cases o with
 |none=>simp[dN]
 |some q=>
  obtain⟨p,n⟩:=q;have hck:=b4m hG p (hn p n rfl);simp[dN];refine aE.mk b2w hck ?_;by_cases h0:b2v p=0
  .simp[h0]
  .simp[h0]
end Go.Proofs.YtjpodcmhcenjjaaGreatDoor
end
section
namespace Go.Proofs.YtjpodcmhcenjjaaGreatDoor
open Go Go.VM
variable {G:GT}
theorem d0m{s:List UInt8}{l:List Tok}(h:jH oS s 0 1 false=.ok l)(hs:s.length<=40000):a4r l/\1<=l.length:=by obtain⟨h1,h2,h3⟩:=wA oS s 0 1 false l h;exact⟨⟨by omega,by omega⟩,h1⟩
theorem c6L{l:List Tok}{p:Pr}{n:Nat}(h:a2U l=some (p,n)):cB p<=l.length:=by have h1:=b7F aX l _ _ _ _ _ h;have h2:=a9a h;omega
end Go.Proofs.YtjpodcmhcenjjaaGreatDoor
end
end
namespace Go.Proofs.YtjpodcmhcenjjaaGreatDoor
section
def rdQ(l:List Tok)(i e:Nat):kX Pr:=match a2U ((l.take e).drop (min i e))with
 |none=>.bad (aR l i).line 14
 |some (p,n)=>if b2v p=0 then .ok p (i+n) else .bad (aR l i).line (b2v p)
end
section
open Go Go.VM
variable {G:GT}
theorem b3i(a b:List Tok):txS (a++b)=txS a+txS b:=by
 induction a with
 |nil=>simp[txS]
 |cons t r ih=>simp only[List.cons_append,txS,ih];omega
theorem d0n{l:List Tok}(h:a4r l)(e k:Nat):a4r ((l.take e).drop k):=by have h1:=b3i (l.take e) (l.drop e);rw[List.take_append_drop]at h1;have h2:=b3i ((l.take e).take k) ((l.take e).drop k);rw[List.take_append_drop]at h2;refine⟨?_,by have:=h.2;omega⟩;have:=h.1;simp;omega
theorem b4A(l:List Tok):qM (c0Q l)=true:=by
 unfold c0Q;split
 .rfl
 .split<;>rfl
theorem b7G(hG:G 1=some dK){l:List Tok}(rK:a4r l)(i e:Nat)(hi:i<l.length)(he:e<=l.length):pW G 155 [.int .i64 e] l i (rdQ l i e) e0n:=by
 have hl:=rK.1;obtain⟨k,hk⟩:∃k,min i e=k:=⟨_,rfl⟩;have hke:k<=e:=by omega
 have a1X:min (i:Int) (e:Int)=(k:Int):=by omega
 obtain⟨L,hL⟩:∃L,(l.take e).drop k=L:=⟨_,rfl⟩;have e4u:a4r L:=by rw[<-hL];exact d0n rK e k
 have hrd:=a9b (G:=G) hG L e4u (λp n h=>Nat.le_trans (c6L h) (by have:=e4u.1;omega));have hLm:((l.map cH).take e).drop k=L.map cH:=by rw[<-hL,List.map_drop,List.map_take]
 rw[<-hLm]at hrd;have c9d:(if e<i then(e:Int) else(i:Int))=(k:Int):=by split<;>omega
 have ht:=cF (G:=G) l i i 0 (by omega) (by omega) (by intro e;subst e;simp at hi) (by omega);refine kZ.a5w func155 rfl ntmps155 rfl (by simp) ?_;intro Q Q0;unfold rdQ at Q0;rw[hk,hL]at Q0;refine SW.qH (SW.xk ?_);simp;refine SW.qH (SW.vk ?_);simp[a1X,hke,he,c9d,a4n];refine⟨gE.mk (by kernel_rfl),?_⟩;refine aE.mk (hkl:=b4A L) a8e hrd ?_;unfold c0Q;cases hR:a2U L with
 |none=>rw[hR]at Q0;simp;refine SW.qH (SW.qH (SW.xk ?_));simp;refine SW.a5D rfl ?_;refine SW.lw (LW.app 5 ?_);simp;refine b6W (i:=i) (ds:=[.int .i64 0]) bP ht ?_;have hb:=λs=>Q0.bad (aR l i).line 14 s rfl;simp[cH];refine LW.c2q (td:=_) (n:=(aR l i).line) (e:=14) rfl rfl (by simp) (by simp) ?_;exact hb _
 |some q=>
  obtain⟨p,n⟩:=q;have hn:=a9a hR;have hLl:L.length<=e-k:=by rw[<-hL];simp;omega
  rw[hR]at Q0;simp only at Q0|-;by_cases hc:b2v p=0
  .have Q0:=Q0.ifp hc;have hw:IntKind.i64.wrap ((i:Int)+(n:Int))=((i+n:Nat):Int):=by rw[wrap64 (by omega)];omega
   rw[if_pos hc];simp;refine SW.xk ?_;simp[hw];exact Q0.ok p (i+n) _ _ rfl (.inr rfl) (by simp)
  .have Q0:=Q0.ifn hc;rw[if_neg hc];simp;refine SW.qH (SW.qH (SW.xk ?_));simp[hc];refine SW.a5D rfl ?_;refine SW.lw (LW.app 5 ?_);simp;refine b6W (i:=i) (ds:=[.int .i64 0]) bP ht ?_;have hb:=λs=>Q0.bad (aR l i).line (b2v p) s rfl;simp[cH];refine LW.c2q (td:=_) (n:=(aR l i).line) (e:=b2v p) rfl rfl (by simp) (by simp) ?_;exact hb _
end
section
def a8f(l:List Tok):Prop:=∀t,l[l.length-1]? =some t->t.kind=0
theorem a9c{l:List Tok}(hE:a8f l){i:Nat}{t:Tok}(h:l[i]? =some t)(hk:t.kind≠0):i+1<l.length:=by
 have hi:=(f2O.1 h).1;rcases Nat.lt_or_ge (i+1) l.length with h1|h1
 .exact h1
 .have:l.length-1=i:=by omega
  exact(hk (hE t (by rw[this];exact h))).elim
theorem b0S{l:List Tok}(hE:a8f l){i:Nat}{s:List UInt8}(h:tU l i s=true):i+1<l.length:=by
 unfold tU at h;split at h
 .rename_i t ht;simp only[f2N,decide_eq_true_eq]at h;exact a9c hE ht (by omega)
 .cases h
theorem c4w{l:List Tok}(hE:a8f l){i:Nat}{k:Int}(h:kdB l i k=true)(hk:k≠0:=by omega):i+1<l.length:=by
 unfold kdB at h;split at h
 .rename_i t ht;simp only[decide_eq_true_eq]at h;exact a9c hE ht (by omega)
 .cases h
theorem b7H{l:List Tok}(hE:a8f l){i:Nat}(h:wtB l i=true):i+1<l.length:=by unfold wtB at h;rw[f2Z]at h;rcases h with h|h<;>exact c4w hE h
theorem a2z{l:List Tok}(hE:a8f l):∀(f i:Nat) (s:List UInt8),i<l.length->i<=(qJ l f i s).2/\(qJ l f i s).2<l.length
 |0,i,s,h=>⟨f3d _,h⟩
 |f+1,i,s,h=>by
  rw[qJ];split
  .rename_i h1;have:=b0S hE h1;split
   .rename_i h2;have:=b7H hE h2;have:=a2z hE (l:=l) f (i+2) (s++[46]++txA l (i+1)) (by omega);omega
   .split
    .rename_i h3;have:=c4w hE h3;split
     .rename_i h4;have:=b7H hE h4;have:=a2z hE (l:=l) f (i+3) (s++[46]++txA l (i+1)++txA l (i+2)) (by omega);omega
     .have:=a2z hE (l:=l) f (i+2) (s++[46]++txA l (i+1)) (by omega);omega
    .exact⟨f3d _,h⟩
  .exact⟨f3d _,h⟩
theorem b5P{kw:List UInt8->Bool}{l:List Tok}(hE:a8f l){i n:Nat}{s:List UInt8}(h:xX kw l i=some (s,n)):i<n/\n<l.length:=by
 unfold xX at h;split at h
 .rename_i hb;unfold c6C at hb;rw[f2N]at hb;have h1:=b7H hE hb.1;have h2:=a2z hE (l:=l) l.length (i+1) (txA l i) (by omega);rw[f2T]at h;rw[h]at h2;simp only at h2;omega
 .cases h
def c6M(l:List Tok)(rd:Nat->Nat->Option (Pr×Nat)):Prop:=∀i k p n,rd i k=some (p,n)->i<n/\n<l.length
section
variable {kw:List UInt8->Bool} {rd rd':Nat->Nat->Option (Pr×Nat)} {l:List Tok}
theorem b3j(hE:a8f l)(h:c6M l rd)(k:Nat):∀(g:Nat) (a:Pr) (n:Nat),n<l.length->n<=(eU rd l k g a n).2/\(eU rd l k g a n).2<l.length
 |0,a,n,hn=>⟨f3d _,hn⟩
 |g+1,a,n,hn=>by
  rw[eU];split
  .exact⟨f3d _,hn⟩
  .split
   .exact⟨f3d _,hn⟩
   .rename_i op _ _ b m hr;have h1:=h _ _ _ _ hr;have h2:=b3j hE h k g (tw op a b) m h1.2;omega
theorem b5Q(hE:a8f l)(h:c6M l rd):∀(g i:Nat) (acc ks:List Pr) (m:Nat),jX rd l g i acc=some (ks,m)->i<m/\m<l.length
 |0,_,_,_,_,hr=>by cases hr
 |g+1,i,acc,ks,m,hr=>by
  rw[jX]at hr;split at hr
  .cases hr
  .rename_i p n hp;have h1:=h _ _ _ _ hp;split at hr
   .rename_i hs;have:=b0S hE hs;cases hr;omega
   .split at hr
    .have:=b5Q hE h g n _ ks m hr;omega
    .cases hr
theorem b5R(hE:a8f l)(h:c6M l rd){i m:Nat}{ks:List Pr}(hr:wZ rd l i=some (ks,m)):i<m/\m<l.length:=by
 unfold wZ at hr;split at hr
 .exact b5Q hE h _ _ _ _ _ hr
 .cases hr
theorem c6N(hE:a8f l)(h:c6M l rd){i n:Nat}{p:Pr}(hr:a2T kw rd l i=some (p,n)):i<n/\n<l.length:=by
 unfold a2T at hr;split at hr
 .cases hr
 .rename_i t ht;have tT:=(f2O.1 ht).1;have hnx:∀x:Int,x≠0->t.kind=x->i+1<l.length:=λx hx hk=>a9c hE ht (by omega);split at hr
  .rename_i hk;have:=hnx 3 (by omega) hk;cases hr;omega
  split at hr
  .rename_i hk;have:=hnx 1 (by omega) hk.1;cases hr;omega
  split at hr
  .rename_i hk;have:=hnx 1 (by omega) hk.1;cases hr;omega
  split at hr
  .split at hr
   .cases hr
   .rename_i s m hn;have h1:=b5P hE hn;rw[f2M]at hr;obtain⟨⟨ks,q⟩,hq,he⟩:=hr;have h2:=b5R hE h hq;cases he;simp only at *;omega
  split at hr
  .split at hr
   .rename_i hc;have:=b0S hE hc.2.2;cases hr;omega
   .split at hr
    .cases hr
    .rename_i q m hq;have h1:=h _ _ _ _ hq;split at hr
     .rename_i hs;have:=b0S hE hs;cases hr;omega
     .cases hr
  .split at hr
   .cases hr
   .rename_i s m hn;have h1:=b5P hE hn;split at hr
    .rename_i ks q hq;have h2:=b5R hE h hq;cases hr;omega
    .cases hr;omega
theorem d5q(hE:a8f l)(h:c6M l rd){i k n:Nat}{p:Pr}(hr:atG kw rd l i k=some (p,n)):i<n/\n<l.length:=by
 unfold atG at hr;split at hr
 .unfold b7z at hr;split at hr
  .cases hr
  .rename_i a m ha;have h1:=h _ _ _ _ ha;split at hr
   .split at hr
    .rename_i b q hb;have h2:=h _ _ _ _ hb;cases hr;omega
    .cases hr;exact h1
   .cases hr;exact h1
 .split at hr
  .rw[f2M]at hr;obtain⟨⟨a,m⟩,ha,he⟩:=hr;have h1:=h _ _ _ _ ha;cases he;simp only;omega
  .exact h _ _ _ _ hr
 .unfold a5f at hr;split at hr
  .cases hr
  .rename_i a m ha;have h1:=h _ _ _ _ ha;split at hr
   .cases hr;exact h1
   .split at hr
    .cases hr;exact h1
    .rename_i b q hb;have h2:=h _ _ _ _ hb;cases hr;omega
 .split at hr
  .rw[f2M]at hr;obtain⟨⟨a,m⟩,ha,he⟩:=hr;have h1:=h _ _ _ _ ha;cases he;simp only;omega
  .exact h _ _ _ _ hr
 .exact c6N hE h hr
 .rw[f2M]at hr;obtain⟨⟨a,m⟩,ha,he⟩:=hr;have h1:=h _ _ _ _ ha;have h2:=b3j (k:=k) hE h l.length a m h1.2;have h3:(eU rd l k l.length a m).2=n:=by rw[he]
  omega
end
theorem c0R(kw:List UInt8->Bool)(l:List Tok)(hE:a8f l):∀f,c6M l (oG kw l f)
 |0=>λ_ _ _ _ h=>by cases h
 |f+1=>λ_ _ _ _ h=>d5q hE (c0R kw l hE f) h
end
section
theorem c4x{l:List Tok}(hE:a8f l)(e i:Nat)(p:Pr)(j:Nat)(hi:i<l.length)(h:rdQ l i e=.ok p j):i<=j/\j<l.length:=by
 unfold rdQ at h;split at h
 .cases h
 .rename_i q n hr;split at h
  .cases h;refine⟨by omega,?_⟩;have h1:=a9a hr;rw[List.length_drop,List.length_take]at h1;rcases Nat.lt_or_ge e l.length with he|he
   .omega
   .have a1X:min i e=i:=by omega
    rw[a1X,List.take_of_length_le he]at hr;have hS:a8f (l.drop i):=λt ht=>by rw[List.length_drop,f3g]at ht;exact hE t (by rw[show l.length-1=i+(l.length-i-1) by omega];exact ht)
    have h2:=(c0R aX (l.drop i) hS _ _ _ _ _ hr).2;rw[List.length_drop]at h2;omega
  .cases h
def cG{α:Type}(x:List Tok->bB α)(s:List UInt8):kX α:=if 40000<s.length then .bad 0 7 else match jH oS s 0 1 false with
 | .error n=>.bad n 14
 | .ok l=>match x l 0 with
  | .bad n e=>.bad n e
  | .ok a j=>match uY l j with
   | .bad n e=>.bad n e
   | .ok _ _=>.ok a j
theorem a9d{α:Type}{x:List Tok->bB α}{s:List UInt8}{a:α}{j:Nat}(h:cG x s=.ok a j): ¬40000<s.length/\∃l,jH oS s 0 1 false=.ok l/\x l 0=.ok a j/\(aR l j).kind=0:=by
 unfold cG at h;split at h
 .cases h
 .rename_i hl;split at h
  .cases h
  .rename_i l hlx;split at h
   .cases h
   .rename_i b k hx;split at h
    .cases h
    .rename_i u m he;cases h;refine⟨hl,l,hlx,hx,?_⟩;unfold uY at he;split at he
     .assumption
     .unfold dU at he;cases he
end
section
open Go Go.VM
variable {G:GT}
theorem d5r{p:Pr}(h:b2v p=0):p.op≠0:=by
 unfold b2v b7e at h;split at h
 .cases h
 split at h
 .cases h
 intro h0;have hn:b5A p=1:=by unfold b5A;rw[if_pos (by omega)]
 obtain⟨op,nm,n,ks⟩:=p;simp[a2t,a2u,hn]at h
theorem b7I{num:List UInt8->Int×Bool}{l:List Tok}{ln:Int}(h:OkT num l ln):l≠[]/\∀t,l[l.length-1]? =some t->t.kind=0:=by
 induction h with
 |fin ln l hl=>exact⟨by simp,λt ht=>by simp at ht;subst ht;rfl⟩
 |cons t r ln h1 h2 h3 ih=>refine⟨by simp,λu hu=>ih.2 u ?_⟩;have:0<r.length:=List.length_pos_iff.2 ih.1;rw[List.length_cons,Nat.add_sub_cancel]at hu;rw[show r.length=(r.length-1)+1 by omega]at hu;simpa using hu
theorem d5s{l:List Tok}{ln:Int}(h:OkT oS l ln):∀t∈l,0<=t.n/\t.n<=1000000000000:=by
 induction h with
 |fin ln l hl=>intro t ht;simp at ht;subst ht;simp
 |cons t r ln h1 h2 h3 ih=>
  intro u hu;rcases List.mem_cons.1 hu with rfl|hu
  .have hn:(firstT oS u.text).2.2.1=u.n:=by rw[h2]
   rw[<-hn];have hb:∀s,0<=(oS s).1/\(oS s).1<=1000000000000:=λs=>by
    unfold oS;split
    .simp only;omega
    .simp only;omega
   unfold firstT;split
   .simp
   .split
    .simp
    .split
     .simp
     .split
      .exact hb _
      .split<;>simp
  .exact ih u hu
theorem d0o{l:List Tok}(h:l≠[])(i:Nat):aR l i∈l:=by
 unfold aR;split
 .rename_i hi;rw[List.getD_eq_getElem?_getD,f2R hi];exact List.getElem_mem hi
 .rw[List.getLastD_eq_getLast?,List.getLast?_eq_some_getLast h];exact List.getLast_mem h
theorem a5b(hG:G 1=some dK){s:List UInt8}{l:List Tok}(h:jH oS s 0 1 false=.ok l)(hs:s.length<=40000):kU G rdQ l:=by
 have rK:=(d0m h hs).1;have hO:=a0z s 0 1 false l h;have hE:=b7I hO;refine⟨hG,rK.1,⟨hE.1,?_⟩,λi e hi he=>b7G hG rK i e hi he,λe i p j hi hx=>c4x hE.2 e i p j hi hx,λi e p j hi hx=>?_⟩
 .have a0V:0<l.length:=List.length_pos_iff.2 hE.1;have aI:l.length-1<l.length:=by omega
  refine hE.2 _ ?_;unfold aR;rw[if_pos aI,List.getD_eq_getElem?_getD,f2R aI]
  rfl
 .unfold rdQ at hx;split at hx
  .cases hx
  .rename_i q n hr;split at hx
   .rename_i hc;cases hx;have:=b7F aX _ _ _ _ _ _ hr;exact⟨by omega,d5r hc⟩
   .cases hx
theorem c6O{s:List UInt8}{l:List Tok}(h:jH oS s 0 1 false=.ok l):∀i, -9223372036854775807<=(aR l i).n/\(aR l i).n<=9223372036854775807:=λi=>by have hO:=a0z s 0 1 false l h;have:=d5s hO _ (d0o (b7I hO).1 i);omega
end
end Go.Proofs.YtjpodcmhcenjjaaGreatDoor
section
namespace Go.VM
open Go Go.RowKit
section
variable {P:Program} {G:GT} {st:St} {base:cN} {R:Nat->Nat->Prop} {μ:Nat->Nat} {a:Act} {w:World}
theorem b3k{s0:St}(K:List (Nat×Nat)){f2L:List DV}{ls:List (Option Loc)}{rest:List (TypeId×List Loc)}{args:Array Value}(jB:aK K s0 .undef s0.H=true)(kR:WkT f2L (aO K s0.tmps))(hH:WkH st.H (cI K s0.H))(kF:tH st st.own (s0.own.map (oN K ls))=some rest)(kn:xJ st.tmps.length ls s0.own=true)(hr:Rel P G base R μ st a w)(hl:args.size=f2L.length)(hv:∀(i:Nat) (d:DV),f2L[i]? =some d->TV R μ w (args.getD i undef) d)(a6a:∀(i:Nat) (l:Loc),ls[i]? =some (some l)->∀u,bZ a w μ l=some u->u=args.getD i undef):
  ∃mC:cN,(∀b,mC b->base b)/\Rel P G mC R (λk=>μ (rk K k)) s0 {tmps:=args,defers:=[]} w/\∀k o,getKey k st.H=some o->(∀p∈s0.H,k≠rk K p.1)-> ¬mC (μ k):=by
 simp only[aK,f2N,decide_eq_true_eq,f2Q]at jB;obtain⟨⟨⟨⟨⟨⟨⟨⟨kf,ks⟩,kp⟩,kt⟩,kh⟩,kl⟩,kr⟩,kd⟩,k1⟩:=jB;obtain⟨vs,pF⟩:=hr.own;obtain⟨vsT,vsR,t1,t2,t3,t4,t5,t6,t7⟩:=a3O hr _ _ _ vs ⟨pF.len,pF.one,pF.apart⟩ kF;have inK:∀k o,getKey k s0.H=some o->(K.any λp=>p.1==k)=true/\aM K o=true/\(getKey k s0.H).isSome=true:=λk o hk=>by
  have:=kh _ (gQ hk)
  try simp only[f2N]at this
  exact⟨this.1.1,this.1.2,this.2⟩
 have inst:∀k o,getKey k s0.H=some o->∃o',getKey (rk K k) st.H=some o'/\WkO o' (cQ K o):=λk o hk=>by
  have hm:=gQ hk;have:∀ {l:List (Nat×aW)},WkH st.H (cI K l)->(k,o)∈l->∃o',getKey (rk K k) st.H=some o'/\WkO o' (cQ K o):=by
   intro l
   induction l with
   |nil=>intro _ h;cases h
   |cons p l ih=>
    intro hw hp;obtain⟨h1,h2⟩:=hw;rcases List.mem_cons.1 hp with rfl|hp
    .exact h1
    .exact ih h2 hp
  exact this hH hm
 have big:∀k,(K.any λp=>p.1==k)=true->100000<=k:=λk hk=>by obtain⟨p,h1,h2,_⟩:=zF hk;rw[<-h2];exact kp p h1
 have c8A:∀k k',(K.any λp=>p.1==k)=true->(K.any λp=>p.1==k')=true->rk K k=rk K k'->k=k':=λk k' h h' he=>by
  obtain⟨p,p1,p2,p3⟩:=zF h;obtain⟨q,q1,q2,q3⟩:=zF h';have hpq:p.2=q.2:=by rw[<-p3, <- q3,he]
  have:p=q:=mP.a9K.a4G ks p1 q1 hpq;rw[<-p2, <- q2,this]
 have one:∀k,(getKey k s0.H).isSome=true->∃o,getKey k s0.H=some o:=λk hk=>by
  obtain⟨o,ho⟩:=Option.isSome_iff_exists.1 hk;have:=k1 _ (gQ ho)
  try simp only[f2N]at this
  exact Option.isSome_iff_exists.1 this.2
 let mC:cN:=⟨λb=>w.heap.size<=b\/(∃k o,getKey k s0.H=some o/\b=μ (rk K k))\/(∃v∈vsT,bF v=some b),λk=>μ (rk K k)⟩
 have sub:∀b,mC b->base b:=λb hb=>by
  rcases hb with hb|⟨k,o,hk,rfl⟩|⟨v,hv,hs⟩
  .exact hr.base b hb
  .obtain⟨o',sV,_⟩:=inst k o hk;exact(hr.gM _ o' sV).1
  .obtain⟨i,hi⟩:=f3e hv;have tT:i<(s0.own.map (oN K ls)).length:=by rw[<-t1];exact(f2O.1 hi).1
   exact(t2 i _ v (f2R tT) hi).own.a0l hs
 have a1C:Rel P G mC R (λk=>μ (rk K k)) s0 {tmps:=args,defers:=[]} w:=by
  obtain⟨g1,g2⟩:=zH kR;rw[pT]at g1 g2;refine⟨rfl,by show args.size=s0.tmps.length;rw[List.length_map]at g1;omega,λi v d hiv hid=>?_,λk o hk=>?_,λk k' o o' hk hk' he=>?_,λc hc k off hl'=>?_,⟨vsT,by simpa using t1,λi c v hc yA=>?_,t3⟩,hr.tP.up sub,hr.pE,λb hb=>.inl hb,λk hk=>rfl⟩
  .obtain⟨d0,hd0,b9q⟩:=g2 i (bD K d) (by rw[f2X,hid];rfl);have hva:=hv i d0 hd0;have hav:args.getD i undef=v:=by simp only at hiv;simp[f2P,hiv]
   rw[hav]at hva;have c8B:TV R μ w v (bD K d):=by
    rcases b9q with hc|hc|⟨hc1,hc2⟩
    .rw[hc];exact .undef _
    .rw[hc];exact hva
    .rw[hc2];rw[hc1]at hva;obtain⟨ao,rfl⟩:=hva.a6W.jM;exact .d _ _ (.emp _ _)
   exact c8B.ren (μ:=μ) (λ_ _=>rfl) (kt d (f2S hid))
  .obtain⟨q1,q2,_⟩:=inK k o hk;obtain⟨o',sV,hw⟩:=inst k o hk;obtain⟨p1,p2,p3⟩:=hr.gM _ o' sV;exact⟨.inr (.inl ⟨k,o,hk,rfl⟩),p2,(b0L hw p3).ren (λ_ _=>rfl) q2⟩
  .obtain⟨o1,h1,_⟩:=inst k o hk;obtain⟨o2,h2,_⟩:=inst k' o' hk';exact c8A k k' (inK k o hk).1 (inK k' o' hk').1 (hr.inj _ _ o1 o2 h1 h2 he)
  .have:=f2Q.1 (f2Q.1 kl c hc) _ hl';exact Option.isSome_iff_exists.1 this
  .have ho:=t2 i (oN K ls c) v (by rw[f2X,hc];rfl) yA;refine⟨λl hl' u hu=>?_,?_,λk o hk=>?_⟩
   .have hn:=f2Q.1 (f2Q.1 kn c (f2S hc)) l hl';cases l with
    |t j=>
     simp only at hn;split at hn
     .rename_i t hj;simp only[decide_eq_true_eq]at hn;have ht:t<a.tmps.size:=by rw[hr.size];exact hn
      have hlv:bZ a w μ (.t t)=some a.tmps[t]:=by simp[bZ,ht]
      have h1:=a6a j _ hj _ hlv;have h2:=ho.dF (.t t) (List.mem_filterMap.2 ⟨.t j,hl',by simp[b1J,hj]⟩) _ hlv;simp only[bZ]at hu;have h3:args.getD j undef=u:=by simp[f2P,hu]
      rw[<-h3, <- h1,h2]
     .cases hn
    |c k off=>exact ho.dF (.c (rk K k) off) (List.mem_filterMap.2 ⟨.c k off,hl',rfl⟩) u hu
   .rcases ho.own with h|⟨g,n,cap,cur,h0,h1,h2,h3,h4⟩
    .exact .inl h
    .by_cases xZ:cap=0
     .subst xZ;have:n=0:=by omega
      subst this;exact .inl ⟨_,h0⟩
     .exact .inr ⟨g,n,cap,cur,h0,.inr (.inr ⟨v,f2S yA,by rw[h0];simp[bF,xZ]⟩),h2,h3,h4⟩
   .obtain⟨o',sV,_⟩:=inst k o hk;exact ho.keys _ o' sV
 refine⟨mC,sub,a1C,λk o ho hk hb=>?_⟩;rcases hb with hb|⟨k0,o0,h0,he'⟩|⟨u,hu,hsp⟩
 .have:=(hr.gM k o ho).2.2.lt;omega
 .obtain⟨o',sV,_⟩:=inst k0 o0 h0;have:=hr.inj k (rk K k0) o o' ho sV he';exact hk (k0,o0) (gQ h0) this
 .obtain⟨i,hi⟩:=f3e hu;have tT:i<(s0.own.map (oN K ls)).length:=by rw[<-t1];exact(f2O.1 hi).1
  exact(t2 i _ u (f2R tT) hi).keys k o ho hsp
def CHd(P:Program)(G:GT)(f:FuncId)(s0:St)(r:DV):Prop:=
 ∀(base:cN) (R:Nat->Nat->Prop) (μ:Nat->Nat) (args:Array Value) (w:World),Rel P G base R μ s0 {tmps:=args,defers:=[]} w->
  Calls P f args w λe w'=>∃v R',e=.returned v/\(∀μ',TV R' μ' w' v r)/\Step base R w R' w'/\∀b o,R' b o->b<w'.heap.size
theorem mP.e0L{f:FuncId}{s0:St}{r:DV}(hch:CHd P G f s0 r)(K:List (Nat×Nat)){f2L:List DV}{ls:List (Option Loc)}{dst:Option Tmp}{rest:List (TypeId×List Loc)}(H':List (Nat×aW))(jB:aK K s0 .undef s0.H=true)(kR:WkT f2L (aO K s0.tmps))(hH:WkH st.H (cI K s0.H))(kF:tH st st.own (s0.own.map (oN K ls))=some rest)(kn:xJ st.tmps.length ls s0.own=true)(hK:∀k o,getKey k H'=some o->getKey k st.H=some o/\∀p∈s0.H,k≠rk K p.1):
  mP P G f f2L ls st dst ⟨mG dst r st.tmps,H',[]⟩:=by
 intro base R μ a w args hr hl hv a6a;obtain⟨mC,sub,a1C,rN⟩:=b3k K jB kR hH kF kn hr hl hv a6a;refine(hch mC R _ args w a1C).mono λe w' ⟨v,R',he,kC,hs,hb⟩=>⟨v,R',μ,he,?_,⟨hs.below.mono sub,hs.mono,λb o h1 h2=>sub b (hs.new b o h1 h2),hs.cells⟩⟩;have hsb:Step base R w R' w':=⟨hs.below.mono sub,hs.mono,λb o h1 h2=>sub b (hs.new b o h1 h2),hs.cells⟩;have kept:∀b, ¬mC b->w'.heap[b]? =w.heap[b]? /\∀off,R' b off->R b off:=λb hb=>⟨hs.below.block b hb,λoff h=>by
  by_cases hx:R b off
  .exact hx
  .exact absurd (hs.new b off h hx) hb⟩
 refine⟨by cases dst<;>exact hr.defers,?_,λi u d hu hd=>?_,λk o hk=>?_,λk k' o o' hk hk' he'=>?_,(λc hc=>by cases hc),⟨[],rfl,λi c v h _=>by simp at h,.nil⟩,hr.tP.bK hsb,hb,λb hb=>hr.base b (Nat.le_trans hs.below.size hb),hr.pass⟩
 .cases dst with
  |none=>exact hr.size
  |some t=>simp[mG,Act.put,hr.size]
 .cases dst with
  |none=>exact(hr.tmps i u d hu hd).bK hsb
  |some t=>
   simp only[mG,Act.put]at hu hd;by_cases hti:t=i
   .subst hti;have h1:t<st.tmps.length:=by
     by_cases aI:t<st.tmps.length
     .exact aI
     .have sI:(st.tmps.set t r)[t]? =none:=List.getElem?_eq_none (by rw[List.length_set];exact Nat.le_of_not_lt aI);rw[sI]at hd;cases hd
    have h2:t<a.tmps.size:=by rw[hr.size];exact h1
    simp[h1]at hd;simp[h2]at hu;subst hu hd;exact kC μ
   .rw[Array.getElem?_setIfInBounds_ne hti]at hu;rw[List.getElem?_set_ne hti]at hd;exact(hr.tmps i u d hu hd).bK hsb
 .obtain⟨xF,hk1⟩:=hK k o hk;obtain⟨p1,p2,p3⟩:=hr.gM k o xF;obtain⟨e1,e2⟩:=kept _ (rN k o xF hk1);exact⟨p1,λoff h=>p2 off (e2 off h),p3.bK hsb e1⟩
 .exact hr.inj k k' o o' (hK k o hk).1 (hK k' o' hk').1 he'
theorem a7E.b6e{f:FuncId}{s0:St}{v:Value}(hch:CPn P G f s0 v)(K:List (Nat×Nat)){f2L:List DV}{ls:List (Option Loc)}{rest:List (TypeId×List Loc)}(H':List (Nat×aW))(jB:aK K s0 .undef s0.H=true)(kR:WkT f2L (aO K s0.tmps))(hH:WkH st.H (cI K s0.H))(kF:tH st st.own (s0.own.map (oN K ls))=some rest)(kn:xJ st.tmps.length ls s0.own=true)(hK:∀k o,getKey k H'=some o->getKey k st.H=some o/\∀p∈s0.H,k≠rk K p.1){args:Array Value}(hr:Rel P G base R μ st a w)(hl:args.size=f2L.length)(hv:∀(i:Nat) (d:DV),f2L[i]? =some d->TV R μ w (args.getD i undef) d)(a6a:∀(i:Nat) (l:Loc),ls[i]? =some (some l)->∀u,bZ a w μ l=some u->u=args.getD i undef):
  Calls P f args w λe w'=>∃R',e=.panicked (yI v)/\Rel P G base R' μ ⟨st.tmps,H',[]⟩ a w'/\Step base R w R' w':=by
 obtain⟨mC,sub,a1C,rN⟩:=b3k K jB kR hH kF kn hr hl hv a6a;refine(hch mC R _ args w a1C).mono λe w' ⟨R',he,hs,hb⟩=>⟨R',he,?_,⟨hs.below.mono sub,hs.mono,λb o h1 h2=>sub b (hs.new b o h1 h2),hs.cells⟩⟩;have hsb:Step base R w R' w':=⟨hs.below.mono sub,hs.mono,λb o h1 h2=>sub b (hs.new b o h1 h2),hs.cells⟩;have kept:∀b, ¬mC b->w'.heap[b]? =w.heap[b]? /\∀off,R' b off->R b off:=λb hb=>⟨hs.below.block b hb,λoff h=>by
  by_cases hx:R b off
  .exact hx
  .exact absurd (hs.new b off h hx) hb⟩
 refine⟨hr.defers,hr.size,λi u d hu hd=>(hr.tmps i u d hu hd).bK hsb,λk o hk=>?_,λk k' o o' hk hk' he'=>?_,(λc hc=>by cases hc),⟨[],rfl,λi c v h _=>by simp at h,.nil⟩,hr.tP.bK hsb,hb,λb hb=>hr.base b (Nat.le_trans hs.below.size hb),hr.pass⟩
 .obtain⟨xF,hk1⟩:=hK k o hk;obtain⟨p1,p2,p3⟩:=hr.gM k o xF;obtain⟨e1,e2⟩:=kept _ (rN k o xF hk1);exact⟨p1,λoff h=>p2 off (e2 off h),p3.bK hsb e1⟩
 .exact hr.inj k k' o o' (hK k o hk).1 (hK k' o' hk').1 he'
end
end Go.VM
end
section
namespace Go.VM
open Go Go.RowKit
section
variable {P:Program} {G:GT} {st:St} {base:cN} {R:Nat->Nat->Prop} {μ:Nat->Nat} {a:Act} {w:World}
theorem put_defers(a:Act)(ds:List Deferred)(dst:Option Tmp)(v:Value):({a with defers:=ds}:Act).put dst v={a.put dst v with defers:=ds}:=by cases dst<;>rfl
theorem e4v{o:Oper}{ds:List Deferred}{K K':Act->World->Prop}{Q Q':Exit->Act->World->Prop}(ha:a.defers=[])(h:o.wp P a w K Q)(hK0:∀a' w',K a' w'->a'.defers=[])(hK:∀a' w',K a' w'->K' {a' with defers:=ds} w')(hQ:∀e a' w',Q e a' w'->Q' e {a' with defers:=ds} w'):o.wp P {a with defers:=ds} w K' Q':=by
 unfold Oper.wp at h|-;have he:execOp ({a with defers:=ds}:Act).eval o=execOp a.eval o:=rfl;rw[he];generalize (execOp a.eval o).run P w=r at h|-;unfold Oper.upon at h|-;split at h
 .rw[put_defers];exact hK _ _ h
 .rw[put_defers];exact hK _ _ h
 .rename_i d w';have:=hK0 _ _ h;rw[put_defers]at this;simp at this
 .refine h.mono λe w' hx=>?_;cases e with
  |returned v=>simp only at hx|-;rw[put_defers];exact hK _ _ hx
  |panicked chain=>exact hQ _ _ _ hx
  |outgrown=>obtain⟨a0,w0,h0⟩:=hx;exact⟨_,_,hQ _ _ _ h0⟩
 .refine h.mono λv w' hx=>?_;rw[put_defers];exact hK _ _ hx
 .exact hQ _ _ _ h
 .exact h.elim
def c6P(P:Program)(G:GT)(all:Array Oper)(Q:Exit->St->Prop):List Oper->St->Prop
 |[],st=>Q .normal st
 |o::rest,st=>a4q P G all o st (c6P P G all Q rest) Q
theorem b7J{all:Array Oper}{Q:Exit->St->Prop}(ds:List Deferred):∀(l:List Oper) (st:St),c6P P G all Q l st->∀(base:cN) (R:Nat->Nat->Prop) (μ:Nat->Nat) (a:Act) (w:World),Rel P G base R μ st a w->
  ∀QQ:Exit->Act->World->Prop,(∀e s a' w' R' μ',Q e s->Rel P G base R' μ' s a' w'->Step base R w R' w'->QQ e {a' with defers:=ds} w')->wpList P all QQ l {a with defers:=ds} w
 |[],st,h,base,R,μ,a,w,hr,QQ,hk=>hk _ st a w R μ h hr (.refl _ _ _)
 |o::rest,st,h,base,R,μ,a,w,hr,QQ,hk=>by
  have h1:=c0v (KK:=λa' w'=>a'.defers=[]/\wpList P all QQ rest {a' with defers:=ds} w') (QQ:=λe a' w'=>QQ e {a' with defers:=ds} w') (show a4q P G all o st (c6P P G all Q rest) Q from h) hr (λs v w' R' μ' p1 p2 p3=>⟨p2.defers,b7J ds rest s p1 base R' μ' _ w' p2 QQ λe s a' w2 R2 μ2 q1 q2 q3=>hk e s a' w2 R2 μ2 q1 q2 (p3.trans q3)⟩) λc s w' R' μ' p1 p2 p3=>hk _ s a w' R' μ' p1 p2 p3;unfold wpList;by_cases hw:Region.wanted o (yielded all a.tmps)=true
  .rw[if_pos hw]at h1;rw[if_pos (show Region.wanted o (yielded all ({a with defers:=ds}:Act).tmps)=true from hw)];rcases h1 with h1|⟨h1,a0,w0,h2⟩
   .exact .inl (e4v hr.defers h1 (λ_ _ h=>h.1) (λ_ _ h=>h.2) λ_ _ _ h=>h)
   .exact .inr ⟨h1,_,_,h2⟩
  .rw[if_neg hw]at h1;rw[if_neg (show ¬Region.wanted o (yielded all ({a with defers:=ds}:Act).tmps)=true from hw),put_defers];exact h1.2
def DW(P:Program)(G:GT)(ds:List Deferred)(c:Code)(st:St)(Q:Exit->St->Prop):Prop:=
 ∀(base:cN) (R:Nat->Nat->Prop) (μ:Nat->Nat) (a:Act) (w:World),Rel P G base R μ st a w->c.wp P (λe a' w'=>∃a0 s R' μ',a'={a0 with defers:=ds}/\Q e s/\Rel P G base R' μ' s a0 w'/\Step base R w R' w') {a with defers:=ds} w
theorem DW.region{ds:List Deferred}{id:Nat}{ops:Array Oper}{Q:Exit->St->Prop}(h:c6P P G ops Q ops.toList st):DW P G ds (.region id ops false) st Q:=λbase R μ a w hr=>wp_region_list (b7J ds ops.toList st h base R μ a w hr _ λe s a' w' R' μ' q1 q2 q3=>⟨a',s,R',μ',rfl,q1,q2,q3⟩)
theorem DW.seq{ds:List Deferred}{x y:Code}{Q:Exit->St->Prop}(h:DW P G ds x st λe s=>match e with
  | .normal=>DW P G ds y s Q
  |e=>Q e s):DW P G ds (.seq x y) st Q:=λbase R μ a w hr=>
 wp_seq (wp_mono (h base R μ a w hr) λe a1 w1 ⟨a0,s,R1,μ1,q0,q1,q2,q3⟩=>by
  cases e with
  |normal=>subst q0;exact wp_mono (q1 base R1 μ1 a0 w1 q2) λe2 a2 w2 ⟨a3,s2,R2,μ2,p0,p1,p2,p3⟩=>⟨a3,s2,R2,μ2,p0,p1,p2,q3.trans p3⟩
  |_=>exact⟨a0,s,R1,μ1,q0,q1,q2,q3⟩)
theorem DW.ret{ds:List Deferred}{Q:Exit->St->Prop}(h:Q .ret st):DW P G ds .ret st Q:=λbase R μ a w hr=>wp_ret ⟨a,st,R,μ,rfl,h,hr,.refl _ _ _⟩
attribute [simp] c6P
end
end Go.VM
end
namespace Go.Proofs.YtjpodcmhcenjjaaGreatDoor
section
open Go Go.VM
theorem d0p(p q:Addr)(w:World):
  CallsD prog 65 #[.pointer (some p),.pointer (some q)] .returning w λe u' w'=>e=.returned (.tuple #[])/\u'=.returning/\w'=w:=by
 refine callsD_of_wpS func65 rfl λc₀ cs hu=>?_;apply wpS_seq;apply wpS_region;simp[wpOpsS,go_sem,recoverD,hu,ntmps65,Exit.thenS];apply wpS_seq;apply wpS_region;simp[wpOpsS,go_sem,recoverD,hu,ntmps65,Exit.thenS];refine wpS_cond (t:=false) (by simp[Act.eval,Array.replicate]) ?_;simp only[Bool.false_eq_true,if_false];refine wpS_of_wp (wp_skip ?_);cases c₀
 simp_all [bodyPostS,results]
theorem e0M{P:Program}{T xT:TypeId}(hu:(P.underlying T).map (λtd=>match td with| .interface _=>false|_=>true)=some true)(v:Value)(w:World):(Instr.typeAssert (.iface T v) xT T true).run P w=.ok (.tuple #[v,.bool true]) w:=by obtain⟨td,h1,h2⟩:=f2M.1 hu;unfold Instr.typeAssert;rw[Sem.run_bind,run_underlying h1];simp only[Result.andThen_ok];cases td<;>first|(simp at h2;done)|(simp only[if_true,go_sem];done)|(simp[go_sem,Result.andThen];done)
variable {G:GT}
theorem c0S{P:Program}{id:Nat}{ops:Array Oper}{D:Code}{QQ:Exit->Act->World->Prop}{a:Act}{w:World}{base:cN}{R:Nat->Nat->Prop}(Qf:Exit->St->Prop)(hk:∀e s a' w' R' μ',Qf e s->Rel P G base R' μ' s a' w'->Step base R w R' w'->QQ e a' w')(h:∀QL:Exit->Act->World->Prop,(∀s a' w' R' μ',SW P G D s Qf->Rel P G base R' μ' s a' w'->Step base R w R' w'->QL .normal a' w')->wpList P ops QL ops.toList a w):(Code.seq (.region id ops false) D).wp P QQ a w:=
 wp_seq (wp_region_list (h _ λs a' w' R' μ' hD hr hs=>wp_mono (hD base R' μ' a' w' hr) λe a2 w2 ⟨s2,R2,μ2,q1,q2,q3⟩=>hk e s2 a2 w2 R2 μ2 q1 q2 (hs.trans q3)))
theorem LW.next{P:Program}{all:Array Oper}{l:List Oper}{st:St}{D:Code}{Qf:Exit->St->Prop}{base:cN}{R:Nat->Nat->Prop}{μ:Nat->Nat}{a:Act}{w:World}{QL:Exit->Act->World->Prop}(hQL:∀s a' w' R' μ',SW P G D s Qf->Rel P G base R' μ' s a' w'->Step base R w R' w'->QL .normal a' w')(hr:Rel P G base R μ st a w)(h:LW P G all l st λe s=>e=.normal/\SW P G D s Qf):wpList P all QL l a w:=by unfold LW at h;exact h base R μ a w hr QL λe s a' w' R' μ' hq eK hs=>by obtain⟨rfl,hq⟩:=hq;exact hQL s a' w' R' μ' hq eK hs
def e4w:OT:=(.op 0 (.op 1 (.op 2 (.op 3 (.op 4 (.op 5 .stop .none) .none) (.op 4 (.op 3 (.op 5 .stop .none) .none) .none)) (.op 4 (.op 2 (.op 3 (.op 5 .stop .none) .none) .none) .none)) (.op 2 (.op 1 (.op 3 (.op 4 (.op 5 .stop .none) .none) (.op 4 (.op 3 (.op 5 .stop .none) .none) .none)) (.op 3 (.op 1 (.op 4 (.op 5 .stop .none) .none) .none) .none)) .none)) (.op 2 (.op 0 (.op 1 (.op 3 (.op 4 (.op 5 .stop .none) .none) (.op 4 (.op 3 (.op 5 .stop .none) .none) .none)) (.op 3 (.op 1 (.op 4 (.op 5 .stop .none) .none) .none) .none)) (.op 3 (.op 0 (.op 1 (.op 4 (.op 5 .stop .none) .none) .none) .none) .none)) .none))
abbrev d0q(x y:Int):List (Nat×aW):=[(100000,.cells [.d (.int .i64 x)]),(100001,.cells [.d (.int .i64 y)])]
theorem d5t{base:cN}{R:Nat->Nat->Prop}{μ:Nat->Nat}{args:Array Value}{w:World}{x y:Int}(n e:Int)(hr:Rel prog G base R μ ⟨[.ptr 100000 0,.ptr 100001 0],d0q x y,[]⟩ {tmps:=args,defers:=[]} w):
  CallsD prog 65 args (.panicking (yI (oA n e))) w λe' u' w'=>e'=.returned (.tuple #[])/\u'=.panicking [{v:=oA n e,recovered:=true}]/\∃R' μ' a',Rel prog G base R' μ' ⟨List.replicate 20 .undef,d0q n e,[]⟩ a' w'/\Step base R w R' w':=by
 have hU:args.size=2:=hr.size;obtain⟨v0,v1,rfl⟩:∃v0 v1,args=#[v0,v1]:=by
  obtain⟨l⟩:=args
  match l,hU with
  |[a,b],_=>exact⟨a,b,rfl⟩
 refine callsD_of_wpS func65 rfl λc₀ cs hu=>?_;apply wpS_seq;apply wpS_region;simp[wpOpsS,go_sem,recoverD,hu,ntmps65,Exit.thenS];apply wpS_seq;apply wpS_region;simp[wpOpsS,go_sem,recoverD,hu,ntmps65,Exit.thenS];refine wpS_cond (t:=true) (by simp[Act.eval,Array.replicate]) ?_;simp only[if_true];refine wpS_of_wp ?_;have hr1:Rel prog G base R μ ⟨.ptr 100000 0::.ptr 100001 0::List.replicate 18 .undef,d0q x y,[]⟩ {tmps:=#[v0,v1,oA n e,undef,undef,oA n e,oA n e,.bool true,undef,undef,undef,undef,undef,undef,undef,undef,undef,undef,undef,undef],defers:=[]} w:=by
  refine⟨rfl,rfl,λi v d hv hd=>?_,hr.gM,hr.inj,hr.dF,⟨[],rfl,λi c v h _=>by simp at h,.nil⟩,hr.tP,hr.pE,hr.base,hr.pass⟩
  match i,hv,hd with
  |0,hv,hd=>exact hr.tmps 0 v d (by simpa using hv) (by simpa using hd)
  |1,hv,hd=>exact hr.tmps 1 v d (by simpa using hv) (by simpa using hd)
  |i+2,hv,hd=>
   simp only[List.getElem?_cons_succ,List.getElem?_replicate]at hd;split at hd
   .simp at hd;subst hd;exact .undef _
   .cases hd
 have hta:=λ(v:Value) (w:World)=>e0M (P:=prog) (T:=127) (xT:=20) (by kernel_rfl) v w
 show Code.wp prog _ _ {tmps:=#[v0,v1,oA n e,undef,undef,oA n e,oA n e,.bool true,undef,undef,undef,undef,undef,undef,undef,undef,undef,undef,undef,undef],defers:=[]} w
 generalize ha1:({tmps:=#[v0,v1,oA n e,undef,undef,oA n e,oA n e,.bool true,undef,undef,undef,undef,undef,undef,undef,undef,undef,undef,undef,undef],defers:=[]}:Act)=a1 at hr1|-;have h2:a1.eval (.tmp 2)=oA n e:=by rw[<-ha1];rfl
 have hz:a1.tmps.size=20:=by rw[<-ha1];rfl
 refine c0S (G:=G) (base:=base) (R:=R) (λe' s=>e'=.normal/\yF s ⟨List.replicate 20 .undef,d0q n e,[]⟩) (λe2 s2 a2 w2 R2 μ2 hq q2 q3=>?_) λQL hQL=>?_
 .obtain⟨he,hw⟩:=hq;subst he;exact⟨q2.defers,_,rfl,.tuple #[],by simp[results],rfl,rfl,R2,⟨μ2,a2,q2.a0X hw⟩,q3⟩
 have hr2:=hr1.put (dst:=some 9) (v:=oA n e) (dv:=.undef) (act:=.no) (.undef _) trivial;refine pQ (w':=w) (v:=oA n e) rfl (.inl (by show(pure (Next.value (a1.eval (.tmp 2))):Sem Next).run _ w=_;rw[h2];rfl)) rfl ?_;have h9:(a1.put (some 9) (oA n e)).eval (.tmp 9)=oA n e:=dB _ _ (by omega);have hr3:=hr2.put (dst:=some 10) (v:=.tuple #[.agg #[.int .i64 n,.int .i64 e],.bool true]) (dv:=.cJ [.agg [.int .i64 n,.int .i64 e],.bool true]) (act:=.no) (.cJ _ _ rfl (λi d hd=>by
  match i,hd with
  |0,hd=>
   simp at hd;subst hd;refine .agg _ _ rfl (λi d hd=>?_) (λi d hd=>?_)
   .match i,hd with
    |0,hd=>simp at hd;subst hd;rfl
    |1,hd=>simp at hd;subst hd;rfl
   .match i,hd with
    |0,hd=>simp at hd;subst hd;exact .int _ _
    |1,hd=>simp at hd;subst hd;exact .int _ _
  |1,hd=>simp at hd;subst hd;exact .bool _)) trivial
 refine pQ (w':=w) (v:=.tuple #[.agg #[.int .i64 n,.int .i64 e],.bool true]) rfl (.inl ?_) rfl ?_
 .show(Instr.typeAssert ((a1.put (some 9) (oA n e)).eval (.tmp 9)) _ _ true >>=λs=>pure (Next.value s):Sem Next).run _ w=_
  rw[h9,Sem.run_bind,hta]
  rfl
 refine LW.next hQL hr3 (LW.vk ?_);simp;refine SW.qH (SW.xk ?_);simp;refine b5H e4w (by kernel_rfl) (by kernel_rfl) ?_;simp[e4w]
end
section
open Go Go.VM
variable {G:GT}
theorem jR:VM.Enters prog 32:=.mk func32 rfl
theorem Rel.frame{P:Program}{base:cN}{R:Nat->Nat->Prop}{μ:Nat->Nat}{args:Array Value}{w:World}{fn:Func}{n:Nat}{s0:St}(hn:fn.ntmps=n)(hT:(s0.own.all λc=>c.2.all λl=>match l with| .t i=>decide (i<s0.tmps.length)|_=>true)=true)(hr:Rel P G base R μ s0 {tmps:=args,defers:=[]} w):
  Rel P G base R μ ⟨s0.tmps++List.replicate (n-s0.tmps.length) (.cJ []),s0.H,s0.own⟩ {tmps:=args++Array.replicate (fn.ntmps-args.size) undef,defers:=[]} w:=by
 have hU:args.size=s0.tmps.length:=hr.size;refine⟨rfl,by simp[hU,hn],λi v d hiv hid=>?_,hr.gM,hr.inj,hr.dF,?_,hr.tP,hr.pE,hr.base,hr.pass⟩
 .simp only at hid;by_cases hi:i<s0.tmps.length
  .rw[f2Y hi]at hid;rw[Array.getElem?_append_left (by omega)]at hiv;exact hr.tmps i v d hiv hid
  .rw[f2V (by omega),List.getElem?_replicate]at hid;split at hid<;>simp at hid;subst hid;rw[Array.getElem?_append_right (by omega),Array.getElem?_replicate]at hiv;split at hiv<;>simp at hiv;subst hiv;exact .cJ #[] [] rfl (by simp)
 .obtain⟨vs,hl,h1,xE⟩:=hr.own;refine⟨vs,hl,λi c v hc hv=>?_,xE⟩;have ho:=h1 i c v hc hv;refine⟨λl hl u hu=>?_,ho.own,ho.keys⟩;cases l with
  |t j=>have hj:=f2Q.1 (f2Q.1 hT c (f2S hc)) _ hl;simp only[decide_eq_true_eq]at hj;simp only[bZ]at hu;rw[Array.getElem?_append_left (by omega)]at hu;exact ho.dF _ hl u hu
  |c k off=>exact ho.dF _ hl u hu
theorem SW.wps{P:Program}{x y:Code}{st:St}{T:Exit->St->Prop}{QQ:Exit->Act->World->Prop}{base:cN}{R:Nat->Nat->Prop}{μ:Nat->Nat}{a:Act}{w:World}(h:SW P G x st T)(hr:Rel P G base R μ st a w)(hn:∀s R' μ' a' w',T .normal s->Rel P G base R' μ' s a' w'->Step base R w R' w'->y.wp P QQ a' w')(hq:∀e s R' μ' a' w',e≠ .normal->T e s->Rel P G base R' μ' s a' w'->Step base R w R' w'->QQ e a' w'):(Code.seq x y).wp P QQ a w:=
 wp_seq (wp_mono (h base R μ a w hr) λe a' w' ⟨s,R',μ',q1,q2,q3⟩=>by
  cases e with
  |normal=>exact hn s R' μ' a' w' q1 q2 q3
  |_=>exact hq _ s R' μ' a' w' (by simp) q1 q2 q3)
theorem SW.d5u{P:Program}{r0 r1 rc rest:Code}{st:St}{T:Exit->St->Prop}{QQ:Exit->Act->World->Prop}{base:cN}{R:Nat->Nat->Prop}{μ:Nat->Nat}{a:Act}{w:World}(h:SW P G r0 st λe s=>e=.normal/\SW P G r1 s λe s=>e=.normal/\SW P G rc s T)(hr:Rel P G base R μ st a w)(hn:∀s R' μ' a' w',T .normal s->Rel P G base R' μ' s a' w'->Step base R w R' w'->rest.wp P QQ a' w')(hq:∀e s R' μ' a' w',e≠ .normal->T e s->Rel P G base R' μ' s a' w'->Step base R w R' w'->QQ e a' w'):(Code.seq r0 (.seq r1 (.seq rc rest))).wp P QQ a w:=
 SW.wps h hr (λs R1 μ1 a1 w1 q1 q2 q3=>SW.wps q1.2 q2 (λs R2 μ2 a2 w2 p1 p2 p3=>SW.wps p1.2 p2 (λs R3 μ3 a3 w3 k1 k2 k3=>hn s R3 μ3 a3 w3 k1 k2 ((q3.trans p3).trans k3)) λe s R3 μ3 a3 w3 k0 k1 k2 k3=>hq e s R3 μ3 a3 w3 k0 k1 k2 ((q3.trans p3).trans k3)) λe s R2 μ2 a2 w2 p0 p1 p2 p3=>(p0 p1.1).elim) λe s R1 μ1 a1 w1 q0 q1 q2 q3=>(q0 q1.1).elim
theorem TV.c4y{R:Nat->Nat->Prop}{μ μ':Nat->Nat}{w:World}{v:Value}{ds:List D}(h:TV R μ w v (.cJ ds)):TV R μ' w v (.cJ ds):=by
 cases h with
 |cJ vs ds h1 h2=>exact .cJ _ _ h1 h2
theorem b3l(cs:List DV)(F:FuncId)(s:List UInt8)(n e:Int)(he:e≠0)(hlx:CS prog G 64 [.str s] (.cJ [.aJ,.int .i64 n,.int .i64 e]) none):
  CHd prog G 32 ⟨[.d (.str s),.clo F [.ptr 100001 0]],[(100001,.cells cs)],[]⟩ (.cJ [.int .i64 n,.int .i64 e]):=by
 intro base R μ args w hr;refine calls_of_wp_defers func32 rfl ?_;have hr0:=Rel.frame ntmps32 rfl hr;refine SW.d5u (T:=λe' s'=>e'=.ret/\a0x prog s' [.cell 4 3,.cell 5 31]=some (.cJ [.int .i64 n,.int .i64 e])) ?h hr0 (λs' R' μ' a' w' q1 q2 q3=>by cases q1.1) (λe' s' R' μ' a' w' q0 q1 q2 q3=>?_)
 case h=>refine SW.xk ?_;simp;refine SW.xk ?_;simp;refine jC.mk uO hlx ?_;simp;refine SW.xk ?_;simp[he]
 .obtain⟨rfl,kC⟩:=q1;obtain⟨v,hv1,hv2⟩:=zL (fn:=f32) q2 kC
  show Leaves _ _ _ _ a'.defers _ _
  rw[q2.defers];exact⟨v,hv1,v,R',rfl,λμ'=>TV.c4y hv2,q3,q2.pE⟩
abbrev b3m(s:List UInt8)(F:FuncId)(l:List Tok)(H:List (Nat×aW)):St:=⟨[.d (.str s),.clo F [.ptr 100001 0],.undef,.undef,.ptr 4 0,.ptr 5 0,.d (.sl (l.map cH))]++List.replicate 21 .undef,(4,.cells [.d (.int .i64 0)])::(5,.cells [.d (.int .i64 0)])::H,[]⟩
abbrev c6Q(p q:Value):Deferred:={target:=.fn (.func 65) #[p,q],args:=#[]}
theorem a6L{base:cN}{R:Nat->Nat->Prop}{μ:Nat->Nat}{s:List UInt8}{F:FuncId}{l:List Tok}{H:List (Nat×aW)}{a:Act}{w:World}{QQ:Exit->Act->World->Prop}{id:Nat}{all:Array Oper}{y0 y1:TypeId}{p0 p1:String}{f0 f1:Array Edge}{rest:Code}(cY:all=#[⟨some 19,.makeFunc (.func 65) #[] #[.tmp 4,.tmp 5],y0,p0,f0,none⟩,⟨none,.defer {callee:=.value (.tmp 19),args:=#[],argTypes:=#[]},y1,p1,f1,none⟩])(hr:Rel prog G base R μ (b3m s F l H) a w)(h:∀a1,Rel prog G base R μ (b3m s F l H) a1 w->rest.wp prog QQ {a1 with defers:=[c6Q (.pointer (some ⟨μ 4,0,none⟩)) (.pointer (some ⟨μ 5,0,none⟩))]} w):(Code.seq (.region id all false) rest).wp prog QQ a w:=by
 subst cY;have h4:a.eval (.tmp 4)=.pointer (some ⟨μ 4,0,none⟩):=hr.dA rfl;have h5:a.eval (.tmp 5)=.pointer (some ⟨μ 5,0,none⟩):=hr.dA rfl;have hz:a.tmps.size=28:=hr.size;refine wp_seq (wp_region_list ?_);generalize hfv:(Value.func (.func 65) #[] #[.pointer (some ⟨μ 4,0,none⟩),.pointer (some ⟨μ 5,0,none⟩)])=fv;have hr2:=hr.put (dst:=some 19) (v:=fv) (dv:=.undef) (act:=.no) (.undef _) trivial;refine pQ (w':=w) (v:=fv) rfl (.inl ?_) rfl ?_
 .rw[<-hfv, <- h4, <- h5]
  show(Instr.makeFunc (.func 65) (#[].map a.eval) (#[.tmp 4,.tmp 5].map a.eval) >>=λx=>pure (Next.value x):Sem Next).run _ w=_
  simp[Instr.makeFunc,go_sem]
 have h19:(a.put (some 19) fv).eval (.tmp 19)=fv:=dB _ _ (by omega);have hw:∀(o:Oper) y,o.guard=none->Region.wanted o y=true:=λo y hg=>by unfold Region.wanted;rw[hg]
 unfold wpList;rw[if_pos (hw _ _ rfl)];left;unfold Oper.wp;have e2:(execOp (a.put (some 19) fv).eval ⟨none,.defer {callee:=.value (.tmp 19),args:=#[],argTypes:=#[]},y1,p1,f1,none⟩).run prog w=.ok (.defer (c6Q (.pointer (some ⟨μ 4,0,none⟩)) (.pointer (some ⟨μ 5,0,none⟩)))) w:=by
  show((Deferred.ofValue ((a.put (some 19) fv).eval (.tmp 19)) (#[].map (a.put (some 19) fv).eval) >>=λd=>pure (Next.defer d)):Sem Next).run _ w=_
  rw[h19, <- hfv,Sem.run_bind];simp[Deferred.ofValue,go_sem]
 rw[e2];have hd:(a.put (some 19) fv).defers=[]:=hr2.defers;rw[Oper.upon_defer];unfold wpList;have yH:finish (b3m s F l H) (some 19) .undef .no=b3m s F l H:=by simp[finish,jV,cE,mG,List.replicate]
 rw[yH]at hr2;have:=h (a.put (some 19) fv) hr2;rw[<-hd]at this;exact this
end
section
open Go Go.VM
variable {G:GT}
theorem DW.go{P:Program}{ds:List Deferred}{c:Code}{st:St}{Q:Exit->St->Prop}(h:DW P G ds c st Q){base:cN}{R:Nat->Nat->Prop}{μ:Nat->Nat}{a:Act}{w:World}(hr:Rel P G base R μ st a w):c.wp P (λe a' w'=>∃a0 s R' μ',a'={a0 with defers:=ds}/\Q e s/\Rel P G base R' μ' s a0 w'/\Step base R w R' w') {a with defers:=ds} w:=h base R μ a w hr
@[simp] theorem d2j(k:Nat)(ds:List D):ds.map (jV k∘DV.d)=ds.map DV.d:=rfl
@[simp] theorem d2k(k k':Nat)(ds:List D):ds.map ((jV k∘jV k')∘DV.d)=ds.map DV.d:=rfl
@[simp] theorem d0r:∀ds:List D,WkT (ds.map DV.d) (ds.map DV.d)
 |[]=>by simp
 |d::r=>by have:=d0r r;simp[this]
@[simp] theorem c6R(K:List (Nat×Nat)):∀ds:List D,aL K (ds.map DV.d)=true
 |[]=>by simp[aL]
 |d::r=>by have:=c6R K r;simp[aL,aP,this]
@[simp] theorem c6S:∀ds:List D,c9e (ds.map DV.d) (ds.map DV.d)
 |[]=>by simp
 |d::r=>by have:=c6S r;simp[this]
theorem a1O:VM.Enters prog 65:=.mk func65 rfl
theorem yN{P:Program}{f:FuncId}(he:VM.Enters P f)(args cap:Array Value)(w:World):(invoke (.fn (.func f) cap) args).run P w=.ok (.enter f (args++cap)) w:=by
 obtain⟨fn,hf1,hf2,hf3⟩:=he;have b6m: ¬fn.body=none:=λhe=>by simp[he]at hf2
 have b6n: ¬fn.name= "runtime.NumGoroutine" :=by simpa using hf3
 simp[invoke,callFunc,hf1,b6m,b6n]
theorem d5v{α:Type}{aG:List Tok->Nat->Nat->kX Pr}{l:List Tok}(hV:kU G aG l)(C:α->List D)(a0 a:α)(j:Nat){F:FuncId}(he:VM.Enters prog F){s:List UInt8}(hlx:CS prog G 64 [.str s] (.cJ [.sl (l.map cH),.int .i64 0,.int .i64 0]) none)(hc:kZ G F [.ptr 100000 0,.ptr 100001 0] [(100001,.cells ((C a0).map .d))] [] l 0 (.ok a j) (λ_=>.cJ []) (λa=>[(100001,.cells ((C a).map .d))]))(hj:j<l.length)(a1B:uY l j=.ok () j):
  CH prog G 32 ⟨[.d (.str s),.clo F [.ptr 100001 0]],[(100001,.cells ((C a0).map .d))],[]⟩ ⟨[.cJ [.int .i64 0,.int .i64 0]],[(100001,.cells ((C a).map .d))],[]⟩:=by
 intro base R μ args w hr;refine calls_of_wp_defers func32 rfl ?_;have hr0:=Rel.frame ntmps32 rfl hr;refine SW.d5u (T:=λe' s'=>e'=.normal/\yF s' (b3m s F l [(100001,.cells ((C a0).map .d))])) ?h hr0 (λs' R' μ' a' w' q1 q2 q3=>?_) (λe' s' R' μ' a' w' q0 q1 q2 q3=>(q0 q1.1).elim)
 case h=>refine SW.xk ?_;simp;refine SW.xk ?_;simp;refine jC.mk uO hlx ?_;simp;refine SW.xk ?_;simp[List.replicate]
 .refine a6L rfl (q2.a0X q1.2) λa1 hr1=>?_;refine wp_mono (DW.go (Q:=λe s=>e=.ret/\a4b prog s [.cell 4 3,.cell 5 31] (.cJ [.int .i64 0,.int .i64 0]) [(100001,.cells ((C a).map .d))] []) ?hD hr1) λe a2 w2 ⟨a3,s3,R3,μ3,h0,⟨h1,h2⟩,h3,h4⟩=>?_
  case hD=>
   refine DW.seq (DW.region ?_);simp[List.replicate];refine DW.seq (DW.region ?_);simp;refine a7Z.mk (yJ he hc [(100000,22),(100001,100001)] (λa j hx=>?_) ?_ ?_ ?_ rfl rfl (λa2 j2 hx=>?_) (λn e hx=>by cases hx))
   .simp[aK,aP,aM,aL,bA,getKey,eW]
   .simp[aK,aP,aM,aL,bA,getKey,eW]
   .simp[aO,bD,rk]
   .simp[aO,bD,rk,cI,cQ,kD]
   .cases hx;simp[bE,aO,bD,rk,cI,cQ,bO,gP,eS,dQ,kD];refine DW.seq (DW.region ?_);simp;refine a7Z.mk (yJ (X:=[]) (own:=[]) (r:=uY l j) (enc:=λ_=>.cJ []) (Y:=λ_=>[]) (av0:=[.ptr 100000 0]) b3b (b5J hV j hj) [(100000,22)] (λa j hx=>?_) ?_ ?_ ?_ rfl rfl (λu j2 hx=>?_) (λn e hx=>by rw[a1B]at hx;cases hx))
    .simp[aK,aP,aM,aL,bA,getKey,eW]
    .simp[aK,aP,aM,aL,bA,getKey,eW]
    .simp[aO,bD,rk]
    .simp[aO,bD,rk,cI,cQ,kD]
    .simp[bE,aO,bD,rk,cI,cQ,bO,gP,eS,dQ,kD];refine DW.seq (DW.region ?_);simp;exact DW.ret ⟨rfl,by simp⟩
  .subst h0 h1;have p4:=hr1.dA (x:=.tmp 4) rfl
   show Leaves _ _ _ _ [c6Q _ _] .returning w2
   refine leaves_cons (f:=65) (args:=#[.pointer (some ⟨μ' 4,0,none⟩),.pointer (some ⟨μ' 5,0,none⟩)]) (by simp) (yN a1O #[] #[.pointer (some ⟨μ' 4,0,none⟩),.pointer (some ⟨μ' 5,0,none⟩)] w2) ?_;refine(d0p _ _ w2).mono ?_;rintro e' u' w'' ⟨rfl,rfl,rfl⟩;unfold a4b at h2;split at h2
   .rename_i r kC;obtain⟨v,hv1,hv2⟩:=zL (fn:=f32) h3 kC;exact⟨v,hv1,v,R3,μ3,rfl,((h3.ret hv1 hv2).d7n h2.1).e3z h2.2,q3.trans h4⟩
   .exact h2.elim
end
section
open Go Go.VM
variable {G:GT}
abbrev a4u(x y:Int):List (Nat×aW):=[(4,.cells [.d (.int .i64 x)]),(5,.cells [.d (.int .i64 y)])]
theorem a5N{base:cN}{R:Nat->Nat->Prop}{μ:Nat->Nat}{a:Act}{w:World}{tmps:List DV}{x y:Int}(n e:Int)(hr:Rel prog G base R μ ⟨tmps,a4u x y,[]⟩ a w)(h4:tmps[4]? =some (.ptr 4 0))(h5:tmps[5]? =some (.ptr 5 0))(RR:Ending->World->Prop)(hR:∀v R' w',(∀μ',TV R' μ' w' v (.cJ [.int .i64 n,.int .i64 e]))->Step base R w R' w'->(∀b o,R' b o->b<w'.heap.size)->RR (.returned v) w'):
  Leaves prog f32 a.tmps RR [c6Q (.pointer (some ⟨μ 4,0,none⟩)) (.pointer (some ⟨μ 5,0,none⟩))] (.panicking (yI (oA n e))) w:=by
 refine leaves_cons (f:=65) (args:=#[.pointer (some ⟨μ 4,0,none⟩),.pointer (some ⟨μ 5,0,none⟩)]) (by simp) (yN a1O #[] #[.pointer (some ⟨μ 4,0,none⟩),.pointer (some ⟨μ 5,0,none⟩)] w) ?_;obtain⟨mC,sub,a1C,rN⟩:=b3k (s0:=⟨[.ptr 100000 0,.ptr 100001 0],d0q x y,[]⟩) (args:=#[.pointer (some ⟨μ 4,0,none⟩),.pointer (some ⟨μ 5,0,none⟩)]) [(100000,4),(100001,5)] («f2L» :=[.ptr 4 0,.ptr 5 0]) (ls:=[]) (rest:=[]) (by simp[aK,aP,aM,aL,bA,getKey]) (by simp[aO,bD,rk]) (by simp[aO,bD,rk,cI,cQ]) rfl rfl hr rfl (λi d hd=>by
  match i,hd with
  |0,hd=>simp at hd;subst hd;exact .ptr 4 0
  |1,hd=>simp at hd;subst hd;exact .ptr 5 0) (λi l h=>by simp at h)
 refine(d5t n e a1C).mono ?_;rintro e' u' w' ⟨rfl,rfl,R',μ',a',eK,hs⟩;have oY:Step base R w R' w':=⟨hs.below.mono sub,hs.mono,λb o h1 h2=>sub b (hs.new b o h1 h2),hs.cells⟩;have m4:μ' 100000=μ 4:=(eK.pass 100000 (by omega)).trans (a1C.pass 100000 (by omega)).symm;have m5:μ' 100001=μ 5:=(eK.pass 100001 (by omega)).trans (a1C.pass 100001 (by omega)).symm;have yH:Rel prog G base R' μ ⟨tmps,a4u n e,[]⟩ a w':=by
  refine⟨hr.defers,hr.size,λi u d hu hd=>(hr.tmps i u d hu hd).bK oY,λk o hk=>?_,λk k' o o' hk hk' he'=>?_,(λc hc=>by cases hc),⟨[],rfl,λi c v h _=>by simp at h,.nil⟩,hr.tP.bK oY,eK.pE,λb hb=>hr.base b (Nat.le_trans hs.below.size hb),hr.pass⟩
  .simp only[a4u,getKey]at hk;split at hk
   .rename_i hk4;cases hk;subst hk4;obtain⟨q1,q2,q3⟩:=eK.gM 100000 (.cells [.d (.int .i64 n)]) rfl;rw[m4]at q1 q2 q3;exact⟨sub _ q1,q2,q3.b4O (ν:=μ') (K:=[]) (λk hk=>by simp at hk) rfl⟩
   .split at hk
    .rename_i hk5;cases hk;subst hk5;obtain⟨q1,q2,q3⟩:=eK.gM 100001 (.cells [.d (.int .i64 e)]) rfl;rw[m5]at q1 q2 q3;exact⟨sub _ q1,q2,q3.b4O (ν:=μ') (K:=[]) (λk hk=>by simp at hk) rfl⟩
    .cases hk
  .have one:∀k o,getKey k (a4u n e)=some o->∃o1,getKey k (a4u x y)=some o1:=λk o h=>by
    simp only[a4u,getKey]at h|-;split at h
    .exact⟨_,by rw[if_pos (by assumption)]⟩
    .split at h
     .exact⟨_,by rw[if_neg (by assumption),if_pos (by assumption)]⟩
     .cases h
   obtain⟨o1,h1⟩:=one k o hk;obtain⟨o2,h2⟩:=one k' o' hk';exact hr.inj k k' o1 o2 h1 h2 he'
 have c7z:settle (.panicking [{v:=oA n e,recovered:=true}])=.returning:=by simp[settle]
 show Leaves _ _ _ _ [] (settle _) _
 rw[c7z];have kC:a0x prog ⟨tmps,a4u n e,[]⟩ (f32).results.toList=some (.cJ [.int .i64 n,.int .i64 e]):=by simp[a0x,h4,h5]
 obtain⟨v,hv1,hv2⟩:=zL (fn:=f32) yH kC;exact⟨v,hv1,hR v R' w' (λμ'=>TV.c4y hv2) oY eK.pE⟩
end
end Go.Proofs.YtjpodcmhcenjjaaGreatDoor
section
namespace Go.VM
open Go Go.RowKit
section
variable {P:Program} {G:GT} {st:St}
theorem yU{a:Act}{dst:Option Tmp}{t:Tmp}(hd:dst≠some t)(v:Value):(a.put dst v).eval (.tmp t)=a.eval (.tmp t):=by
 cases dst with
 |none=>rfl
 |some x=>exact bQ _ _ (λe=>hd (by rw[e]))
theorem d0s{o:Oper}{a:Act}{w:World}{K:Act->World->Prop}{Q:Exit->Act->World->Prop}{t:Tmp}(hd:o.dst≠some t)(h:o.wp P a w K Q):o.wp P a w (λa' w'=>K a' w'/\a'.eval (.tmp t)=a.eval (.tmp t)) (λe a' w'=>Q e a' w'/\(e≠ .outgrown->a'.eval (.tmp t)=a.eval (.tmp t))):=by
 unfold Oper.wp at h|-;generalize (execOp a.eval o).run P w=r at h|-;unfold Oper.upon at h|-;split at h
 .exact⟨h,yU hd _⟩
 .exact⟨h,yU hd _⟩
 .rename_i d w';exact⟨h,(yU (a:={a with defers:=d::a.defers}) hd _).trans rfl⟩
 .refine h.mono λe w' hx=>?_;cases e with
  |returned v=>exact⟨hx,yU hd _⟩
  |panicked chain=>exact⟨hx,λ_=>rfl⟩
  |outgrown=>obtain⟨a0,w0,h0⟩:=hx;exact⟨a0,w0,h0,λh=>(h rfl).elim⟩
 .exact h.mono λv w' hx=>⟨hx,yU hd _⟩
 .exact⟨h,λ_=>rfl⟩
 .exact h.elim
theorem a2A{all:Array Oper}{QQ:Exit->Act->World->Prop}{t:Tmp}:∀(l:List Oper) (a:Act) (w:World),(∀o∈l,o.dst≠some t)->wpList P all QQ l a w->wpList P all (λe a' w'=>QQ e a' w'/\(e≠ .outgrown->a'.eval (.tmp t)=a.eval (.tmp t))) l a w
 |[],a,w,_,h=>⟨h,λ_=>rfl⟩
 |o::rest,a,w,hd,h=>by
  have h0:=hd o (by simp);have hr:=λo' (ho:o'∈rest)=>hd o' (by simp[ho]);have mono:∀(a1:Act) (w1:World),a1.eval (.tmp t)=a.eval (.tmp t)->wpList P all QQ rest a1 w1->wpList P all (λe a' w'=>QQ e a' w'/\(e≠ .outgrown->a'.eval (.tmp t)=a.eval (.tmp t))) rest a1 w1:=λa1 w1 he hx=>by
   have:=a2A rest a1 w1 hr hx
   rwa[he]at this
  unfold wpList at h|-;split at h
  .rename_i hw;rw[if_pos hw];rcases h with h|⟨h1,a0,w0,h2⟩
   .exact .inl (Oper.wp_mono (λa1 w1 hx=>mono a1 w1 hx.2 hx.1) (d0s h0 h))
   .exact .inr ⟨h1,a0,w0,h2,λh=>(h rfl).elim⟩
  .rename_i hw;rw[if_neg hw];exact mono _ _ (yU h0 _) h
theorem DW.frame{ds:List Deferred}{id:Nat}{ops:Array Oper}{Q:Exit->St->Prop}{t u:Tmp}(h:c6P P G ops Q ops.toList st)(ht:∀o∈ops.toList,o.dst≠some t)(hu:∀o∈ops.toList,o.dst≠some u){base:cN}{R:Nat->Nat->Prop}{μ:Nat->Nat}{a:Act}{w:World}(hr:Rel P G base R μ st a w):
  (Code.region id ops false).wp P (λe a' w'=>((∃a0 s R' μ',a'={a0 with defers:=ds}/\Q e s/\Rel P G base R' μ' s a0 w'/\Step base R w R' w')/\(e≠ .outgrown->a'.eval (.tmp t)=a.eval (.tmp t)))/\(e≠ .outgrown->a'.eval (.tmp u)=a.eval (.tmp u))) {a with defers:=ds} w:=
 wp_region_list (a2A ops.toList _ w hu (a2A ops.toList _ w ht (b7J ds ops.toList st h base R μ a w hr _ λe s a' w' R' μ' q1 q2 q3=>⟨a',s,R',μ',rfl,q1,q2,q3⟩)))
end
end Go.VM
end
