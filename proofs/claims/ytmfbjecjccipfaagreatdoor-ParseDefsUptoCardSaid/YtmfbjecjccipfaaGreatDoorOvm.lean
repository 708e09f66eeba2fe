/- Lemmas. No condition. -/
import Derived.Test.YtmfbjecjccipfaaGreatDoorOvl
set_option linter.unusedVariables false
set_option linter.unusedSimpArgs false
set_option linter.unusedSectionVars false
set_option maxRecDepth 100000
set_option maxHeartbeats 64000000
open Go.Proofs.Tryz
section
section
namespace Go.Proofs.YtmfbjecjccipfaaGreatDoor
open Go Go.VM
variable {G:GT}
theorem rg1:List.range 1=[0]:=rfl
theorem rg2:List.range 2=[0,1]:=rfl
theorem rg3:List.range 3=[0,1,2]:=rfl
abbrev rdD(l:List Tok):D:=.agg [.sl (l.map bL)]
variable{l:List Tok}{i:Nat}
theorem b0N(h:i<l.length)(s:List UInt8):jP l i s=(decide (l[i].kind=4)&&decide (l[i].text=s)):=by simp[jP,h]
theorem c3U(h:¬i<l.length)(s:List UInt8):jP l i s=false:=by unfold jP;rw[g3G (by omega)]
theorem b0O(h:i<l.length)(k:Int):kdB l i k=decide (l[i].kind=k):=by simp[kdB,h]
theorem d0A(h:¬i<l.length)(k:Int):kdB l i k=false:=by unfold kdB;rw[g3G (by omega)]
theorem a7S(h:i<l.length):txA l i=l[i].text:=by simp[txA,h]
theorem d8v(h:i<l.length):nmA l i=l[i].n:=by simp[nmA,h]
theorem cC:VM.Enters prog 190:=.mk func190 rfl
theorem sH(l:List Tok)(i:Nat)(s:List UInt8)(hl:l.length<=900000000:=by omega):CS prog G 190 [rdD l,.int .i64 i,.str s] (.d (.bool (jP l i s))) none:=by
 refine CS.aW func190 rfl ntmps190 rfl ?_;by_cases aG:i<l.length
 .rw[b0N aG];obtain⟨t,ht⟩:∃t,l[i]=t:=⟨_,rfl⟩;rw[ht];simp[aG,ht,bL];by_cases h1:t.kind=4
  .by_cases h2:t.text=s<;>simp[h1,h2,aG,ht,bL]
  .simp[h1,aG,ht,bL]
 .rw[c3U aG];simp[aG]
theorem wE:VM.Enters prog 191:=.mk func191 rfl
theorem xC(op:Int)(a b:Pr):CS prog G 191 [.int .i64 op,.agg (prD a),.agg (prD b)] (.d (.agg (prD (tw op a b)))) none:=by refine CS.aW func191 rfl ntmps191 rfl ?_;simp[tw,rg2,dH]
def a9b(k:Nat):List (List D):=(opL k).map λp=>[.int .i64 p.1]
theorem a6A(k:Nat):CS prog G 218 [.int .i64 k] (.d (.sl (a9b k))) none:=by
 refine CS.aW func218 rfl ntmps218 rfl ?_
 match k with
 |0=>simp[a9b,opL,rg1,rg2]
 |1=>simp[a9b,opL,rg1,rg2]
 |2=>simp[a9b,opL,rg1,rg2]
 |3=>simp[a9b,opL,rg1,rg2]
 |4=>simp[a9b,opL,rg1,rg2]
 |5=>simp[a9b,opL,rg1,rg2]
 |6=>simp[a9b,opL,rg1,rg2]
 |7=>simp[a9b,opL,rg1,rg2]
 |8=>simp[a9b,opL,rg1,rg2]
 |k+9=>
  have h1:¬(k:Int)+9=1:=by omega
  have h3:¬(k:Int)+9=3:=by omega
  have h4:¬(k:Int)+9=4:=by omega
  have h7:¬(k:Int)+9=7:=by omega
  have h8:¬(k:Int)+9=8:=by omega
  simp[a9b,opL,h1,h3,h4,h7,h8]
def frm(op:Int):Option (Int×Int×Int×List UInt8):=
 if op=18 then some (1,1,2,[60,61,62]) else if op=17 then some (2,3,2,[61,62]) else if op=16 then some (3,3,4,[124,124]) else if op=15 then some (4,4,5,[38,38])
 else if op=10 then some (6,7,7,[61]) else if op=11 then some (6,7,7,[33,61]) else if op=12 then some (6,7,7,[60]) else if op=13 then some (6,7,7,[60,61])
 else if op=6 then some (7,7,8,[43]) else if op=7 then some (7,7,8,[45]) else if op=8 then some (8,8,9,[42]) else none
def b2E:Option (Int×Int×Int×List UInt8)->DV
 |some (a,b,c,s)=>.cY [.agg [.int .i64 a,.int .i64 b,.int .i64 c,.str s],.bool true]
 |none=>.cY [.agg [.int .i64 0,.int .i64 0,.int .i64 0,.str []],.bool false]
theorem b2F(op:Int):CS prog G 220 [.int .i64 op] (b2E (frm op)) none:=by
 refine CS.aW func220 rfl ntmps220 rfl ?_;simp;by_cases h18:op=18
 .simp[h18,frm,b2E]
 by_cases h17:op=17
 .simp[h17,frm,b2E]
 by_cases h16:op=16
 .simp[h16,frm,b2E]
 by_cases h15:op=15
 .simp[h15,frm,b2E]
 by_cases h10:op=10
 .simp[h10,frm,b2E]
 by_cases h11:op=11
 .simp[h11,frm,b2E]
 by_cases h12:op=12
 .simp[h12,frm,b2E]
 by_cases h13:op=13
 .simp[h13,frm,b2E]
 by_cases h6:op=6
 .simp[h6,frm,b2E]
 by_cases h7:op=7
 .simp[h7,frm,b2E]
 by_cases h8:op=8
 .simp[h8,frm,b2E]
 simp[h18,h17,h16,h15,h10,h11,h12,h13,h6,h7,h8,frm,b2E]
end Go.Proofs.YtmfbjecjccipfaaGreatDoor
end
section
namespace Go.Proofs.YtmfbjecjccipfaaGreatDoor
open Go Go.VM
variable {G:GT}
theorem e3W(k:Nat):∀p∈opL k,∃a b c,frm p.1=some (a,b,c,p.2):=by unfold opL;split<;>simp[frm]
abbrev d8w(l:List Tok)(n:Nat):List (Nat×bH):=[(100000,.cells [.d (.sl (l.map bL))]),(100001,.cells [.d (.int .i64 n)])]
theorem d4x(l:List Tok)(n:Nat)(hl:l.length<=900000000){op a b c:Int}{s:List UInt8}(h:frm op=some (a,b,c,s)):CH prog G 219 ⟨[.d (.int .i64 op),.ptr 100000 0,.ptr 100001 0],d8w l n,[]⟩ ⟨[.d (.bool (jP l n s))],d8w l n,[]⟩:=by have h1:=b2F (G:=G) op;rw[h,b2E]at h1;have h2:=sH (G:=G) l n s hl;refine CH.aW func219 rfl ntmps219 rfl (by simp) ?_;simp;refine aC.mk (.mk func220 rfl) h1 ?_;simp;refine aC.mk cC h2 ?_;simp
def ixO(l:List Tok)(n:Nat):List (Int×List UInt8)->Nat->Int
 |[],_=> -1
 |p::r,i=>if jP l n p.2=true then(i:Int) else ixO l n r (i+1)
theorem d8x{l:List Tok}{n:Nat}{o:List (Int×List UInt8)}{i:Nat}(h:i<o.length):ixO l n (o.drop i) i=if jP l n o[i].2=true then(i:Int) else ixO l n (o.drop (i+1)) (i+1):=by rw[g3m h,ixO]
theorem e3X(l:List Tok)(n:Nat)(o:List (Int×List UInt8))(ho:∀p∈o,∃a b c,frm p.1=some (a,b,c,p.2))(hl:l.length<=900000000:=by omega)(hol:o.length<=10:=by have:=e4c k;omega):
  CH prog G 217 ⟨[.d (.sl (o.map λp=>[.int .i64 p.1])),.clo 219 [.ptr 100000 0,.ptr 100001 0]],d8w l n,[]⟩ ⟨[.d (.int .i64 (ixO l n o 0))],d8w l n,[]⟩:=by
 obtain⟨r,hr⟩:∃r,ixO l n o 0=r:=⟨_,rfl⟩;rw[hr];refine CH.aW func217 rfl ntmps217 rfl (by simp) ?_;simp;refine SW.gA (ι:={i:Nat//i<=o.length/\ixO l n (o.drop i) i=r}) (λi=>[(8,.d (.int .i64 i.1))]) (λ_=>d8w l n) (λ_=>[]) (λi=>o.length-i.1) ⟨0,by simpa using hr⟩ (by simp) ?_;rintro⟨i,hi,hR⟩
 try simp only at hi hR
 by_cases aG:i<o.length
 .have hw:=bC (show i<9223372036854775807 by omega);obtain⟨q,hq⟩:∃q,o[i]=q:=⟨_,rfl⟩;obtain⟨a,b,c,hf⟩:=ho o[i] (g3y aG);rw[d8x aG]at hR;rw[hq]at hf hR;have hc:=d4x (G:=G) l n hl hf;simp[aG,hq];refine jE.ro (.mk func219 rfl) hc [(100000,100000),(100001,100001)] (by simp) (by simp) (by simp) (by simp) (by simp) ?_;cases hs:jP l n q.2
  .rw[if_neg (by simp[hs])]at hR;simp;exact bD.mk ⟨i+1,aG,hR⟩ (by simp[hw]) (by simp;omega)
  .rw[if_pos hs]at hR;simp[hR]
 .have:i=o.length:=by omega
  subst this;rw[List.drop_length,ixO]at hR;simp[<-hR]
end Go.Proofs.YtmfbjecjccipfaaGreatDoor
end
section
namespace Go.Proofs.YtmfbjecjccipfaaGreatDoor
open Go Go.VM
variable {G:GT}
theorem e3Y(xs:List (List UInt8))(sep:List UInt8)(hl:xs.length<=140737488355328:=by omega)(hj:(Lib.join xs sep).length<=140737488355328:=by rw[c1M];omega):CS prog G 250 [.sl (xs.map λs=>[.str s]),.str sep] (.d (.str (Lib.join xs sep))) none:=
 e2Q strings_Join_none strings_Join hl hj
theorem c1M:∀xs:List (List UInt8),Lib.join xs []=xs.flatten
 |[]=>rfl
 |x::r=>by rw[Lib.join_cons,Lib.joinTail];simp
theorem pG:VM.Enters prog 233:=.mk func233 rfl
theorem a2J(xs:List (List UInt8))(hl:xs.length<=1000000:=by simp)(hj:xs.flatten.length<=900000000:=by simpa using h):CS prog G 233 [.sl (xs.map λs=>[.str s])] (.d (.str xs.flatten)) none:=by have h:=e3Y (G:=G) xs [];rw[c1M]at h;refine CS.aW func233 rfl ntmps233 rfl ?_;simp;refine aC.mk (.mk func250 rfl) h ?_;simp
theorem e3Z(a b:List UInt8)(h:(a++b).length<=900000000):CS prog G 233 [.sl [[.str a],[.str b]]] (.d (.str (a++b))) none:=by have:=a2J (G:=G) [a,b];simpa using this
theorem e4a(a b c:List UInt8)(h:(a++(b++c)).length<=900000000):CS prog G 233 [.sl [[.str a],[.str b],[.str c]]] (.d (.str (a++(b++c)))) none:=by have:=a2J (G:=G) [a,b,c];simpa using this
def txS:List Tok->Nat
 |[]=>0
 |t::r=>t.text.length+1+txS r
theorem c3V:∀a b:List Tok,txS (a++b)=txS a+txS b
 |[],b=>by simp[txS]
 |t::a,b=>by rw[List.cons_append,txS,txS,c3V a b];omega
variable{l:List Tok}{i j:Nat}
theorem a7T(h:i<l.length):txS (l.take (i+1))=txS (l.take i)+(l[i].text.length+1):=by rw[g3o h,c3V];simp[txS]
theorem e9Y(l:List Tok)(i:Nat):txS (l.take i)<=txS l:=by have:=c3V (l.take i) (l.drop i);rw[g3M]at this;omega
def a0r(l:List Tok):Prop:=l.length<=50000/\txS l<=900000
variable{s:List UInt8}
theorem b0Q(hs:s.length<=txS (l.take j))(h1:j+1<l.length):(s++([46]++(l[j+1]).text)).length<=txS (l.take (j+2)):=by have q1:=a7T (l:=l) (i:=j) (by omega);have q2:txS (l.take (j+2))=txS (l.take (j+1))+((l[j+1]).text.length+1):=a7T h1;simp only[g3K,List.length_cons,List.length_nil];omega
theorem b4Y(hs:s.length<=txS (l.take (j+2)))(h1:j+2<l.length):(s++(l[j+2]).text).length<=txS (l.take (j+3)):=by have q2:txS (l.take (j+3))=txS (l.take (j+2))+((l[j+2]).text.length+1):=a7T h1;simp only[g3K];omega
theorem a0r.le(h:a0r l){n:Nat}(hn:n<=txS (l.take i)):n<=900000000:=by have h1:=e9Y l i;have h2:=h.2;omega
theorem c3W(h:i<l.length):wtB l i=(decide (l[i].kind=1)||decide (l[i].kind=2)):=by simp[wtB,b0O h]
theorem c3X(h:¬i<l.length):wtB l i=false:=by simp[wtB,d0A h]
theorem b8w{f:Nat}(h:jP l i [46]=false):pA l f i s=(s,i):=by
 cases f with
 |zero=>rfl
 |succ f=>rw[pA,if_neg (by simp[h])]
def b3F:Option (List UInt8×Nat)->DV
 |some (s,n)=>.cY [.str s,.int .i64 n]
 |none=>.cY [.str [],.int .i64 (-1)]
theorem a1M(o):qK (b3F o)=true:=by
 cases o with
 |none=>rfl
 |some q=>obtain⟨a,b⟩:=q;rfl
theorem oA{P:Program}{x y:Code}{st:St}{Q:Exit->St->Prop}(st':St)(h1:SW P G x st λe s=>match e with
  |.normal=>yE s st'
  |e=>Q e s)(h2:SW P G y st' Q):SW P G (.seq x y) st Q:=SW.jC λbase R μ a w hr=>
 wp_mono (h1 base R μ a w hr) λe a1 w1 ⟨s,R1,μ1,q1,q2,q3⟩=>by
  cases e with
  |normal=>exact⟨s,R1,μ1,λbase R μ a w hr=>h2 base R μ a w (hr.a3N q1),q2,q3⟩
  |_=>exact⟨s,R1,μ1,q1,q2,q3⟩
theorem a8R:VM.Enters prog 214:=.mk func214 rfl
theorem c7H(hG:G 1=some gC)(l:List Tok)(i:Nat)(hl:a0r l)(hi:i<=l.length):CS prog G 214 [rdD l,.int .i64 i] (b3F (pV aL l i)) none:=by
 have hll:=hl.1;obtain⟨o,ho⟩:∃o,pV aL l i=o:=⟨_,rfl⟩;rw[ho];refine CS.a3U func214 rfl ntmps214 rfl ?_;refine SW.jC (SW.vk ?_);simp;by_cases aG:i<l.length;rotate_left
 .have hge:l.length<=i:=g3I aG;have:o=none:=by rw[<-ho];simp[pV,a7P,c3X aG]
  subst this;refine SW.jC (SW.vk ?_);simp[hge,b3F]
 have hge:¬l.length<=i:=by omega
 unfold pV a7P at ho;rw[c3W aG,a7S aG]at ho;obtain⟨t,ht⟩:∃t,l[i]=t:=⟨_,rfl⟩;rw[ht]at ho;by_cases hw:t.kind=1\/t.kind=2;rotate_left
 .have k1:¬t.kind=1:=λh=>hw (.inl h);have k2:¬t.kind=2:=λh=>hw (.inr h);have:o=none:=by rw[<-ho];simp[k1,k2]
  subst this;refine SW.jC (SW.vk ?_);simp[hge,aG,ht,bL];simp[k1,k2,aG,ht,bL,b3F]
 have hwd:(decide (t.kind=1)||decide (t.kind=2))=true:=by simpa using hw
 rw[hwd,Bool.true_and]at ho;refine oA ⟨[.d (rdD l),.d (.int .i64 i),.ptr 2 0,.undef,.d (.str []),.d (.int .i64 0)]++List.replicate 125 .undef,[(2,.cells [.d (.sl (l.map bL))])],[]⟩ (SW.vk ?_) ?_
 .simp[hge,aG,ht,bL];by_cases k1:t.kind=1
  .simp[k1,aG,ht,bL,List.replicate]
  .have k2:=hw.resolve_left k1;simp[k1,k2,aG,ht,bL,List.replicate]
 refine SW.jC (SW.vk ?_);simp[aG,ht,bL,List.replicate];cases oB:(!aL t.text||decide (t.text=[118])||decide (t.text=[116,97,103])||decide (t.text=[118,97,108]))
 .have:o=none:=by rw[<-ho];simp[oB]
  subst this;simp at oB;obtain⟨⟨⟨q1,q2⟩,q3⟩,q4⟩:=oB;refine SW.jC (SW.vk ?_);simp;refine aC.mk a0w (a1y hG t.text) ?_;simp[q1,q2,q3,q4,b3F]
 rw[if_pos oB]at ho;refine oA ⟨[.d (rdD l),.d (.int .i64 i),.ptr 2 0,.undef,.d (.str []),.d (.int .i64 0),.d (.str t.text)]++List.replicate 124 .undef,[(2,.cells [.d (.sl (l.map bL))])],[]⟩ (SW.vk ?_) ?_
 .simp;refine aC.mk a0w (a1y hG t.text) ?_;by_cases q1:aL t.text=true
  .by_cases q2:t.text=[118]
   .rw[q2]at q1;simp[q1,q2,List.replicate]
   .by_cases q3:t.text=[116,97,103]
    .rw[q3]at q1;simp[q1,q3,List.replicate]
    .have q4:t.text=[118,97,108]:=by simpa[q1,q2,q3]using oB
     rw[q4]at q1;simp[q1,q4,List.replicate]
  .simp[q1,List.replicate]
 obtain⟨rs,rn,hrr⟩:∃rs rn,pA l l.length (i+1) t.text=(rs,rn):=⟨_,_,rfl⟩;rw[hrr]at ho;subst ho;have hw1:=bC (show i<9223372036854775807 by omega);refine SW.vk ?_;simp[hw1,List.replicate];refine SW.gA (ι:={p:Nat×List UInt8//p.1<=l.length/\p.2.length<=txS (l.take p.1)/\∃f,l.length<=f+p.1/\pA l f p.1 p.2=(rs,rn)}) (λp=>[(1,.d (.int .i64 p.1.1)),(6,.d (.str p.1.2))]) (λ_=>[(2,.cells [.d (.sl (l.map bL))])]) (λ_=>[]) (λp=>l.length-p.1.1) ⟨(i+1,t.text),aG,by have:=a7T aG;rw[ht]at this;simp only;omega,l.length,by omega,hrr⟩ (by simp) ?_;rintro⟨⟨j,s⟩,hj,hs,f,hf,hp⟩;simp only at hj hs hf hp;have hsg:=sH (G:=G) l j [46];have tM:=bC (show j<9223372036854775807 by omega);have vB:IntKind.i64.wrap ((j:Int)+2)=((j+2:Nat):Int):=by rw[wrap64 (by omega)];simp
 have hj3:IntKind.i64.wrap ((j:Int)+2+1)=((j+3:Nat):Int):=by rw[wrap64 (by omega)];omega
 simp;refine aC.mk cC hsg ?_;cases hd:jP l j [46]with
 |false=>rw[b8w hd]at hp;cases hp;simp[b3F]
 |true=>
  have hjl:=mZ hd;obtain⟨f,rfl⟩:∃g,f=g+1:=⟨f-1,by omega⟩;rw[pA,if_pos hd]at hp;simp[tM];by_cases vO:j+1<l.length;rotate_left
  .rw[if_neg (by rw[c3X vO];simp),if_neg (by rw[d0A vO];simp)]at hp;cases hp;simp[vO,b3F]
  obtain⟨u,hu⟩:∃u,l[j+1]=u:=⟨_,rfl⟩;have hgr:=b0Q hs vO;rw[hu]at hgr;rw[c3W vO,b0O vO,a7S vO,hu]at hp;have d8A:=e4a (G:=G) s [46] u.text (hl.le hgr);simp[tM,vO,hu,bL];by_cases k1:u.kind=1
  .simp[k1]at hp;simp[k1,tM,vO,hu,bL,rg3];refine aC.mk pG d8A ?_;simp[vB,k1];exact bD.mk ⟨(j+2,s++([46]++u.text)),vO,hgr,f,by omega,by simpa using hp⟩ (by simp[vB]) (by simp;omega)
  by_cases k2:u.kind=2
  .simp[k2]at hp;simp[k1,k2,tM,vO,hu,bL,rg3];refine aC.mk pG d8A ?_;simp[vB,k2];exact bD.mk ⟨(j+2,s++([46]++u.text)),vO,hgr,f,by omega,by simpa using hp⟩ (by simp[vB]) (by simp;omega)
  by_cases k3:u.kind=3;rotate_left
  .simp[k1,k2,k3]at hp;obtain⟨rfl,rfl⟩:=hp;simp[k1,k2,k3,b3F]
  simp[k3]at hp;simp[k1,k2,k3,tM,vO,hu,bL,rg3];refine aC.mk pG d8A ?_;simp[vB,k3];by_cases a6p:j+2<l.length;rotate_left
  .rw[if_neg (by rw[c3X a6p];simp)]at hp;have b2G:¬(j:Int)+2<(l.length:Int):=by omega
   simp[b2G];exact bD.mk ⟨(j+2,s++([46]++u.text)),vO,hgr,f,by omega,by simpa using hp⟩ (by simp[vB]) (by simp;omega)
  have b2G:(j:Int)+2<(l.length:Int):=by omega
  have hnn:(0:Int)<=(j:Int)+2:=by omega
  have htn:((j:Int)+2).toNat=j+2:=by omega
  obtain⟨v,hv⟩:∃v,l[j+2]=v:=⟨_,rfl⟩;have c7I:=b4Y hgr a6p;rw[hv]at c7I;rw[c3W a6p,a7S a6p,hv]at hp;have d0C:=e3Z (G:=G) (s++([46]++u.text)) v.text (hl.le c7I);simp at d0C;simp[b2G,a6p,hnn,htn,hv,bL];by_cases m1:v.kind=1
  .simp[m1]at hp;simp[m1,a6p,b2G,hnn,htn,hv,bL,rg2];refine aC.mk pG d0C ?_;simp[hj3];exact bD.mk ⟨(j+3,s++([46]++u.text)++v.text),a6p,c7I,f,by omega,by simpa using hp⟩ (by simp[hj3]) (by simp;omega)
  by_cases m2:v.kind=2
  .simp[m2]at hp;simp[m1,m2,a6p,b2G,hnn,htn,hv,bL,rg2];refine aC.mk pG d0C ?_;simp[hj3];exact bD.mk ⟨(j+3,s++([46]++u.text)++v.text),a6p,c7I,f,by omega,by simpa using hp⟩ (by simp[hj3]) (by simp;omega)
  simp[m1,m2]at hp;simp[m1,m2,a6p,b2G,hnn,htn,hv,bL];exact bD.mk ⟨(j+2,s++([46]++u.text)),vO,hgr,f,by omega,by simpa using hp⟩ (by simp[vB]) (by simp;omega)
end Go.Proofs.YtmfbjecjccipfaaGreatDoor
end
section
namespace Go.Proofs.YtmfbjecjccipfaaGreatDoor
open Go Go.VM
variable {G:GT}
def gF:Option (Pr×Nat)->Pr->DV
 |some (p,n),_=>.cY [.agg (prD p),.int .i64 n]
 |none,j=>.cY [.agg (prD j),.int .i64 (-1)]
def c0g:Option (List Pr×Nat)->DV
 |some (ks,n)=>.cY [.sl (ks.map qO),.int .i64 n]
 |none=>.cY [.sl [],.int .i64 (-1)]
theorem cR(o)(j):qK (gF o j)=true:=by
 cases o with
 |none=>rfl
 |some q=>obtain⟨a,b⟩:=q;rfl
theorem a5R(o):qK (c0g o)=true:=by
 cases o with
 |none=>rfl
 |some q=>obtain⟨a,b⟩:=q;rfl
theorem c7J(l:List Pr):∀x:List D,x∈l.map qO->x.length=4:=λx hx=>by
 obtain⟨p,_,rfl⟩:=g3u.1 hx;rw[dH]
 rfl
section
variable {l:List Tok} {f:Nat}
def AtC(G:GT)(l:List Tok)(f:Nat):Prop:=∀i k,1<=k->k<=9->k≠6->i<=l.length->mu l.length i k<=f->∃j,CS prog G 176 [rdD l,.int .i64 i,.int .i64 k] (gF (gV aL l f i k) j) none
def CmC(G:GT)(l:List Tok)(f:Nat):Prop:=∀i,i<=l.length->mu l.length i 6<=f->∃j,CS prog G 192 [rdD l,.int .i64 i] (gF (gV aL l f i 6) j) none
def PrC(G:GT)(l:List Tok)(f:Nat):Prop:=∀i,i<=l.length->mu l.length i 10<=f->∃j,CS prog G 193 [rdD l,.int .i64 i] (gF (gV aL l f i 10) j) none
theorem zI:VM.Enters prog 176:=.mk func176 rfl
variable{n:Nat}
theorem d8B{L:Nat}(h:n<L):mu L (n+1) 1=(L-n)*12+10:=by unfold mu;omega
theorem c7K(hl:a0r l)(hA:AtC G l f)(n:Nat)(hf:(l.length-n)*12+10<=f):CS prog G 215 [rdD l,.int .i64 n] (c0g (rF (gV aL l f) l n)) none:=by
 have hll:=hl.1;obtain⟨o,ho⟩:∃o,rF (gV aL l f) l n=o:=⟨_,rfl⟩;rw[ho];unfold rF at ho;have hsg:=sH (G:=G) l n [40];refine CS.aW func215 rfl ntmps215 rfl ?_;simp;refine aC.mk cC hsg ?_;cases hd:jP l n [40]with
 |false=>rw[if_neg (by simp[hd])]at ho;subst ho;simp[c0g]
 |true=>
  have hnl:=mZ hd;rw[if_pos hd]at ho;simp;refine SW.gA (ι:={p:Nat×List Pr//p.1<l.length/\(l.length-p.1)*12+10<=f/\p.2.length<=p.1/\∃g,l.length<=g+p.1/\kZ (gV aL l f) l g p.1 p.2=o}) (λp=>[(1,.d (.int .i64 p.1.1)),(6,.d (.sl (p.1.2.map qO)))]) (λ_=>[(2,.cells [.d (.sl (l.map bL))])]) (λ_=>[(52,[.t 6])]) (λp=>l.length-p.1.1) ⟨(n,[]),hnl,hf,by simp,l.length,by omega,ho⟩ (by simp) ?_;rintro⟨⟨i,acc⟩,hi,hf,hal,g,hg,hR⟩;simp only at hi hf hal hg hR;have hi1:=bC (show i<9223372036854775807 by omega);obtain⟨g,rfl⟩:∃h,g=h+1:=⟨g-1,by omega⟩;rw[kZ]at hR;obtain⟨jk,hat⟩:=hA (i+1) 1 (by omega) (by omega) (by omega) hi (by rw[d8B hi];exact hf);simp[hi1];refine aC.mk (hkl:=cR _ _) zI hat ?_;cases hr:gV aL l f (i+1) 1 with
  |none=>rw[hr]at hR;simp only at hR;subst hR;simp[gF,c0g]
  |some q=>
   obtain⟨p,m⟩:=q;have wC:=kS aL l f _ _ _ _ hr;rw[hr]at hR;simp only at hR;have hm1:=bC (show m<9223372036854775807 by omega);have hs1:=sH (G:=G) l m [41];have hs2:=sH (G:=G) l m [44];have f3T:=c7J acc;have hap:acc.map qO++[prD p]=(acc++[p]).map qO:=by simp[dH]
   simp[gF];have mI:(acc.length+1)*57<=140737488355328:=by omega
   simp[mI];refine aC.mk cC hs1 ?_;cases hd1:jP l m [41]with
   |true=>rw[if_pos hd1]at hR;subst hR;simp[hm1,c0g,dH]
   |false=>
    rw[if_neg (by simp[hd1])]at hR;simp;refine aC.mk cC hs2 ?_;cases hd2:jP l m [44]with
    |false=>rw[if_neg (by simp[hd2])]at hR;subst hR;simp[c0g]
    |true=>
     rw[if_pos hd2]at hR;have hml:=mZ hd2;have hmu:(l.length-m)*12+10<=f:=by omega
     have hac:(acc++[p]).length<=m:=by simp;omega
     simp;exact bD.mk ⟨(m,acc++[p]),hml,hmu,hac,g,by omega,hR⟩ (by simp[dH]) (by simp;omega)
theorem a4N:VM.Enters prog 194:=.mk func194 rfl
theorem e4b{l:List Tok}{k:Nat}:(match a4e l n k with
  |none=>ixO l n (opL k) 0= -1
  |some op=>∃(q:Nat)(h:q<(opL k).length),ixO l n (opL k) 0=q/\(opL k)[q].1=op):=by
 have gen:∀(o:List (Int×List UInt8))(i:Nat),(match (o.find? λp=>jP l n p.2).map (·.1)with
   |none=>ixO l n o i= -1
   |some op=>∃(q:Nat)(h:q<o.length),ixO l n o i=((q+i:Nat):Int)/\o[q].1=op):=by
  intro o
  induction o with
  |nil=>intro i;rfl
  |cons p r ih=>
   intro i;rw[List.find?_cons,ixO];cases hs:jP l n p.2 with
   |true=>exact⟨0,by simp,by simp,rfl⟩
   |false=>
    have:=ih (i+1);simp only[g3t,if_false];cases ho:(r.find? λp=>jP l n p.2).map (·.1)with
    |none=>rw[ho]at this;exact this
    |some op=>rw[ho]at this;obtain⟨q,hq,h1,h2⟩:=this;exact⟨q+1,by simpa using hq,by rw[h1];congr 1;omega,by simpa using h2⟩
 have:=gen (opL k) 0;unfold a4e;cases ho:((opL k).find? λp=>jP l n p.2).map (·.1)with
 |none=>rw[ho]at this;exact this
 |some op=>rw[ho]at this;simpa using this
theorem e4c(k:Nat):(opL k).length<=2:=by unfold opL;split<;>simp
def c3Z(p:Pr)(z:Int):St:=⟨List.replicate 6 .undef++[.ptr 6 0,.d (.int .i64 0),.ptr 8 0,.ptr 9 0]++List.replicate 41 .undef,[(6,.cells [.d (.int .i64 0),.d (.str []),.d (.int .i64 0),.d .aE]),(8,.cells ((prD p).map .d)),(9,.cells [.d (.int .i64 z)])],[]⟩
theorem a7U(hl:a0r l)(hA:AtC G l f)(i k:Nat)(hk:1<=k/\k<=8/\k≠5)(hi:i<=l.length)(hf:mu l.length i k<=f+1):
  ∃j,CS prog G 194 [rdD l,.int .i64 i,.int .i64 k] (gF ((gV aL l f i (k+1)).map λq=>dX (gV aL l f) l k l.length q.1 q.2) j) none:=by
 have hll:=hl.1;obtain⟨ja,hat⟩:=hA i (k+1) (by omega) (by omega) (by omega) hi (by unfold mu at hf|-;omega);refine⟨ja,?_⟩;obtain⟨o,ho⟩:∃o,((gV aL l f i (k+1)).map λq=>dX (gV aL l f) l k l.length q.1 q.2)=o:=⟨_,rfl⟩;rw[ho];have f3V:=a6A (G:=G) k;have hk1:=bC (show k<9223372036854775807 by omega);refine CS.a3U func194 rfl ntmps194 rfl ?_;refine SW.jC (SW.vk ?_);simp;refine SW.jC (SW.vk ?_);simp[hk1];refine aC.mk (hkl:=cR _ _) zI hat ?_;cases hr:gV aL l f i (k+1)with
 |none=>
  rw[hr]at ho;subst ho;simp[gF];refine oA (c3Z ja (-1)) (SW.vk ?_) ?_;rotate_left
  .skip
   refine SW.jC (c6s (by kernel_rfl) (by kernel_rfl) rfl rfl rfl rfl ⟨?_,?_⟩)
   .simp[c3Z,List.replicate];refine SW.vk ?_;simp
   .simp[c3Z,List.replicate];refine SW.vk ?_;simp
  simp;refine SW.gA (ι:={x:Unit//True}) (λ_=>[]) (λ_=>[(3,.cells [.d (.sl (l.map bL))]),(6,.cells [.d (.int .i64 0),.d (.str []),.d (.int .i64 0),.d .aE]),(8,.cells ((prD ja).map .d)),(9,.cells [.d (.int .i64 (-1))])]) (λ_=>[]) (λ_=>0) ⟨(),trivial⟩ (by simp) ?_;rintro⟨_,_⟩;simp[c3Z,List.replicate]
 |some q=>
  obtain⟨a,n⟩:=q;have wC:=kS aL l f _ _ _ _ hr;rw[hr]at ho;simp only[Option.map_some]at ho;obtain⟨⟨rp,rn⟩,kX⟩:∃r,dX (gV aL l f) l k l.length a n=r:=⟨_,rfl⟩;rw[kX]at ho;subst ho;simp[gF];refine oA (c3Z rp rn) (SW.vk ?_) ?_;rotate_left
  .skip
   refine SW.jC (c6s (by kernel_rfl) (by kernel_rfl) rfl rfl rfl rfl ⟨?_,?_⟩)
   .simp[c3Z,List.replicate];refine SW.vk ?_;simp
   .simp[c3Z,List.replicate];refine SW.vk ?_;simp
  simp;refine SW.gA (ι:={p:Pr×Nat//p.2<=l.length/\i<p.2/\∃g,l.length<=g+p.2/\dX (gV aL l f) l k g p.1 p.2=(rp,rn)}) (λ_=>[]) (λp=>[(3,.cells [.d (.sl (l.map bL))]),(6,.cells [.d (.int .i64 0),.d (.str []),.d (.int .i64 0),.d .aE]),(8,.cells ((prD p.1.1).map .d)),(9,.cells [.d (.int .i64 p.1.2)])]) (λ_=>[]) (λp=>l.length-p.1.2) ⟨(a,n),wC.2,wC.1,l.length,by omega,kX⟩ (by simp) ?_;rintro⟨⟨a,n⟩,hn,wJ,g,hg,hR⟩;simp only at hn wJ hg hR;have hcx:=e3X (G:=G) l n (opL k) (e3W k);have hix:=e4b (l:=l) (n:=n) (k:=k);have hn1:=bC (show n<9223372036854775807 by omega)
  change CH _ _ _ ⟨[.d (.sl (a9b k)),_],_,_⟩ _ at hcx
  simp;refine aC.mk (.mk func218 rfl) f3V ?_;simp;refine jE.ro (.mk func217 rfl) hcx [(100000,3),(100001,9)] (by simp) (by simp) (by simp) (by simp) (by simp) ?_;cases qA:a4e l n k with
  |none=>
   rw[qA]at hix;simp only at hix;have:(a,n)=(rp,rn):=by
    rw[<-hR];cases g with
    |zero=>rfl
    |succ g=>rw[dX,qA]
   cases this;simp[hix,c3Z,List.replicate]
  |some op=>
   rw[qA]at hix;obtain⟨q,hq,hx,hqo⟩:=hix;obtain⟨hnl,_,_⟩:=b3E qA;obtain⟨g,rfl⟩:∃h,g=h+1:=⟨g-1,by omega⟩;rw[dX,qA]at hR;obtain⟨jb,c4a⟩:=hA (n+1) (k+1) (by omega) (by omega) (by omega) hnl (by have:=rW (L:=l.length) (i:=i) (i':=n+1) (k:=k) (k':=k+1) (by omega) hnl;omega)
   have hql:q<(a9b k).length:=by simpa[a9b]using hq
   have hqe:(a9b k)[q]=[.int .i64 op]:=by simp[a9b,hqo]
   simp[hx,hn1,hk1];refine aC.mk (hkl:=cR _ _) zI c4a ?_;cases hr2:gV aL l f (n+1) (k+1)with
   |none=>rw[hr2]at hR;cases hR;simp[gF,c3Z,List.replicate]
   |some z=>obtain⟨b,m⟩:=z;have b4Z:=kS aL l f _ _ _ _ hr2;rw[hr2]at hR;simp only at hR;have htw:=xC (G:=G) op a b;simp[gF];refine⟨.mk,?_⟩;refine aC.mk (.mk func218 rfl) f3V ?_;simp[hql,hqe];refine aC.mk wE htw ?_;simp;exact bD.mk ⟨(tw op a b,m),b4Z.2,by simp only;omega,g,by simp only;omega,hR⟩ (by simp) (by simp;omega)
end
end Go.Proofs.YtmfbjecjccipfaaGreatDoor
end
section
namespace Go.Proofs.YtmfbjecjccipfaaGreatDoor
open Go Go.VM
variable {G:GT}
section
variable {l:List Tok} {f:Nat}
def b8x(s:List UInt8):Option (Int×Bool):=(cmpL.find? λp=>decide (s=p.1)).map (·.2)
variable{n:Nat}
theorem d8C(h:n<l.length):wL l n=if l[n].kind=4 then b8x l[n].text else none:=by
 unfold wL b8x;by_cases hk:l[n].kind=4
 .simp[b0N h,hk]
 .simp[b0N h,hk]
theorem d8D(h:¬n<l.length):wL l n=none:=by unfold wL;simp[c3U h]
def c7L(l:List Tok)(a:Pr)(n:Nat)(op:Int)(ex:Bool):St:=⟨[.undef,.undef,.ptr 2 0,.undef,.ptr 4 0,.d (.int .i64 0),.ptr 6 0,.d (.int .i64 n),.d (.int .i64 op),.d (.bool ex)]++List.replicate 79 .undef,[(2,.cells [.d (.sl (l.map bL))]),(4,.cells [.d (.int .i64 0),.d (.str []),.d (.int .i64 0),.d .aE]),(6,.cells ((prD a).map .d))],[]⟩
theorem c7M(hl:a0r l)(hA:AtC G l f)(i:Nat)(hi:i<=l.length)(hf:mu l.length i 6<=f+1):
  ∃j,CS prog G 192 [rdD l,.int .i64 i] (gF (a3T (gV aL l f) l i) j) none:=by
 have hll:=hl.1;obtain⟨ja,hat⟩:=hA i 7 (by omega) (by omega) (by omega) hi (by unfold mu at hf|-;omega);refine⟨ja,?_⟩;obtain⟨o,ho⟩:∃o,a3T (gV aL l f) l i=o:=⟨_,rfl⟩;rw[ho];unfold a3T at ho;refine CS.a3U func192 rfl ntmps192 rfl ?_;refine SW.jC (SW.vk ?_);simp;refine SW.jC (SW.vk ?_);simp;refine aC.mk (hkl:=cR _ _) zI hat ?_;cases hr:gV aL l f i 7 with
 |none=>rw[hr]at ho;subst ho;simp[gF];refine SW.vk ?_;simp
 |some q=>
  obtain⟨a,n⟩:=q;have wC:=kS aL l f _ _ _ _ hr;rw[hr]at ho;simp only at ho;simp[gF];by_cases aG:n<l.length;rotate_left
  .rw[d8D aG]at ho;subst ho;have hge:l.length<=n:=g3I aG;refine SW.vk ?_;simp[hge,gF]
  have hge:¬l.length<=n:=by omega
  rw[d8C aG]at ho;obtain⟨t,ht⟩:∃t,l[n]=t:=⟨_,rfl⟩;rw[ht]at ho;by_cases hk:t.kind=4;rotate_left
  .rw[if_neg hk]at ho;subst ho;refine SW.vk ?_;simp[hge,aG,ht,bL];simp[hk,gF]
  rw[if_pos hk]at ho;refine SW.jC (SW.vk ?_);simp[hge,aG,ht,bL];simp[hk];refine SW.jC (SW.vk ?_);simp;cases hc:b8x t.text with
  |none=>rw[hc]at ho;simp only at ho;subst ho;simp[b8x,cmpL]at hc;obtain⟨e1,e2,e3,e4,e5,e6⟩:=hc;refine SW.jC (SW.vk ?_);simp[aG,ht,bL,e1,e2,e3,e4,e5,e6,gF]
  |some c=>
   obtain⟨op,ex⟩:=c;rw[hc]at ho;simp only at ho;refine oA (c7L l a n op ex) (SW.vk ?_) ?_
   .simp[aG,ht,bL];by_cases e1:t.text=[61]
    .obtain⟨rfl,rfl⟩:10=op/\false=ex:=by simpa[b8x,cmpL,e1]using hc
     simp[e1,c7L,List.replicate]
    by_cases e2:t.text=[33,61]
    .obtain⟨rfl,rfl⟩:11=op/\false=ex:=by simpa[b8x,cmpL,e2]using hc
     simp[e2,c7L,List.replicate]
    by_cases e3:t.text=[60]
    .obtain⟨rfl,rfl⟩:12=op/\false=ex:=by simpa[b8x,cmpL,e3]using hc
     simp[e3,aG,ht,bL];refine⟨.mk,?_⟩;simp[e3,aG,ht,bL,c7L,List.replicate]
    by_cases e4:t.text=[62]
    .obtain⟨rfl,rfl⟩:12=op/\true=ex:=by simpa[b8x,cmpL,e4]using hc
     simp[e4,aG,ht,bL];refine⟨.mk,?_⟩;simp[e4,aG,ht,bL,c7L,List.replicate]
    by_cases e5:t.text=[60,61]
    .obtain⟨rfl,rfl⟩:13=op/\false=ex:=by simpa[b8x,cmpL,e5]using hc
     simp[e5,aG,ht,bL];refine⟨.mk,?_⟩;simp[e5,aG,ht,bL,c7L,List.replicate]
    by_cases e6:t.text=[62,61]
    .obtain⟨rfl,rfl⟩:13=op/\true=ex:=by simpa[b8x,cmpL,e6]using hc
     simp[e6,aG,ht,bL];refine⟨.mk,?_⟩;simp[e6,aG,ht,bL,c7L,List.replicate]
    simp[b8x,cmpL,e1,e2,e3,e4,e5,e6]at hc
   have hn1:=bC (show n<9223372036854775807 by omega);obtain⟨jb,c4a⟩:=hA (n+1) 7 (by omega) (by omega) (by omega) aG (by have:=rW (L:=l.length) (i:=i) (i':=n+1) (k:=6) (k':=7) (by omega) aG;omega)
   refine SW.vk ?_;simp[c7L,List.replicate,hn1];refine aC.mk (hkl:=cR _ _) zI c4a ?_;cases hr2:gV aL l f (n+1) 7 with
   |none=>rw[hr2]at ho;simp only at ho;subst ho;simp[gF]
   |some z=>
    obtain⟨b,m⟩:=z;rw[hr2]at ho;simp only at ho;subst ho;cases ex with
    |false=>simp[gF];refine aC.mk wE (xC op a b) ?_;simp
    |true=>simp[gF];refine aC.mk wE (xC op b a) ?_;simp
end
end Go.Proofs.YtmfbjecjccipfaaGreatDoor
end
section
namespace Go.Proofs.YtmfbjecjccipfaaGreatDoor
open Go Go.VM
variable {G:GT}
section
variable {l:List Tok} {f:Nat}
theorem e6H{L i k f:Nat}(h:mu L i k<=f+1)(hk:k+1<=10:=by omega):mu L i (k+1)<=f:=by have:=a7Q (L:=L) (i:=i) (show k<k+1 by omega) hk;omega
theorem f3W(hl:a0r l)(hA:AtC G l f)(hC:CmC G l f)(hP:PrC G l f):AtC G l (f+1):=by
 have hll:=hl.1;intro i k h1 h9 h6 hi hf;obtain rfl|rfl|rfl|rfl|rfl|rfl|rfl|rfl:k=1\/k=2\/k=3\/k=4\/k=5\/k=7\/k=8\/k=9:=by omega
 .skip
  obtain⟨j,hc⟩:=a7U hl hA i 1 (by omega) hi hf;refine⟨j,?_⟩;have he:gV aL l (f+1) i 1=(gV aL l f i (1+1)).map λq=>dX (gV aL l f) l 1 l.length q.1 q.2:=rfl;rw[he];refine CS.aW func176 rfl ntmps176 rfl ?_;simp;refine aC.mk (hkl:=cR _ _) a4N hc ?_;cases (gV aL l f i (1+1)).map λq=>dX (gV aL l f) l 1 l.length q.1 q.2 with
  |none=>simp[gF]
  |some q=>obtain⟨p,n⟩:=q;simp[gF]
 .obtain⟨ja,hat⟩:=hA i 3 (by omega) (by omega) (by omega) hi (by unfold mu at hf|-;omega);refine⟨ja,?_⟩;obtain⟨o,ho⟩:∃o,a8Z (gV aL l f) l i=o:=⟨_,rfl⟩;have he:gV aL l (f+1) i 2=o:=ho;rw[he];unfold a8Z at ho;refine CS.aW func176 rfl ntmps176 rfl ?_;simp;refine aC.mk (hkl:=cR _ _) zI hat ?_;cases hr:gV aL l f i 3 with
  |none=>rw[hr]at ho;subst ho;simp[gF]
  |some q=>
   obtain⟨a,n⟩:=q;have wC:=kS aL l f _ _ _ _ hr;rw[hr]at ho;simp only at ho;have hsg:=sH (G:=G) l n [61,62];simp[gF];refine aC.mk cC hsg ?_;cases hd:jP l n [61,62]with
   |false=>rw[if_neg (by simp[hd])]at ho;subst ho;simp[gF]
   |true=>
    rw[if_pos hd]at ho;have hnl:=mZ hd;have hn1:=bC (show n<9223372036854775807 by omega);obtain⟨jb,c4a⟩:=hA (n+1) 2 (by omega) (by omega) (by omega) hnl (by have:=rW (L:=l.length) (i:=i) (i':=n+1) (k:=2) (k':=2) (by omega) hnl;omega)
    simp[hn1];refine aC.mk (hkl:=cR _ _) zI c4a ?_;cases hr2:gV aL l f (n+1) 2 with
    |none=>rw[hr2]at ho;subst ho;simp[gF]
    |some z=>obtain⟨b,m⟩:=z;rw[hr2]at ho;subst ho;simp[gF];refine aC.mk wE (xC 17 a b) ?_;simp
 .skip
  obtain⟨j,hc⟩:=a7U hl hA i 3 (by omega) hi hf;refine⟨j,?_⟩;have he:gV aL l (f+1) i 3=(gV aL l f i (3+1)).map λq=>dX (gV aL l f) l 3 l.length q.1 q.2:=rfl;rw[he];refine CS.aW func176 rfl ntmps176 rfl ?_;simp;refine aC.mk (hkl:=cR _ _) a4N hc ?_;cases (gV aL l f i (3+1)).map λq=>dX (gV aL l f) l 3 l.length q.1 q.2 with
  |none=>simp[gF]
  |some q=>obtain⟨p,n⟩:=q;simp[gF]
 .skip
  obtain⟨j,hc⟩:=a7U hl hA i 4 (by omega) hi hf;refine⟨j,?_⟩;have he:gV aL l (f+1) i 4=(gV aL l f i (4+1)).map λq=>dX (gV aL l f) l 4 l.length q.1 q.2:=rfl;rw[he];refine CS.aW func176 rfl ntmps176 rfl ?_;simp;refine aC.mk (hkl:=cR _ _) a4N hc ?_;cases (gV aL l f i (4+1)).map λq=>dX (gV aL l f) l 4 l.length q.1 q.2 with
  |none=>simp[gF]
  |some q=>obtain⟨p,n⟩:=q;simp[gF]
 .skip
  have hsg:=sH (G:=G) l i [33];cases hd:jP l i [33]with
  |true=>
   have yJ:=mZ hd;have hi1:=bC (show i<9223372036854775807 by omega);obtain⟨ja,hat⟩:=hA (i+1) 5 (by omega) (by omega) (by omega) yJ (by have:=rW (L:=l.length) (i:=i) (i':=i+1) (k:=5) (k':=5) (by omega) yJ;omega)
   refine⟨⟨0,[],0,[]⟩,?_⟩;have he:gV aL l (f+1) i 5=(gV aL l f (i+1) 5).map λq=>((⟨14,[],0,[q.1]⟩:Pr),q.2):=by
    show(if jP l i [33]=true then _ else _)=_
    rw[if_pos hd]
   rw[he];rw[hd]at hsg;refine CS.aW func176 rfl ntmps176 rfl ?_;simp;refine aC.mk cC hsg ?_;simp[hi1];refine aC.mk (hkl:=cR _ _) zI hat ?_;cases gV aL l f (i+1) 5 with
   |none=>simp[gF]
   |some q=>obtain⟨p,n⟩:=q;simp[gF,rg1,dH]
  |false=>
   obtain⟨j,hc⟩:=hC i hi (e6H hf);refine⟨j,?_⟩;have he:gV aL l (f+1) i 5=gV aL l f i (5+1):=by
    show(if jP l i [33]=true then _ else _)=_
    rw[if_neg (by simp[hd])]
   rw[he];rw[hd]at hsg;refine CS.aW func176 rfl ntmps176 rfl ?_;simp;refine aC.mk cC hsg ?_;simp;refine aC.mk (hkl:=cR _ _) (.mk func192 rfl) hc ?_;cases gV aL l f i (5+1)with
   |none=>simp[gF]
   |some q=>obtain⟨p,n⟩:=q;simp[gF]
 .skip
  obtain⟨j,hc⟩:=a7U hl hA i 7 (by omega) hi hf;refine⟨j,?_⟩;have he:gV aL l (f+1) i 7=(gV aL l f i (7+1)).map λq=>dX (gV aL l f) l 7 l.length q.1 q.2:=rfl;rw[he];refine CS.aW func176 rfl ntmps176 rfl ?_;simp;refine aC.mk (hkl:=cR _ _) a4N hc ?_;cases (gV aL l f i (7+1)).map λq=>dX (gV aL l f) l 7 l.length q.1 q.2 with
  |none=>simp[gF]
  |some q=>obtain⟨p,n⟩:=q;simp[gF]
 .skip
  obtain⟨j,hc⟩:=a7U hl hA i 8 (by omega) hi hf;refine⟨j,?_⟩;have he:gV aL l (f+1) i 8=(gV aL l f i (8+1)).map λq=>dX (gV aL l f) l 8 l.length q.1 q.2:=rfl;rw[he];refine CS.aW func176 rfl ntmps176 rfl ?_;simp;refine aC.mk (hkl:=cR _ _) a4N hc ?_;cases (gV aL l f i (8+1)).map λq=>dX (gV aL l f) l 8 l.length q.1 q.2 with
  |none=>simp[gF]
  |some q=>obtain⟨p,n⟩:=q;simp[gF]
 .skip
  have hsg:=sH (G:=G) l i [45];cases hd:jP l i [45]with
  |true=>
   have yJ:=mZ hd;have hi1:=bC (show i<9223372036854775807 by omega);obtain⟨ja,hat⟩:=hA (i+1) 9 (by omega) (by omega) (by omega) yJ (by have:=rW (L:=l.length) (i:=i) (i':=i+1) (k:=9) (k':=9) (by omega) yJ;omega)
   refine⟨⟨0,[],0,[]⟩,?_⟩;have he:gV aL l (f+1) i 9=(gV aL l f (i+1) 9).map λq=>((⟨9,[],0,[q.1]⟩:Pr),q.2):=by
    show(if jP l i [45]=true then _ else _)=_
    rw[if_pos hd]
   rw[he];rw[hd]at hsg;refine CS.aW func176 rfl ntmps176 rfl ?_;simp;refine aC.mk cC hsg ?_;simp[hi1];refine aC.mk (hkl:=cR _ _) zI hat ?_;cases gV aL l f (i+1) 9 with
   |none=>simp[gF]
   |some q=>obtain⟨p,n⟩:=q;simp[gF,rg1,dH]
  |false=>
   obtain⟨j,hc⟩:=hP i hi (e6H hf);refine⟨j,?_⟩;have he:gV aL l (f+1) i 9=gV aL l f i (9+1):=by
    show(if jP l i [45]=true then _ else _)=_
    rw[if_neg (by simp[hd])]
   rw[he];rw[hd]at hsg;refine CS.aW func176 rfl ntmps176 rfl ?_;simp;refine aC.mk cC hsg ?_;simp;refine aC.mk (hkl:=cR _ _) (.mk func193 rfl) hc ?_;cases gV aL l f i (9+1)with
   |none=>simp[gF]
   |some q=>obtain⟨p,n⟩:=q;simp[gF]
end
end Go.Proofs.YtmfbjecjccipfaaGreatDoor
end
section
namespace Go.Proofs.YtmfbjecjccipfaaGreatDoor
open Go Go.VM
variable {G:GT}
section
variable {l:List Tok} {f:Nat}
def b0R(rd:Nat->Nat->Option (Pr×Nat))(l:List Tok)(i:Nat):Option (Pr×Nat):=match pV aL l i with
 |none=>none
 |some (s,n)=>(match rF rd l n with
  |some (ks,m)=>some (⟨4,s,0,ks⟩,m)
  |none=>some (⟨3,s,0,[]⟩,n))
theorem a8S{L i n f:Nat}(hf:mu L i 10<=f+1)(hn:i<n)(hl:n<=L):(L-n)*12+10<=f:=by unfold mu at hf;omega
theorem d4A(hG:G 1=some gC)(hl:a0r l)(hA:AtC G l f)(i:Nat)(hi:i<=l.length)(hf:mu l.length i 10<=f+1):
  CS prog G 216 [rdD l,.int .i64 i] (gF (b0R (gV aL l f) l i) ⟨0,[],0,[]⟩) none:=by
 have hll:=hl.1;have hnm:=c7H (G:=G) hG l i hl hi;obtain⟨o,ho⟩:∃o,b0R (gV aL l f) l i=o:=⟨_,rfl⟩;rw[ho];unfold b0R at ho;refine CS.aW func216 rfl ntmps216 rfl ?_;simp;refine aC.mk (hkl:=a1M _) a8R hnm ?_;cases hn:pV aL l i with
 |none=>rw[hn]at ho;subst ho;simp[b3F,gF]
 |some q=>
  obtain⟨s,n⟩:=q;have wC:=qJ hn;rw[hn]at ho;simp only at ho;have hli:=c7K (G:=G) hl hA n (a8S hf wC.1 wC.2);simp[b3F];refine aC.mk (hkl:=a5R _) (.mk func215 rfl) hli ?_;cases hL:rF (gV aL l f) l n with
  |none=>rw[hL]at ho;subst ho;simp[c0g,gF]
  |some z=>obtain⟨ks,m⟩:=z;rw[hL]at ho;subst ho;simp[c0g,gF]
theorem d0D(hG:G 1=some gC)(hl:a0r l)(hA:AtC G l f):PrC G l (f+1):=by
 have hll:=hl.1;intro i hi hf;obtain⟨o,ho⟩:∃o,uM aL (gV aL l f) l i=o:=⟨_,rfl⟩;have he:gV aL l (f+1) i 10=o:=ho;rw[he];unfold uM at ho;by_cases aG:i<l.length;rotate_left
 .rw[g3G (by omega)]at ho;subst ho;have hge:l.length<=i:=g3I aG;refine⟨⟨0,[],0,[]⟩,?_⟩;refine CS.aW func193 rfl ntmps193 rfl ?_;simp[hge,gF]
 have hge:¬l.length<=i:=by omega
 rw[g3d aG]at ho;obtain⟨t,ht⟩:∃t,l[i]=t:=⟨_,rfl⟩;rw[ht]at ho;simp only at ho;have hi1:=bC (show i<9223372036854775807 by omega);have hi2:IntKind.i64.wrap ((i:Int)+2)=((i+2:Nat):Int):=by rw[wrap64 (by omega)];simp
 have hi3:IntKind.i64.wrap ((i:Int)+3)=((i+3:Nat):Int):=by rw[wrap64 (by omega)];simp
 have hi4:IntKind.i64.wrap ((i:Int)+4)=((i+4:Nat):Int):=by rw[wrap64 (by omega)];simp
 by_cases k3:t.kind=3
 .rw[if_pos k3]at ho;subst ho;refine⟨⟨0,[],0,[]⟩,?_⟩;refine CS.aW func193 rfl ntmps193 rfl ?_;simp[hge,aG,ht,bL];simp[k3,hi1,gF]
 rw[if_neg k3]at ho;by_cases kt:t.kind=1/\t.text=[116,114,117,101]
 .rw[if_pos kt]at ho;subst ho;refine⟨⟨0,[],0,[]⟩,?_⟩;refine CS.aW func193 rfl ntmps193 rfl ?_;simp[hge,aG,ht,bL];simp[kt.1,kt.2,hi1,gF]
 rw[if_neg kt]at ho;by_cases kf:t.kind=1/\t.text=[102,97,108,115,101]
 .rw[if_pos kf]at ho;subst ho;refine⟨⟨0,[],0,[]⟩,?_⟩;refine CS.aW func193 rfl ntmps193 rfl ?_;simp[hge,aG,ht,bL];simp[kf.1,kf.2,hi1,gF]
 rw[if_neg kf]at ho;have hk:t.kind=1-> ¬t.text=[116,114,117,101]/\ ¬t.text=[102,97,108,115,101]:=λh=>⟨λe=>kt ⟨h,e⟩,λe=>kf ⟨h,e⟩⟩;have hsq:=sH (G:=G) l i [63];have hsp:=sH (G:=G) l i [40];cases hq:jP l i [63]with
 |true=>
  rw[if_pos hq]at ho;rw[hq]at hsq;have hnm:=c7H (G:=G) hG l (i+1) hl aG;cases hn:pV aL l (i+1)with
  |none=>
   rw[hn]at ho hnm;subst ho;refine⟨⟨0,[],0,[]⟩,?_⟩;refine CS.aW func193 rfl ntmps193 rfl ?_;simp[hge,aG,ht,bL];simp[k3];rcases Classical.em (t.kind=1)with k1|k1
   case' inl=>simp[k1,(hk k1).1,(hk k1).2]
   case' inr=>simp[k1]
   all_goals
    refine aC.mk cC hsq ?_;simp[hi1];refine aC.mk (hkl:=a1M _) a8R hnm ?_;simp[b3F,gF]
  |some q=>
   obtain⟨s,n⟩:=q;have wC:=qJ hn;rw[hn]at ho hnm;simp only at ho;have hli:=c7K (G:=G) hl hA n (a8S hf (by omega) wC.2);cases hL:rF (gV aL l f) l n with
   |none=>
    rw[hL]at ho hli;subst ho;refine⟨⟨5,s,0,[]⟩,?_⟩;refine CS.aW func193 rfl ntmps193 rfl ?_;simp[hge,aG,ht,bL];simp[k3];rcases Classical.em (t.kind=1)with k1|k1
    case' inl=>simp[k1,(hk k1).1,(hk k1).2]
    case' inr=>simp[k1]
    all_goals
     refine aC.mk cC hsq ?_;simp[hi1];refine aC.mk (hkl:=a1M _) a8R hnm ?_;simp[b3F];refine aC.mk (hkl:=a5R _) (.mk func215 rfl) hli ?_;simp[c0g,gF]
   |some z=>
    obtain⟨ks,m⟩:=z;rw[hL]at ho hli;subst ho;refine⟨⟨0,[],0,[]⟩,?_⟩;refine CS.aW func193 rfl ntmps193 rfl ?_;simp[hge,aG,ht,bL];simp[k3];rcases Classical.em (t.kind=1)with k1|k1
    case' inl=>simp[k1,(hk k1).1,(hk k1).2]
    case' inr=>simp[k1]
    all_goals
     refine aC.mk cC hsq ?_;simp[hi1];refine aC.mk (hkl:=a1M _) a8R hnm ?_;simp[b3F];refine aC.mk (hkl:=a5R _) (.mk func215 rfl) hli ?_;simp[c0g,gF]
 |false=>
 rw[if_neg (by simp[hq])]at ho;rw[hq]at hsq;cases hp:jP l i [40]with
 |false=>
  rw[if_neg (by simp[hp])]at ho;rw[hp]at hsp;have hnd:=d4A hG hl hA i hi hf;have hx:b0R (gV aL l f) l i=o:=ho;rw[hx]at hnd;refine⟨⟨0,[],0,[]⟩,?_⟩;refine CS.aW func193 rfl ntmps193 rfl ?_;simp[hge,aG,ht,bL];simp[k3];rcases Classical.em (t.kind=1)with k1|k1
  case' inl=>simp[k1,(hk k1).1,(hk k1).2]
  case' inr=>simp[k1]
  all_goals
   refine aC.mk cC hsq ?_;simp;refine aC.mk cC hsp ?_;simp;refine aC.mk (hkl:=cR _ _) (.mk func216 rfl) hnd ?_;cases o with
   |none=>simp[gF]
   |some q=>obtain⟨p,n⟩:=q;simp[gF]
 |true=>
 rw[if_pos hp]at ho;rw[hp]at hsp;have hsm:=sH (G:=G) l (i+1) [45];have hsc:=sH (G:=G) l (i+3) [41];by_cases a2r:jP l (i+1) [45]=true/\kdB l (i+2) 3=true/\jP l (i+3) [41]=true
 .rw[if_pos a2r]at ho;subst ho;obtain⟨n1,n2,n3⟩:=a2r;have h2:=b8r n2;rw[b0O h2]at n2;rw[d8v h2];obtain⟨u,hu⟩:∃u,l[i+2]=u:=⟨_,rfl⟩;rw[hu]at n2|-;have ku:u.kind=3:=of_decide_eq_true n2;rw[n1]at hsm;rw[n3]at hsc;have h2':(i:Int)+2<(l.length:Int):=by omega
  have hnn:(0:Int)<=(i:Int)+2:=by omega
  have htn:((i:Int)+2).toNat=i+2:=by omega
  refine⟨⟨0,[],0,[]⟩,?_⟩;refine CS.aW func193 rfl ntmps193 rfl ?_;simp[hge,aG,ht,bL];simp[k3];rcases Classical.em (t.kind=1)with k1|k1
  case' inl=>simp[k1,(hk k1).1,(hk k1).2]
  case' inr=>simp[k1]
  all_goals
   refine aC.mk cC hsq ?_;simp;refine aC.mk cC hsp ?_;simp[hi1];refine aC.mk cC hsm ?_;simp[hi2,h2,h2',hnn,htn,hu,ku,bL,hi3];refine aC.mk cC hsc ?_;simp[hi2,h2,h2',hnn,htn,hu,ku,bL,hi4,gF]
 .rw[if_neg a2r]at ho;obtain⟨jp,hat⟩:=hA (i+1) 1 (by omega) (by omega) (by omega) aG (by have:=rW (L:=l.length) (i:=i) (i':=i+1) (k:=10) (k':=1) (by omega) aG;omega)
  refine⟨⟨0,[],0,[]⟩,?_⟩;have tail:∀n:Nat,CS prog G 190 [rdD l,.int .i64 n,.str [41]] (.d (.bool (jP l n [41]))) none:=λn=>sH (G:=G) l n [41];cases n1:jP l (i+1) [45]with
  |false=>
   rw[n1]at hsm;refine CS.aW func193 rfl ntmps193 rfl ?_;simp[hge,aG,ht,bL];simp[k3];rcases Classical.em (t.kind=1)with k1|k1
   case' inl=>simp[k1,(hk k1).1,(hk k1).2]
   case' inr=>simp[k1]
   all_goals
    refine aC.mk cC hsq ?_;simp;refine aC.mk cC hsp ?_;simp[hi1];refine aC.mk cC hsm ?_;simp[hi1];refine aC.mk (hkl:=cR _ _) zI hat ?_;cases hr:gV aL l f (i+1) 1 with
    |none=>rw[hr]at ho;subst ho;simp[gF]
    |some q=>
     obtain⟨p,n⟩:=q;have wC:=kS aL l f _ _ _ _ hr;have sN:=tail n;rw[hr]at ho;simp only at ho;simp[gF];refine aC.mk cC sN ?_;cases hc:jP l n [41]with
     |false=>rw[if_neg (by simp[hc])]at ho;subst ho;simp[gF]
     |true=>rw[if_pos hc]at ho;subst ho;have hn1:=bC (show n<9223372036854775807 by omega);simp[hn1,gF]
  |true=>
  rw[n1]at hsm;have hnn:(0:Int)<=(i:Int)+2:=by omega
  have htn:((i:Int)+2).toNat=i+2:=by omega
  by_cases h2:i+2<l.length;rotate_left
  .have h2':¬(i:Int)+2<(l.length:Int):=by omega
   refine CS.aW func193 rfl ntmps193 rfl ?_;simp[hge,aG,ht,bL];simp[k3];rcases Classical.em (t.kind=1)with k1|k1
   case' inl=>simp[k1,(hk k1).1,(hk k1).2]
   case' inr=>simp[k1]
   all_goals
    refine aC.mk cC hsq ?_;simp;refine aC.mk cC hsp ?_;simp[hi1];refine aC.mk cC hsm ?_;simp[hi1,hi2,h2'];refine aC.mk (hkl:=cR _ _) zI hat ?_;cases hr:gV aL l f (i+1) 1 with
    |none=>rw[hr]at ho;subst ho;simp[gF]
    |some q=>
     obtain⟨p,n⟩:=q;have wC:=kS aL l f _ _ _ _ hr;have sN:=tail n;rw[hr]at ho;simp only at ho;simp[gF];refine aC.mk cC sN ?_;cases hc:jP l n [41]with
     |false=>rw[if_neg (by simp[hc])]at ho;subst ho;simp[gF]
     |true=>rw[if_pos hc]at ho;subst ho;have hn1:=bC (show n<9223372036854775807 by omega);simp[hn1,gF]
  have h2':(i:Int)+2<(l.length:Int):=by omega
  obtain⟨u,hu⟩:∃u,l[i+2]=u:=⟨_,rfl⟩;by_cases ku:u.kind=3;rotate_left
  .skip
   refine CS.aW func193 rfl ntmps193 rfl ?_;simp[hge,aG,ht,bL];simp[k3];rcases Classical.em (t.kind=1)with k1|k1
   case' inl=>simp[k1,(hk k1).1,(hk k1).2]
   case' inr=>simp[k1]
   all_goals
    refine aC.mk cC hsq ?_;simp;refine aC.mk cC hsp ?_;simp[hi1];refine aC.mk cC hsm ?_;simp[hi1,hi2,h2,h2',hnn,htn,hu,ku,bL];refine aC.mk (hkl:=cR _ _) zI hat ?_;cases hr:gV aL l f (i+1) 1 with
    |none=>rw[hr]at ho;subst ho;simp[gF]
    |some q=>
     obtain⟨p,n⟩:=q;have wC:=kS aL l f _ _ _ _ hr;have sN:=tail n;rw[hr]at ho;simp only at ho;simp[gF];refine aC.mk cC sN ?_;cases hc:jP l n [41]with
     |false=>rw[if_neg (by simp[hc])]at ho;subst ho;simp[gF]
     |true=>rw[if_pos hc]at ho;subst ho;have hn1:=bC (show n<9223372036854775807 by omega);simp[hn1,gF]
  have n3:jP l (i+3) [41]=false:=by
   cases n3:jP l (i+3) [41]with
   |false=>rfl
   |true=>exact absurd ⟨n1,by rw[b0O h2,hu];simp[ku],n3⟩ a2r
  rw[n3]at hsc;refine CS.aW func193 rfl ntmps193 rfl ?_;simp[hge,aG,ht,bL];simp[k3];rcases Classical.em (t.kind=1)with k1|k1
  case' inl=>simp[k1,(hk k1).1,(hk k1).2]
  case' inr=>simp[k1]
  all_goals
   refine aC.mk cC hsq ?_;simp;refine aC.mk cC hsp ?_;simp[hi1];refine aC.mk cC hsm ?_;simp[hi2,h2,h2',hnn,htn,hu,ku,bL,hi3];refine aC.mk cC hsc ?_;simp[hi1];refine aC.mk (hkl:=cR _ _) zI hat ?_;cases hr:gV aL l f (i+1) 1 with
   |none=>rw[hr]at ho;subst ho;simp[gF]
   |some q=>
    obtain⟨p,n⟩:=q;have wC:=kS aL l f _ _ _ _ hr;have sN:=tail n;rw[hr]at ho;simp only at ho;simp[gF];refine aC.mk cC sN ?_;cases hc:jP l n [41]with
    |false=>rw[if_neg (by simp[hc])]at ho;subst ho;simp[gF]
    |true=>rw[if_pos hc]at ho;subst ho;have hn1:=bC (show n<9223372036854775807 by omega);simp[hn1,gF]
end
end Go.Proofs.YtmfbjecjccipfaaGreatDoor
end
section
namespace Go.Proofs.YtmfbjecjccipfaaGreatDoor
def Nod(rd:Nat->Nat->Option (Pr×Nat)):Prop:=∀i k p n,rd i k=some (p,n)->bO p+i<=n
theorem d0E(op:Int)(a b:Pr):bO (tw op a b)=bO a+bO b+1:=by simp[tw,bO,eK];omega
theorem d2a(op:Int)(a:Pr):bO ⟨op,[],0,[a]⟩=bO a+1:=by simp[bO,eK];omega
theorem a7V(op:Int)(s:List UInt8)(n:Int):bO ⟨op,s,n,[]⟩=1:=by simp[bO,eK]
theorem d2b(op:Int)(s:List UInt8)(ks:List Pr):bO ⟨op,s,0,ks⟩=eK ks+1:=by simp[bO];omega
section
variable {kw:List UInt8->Bool} {rd:Nat->Nat->Option (Pr×Nat)} {l:List Tok}
theorem c1N(h:Nod rd)(k:Nat):∀(g:Nat)(a:Pr)(n i:Nat),bO a+i<=n->bO (dX rd l k g a n).1+i<=(dX rd l k g a n).2
 |0,a,n,i,hn=>hn
 |g+1,a,n,i,hn=>by
  rw[dX];split
  .exact hn
  .split
   .exact hn
   .rename_i op _ _ b m hr;have h1:=h _ _ _ _ hr;exact c1N h k g (tw op a b) m i (by rw[d0E];omega)
theorem c7O(h:Nod rd):∀(g i:Nat)(acc ks:List Pr)(m b:Nat),eK acc+b<=i->kZ rd l g i acc=some (ks,m)->eK ks+b+1<=m
 |0,_,_,_,_,_,_,hr=>by cases hr
 |g+1,i,acc,ks,m,b,hb,hr=>by
  rw[kZ]at hr;split at hr
  .cases hr
  .rename_i p n hp;have h1:=h _ _ _ _ hp;have h2:eK (acc++[p])=eK acc+bO p:=by rw[b3o];simp[eK]
   split at hr
   .cases hr;omega
   .split at hr
    .exact c7O h g n _ ks m b (by omega) hr
    .cases hr
variable{i n:Nat}
theorem c7P(h:Nod rd){m:Nat}{ks:List Pr}(hr:rF rd l i=some (ks,m)):eK ks+i+1<=m:=by
 unfold rF at hr;split at hr
 .exact c7O h _ _ _ _ _ _ (by simp[eK]) hr
 .cases hr
variable{p:Pr}
theorem d8E(h:Nod rd)(hr:uM kw rd l i=some (p,n)):bO p+i<=n:=by
 unfold uM at hr;split at hr
 .cases hr
 .split at hr
  .cases hr;rw[a7V];omega
  split at hr
  .cases hr;rw[a7V];omega
  split at hr
  .cases hr;rw[a7V];omega
  split at hr
  .split at hr
   .cases hr
   .rename_i s m hn;have h1:=qJ hn;rw[g2Y]at hr;obtain⟨⟨ks,q⟩,hq,he⟩:=hr;have h2:=c7P h hq;cases he;rw[d2b];simp only at *;omega
  split at hr
  .split at hr
   .cases hr;rw[a7V];omega
   .split at hr
    .cases hr
    .rename_i q m hq;have h1:=h _ _ _ _ hq;split at hr
     .cases hr;omega
     .cases hr
  .split at hr
   .cases hr
   .rename_i s m hn;have h1:=qJ hn;split at hr
    .rename_i ks q hq;have h2:=c7P h hq;cases hr;rw[d2b];omega
    .cases hr;rw[a7V];omega
theorem e9Z(h:Nod rd){k:Nat}(hr:atG kw rd l i k=some (p,n)):bO p+i<=n:=by
 unfold atG at hr;split at hr
 .unfold a8Z at hr;split at hr
  .cases hr
  .rename_i a m ha;have h1:=h _ _ _ _ ha;split at hr
   .split at hr
    .rename_i b q hb;have h2:=h _ _ _ _ hb;cases hr;rw[d0E];omega
    .cases hr;exact h1
   .cases hr;exact h1
 .split at hr
  .rw[g2Y]at hr;obtain⟨⟨a,m⟩,ha,he⟩:=hr;have h1:=h _ _ _ _ ha;cases he;rw[d2a];simp only;omega
  .exact h _ _ _ _ hr
 .unfold a3T at hr;split at hr
  .cases hr
  .rename_i a m ha;have h1:=h _ _ _ _ ha;split at hr
   .cases hr;exact h1
   .split at hr
    .cases hr;exact h1
    .rename_i b q hb;have h2:=h _ _ _ _ hb;cases hr;split<;>rw[d0E]<;>omega
 .split at hr
  .rw[g2Y]at hr;obtain⟨⟨a,m⟩,ha,he⟩:=hr;have h1:=h _ _ _ _ ha;cases he;rw[d2a];simp only;omega
  .exact h _ _ _ _ hr
 .exact d8E h hr
 .rw[g2Y]at hr;obtain⟨⟨a,m⟩,ha,he⟩:=hr;have h1:=h _ _ _ _ ha;have h2:=c1N (l:=l) h k l.length a m i h1;simp only at he;rw[he]at h2;exact h2
end
theorem c4c(kw:List UInt8->Bool)(l:List Tok):∀f,Nod (gV kw l f)
 |0=>λ_ _ _ _ h=>by cases h
 |f+1=>λ_ _ _ _ h=>e9Z (c4c kw l f) h
end Go.Proofs.YtmfbjecjccipfaaGreatDoor
end
section
namespace Go.Proofs.YtmfbjecjccipfaaGreatDoor
theorem d8F(s:List UInt8):(sQ s).length<=s.length:=by
 unfold sQ;cases h:dA.find? λt=>t.isPrefixOf s with
 |none=>simp
 |some t=>have h1:t.isPrefixOf s=true:=List.find?_some (p:=λt:List UInt8=>t.isPrefixOf s) h;exact(List.isPrefixOf_iff_prefix.1 h1).length_le
theorem d4B(num:List UInt8->Int×Bool)(c:UInt8)(r:List UInt8):(firstT num (c::r)).2.1.length<=r.length+1:=by
 have h1:∀p:UInt8->Bool,((c::r).takeWhile p).length<=r.length+1:=λp=>(List.takeWhile_sublist p).length_le;have h2:(sQ (c::r)).length<=r.length+1:=d8F (c::r)
 show(if smU c then _ else _:Int×List UInt8×Int×Bool).2.1.length<=_
 split
 .exact h1 _
 split
 .exact h1 _
 split
 .exact h1 _
 split
 .simp
 .exact h2
theorem xQ(num:List UInt8->Int×Bool):∀(s:List UInt8)(k:Nat)(ln:Int)(cm:Bool)(l:List Tok),jX num s k ln cm=.ok l->1<=l.length/\l.length<=s.length+1/\txS l<=2*(s.length-k)+1
 |[],k,ln,cm,l,h=>by cases k<;>(simp[jX]at h;subst h;simp[txS])
 |c::r,k+1,ln,cm,l,h=>by rw[jX]at h;obtain⟨h1,h2,h3⟩:=xQ num r k ln cm l h;simp only[List.length_cons];omega
 |c::r,0,ln,cm,l,h=>by
  rw[jX]at h;simp only[List.length_cons];split at h
  .obtain⟨h1,h2,h3⟩:=xQ num r 0 (ln+1) false l h;omega
  split at h
  .obtain⟨h1,h2,h3⟩:=xQ num r 0 ln cm l h;omega
  split at h
  .obtain⟨h1,h2,h3⟩:=xQ num r 0 ln true l h;omega
  split at h
  .generalize hT:(firstT num (c::r)).2.1=T at h;split at h
   .rename_i l' hl';obtain⟨h1,h2,h3⟩:=xQ num r (T.length-1) ln false l' hl';cases h;have hTl:T.length<=r.length+1:=by rw[<-hT];exact d4B num c r
    simp only[List.length_cons,txS];omega
   .cases h
  .cases h
end Go.Proofs.YtmfbjecjccipfaaGreatDoor
end
section
namespace Go.Proofs.YtmfbjecjccipfaaGreatDoor
open Go Go.VM
variable {G:GT}
theorem b8y(hG:G 1=some gC){l:List Tok}(hl:a0r l):∀f,AtC G l f/\CmC G l f/\PrC G l f
 |0=>⟨λi k _ h9 _ hi h=>by unfold mu at h;omega,λi hi h=>by unfold mu at h;omega,λi hi h=>by unfold mu at h;omega⟩
 |f+1=>by obtain⟨hA,hC,hP⟩:=b8y hG hl f;exact⟨f3W hl hA hC hP,λi hi h=>c7M hl hA i hi h,d0D hG hl hA⟩
def a1p(l:List Tok):Option (Pr×Nat):=gV aL l (mu l.length 0 1) 0 1
variable{l:List Tok}
theorem f0a(hG:G 1=some gC)(hl:a0r l):∃j,CS prog G 176 [rdD l,.int .i64 0,.int .i64 1] (gF (a1p l) j) none:=
 (b8y hG hl _).1 0 1 (by omega) (by omega) (by omega) (by omega) (g3p _)
theorem a4O{p:Pr}{n:Nat}(h:a1p l=some (p,n)):0<n/\n<=l.length:=kS aL l _ _ _ _ _ h
def b5a(l:List Tok):DV:=match a1p l with
 |none=>.cY [.agg (prD ⟨0,[],0,[]⟩),.int .i64 0,.int .i64 14]
 |some (p,n)=>if a7E p=0 then .cY [.agg (prD p),.int .i64 n,.int .i64 0] else .cY [.agg (prD ⟨0,[],0,[]⟩),.int .i64 0,.int .i64 (a7E p)]
theorem b3H(hG:G 1=some gC)(l:List Tok)(hl:a0r l)(hn:∀p n,a1p l=some (p,n)->bO p<=1000000):CS prog G 157 [.sl (l.map bL)] (b5a l) none:=by
 obtain⟨j,hat⟩:=f0a hG hl;obtain⟨o,ho⟩:∃o,a1p l=o:=⟨_,rfl⟩;rw[ho]at hat hn;unfold b5a;rw[ho];refine CS.aW func157 rfl ntmps157 rfl ?_;simp;refine aC.mk (hkl:=cR _ _) zI hat ?_;cases o with
 |none=>simp[gF]
 |some q=>
  obtain⟨p,n⟩:=q;have hck:=b9R hG p (hn p n rfl);simp[gF];refine aC.mk (.mk func177 rfl) hck ?_;by_cases h0:a7E p=0
  .simp[h0]
  .simp[h0]
end Go.Proofs.YtmfbjecjccipfaaGreatDoor
end
section
namespace Go.Proofs.YtmfbjecjccipfaaGreatDoor
open Go Go.VM
variable {G:GT}
variable{l:List Tok}
theorem c7Q{s:List UInt8}(h:jX jZ s 0 1 false=.ok l)(hs:s.length<=40000):a0r l/\1<=l.length:=by obtain⟨h1,h2,h3⟩:=xQ jZ s 0 1 false l h;exact⟨⟨by omega,by omega⟩,h1⟩
theorem b3I{p:Pr}{n:Nat}(h:a1p l=some (p,n)):bO p<=l.length:=by have h1:=c4c aL l _ _ _ _ _ h;have h2:=a4O h;omega
end Go.Proofs.YtmfbjecjccipfaaGreatDoor
end
end
namespace Go.Proofs.YtmfbjecjccipfaaGreatDoor
section
def vP(l:List Tok)(i e:Nat):jA Pr:=match a1p ((l.take e).drop (min i e))with
 |none=>.bad (aH l i).line 14
 |some (p,n)=>if a7E p=0 then .ok p (i+n) else .bad (aH l i).line (a7E p)
theorem d2c{num:List UInt8->Int×Bool}{l:List Tok}{ln:Int}(h:OkT num l ln):∀t∈l,TkW t/\(t.kind≠4->b0M t=0):=by
 induction h with
 |fin ln l hl=>intro t ht;simp at ht;subst ht;exact⟨.inl rfl,λ_=>by simp[b0M]⟩
 |cons t r ln h1 h2 h3 ih=>
  intro u hu;rcases g3w.1 hu with rfl|hu
  .obtain⟨k,x,n,ln'⟩:=u;simp only at h2;cases x with
   |nil=>simp[firstT]at h2
   |cons c s=>
    have hp:(smU c=true\/caU c=true\/dgU c=true)->b0M ⟨k,c::s,n,ln'⟩=0:=λh=>by
     have h40:c≠40/\c≠41:=by
      constructor
      .rintro rfl
       revert h
       decide
      .rintro rfl
       revert h
       decide
     simp[b0M,h40.1,h40.2]
    simp only[firstT]at h2;split at h2
    .rename_i a1;simp only[Prod.mk.injEq]at h2;exact⟨.inr (.inr (.inl ⟨h2.1.symm,a1⟩)),λ_=>hp (.inl a1)⟩
    .rename_i a1;split at h2
     .rename_i a2;simp only[Prod.mk.injEq]at h2;exact⟨.inr (.inr (.inr (.inl ⟨h2.1.symm,a2⟩))),λ_=>hp (.inr (.inl a2))⟩
     .rename_i a2;split at h2
      .rename_i a3;simp only[Prod.mk.injEq]at h2;exact⟨.inr (.inl h2.1.symm),λ_=>hp (.inr (.inr a3))⟩
      .split at h2
       .simp at h2
       .simp only[Prod.mk.injEq]at h2;exact⟨.inr (.inr (.inr (.inr ⟨h2.1.symm,Bool.eq_false_iff.2 a1,Bool.eq_false_iff.2 a2⟩))),λhk=>absurd h2.1.symm hk⟩
  .exact ih u hu
section
variable {l:List Tok}
theorem d2d:∀(g:Nat)(d:Int)(i:Nat),i<=l.length->i<=gM l g d i/\gM l g d i<=l.length
 |0,d,i,h=>⟨h,g3p _⟩
 |g+1,d,i,h=>by
  unfold gM;split
  .rename_i hi;have h1:=λd=>d2d g d (i+1) hi
   repeat' split
   .have:=h1 (d+1);omega
   .have:=h1 (d-1);omega
   .omega
   .have:=h1 d;omega
  .omega
theorem b2I:∀(g g':Nat)(d:Int)(i:Nat),l.length<g+i->l.length<g'+i->gM l g d i=gM l g' d i
 |0,0,d,i,_,_=>rfl
 |0,g'+1,d,i,h,_=>by unfold gM;rw[if_neg (by omega)]
 |g+1,0,d,i,_,h=>by
  show gM l (g+1) d i=l.length
  unfold gM;rw[if_neg (by omega)]
 |g+1,g'+1,d,i,h,h'=>by unfold gM;rw[b2I g g' (d+1) (i+1) (by omega) (by omega),b2I g g' (d-1) (i+1) (by omega) (by omega),b2I g g' d (i+1) (by omega) (by omega)]
theorem d8G(g:Nat)(d:Int)(i:Nat):gM l (g+1) d i=if i<l.length then(if cI (aH l i) [40] then gM l g (d+1) (i+1) else if cI (aH l i) [41] then gM l g (d-1) (i+1) else if cI (aH l i) [61]&&decide (d<=0) then i else gM l g d (i+1)) else l.length:=rfl
variable (hW:WfD l)
include hW
theorem e4e{i:Nat}(hi:i<l.length):a2U l i=if cI (aH l i) [40] then 1 else if cI (aH l i) [41] then -1 else 0:=by
 have hg:l[i]? =some (aH l i):=by
  unfold aH;rw[if_pos hi,g4b,g3d hi]
  rfl
 have h:=hW i _ hg;unfold a2U;rw[hg];generalize aH l i=t at h|-;simp only;by_cases h4:t.kind=4
 .simp[b0M,cI,h4]
 .have hp:=h h4;have h40:t.text≠[40]:=λe=>by simp[b0M,e]at hp
  have h41:t.text≠[41]:=λe=>by simp[b0M,e]at hp
  simp[cI,h40,h41,hp]
theorem b2J:∀(n g:Nat)(d:Int)(i:Nat),i+n<=gM l g d i->i+n<=l.length->n<=g->gM l g d i=gM l (g-n) (d+par l i (i+n)) (i+n)
 |0,g,d,i,_,_,_=>by rw[Nat.add_zero,zF,Int.add_zero,Nat.sub_zero]
 |n+1,g,d,i,h,hl,hg=>by
  obtain⟨g,rfl⟩:∃k,g=k+1:=⟨g-1,by omega⟩;have hi:i<l.length:=by omega
  have e1:par l i (i+(n+1))=a2U l i+par l (i+1) (i+1+n):=by rw[mL,show i+1+n=i+(n+1) by omega]
  rw[e1,e4e hW hi,show g+1-(n+1)=g-n by omega,show i+(n+1)=i+1+n by omega];rw[d8G g d i,if_pos hi]at h|-;by_cases p1:cI (aH l i) [40]=true
  .rw[if_pos p1]at h|-;rw[b2J n g (d+1) (i+1) (by omega) (by omega) (by omega),if_pos p1,Int.add_assoc]
  rw[if_neg p1]at h|-;by_cases p2:cI (aH l i) [41]=true
  .rw[if_pos p2]at h|-;rw[b2J n g (d-1) (i+1) (by omega) (by omega) (by omega),if_neg p1,if_pos p2, <- Int.add_assoc]
   rfl
  rw[if_neg p2]at h|-;by_cases p3:(cI (aH l i) [61]&&decide (d<=0))=true
  .rw[if_pos p3]at h;omega
  rw[if_neg p3]at h|-;rw[b2J n g d (i+1) (by omega) (by omega) (by omega),if_neg p1,if_neg p2,Int.zero_add]
theorem e4f(i:Nat)(p:Pr)(k:Nat)(hi:i<l.length)(h:vP l i (gM l (l.length+1) 0 i)=.ok p k)(hk:k<l.length)(hs:cI (aH l k) [44]=true):gM l (l.length+1) 0 (k+1)=gM l (l.length+1) 0 i:=by
 have hge:=d2d (l:=l) (l.length+1) 0 i (by omega);obtain⟨e,he⟩:∃e,gM l (l.length+1) 0 i=e:=⟨_,rfl⟩;rw[he]at h hge|-;unfold vP at h;rw[show min i e=i by omega]at h;split at h
 .cases h
 .rename_i q n hr;split at h
  .cases h;have ha:=a4O hr;have hll:((l.take e).drop i).length<=e-i:=by simp;omega
   have hb:=d1Z aL (hW.part e i) _ _ _ _ _ hr;rw[d8u l e i n]at hb;have h1:=b2J hW n (l.length+1) 0 i (by rw[he];omega) (by omega) (by omega);rw[he,hb]at h1;rw[h1];obtain⟨g,hg⟩:∃g,l.length+1-n=g+1:=⟨l.length-n,by omega⟩;rw[hg]
   conv=>rhs;rw[d8G]
   have gK:∀x:List UInt8,x≠[44]->cI (aH l (i+n)) x=false:=λx hx=>by unfold cI at hs|-;simp only[g2Z,g3N]at hs;rw[hs.2];simp[show ¬ [44]=x from λe=>hx e.symm]
   rw[if_pos hk,gK [40] (by decide),gK [41] (by decide),gK [61] (by decide)];simp only[g3t,if_false,Bool.false_and];exact b2I _ _ _ _ (by omega) (by omega)
  .cases h
end
end
section
open Go Go.VM
variable {G:GT}
section
variable {aD:List Tok->Nat->Nat->jA Pr} {l:List Tok} (hV:rP G aD l)
include hV
def c0h(nm:Nm)(out:List Nm×List Ty):List (Nat×bH):=[(100001,.cells [.d (.str nm),.d (.sl (strs out.1)),.d (.sl (out.2.map tyC))]),(100002,.cells [.ptr 100000 0])]
abbrev f3Y:List (TypeId×List VM.Loc):=[(9,[.c 100001 1]),(54,[.c 100001 2])]
abbrev e4g(aD:List Tok->Nat->Nat->jA Pr)(l:List Tok)(out:List Nm×List Ty):bE (List Nm×List Ty):=do
 let w <- bU aL l
 aQ l [[58]]
 let t <- mP aL bF aD l
 pure (out.1++[w],out.2++[t])
theorem d8H(nm:Nm):a2A l K3 [.ptr 100001 0,.ptr 100002 0] (c0h nm) f3Y:=by
 constructor
 all_goals intros
 all_goals first
  |rfl
  |simp[c0h,aR,aY,bB,bA,bM,getKey,aZ,bI,dE,rk,dM,bW, *]
theorem b8z(out:List Nm×List Ty):aB l 1 (e4g aD l out):=(aB.word hV.fin).bl λ_=>(aB.exp hV.fin _ _).bz λ_=>(mD hV).bz λ_=>aB.bZ _
theorem d4C(a:List Nm×List Ty)(i:Nat)(b:List Nm×List Ty)(j:Nat)(hi:i<l.length)(h:a.1.length<=i/\a.2.length<=i)(hx:e4g aD l a i=.ok b j):b.1.length<=j/\b.2.length<=j:=by have h1:=b8z hV a i b j hi hx;have h2:=c1u a i b j hx;omega
theorem d0F(nm:Nm)(out:List Nm×List Ty)(j0:Nat)(hi:j0<l.length)(vT:out.1.length<=j0/\out.2.length<=j0):pX G 95 [.ptr 100001 0,.ptr 100002 0] (c0h nm out) f3Y l j0 (e4g aD l out j0) (λ_=>.cY []) (c0h nm):=by
 have hl:=hV.len;have p0:=gQ hi;refine pX.bP func95 rfl ntmps95 rfl (by simp) ?_;intro Q Q0;simp[c0h];refine eV [0] 3 [2] (.op 1 (.call [4,5,6,7] .none) (.call [1,4,5,6,7] .none)) (kV (bU aL l j0)) (by kernel_rfl) (by kernel_rfl) ?_;simp;refine⟨?_,?_⟩
 all_goals
  refine rT Q0 p0 dS (eH hV.kw l j0 p0.2 (by omega)) (aB.word hV.fin) λw j1 x1 Q1 p1=>cS.mk ?_;simp;refine cJ (by omega) ?_;simp;refine eP Q1 p1 hV.fin λu2 j2 x2 Q2 p2=>?_;simp;refine eW 6 (t:=41) (e:=54) (T:=128) (s:=13) (z:=17) (r:=18) (p:=19) (q:=16) (x:=15) (b:=20) (y:=0) (fd:=2) [0] 3 [2] (a6y 1 4 5) (kV (mP aL bF aD l j2)) rfl rfl rfl rfl rfl (by kernel_rfl) (by kernel_rfl) rfl ?_;simp
  repeat' apply And.intro
  all_goals
   refine rT Q2 p2 dP ((qI hV j2 p2.2)) (mD hV) λt j3 x3 Q3 p3=>cS.mk ?_;simp;refine⟨_,_,_,_,_,_,_,_,_,by simp,rfl,rfl,?_,rfl,rfl,?_,by simp,rfl,rfl,rfl,rfl,by decide,rfl,?_⟩
   .intro c hc
    first
     |(obtain⟨y,_,rfl⟩:=g3u.1 hc
       rw[cB]
       rfl)
     |(simp only[g3g]at hc
       subst hc
       rfl)
   .simp<;>omega
   exact Q3.ok _ j3 .normal _ rfl (.inl rfl) (by simp[c0h,cB,a1X])
def b0S(nm:Nm)(vs:List Nm)(ps:List psV)(out:List a9u):List (Nat×bH):=[(100001,.cells [.ptr 100000 0]),(100002,.cells [.d (.str nm),.d (.sl (strs vs)),.d (.sl (ps.map eD)),.d (.sl (out.map c0W))])]
abbrev f3Z:List (TypeId×List VM.Loc):=[(128,[.c 100002 3])]
abbrev d4D(aD:List Tok->Nat->Nat->jA Pr)(l:List Tok)(out:List a9u):bE (List a9u):=do
 let c <- b6W aL bF aD l
 pure (out++[c])
theorem d4E:aB l 1 (b6W aL bF aD l):=aB.con hV.fin hV.oY.pred
theorem b8A(out:List a9u):aB l 1 (d4D aD l out):=(d4E hV).bl λ_=>aB.bZ _
theorem c1O(a:List a9u)(i:Nat)(b:List a9u)(j:Nat)(hi:i<l.length)(h:a.length<=i)(hx:d4D aD l a i=.ok b j):b.length<=j:=by have h1:=b8A hV a i b j hi hx;obtain⟨_,_,_,hx⟩:=dC hx;cases hx;simp;omega
theorem c7R(nm:Nm)(vs:List Nm)(ps:List psV):a2A l K3 [.ptr 100001 0,.ptr 100002 0] (b0S nm vs ps) f3Z:=by
 constructor
 all_goals intros
 all_goals first
  |rfl
  |simp[b0S,aR,aY,bB,bA,bM,getKey,aZ,bI,dE,rk,dM,bW, *]
theorem b8B(nm:Nm)(vs:List Nm)(ps:List psV)(out:List a9u)(j0:Nat)(hi:j0<l.length)(vT:out.length<=j0):pX G 94 [.ptr 100001 0,.ptr 100002 0] (b0S nm vs ps out) f3Z l j0 (d4D aD l out j0) (λ_=>.cY []) (b0S nm vs ps):=by
 have hl:=hV.len;have p0:=gQ hi;refine pX.bP func94 rfl ntmps94 rfl (by simp) ?_;intro Q Q0;unfold d4D b6W at Q0;have Q0:=Q0.assoc;simp[b0S];refine uA Q0 p0 mA (oI l j0 p0.2) (aB.title hV.fin) λc j1 x1 Q1 p1=>?_;have Q1:=Q1.assoc;simp;cases hs:aJ l j1 [40]with
 |false=>have Q2:=Q1.step (mT hs);rw[if_neg (by decide)]at Q2;have Q2:=Q2.step (kR);refine rdF hs p1 ?_;simp;refine jN ⟨λx _=>rfl,by omega⟩ ?_;simp;exact Q2.ok _ j1 .normal _ rfl (.inl rfl) (by simp[b0S,c0W,a0i])
 |true=>
  have Q2:=Q1.step (mS hs);rw[if_pos rfl]at Q2;refine rdT hs p1 hV.fin λp2=>?_;obtain⟨j2,vB⟩:∃j,j1+1=j:=⟨_,rfl⟩;rw[vB]at Q2 p2|-;have Q2:=Q2.assoc;simp;have kK:=jG hV [44] (e4g aD l) (λout i=>out.1.length<=i/\out.2.length<=i) 0 (.mk func95 rfl) (d8H hV c) (λa=>(b8z hV a).le (by omega)) (λa i rZ hi h=>d0F hV c a i hi h) (d4C hV) (λa i h=>by omega) ([],[]) j2 (by omega) p2.2 (by simp);refine eB.mk (a1D eQ kK [(100000,100000),(100001,2),(100002,100001)] (λa j hx=>?_) ?_ ?_ ?_ rfl rfl (λws j3 x3=>?_) (λn e hx2=>Q2.fail hx2 _))
  .simp[c0h,aR,aY,bB,bA,bM,getKey]
  .simp[c0h,aR,aY,bB,bA,bM,getKey]
  .simp[aZ,bI,rk]
  .simp[c0h,aZ,bI,rk,dE,dM]
  .have Q3:=Q2.step x3;have p3:=aB.list hV.fin (λa=>b8z hV a) ([],[]) j2 ws j3 p2.2 x3;obtain⟨ns,ts⟩:=ws;simp only at Q3;have Q3:=Q3.assoc;simp[bJ,c0h,aZ,bI,rk,dE,dM,bW,kU,jF,eN];refine eP Q3 p3 hV.fin λu4 j4 x4 Q4 p4=>?_;have Q4:=Q4.step (kR);simp;refine jN ⟨λx _=>rfl,by omega⟩ ?_;simp;exact Q4.ok _ j4 .normal _ rfl (.inl rfl) (by simp[b0S,c0W])
theorem b8C(j0:Nat)(hi:j0<l.length):tL G 47 [] l j0 (a5r aL bF aD l j0) (λd=>.d (.agg (b7b d))):=by
 have hl:=hV.len;have p0:=gQ hi;refine pX.bP func47 rfl ntmps47 rfl (by simp) ?_;intro Q Q0;unfold a5r at Q0;simp;refine uA Q0 p0 mA (oI l j0 p0.2) (aB.title hV.fin) λnm j1 x1 Q1 p1=>?_;simp;refine SW.tK (ι:={x:List Nm×Nat×Nat//j1<=x.2.1/\x.2.1<l.length/\l.length<x.2.2+x.2.1/\x.1.length<=x.2.1/\eE (λi=>gU aL (aH l i)) (a1j l) x.2.2 x.1 x.2.1=pK l (λi=>gU aL (aH l i)) (a1j l) [] j1}) (λ_=>[]) (λx=>[(1,.cells [.ptr 100000 0]),(2,.cells [.d (.str []),.d .aE,.d .aE,.d .aE]),(3,.cells [.d (.str nm),.d (.sl (strs x.1.1)),.d .aE,.d .aE]),(100000,rdO l x.1.2.1)]) (λ_=>[(9,[.c 3 1])]) (λx=>l.length-x.1.2.1) ⟨([],j1,l.length+2),g3p _,p1.2,by simp only;omega,by simp,rfl⟩ (by simp[strs]) ?_;rintro⟨⟨out,j3,g⟩,hb,hj3,hg,ho,hp⟩;simp only at hb hj3 hg ho hp;obtain⟨g,rfl⟩:∃k,g=k+1:=⟨g-1,by omega⟩;have p3:j1<=j3/\j3<l.length:=⟨hb,hj3⟩;have ht:=dK (G:=G) l j3 j3 0;simp;refine pY (i:=j3) (ds:=[.int .i64 0]) cH ht ?_;simp;refine jT.mk oH (pS hV.kw (aH l j3)) ?_;cases hc:gU aL (aH l j3)with
 |true=>
  simp;refine eV [0] 3 [2] (.op 1 (.call [4,5,6,7] .none) (.call [1,4,5,6,7] .none)) (kV (bU aL l j3)) (by kernel_rfl) (by kernel_rfl) ?_;simp;refine⟨?_,?_⟩
  all_goals
   refine rdZ (i:=j3) (ds:=[]) dS (eH hV.kw l j3 hj3 (by omega)) (λw2 j4 x4=>?_) (λn e hx=>?_)
   .have p4:=aB.word (kw:=aL) hV.fin j3 w2 j4 hj3 x4;have h1:a1j l out j3=.ok (out++[w2]) j4:=(bS x4).trans rfl;rw[a0m hV hc h1]at hp;refine cS.mk ?_;simp;refine cJ (by first|omega|(simp;omega)) ?_;simp;exact bD.mk ⟨(out++[w2],j4,g),by simp only;omega,p4.2,by simp only;omega,by simp;omega,hp⟩ (by simp[a1X]) (by simp;omega)
   .have h1:a1j l out j3=.bad n e:=kN hx;rw[tU hV hc h1]at hp;simp
    first|exact Q1.fail hp.symm _|exact λs=>Q1.fail hp.symm s
 |false=>
  rw[a0n hV hc]at hp;have Q3:=Q1.step hp.symm;simp;cases hs:aJ l j3 [60]with
  |false=>
   have Q4:=Q3.step (mT hs);rw[if_neg (by decide)]at Q4;have Q3:=Q4.step (kR);refine rdF hs p3 ?_;simp;refine eP Q3 p3 hV.fin λu6 j6 x6 Q6 p6=>?_;simp;have kK:=jG hV [124] (d4D aD l) (λout i=>out.length<=i) 0 (.mk func94 rfl) (c7R hV nm out []) (λa=>(b8A hV a).le (by omega)) (λa i rZ hi h=>b8B hV nm out [] a i hi h) (c1O hV) (λa i h=>by omega) [] j6 (by omega) p6.2 (by simp);refine eB.mk (a1D eQ kK [(100000,100000),(100001,1),(100002,3)] (λa j hx=>?_) ?_ ?_ ?_ rfl rfl (λcs j7 x7=>?_) (λn e hx2=>Q6.fail hx2 _))
   .simp[b0S,aR,aY,bB,bA,bM,getKey]
   .simp[b0S,aR,aY,bB,bA,bM,getKey]
   .simp[aZ,bI,rk]
   .simp[b0S,aZ,bI,rk,dE,dM]
   .have Q7:=Q6.step x7;simp[bJ,b0S,aZ,bI,rk,dE,dM,bW,kU,jF,eN];exact Q7.ok _ j7 _ _ rfl (.inr rfl) (by simp[b7b])
  |true=>
   have Q4:=Q3.step (mS hs);rw[if_pos rfl]at Q4;refine rdT hs p3 hV.fin λp4=>?_;obtain⟨j4,hj4⟩:∃j,j3+1=j:=⟨_,rfl⟩;rw[hj4]at Q4 p4|-;have Q4:=Q4.assoc;simp;refine uA Q4 p4 a3x ((a5J hV false j4 p4.2)) ((aB.vars hV.fin false)) λps j5 x5 Q5 p5=>?_;have Q5:=Q5.assoc;simp;refine eP Q5 p5 hV.fin λu8 j8 x8 Q8 p8=>?_;have Q8:=Q8.step (kR);simp;refine eP Q8 p8 hV.fin λu6 j6 x6 Q6 p6=>?_;simp;have kK:=jG hV [124] (d4D aD l) (λout i=>out.length<=i) 0 (.mk func94 rfl) (c7R hV nm out ps) (λa=>(b8A hV a).le (by omega)) (λa i rZ hi h=>b8B hV nm out ps a i hi h) (c1O hV) (λa i h=>by omega) [] j6 (by omega) p6.2 (by simp);refine eB.mk (a1D eQ kK [(100000,100000),(100001,1),(100002,3)] (λa j hx=>?_) ?_ ?_ ?_ rfl rfl (λcs j7 x7=>?_) (λn e hx2=>Q6.fail hx2 _))
   .simp[b0S,aR,aY,bB,bA,bM,getKey]
   .simp[b0S,aR,aY,bB,bA,bM,getKey]
   .simp[aZ,bI,rk]
   .simp[b0S,aZ,bI,rk,dE,dM]
   .have Q7:=Q6.step x7;simp[bJ,b0S,aZ,bI,rk,dE,dM,bW,kU,jF,eN];exact Q7.ok _ j7 _ _ rfl (.inr rfl) (by simp[b7b])
end
end
end Go.Proofs.YtmfbjecjccipfaaGreatDoor
section
namespace Go.VM
open Go Go.RowKit
section
variable {P:Program} {G:GT} {st:St} {base:dU} {R:Nat->Nat->Prop} {μ:Nat->Nat} {a:Act} {w:World}
def b2K(P:Program)(G:GT)(f:FuncId)(g2X:List DV)(ls:List (Option Loc))(dst:Option Tmp)(st:St)(K:St->Prop)(Q:Exit->St->Prop):Prop:=∃x0,uI P G f g2X ls dst st K Q x0
variable{Q:Exit->St->Prop}{K:St->Prop}
theorem b2K.mk{f:FuncId}{g2X:List DV}{ls:List (Option Loc)}{dst:Option Tmp}{x0:Bool}(h:uI P G f g2X ls dst st K Q x0):b2K P G f g2X ls dst st K Q:=⟨x0,h⟩
def a7W(P:Program)(G:GT)(all:Array Oper)(o:Oper)(st:St)(K:St->Prop)(Q:Exit->St->Prop):Prop:=
 match gB o all st.tmps with
 |some true=>
  match kT G o st with
  |some (f,ds)=>(∃r own,(Enters P f/\CS P G f ds r own)/\K (finish st o.dst r (a6Q own)))\/∃s',(Enters P f/\oR P G f (ds.map .d) (oF o) st o.dst s')/\K s'
  |none=>
   match dY G o st with
   |some (f,g2X)=>b2K P G f g2X (oF o) o.dst st K Q
   |none=>
    match pB P G o st with
    |some out=>K (finish out.st o.dst out.v (b1q false all o out.v out.act))
    |none=>False
 |some false=>K (finish st o.dst (.cY []) .no)
 |none=>False
theorem c7S{all:Array Oper}{o:Oper}(h:a7W P G all o st K Q)(hr:Rel P G base R μ st a w){KK:Act->World->Prop}{QQ:Exit->Act->World->Prop}(hk:∀s v w' R' μ',K s->Rel P G base R' μ' s (a.put o.dst v) w'->Step base R w R' w'->KK (a.put o.dst v) w')(hq:∀c s w' R' μ',Q (.panic c) s->Rel P G base R' μ' s a w'->Step base R w R' w'->QQ (.panic c) a w'):if Region.wanted o (yielded all a.tmps) then o.wp P a w KK QQ\/(o.asks P a w/\LetsOut QQ) else KK (a.put o.dst Go.undef) w:=by
 have go:qN P G false all o K st->if Region.wanted o (yielded all a.tmps) then o.wp P a w KK QQ\/(o.asks P a w/\LetsOut QQ) else KK (a.put o.dst Go.undef) w:=λh1=>uE h1 hr hk;unfold a7W at h;split at h
 .rename_i hw;split at h
  .rename_i f ds hc;refine go ?_;unfold qN;rw[hw,hc];rcases h with⟨r,own,h1,h2⟩|⟨s',h1,h2⟩
   .exact .inl ⟨r,own,h1,λe=>Bool.noConfusion e,by simpa using h2⟩
   .exact .inr ⟨by simp[uD],s',h1,h2⟩
  .rename_i hc;split at h
   .rename_i f g2X hH;obtain⟨x0,h0⟩:=h;unfold uI at h0;obtain⟨he,h1,h2⟩:=h0;cases x0 with
    |true=>obtain⟨s',h3,h4⟩:=h1 rfl;refine go ?_;unfold qN;rw[hw,hc,hH];simp only[uD,Bool.false_and,a3d,g3t,if_false];exact⟨s',⟨he,h3⟩,h4⟩
    |false=>obtain⟨v,h3,h4⟩:=h2 rfl;rw[a4v hr hw,if_pos rfl];exact .inl (b0r hH ⟨he,h3⟩ hr λR' w' hs hb=>hq _ _ w' R' μ h4 (hr.b1S hs hb) hs)
   .rename_i hH;split at h
    .rename_i out hv;refine go ?_;unfold qN;rw[hw,hc,hH,hv];exact h
    .exact h.elim
 .rename_i hw;refine go ?_;unfold qN;rw[hw];exact h
 .exact h.elim
inductive OT where
 |stop
 |none
 |op (i:Nat) (next more:OT)
def b2L(j:Nat):OT->Bool
 |.op i _ more=>i==j||b2L j more
 |_=>false
def okT(ops:Array Oper)(T:OT)(listed:Array Bool):Bool:=match T with
 |.stop=>Region.ready .any ops listed==[]
 |T=> !(Region.ready .any ops listed).isEmpty&&(Region.ready .any ops listed).all λj=>b2L j T
def a3F(ops:Array Oper):OT->Nat->Array Bool->Bool
 |.stop,_,_=>true
 |.none,_,_=>true
 |.op _ _ _,0,_=>false
 |.op i next more,n+1,listed=>okT ops next (listed.setIfInBounds i true)&&a3F ops next n (listed.setIfInBounds i true)&&a3F ops more (n+1) listed
def VT(P:Program)(G:GT)(ops:Array Oper)(Q:Exit->St->Prop):OT->St->Prop
 |.stop,st=>Q .normal st
 |.none,_=>True
 |.op i next more,st=>(match ops[i]? with
  |some o=>a7W P G ops o st (VT P G ops Q next) Q
  |none=>False)/\VT P G ops Q more st
theorem d8I{ops:Array Oper}{Q:Exit->St->Prop}{i n:Nat}{listed:Array Bool}:∀(T:OT),a3F ops T (n+1) listed=true->b2L i T=true->VT P G ops Q T st->∃next,okT ops next (listed.setIfInBounds i true)=true/\a3F ops next n (listed.setIfInBounds i true)=true/\∃o,ops[i]? =some o/\a7W P G ops o st (VT P G ops Q next) Q
 |.stop,_,h,_=>by simp[b2L]at h
 |.none,_,h,_=>by simp[b2L]at h
 |.op j next more,ht,ha,hv=>by
  simp only[a3F,g2Z]at ht;simp only[b2L,g3l,beq_iff_eq]at ha;simp only[VT]at hv;rcases ha with rfl|ha
  .refine⟨next,ht.1.1,ht.1.2,?_⟩;have:=hv.1;split at this
   .rename_i o ho;exact⟨o,ho,this⟩
   .exact this.elim
  .exact d8I more ht.2 ha hv.2
theorem e6I{ops:Array Oper}{Q:Exit->St->Prop}:∀(n:Nat)(T:OT)(listed:Array Bool)(st:St),okT ops T listed=true->a3F ops T n listed=true->VT P G ops Q T st->∀(base:dU)(R:Nat->Nat->Prop)(μ:Nat->Nat)(a:Act)(w:World),Rel P G base R μ st a w->
  ∀QQ:Exit->Act->World->Prop,(∀e s a' w' R' μ',Q e s->Rel P G base R' μ' s a' w'->Step base R w R' w'->QQ e a' w')->wpAny P .any ops QQ n listed a w
 |0,T,listed,st,ho,ht,hv,base,R,μ,a,w,hr,QQ,hk=>by
  cases T with
  |stop=>exact⟨by simpa[okT]using ho,hk _ st a w R μ hv hr (.refl _ _ _)⟩
  |none=>simp only[okT,g2Z,g3v,g3C,g3c]at ho;obtain⟨h1,h2⟩:=ho;obtain⟨x,hx⟩:=List.exists_mem_of_ne_nil _ h1;have:=h2 x hx;simp[b2L]at this
  |op i next more=>simp[a3F]at ht
 |n+1,T,listed,st,ho,ht,hv,base,R,μ,a,w,hr,QQ,hk=>by
  cases T with
  |stop=>
   have hrd:Region.ready .any ops listed=[]:=by simpa[okT]using ho
   refine⟨λ_=>hk _ st a w R μ hv hr (.refl _ _ _),λi hi=>?_⟩;rw[hrd]at hi;cases hi
  |none=>simp only[okT,g2Z,g3v,g3C,g3c]at ho;obtain⟨h1,h2⟩:=ho;obtain⟨x,hx⟩:=List.exists_mem_of_ne_nil _ h1;have:=h2 x hx;simp[b2L]at this
  |op i0 f4a f4b=>simp only[okT,g2Z,g3v,g3C,g3c]at ho;refine⟨λh=>(ho.1 h).elim,λi hi=>?_⟩;obtain⟨next,q1,q2,o,q3,q4⟩:=d8I _ ht (ho.2 i hi) hv;unfold wpOp;rw[q3];exact c7S q4 hr (λs v w' R' μ' p1 p2 p3=>e6I n next _ s q1 q2 p1 base R' μ' _ w' p2 QQ λe s a' w2 R2 μ2 k1 k2 k3=>hk e s a' w2 R2 μ2 k1 k2 (p3.trans k3)) λc s w' R' μ' p1 p2 p3=>hk _ s a w' R' μ' p1 p2 p3
theorem c1P{id:Nat}{ops:Array Oper}(T:OT)(hm:P.follows .mixedOrders=true)(hB:(okT ops T (Array.replicate ops.size false)&&a3F ops T ops.size (Array.replicate ops.size false))=true)(h:VT P G ops Q T st):SW P G (.region id ops true) st Q:=by rw[g2Z]at hB;intro base R μ a w hr;obtain⟨jD,uO⟩:=hr.drew;exact wp_region_any hm (e6I ops.size T _ st hB.1 hB.2 h base R μ a w.drew jD _ λe s a' w' R' μ' q1 q2 q3=>⟨s,R',μ',q1,q2,uO.trans q3⟩)
attribute [simp] VT a7W
end
attribute [irreducible] b2K
end Go.VM
end
namespace Go.Proofs.YtmfbjecjccipfaaGreatDoor
section
open Go Go.VM
variable {G:GT}
abbrev e6J(x:b6R):List D:=.str x.cls::(tyD x.type++[.sl (x.yU.map eD),.sl (x.defs.map c2R)])
theorem d8J(x:b6R):d1J x=e6J x:=by
 rw[d1J,cB]
 rfl
section
variable {aD:List Tok->Nat->Nat->jA Pr} {l:List Tok} (hV:rP G aD l) (hN:∀i, -9223372036854775807<=(aH l i).n/\(aH l i).n<=9223372036854775807)
include hV
def clX(nm v:Nm)(out:List (Nm×Ty)):List (Nat×bH):=[(100001,.cells [.ptr 100000 0]),(100002,.cells [.d (.str nm),.d (.str v),.d (.sl (out.map a5t))])]
abbrev clO:List (TypeId×List VM.Loc):=[(131,[.c 100002 2])]
abbrev clM(aD:List Tok->Nat->Nat->jA Pr)(l:List Tok)(out:List (Nm×Ty)):bE (List (Nm×Ty)):=do
 let w <- bU aL l
 aQ l [[58]]
 let t <- mP aL bF aD l
 pure (out++[(w,t)])
theorem e4h(nm v:Nm):a2A l K3 [.ptr 100001 0,.ptr 100002 0] (clX nm v) clO:=by
 constructor
 all_goals intros
 all_goals first
  |rfl
  |simp[clX,aR,aY,bB,bA,bM,getKey,aZ,bI,dE,rk,dM,bW, *]
theorem d2e(out:List (Nm×Ty)):aB l 1 (clM aD l out):=(aB.word hV.fin).bl λ_=>(aB.exp hV.fin _ _).bz λ_=>(mD hV).bz λ_=>aB.bZ _
theorem d8K(a:List (Nm×Ty))(i:Nat)(b:List (Nm×Ty))(j:Nat)(hi:i<l.length)(h:a.length<=i)(hx:clM aD l a i=.ok b j):b.length<=j:=by have h1:=d2e hV a i b j hi hx;obtain⟨_,_,_,hx⟩:=dC hx;obtain⟨_,_,_,hx⟩:=dC hx;obtain⟨_,_,_,hx⟩:=dC hx;cases hx;simp;omega
theorem d4F(nm v:Nm)(out:List (Nm×Ty))(j0:Nat)(hi:j0<l.length)(vT:out.length<=j0):pX G 96 [.ptr 100001 0,.ptr 100002 0] (clX nm v out) clO l j0 (clM aD l out j0) (λ_=>.cY []) (clX nm v):=by
 have hl:=hV.len;have p0:=gQ hi;refine pX.bP func96 rfl ntmps96 rfl (by simp) ?_;intro Q Q0;simp[clX];refine uA Q0 p0 dS (eH hV.kw l j0 p0.2 (by omega)) (aB.word hV.fin) λw j1 x1 Q1 p1=>?_;simp;refine eP Q1 p1 hV.fin λu2 j2 x2 Q2 p2=>?_;simp;refine eV [0,2] 4 [3] (.op 1 (.call [5,6,7,8,9] .none) (.call [1,5,6,7,8,9] .none)) (kV (mP aL bF aD l j2)) (by kernel_rfl) (by kernel_rfl) ?_;simp;refine⟨?_,?_⟩
 all_goals
  refine rT Q2 p2 dP ((qI hV j2 p2.2)) (mD hV) λt j3 x3 Q3 p3=>cS.mk ?_;simp;refine cJ ⟨rfl,g3c.2 λc hc=>?_,?_⟩ ?_
  .obtain⟨y,_,rfl⟩:=g3u.1 hc;rw[a3B]
   rfl
  .have hb:prog.bytesOf 131<=1000:=by decide
   rw[List.length_map]
   calc (out.length+1)*(prog.bytesOf 131+1)<=50001*1001:=Nat.mul_le_mul (by omega) (by omega)
    _<=140737488355328:=by decide
  simp;exact Q3.ok _ j3 .normal _ rfl (.inl rfl) (by simp[clX,a3B])
def clT:OT:=(.op 0 (.op 1 (.op 2 (.op 3 (.op 4 (.op 5 (.op 6 .stop .none) .none) (.op 5 (.op 4 (.op 6 .stop .none) .none) .none)) (.op 5 (.op 3 (.op 4 (.op 6 .stop .none) .none) .none) .none)) (.op 5 (.op 2 (.op 3 (.op 4 (.op 6 .stop .none) .none) .none) .none) .none)) (.op 2 (.op 1 (.op 3 (.op 4 (.op 5 (.op 6 .stop .none) .none) (.op 5 (.op 4 (.op 6 .stop .none) .none) .none)) (.op 5 (.op 3 (.op 4 (.op 6 .stop .none) .none) .none) .none)) (.op 5 (.op 1 (.op 3 (.op 4 (.op 6 .stop .none) .none) .none) .none) .none)) (.op 5 (.op 1 (.op 2 (.op 3 (.op 4 (.op 6 .stop .none) .none) .none) .none) (.op 2 (.op 1 (.op 3 (.op 4 (.op 6 .stop .none) .none) .none) .none) .none)) .none))) (.op 2 (.op 0 (.op 1 (.op 3 (.op 4 (.op 5 (.op 6 .stop .none) .none) (.op 5 (.op 4 (.op 6 .stop .none) .none) .none)) (.op 5 (.op 3 (.op 4 (.op 6 .stop .none) .none) .none) .none)) (.op 5 (.op 1 (.op 3 (.op 4 (.op 6 .stop .none) .none) .none) .none) .none)) (.op 5 (.op 0 (.op 1 (.op 3 (.op 4 (.op 6 .stop .none) .none) .none) .none) .none) .none)) (.op 5 (.op 0 (.op 1 (.op 2 (.op 3 (.op 4 (.op 6 .stop .none) .none) .none) .none) (.op 2 (.op 1 (.op 3 (.op 4 (.op 6 .stop .none) .none) .none) .none) .none)) (.op 2 (.op 0 (.op 1 (.op 3 (.op 4 (.op 6 .stop .none) .none) .none) .none) .none) .none)) .none)))
abbrev f4c(l:List Tok):bE (Nm×Nm):=do
 let nm <- jI l
 let v <- bU aL l
 pure (nm,v)
theorem c7U(j0:Nat)(hi:j0<l.length):tL G 48 [] l j0 (a1A aL bF aD l j0) (λx=>.d (.agg (c6n x))):=by
 have hl:=hV.len;have p0:=gQ hi;refine pX.xV func48 rfl ntmps48 rfl (by simp) ?_;intro Q Q0;unfold a1A at Q0;refine SW.jC (SW.xk ?_);simp;refine SW.c7z (f4c l j0) (λx j=>⟨.ptr 100000 0::.ptr 1 0::.ptr 2 0::.ptr 3 0::List.replicate 12 .undef,[(1,.cells [.ptr 100000 0]),(2,.cells [.d (.str []),.d (.str []),.d .aE]),(3,.cells [.d (.str x.1),.d (.str x.2),.d .aE]),(100000,rdO l j)],[]⟩) ?_ λx j2 hx=>?_
 .refine c1P clT (by kernel_rfl) (by kernel_rfl) ?_;simp[clT]
  repeat' apply And.intro
  all_goals
   refine b2K.mk (rdZ (ds:=[]) mA (oI l j0 p0.2) (λnm j1 x1=>?_) (λn e hx=>Q0.fail hx _));have Q1:=Q0.step x1;have p1:=aB.title hV.fin j0 nm j1 p0.2 x1;simp
   repeat' apply And.intro
   all_goals
    refine b2K.mk (rdZ (ds:=[]) dS (eH hV.kw l j1 p1.2 (by omega)) (λv j2 x2=>?_) (λn e hx=>Q1.fail hx _));have hr:f4c l j0=.ok (nm,v) j2:=(bS x1).trans ((bS x2).trans rfl);simp
    repeat' apply And.intro
    all_goals exact⟨nm,v,j2,hr,by simp⟩
 obtain⟨nm,v⟩:=x;obtain⟨nm',j1,x1,hx⟩:=dC hx;obtain⟨v',j2',x2,hx⟩:=dC hx;cases hx;have Q2:=(Q0.step x1).step x2;have p1:=aB.title hV.fin j0 nm j1 p0.2 x1;have p2:=aB.word (kw:=aL) hV.fin j1 v j2 p1.2 x2;refine SW.xk ?_;simp[List.replicate];refine eP Q2 p2 hV.fin λu3 j3 x3 Q3 p3=>?_;simp;have kK:=jG hV [44] (clM aD l) (λout i=>out.length<=i) 0 (.mk func96 rfl) (e4h hV nm v) (λa=>(d2e hV a).le (by omega)) (λa i rZ hi h=>d4F hV nm v a i hi h) (d8K hV) (λa i h=>by omega) [] j3 (by omega) p3.2 (by simp);refine eB.mk (a1D eQ kK [(100000,100000),(100001,1),(100002,3)] (λa j hx=>?_) ?_ ?_ ?_ rfl rfl (λms j4 x4=>?_) (λn e hx2=>Q3.fail hx2 _))
 .simp[clX,aR,aY,bB,bA,bM,getKey]
 .simp[clX,aR,aY,bB,bA,bM,getKey]
 .simp[aZ,bI,rk]
 .simp[clX,aZ,bI,rk,dE,dM]
 .have Q4:=Q3.step x4;simp[bJ,clX,aZ,bI,rk,dE,dM,bW,kU,jF,eN];exact Q4.ok _ j4 _ _ rfl (.inr rfl) (by simp[c6n])
include hN
abbrev c0i(aD:List Tok->Nat->Nat->jA Pr)(l:List Tok)(out:List eL):bE (List eL):=do
 let d <- uH aL bF aD l
 aQ l [[59]]
 pure (out++[d.getD a2I])
omit hN in
theorem a8T:aB l 0 (uH aL bF aD l):=aB.c2Q hV.fin hV.oY
theorem b8E(j0:Nat)(hi:j0<l.length):tL G 49 [] l j0 (a7j aL bF aD l j0) (λx=>.d (.agg (e6J x))):=by
 have hl:=hV.len;have p0:=gQ hi;refine pX.bP func49 rfl ntmps49 rfl (by simp) ?_;intro Q Q0;unfold a7j at Q0;simp;refine uA Q0 p0 mA (oI l j0 p0.2) (aB.title hV.fin) λc j1 x1 Q1 p1=>?_;simp;refine uA Q1 p1 (.mk func97 rfl) ((c3A hV j1 p1.2)) ((aB.a1e hV.fin ((mD hV).le (by omega)) hV.oY.pred)) λt j2 x2 Q2 p2=>?_;simp;cases hs:aJ l j2 [119,104,101,114,101]with
 |false=>
  have Q3:=Q2.step (mT hs);rw[if_neg (by decide)]at Q3;have Q2:=Q3.step (kR);refine rdF hs p2 ?_;simp;refine eP Q2 p2 hV.fin λu5 j5 x5 Q5 p5=>?_;simp;refine SW.tK (ι:={x:List eL×Nat×Nat//j5<=x.2.1/\x.2.1<l.length/\l.length<x.2.2+x.2.1/\x.1.length<=x.2.1/\eE (λi=>aJ l i [100,101,102]) (c0i aD l) x.2.2 x.1 x.2.1=pK l (λi=>aJ l i [100,101,102]) (c0i aD l) [] j5}) (λ_=>[]) (λx=>[(2,.cells (.d (.str [])::((tyD jK).map .d++[.d .aE,.d .aE]))),(3,.cells (.d (.str c)::((tyD t).map .d++[.d (.sl (List.map eD [])),.d (.sl (x.1.1.map c2R))]))),(100000,rdO l x.1.2.1)]) (λ_=>[(58,[.c 3 11])]) (λx=>l.length-x.1.2.1) ⟨([],j5,l.length+2),g3p _,p5.2,by simp only;omega,by simp,rfl⟩ (by simp[jK,eI]) ?_;rintro⟨⟨out,j6,g⟩,hb,hj6,hg,ho,hp⟩;simp only at hb hj6 hg ho hp;obtain⟨g,rfl⟩:∃k,g=k+1:=⟨g-1,by omega⟩;have p6:j5<=j6/\j6<l.length:=⟨hb,hj6⟩;have hbb:=mQ (G:=G) l j6 [100,101,102] p6.2;simp;refine pY (i:=j6) (ds:=[.str [100,101,102]]) jO hbb ?_;cases hc:aJ l j6 [100,101,102]with
  |true=>have E0:a2H Q (eE (λi=>aJ l i [100,101,102]) (c0i aD l) (g+1) out j6) (eE (λi=>aJ l i [100,101,102]) (c0i aD l) (g+1) out j6):=⟨rfl,λn e s h=>Q5.fail (hp.symm.trans h) s⟩;simp;refine rdX (i:=j6) (ds:=[]) a5Q (a8O hV hN j6 hj6) (λd j7 x7=>?_) (λn e hx=>by simp;exact Q5.fail (hp.symm.trans (tU hV hc (kN hx))) _);have p7:=a8T hV j6 d j7 hj6 x7;simp;refine rdX (hw:=by simp[strs]) (ds:=[.sl (strs [[59]])]) oC (pO l [[59]] j7 p7.2 (by omega) hV.fin) (λu j8 x8=>?_) (λn e hx=>by simp;exact Q5.fail (hp.symm.trans (tU hV hc ((bS x7).trans (kN hx)))) _);have p8:=aB.exp hV.fin _ _ j7 u j8 p7.2 x8;have h1:c0i aD l out j6=.ok (out++[d.getD a2I]) j8:=(bS x7).trans ((bS x8).trans rfl);rw[a0m hV hc h1]at hp;generalize d.getD a2I=D0 at hp|-;simp;refine jN (by first|omega|exact⟨λx _=>by rw[b2A];rfl,by omega⟩) ?_;simp;exact bD.mk ⟨(out++[D0],j8,g),by simp only;omega,p8.2,by simp only;omega,by simp;omega,hp⟩ (by simp[b2A]) (by simp;omega)
  |false=>rw[a0n hV hc]at hp;have Q6:=Q5.step hp.symm;simp;refine eP Q6 p6 hV.fin λu7 j7 x7 Q7 p7=>?_;simp;exact Q7.ok _ j7 _ _ rfl (.inr rfl) (by simp)
 |true=>
  have Q3:=Q2.step (mS hs);rw[if_pos rfl]at Q3;refine rdT hs p2 hV.fin λp3=>?_;obtain⟨j3,hj3⟩:∃j,j2+1=j:=⟨_,rfl⟩;rw[hj3]at Q3 p3|-;simp;refine uA Q3 p3 (.mk func98 rfl) ((b4V hV j3 p3.2)) ((a7M hV)) λns j4 x4 Q4 p4=>?_;simp;refine eP Q4 p4 hV.fin λu5 j5 x5 Q5 p5=>?_;simp;refine SW.tK (ι:={x:List eL×Nat×Nat//j5<=x.2.1/\x.2.1<l.length/\l.length<x.2.2+x.2.1/\x.1.length<=x.2.1/\eE (λi=>aJ l i [100,101,102]) (c0i aD l) x.2.2 x.1 x.2.1=pK l (λi=>aJ l i [100,101,102]) (c0i aD l) [] j5}) (λ_=>[]) (λx=>[(2,.cells (.d (.str [])::((tyD jK).map .d++[.d .aE,.d .aE]))),(3,.cells (.d (.str c)::((tyD t).map .d++[.d (.sl (List.map eD ns)),.d (.sl (x.1.1.map c2R))]))),(100000,rdO l x.1.2.1)]) (λ_=>[(58,[.c 3 11])]) (λx=>l.length-x.1.2.1) ⟨([],j5,l.length+2),g3p _,p5.2,by simp only;omega,by simp,rfl⟩ (by simp[jK,eI]) ?_;rintro⟨⟨out,j6,g⟩,hb,hj6,hg,ho,hp⟩;simp only at hb hj6 hg ho hp;obtain⟨g,rfl⟩:∃k,g=k+1:=⟨g-1,by omega⟩;have p6:j5<=j6/\j6<l.length:=⟨hb,hj6⟩;have hbb:=mQ (G:=G) l j6 [100,101,102] p6.2;simp;refine pY (i:=j6) (ds:=[.str [100,101,102]]) jO hbb ?_;cases hc:aJ l j6 [100,101,102]with
  |true=>have E0:a2H Q (eE (λi=>aJ l i [100,101,102]) (c0i aD l) (g+1) out j6) (eE (λi=>aJ l i [100,101,102]) (c0i aD l) (g+1) out j6):=⟨rfl,λn e s h=>Q5.fail (hp.symm.trans h) s⟩;simp;refine rdX (i:=j6) (ds:=[]) a5Q (a8O hV hN j6 hj6) (λd j7 x7=>?_) (λn e hx=>by simp;exact Q5.fail (hp.symm.trans (tU hV hc (kN hx))) _);have p7:=a8T hV j6 d j7 hj6 x7;simp;refine rdX (hw:=by simp[strs]) (ds:=[.sl (strs [[59]])]) oC (pO l [[59]] j7 p7.2 (by omega) hV.fin) (λu j8 x8=>?_) (λn e hx=>by simp;exact Q5.fail (hp.symm.trans (tU hV hc ((bS x7).trans (kN hx)))) _);have p8:=aB.exp hV.fin _ _ j7 u j8 p7.2 x8;have h1:c0i aD l out j6=.ok (out++[d.getD a2I]) j8:=(bS x7).trans ((bS x8).trans rfl);rw[a0m hV hc h1]at hp;generalize d.getD a2I=D0 at hp|-;simp;refine jN (by first|omega|exact⟨λx _=>by rw[b2A];rfl,by omega⟩) ?_;simp;exact bD.mk ⟨(out++[D0],j8,g),by simp only;omega,p8.2,by simp only;omega,by simp;omega,hp⟩ (by simp[b2A]) (by simp;omega)
  |false=>rw[a0n hV hc]at hp;have Q6:=Q5.step hp.symm;simp;refine eP Q6 p6 hV.fin λu7 j7 x7 Q7 p7=>?_;simp;exact Q7.ok _ j7 _ _ rfl (.inr rfl) (by simp)
end
abbrev a7X:=Nm×List Nm×Pr
abbrev e6K(c:a7X):List D:=.str c.1::.sl (strs c.2.1)::qO c.2.2
abbrev e6L(x:b6S):List D:=.str x.name::.str x.data::.str x.result::.sl (x.cases.map e6K)::prD x.inv
theorem d8L(x:b6S):c6o x=e6L x:=by
 rw[c6o,dH]
 rfl
abbrev e6M(q:b6T):List D:=.str q.name::.sl (q.vars.map eD)::prD q.body
theorem d8M(q:b6T):d1K q=e6M q:=by
 rw[d1K,dH]
 rfl
section
variable {aD:List Tok->Nat->Nat->jA Pr} {l:List Tok} (hV:rP G aD l)
include hV
def b8H(nm dn sn:Nm)(out:List a7X):List (Nat×bH):=[(100001,.cells [.ptr 100000 0]),(100002,.cells [.d (.str nm),.d (.str dn),.d (.str sn),.d (.sl (out.map e6K)),.d (.int .i64 0),.d (.str []),.d (.int .i64 0),.d (.sl [])])]
abbrev f4d:List (TypeId×List VM.Loc):=[(136,[.c 100002 3])]
abbrev e4j(aD:List Tok->Nat->Nat->jA Pr)(l:List Tok)(out:List a7X):bE (List a7X):=do
 let c <- jI l
 let ns <- (λi=>if aJ l i [40] then gD aL l i else .ok [] i:bE (List Nm))
 aQ l [[61]]
 let p <- kY aD l
 pure (out++[(c,ns,p)])
theorem d8N(nm dn sn:Nm):a2A l K3 [.ptr 100001 0,.ptr 100002 0] (b8H nm dn sn) f4d:=by
 constructor
 all_goals intros
 all_goals first
  |rfl
  |simp[b8H,aR,aY,bB,bA,bM,getKey,aZ,bI,dE,rk,dM,bW, *]
theorem b8I(out:List a7X):aB l 1 (e4j aD l out):=by
 refine(aB.title hV.fin).bl λ_=>aB.bl (λi b j hi h=>?_) λ_=>(aB.exp hV.fin _ _).bz λ_=>hV.oY.pred.bl λ_=>aB.bZ _;split at h
 .exact((aB.words hV.fin).le (by omega)) _ _ _ hi h
 .cases h;omega
theorem d4G(a:List a7X)(i:Nat)(b:List a7X)(j:Nat)(hi:i<l.length)(h:a.length<=i)(hx:e4j aD l a i=.ok b j):b.length<=j:=by have h1:=b8I hV a i b j hi hx;obtain⟨_,_,_,hx⟩:=dC hx;obtain⟨_,_,_,hx⟩:=dC hx;obtain⟨_,_,_,hx⟩:=dC hx;obtain⟨_,_,_,hx⟩:=dC hx;cases hx;simp;omega
theorem d0G(nm dn sn:Nm)(out:List a7X)(j0:Nat)(hi:j0<l.length)(vT:out.length<=j0):pX G 100 [.ptr 100001 0,.ptr 100002 0] (b8H nm dn sn out) f4d l j0 (e4j aD l out j0) (λ_=>.cY []) (b8H nm dn sn):=by
 have hl:=hV.len;have p0:=gQ hi;refine pX.bP func100 rfl ntmps100 rfl (by simp) ?_;intro Q Q0;simp[b8H];refine uA Q0 p0 mA (oI l j0 p0.2) (aB.title hV.fin) λc j1 x1 Q1 p1=>?_;simp;have hb:=mQ (G:=G) l j1 [40] p1.2;refine pY (ds:=[.str [40]]) jO hb ?_;cases hs:aJ l j1 [40]with
 |false=>have Q1:=Q1.step (a:=[]) (j:=j1) (by simp[hs]);simp;refine eP Q1 p1 hV.fin λu4 j4 x4 Q4 p4=>?_;simp;refine uA Q4 p4 sT (vH hV j4 p4.2) (hV.oY.pred) λp j5 x5 Q5 p5=>?_;simp;refine jN (by first|omega|exact⟨λx _=>by rw[dH];rfl,by omega⟩) ?_;simp;exact Q5.ok _ j5 .normal _ rfl (.inl rfl) (by simp[b8H,dH,a0i])
 |true=>
  have e1:(λi=>if aJ l i [40] then gD aL l i else .ok [] i:bE (List Nm)) j1=gD aL l j1:=by simp[hs]
  simp;refine rdX (.mk func101 rfl) (a7A hV j1 p1.2) (λns j3 x3=>?_) (λn e hx=>by first|exact Q1.fail (e1.trans hx) _|(simp;exact Q1.fail (e1.trans hx) _)|(simp;exact λs=>Q1.fail (e1.trans hx) s));have Q3:=Q1.step (e1.trans x3);have p3:=aB.words hV.fin j1 ns j3 p1.2 x3;simp;refine eP Q3 p3 hV.fin λu4 j4 x4 Q4 p4=>?_;simp;refine uA Q4 p4 sT (vH hV j4 p4.2) (hV.oY.pred) λp j5 x5 Q5 p5=>?_;simp;refine jN (by first|omega|exact⟨λx _=>by rw[dH];rfl,by omega⟩) ?_;simp;exact Q5.ok _ j5 .normal _ rfl (.inl rfl) (by simp[b8H,dH,a0i])
theorem c0j(j0:Nat)(hi:j0<l.length):tL G 50 [] l j0 (a7k aL aD l j0) (λx=>.d (.agg (e6L x))):=by
 have hl:=hV.len;have p0:=gQ hi;refine pX.bP func50 rfl ntmps50 rfl (by simp) ?_;intro Q Q0;unfold a7k at Q0;simp;refine uA Q0 p0 dS (eH hV.kw l j0 p0.2 (by omega)) (aB.word hV.fin) λnm j1 x1 Q1 p1=>?_;simp;refine eP Q1 p1 hV.fin λu2 j2 x2 Q2 p2=>?_;simp;refine uA Q2 p2 mA (oI l j2 p2.2) (aB.title hV.fin) λdn j3 x3 Q3 p3=>?_;simp;refine eP Q3 p3 hV.fin λu4 j4 x4 Q4 p4=>?_;simp;refine uA Q4 p4 a3u (a5H hV.kw l j4 p4.2 (by omega)) (aB.sort hV.fin) λsn j5 x5 Q5 p5=>?_;simp;refine eP Q5 p5 hV.fin λu6 j6 x6 Q6 p6=>?_;simp;have kK:=jG hV [59] (e4j aD l) (λout i=>out.length<=i) 0 (.mk func100 rfl) (d8N hV nm dn sn) (λa=>(b8I hV a).le (by omega)) (λa i rZ hi h=>d0G hV nm dn sn a i hi h) (d4G hV) (λa i h=>by omega) [] j6 (by omega) p6.2 (by simp);refine eB.mk (a1D eQ kK [(100000,100000),(100001,1),(100002,3)] (λa j hx=>?_) ?_ ?_ ?_ rfl rfl (λcs j7 x7=>?_) (λn e hx2=>Q6.fail hx2 _))
 .simp[b8H,aR,aY,bB,bA,bM,getKey]
 .simp[b8H,aR,aY,bB,bA,bM,getKey]
 .simp[aZ,bI,rk]
 .simp[b8H,aZ,bI,rk,dE,dM]
 .have Q7:=Q6.step x7;have p7:=aB.list hV.fin (λa=>b8I hV a) [] j6 cs j7 p6.2 x7;simp[bJ,b8H,aZ,bI,rk,dE,dM,bW,kU,jF,eN];refine eP Q7 p7 hV.fin λu8 j8 x8 Q8 p8=>?_;simp;cases hs:aJ l j8 [105,110,118,97,114,105,97,110,116]with
  |false=>have Q9:=Q8.step (mT hs);rw[if_neg (by decide)]at Q9;have Q9:=Q9.step (kR);refine rdF hs p8 ?_;simp;exact Q9.ok _ j8 _ _ rfl (.inr rfl) (by simp[eI])
  |true=>have Q9:=Q8.step (mS hs);rw[if_pos rfl]at Q9;refine rdT hs p8 hV.fin λp9=>?_;obtain⟨j9,hj9⟩:∃j,j8+1=j:=⟨_,rfl⟩;rw[hj9]at Q9 p9|-;simp;refine uA Q9 p9 sT (vH hV j9 p9.2) (hV.oY.pred) λp j10 x10 Q10 p10=>?_;simp;exact Q10.ok _ j10 _ _ rfl (.inr rfl) (by simp)
theorem d0H(j0:Nat)(hi:j0<l.length):tL G 51 [] l j0 (a7l aL aD l j0) (λx=>.d (.agg (e6M x))):=by have hl:=hV.len;have p0:=gQ hi;refine pX.bP func51 rfl ntmps51 rfl (by simp) ?_;intro Q Q0;unfold a7l at Q0;simp;refine uA Q0 p0 dS (eH hV.kw l j0 p0.2 (by omega)) (aB.word hV.fin) λnm j1 x1 Q1 p1=>?_;simp;refine eP Q1 p1 hV.fin λu2 j2 x2 Q2 p2=>?_;simp;refine uA Q2 p2 a3x ((a5J hV true j2 p2.2)) ((aB.vars hV.fin true)) λvs j3 x3 Q3 p3=>?_;simp;refine eP Q3 p3 hV.fin λu4 j4 x4 Q4 p4=>?_;simp;refine uA Q4 p4 sT (vH hV j4 p4.2) (hV.oY.pred) λp j5 x5 Q5 p5=>?_;simp;exact Q5.ok _ j5 _ _ rfl (.inr rfl) (by simp)
theorem c1Q(j0:Nat)(hi:j0<l.length):tL G 46 [] l j0 (a2v l j0) (λ_=>.cY []):=by
 have hl:=hV.len;have p0:=gQ hi;have ht:=dK (G:=G) l j0 j0 0;refine pX.bP func46 rfl ntmps46 rfl (by simp) ?_;intro Q Q0;unfold a2v at Q0;simp;refine pY (ds:=[.int .i64 0]) cH ht ?_;by_cases hk:(aH l j0).kind=0
 .have Q0:=Q0.uK hk;simp[bL,hk];exact Q0.ok _ j0 _ _ rfl (.inl rfl) (by simp)
 .have Q0:=Q0.sK hk;simp[bL,hk];refine rdX (ds:=[]) xZ (a0j (α:=Unit) l j0 p0.2 (by omega) λ_=>.cY []) (λa j hx=>by unfold dN at hx;cases hx) (λn e hx=>Q0.bad n e _ hx)
end
section
variable {aD:List Tok->Nat->Nat->jA Pr} {l:List Tok} (hV:rP G aD l) (hN:∀i, -9223372036854775807<=(aH l i).n/\(aH l i).n<=9223372036854775807)
include hV hN
def a0U(m:sC):List (Nat×bH):=[(100001,.cells [.d (.sl (m.b6U.map b7b)),.d (.sl (m.b1H.map c6n)),.d (.sl (m.insts.map d1J)),.d (.sl (m.b6V.map c6o)),.d (.sl (m.c6i.map d1K)),.d (.sl (m.defs.map c2R))])]
abbrev f0b:List (TypeId×List VM.Loc):=[(69,[.c 100001 0]),(95,[.c 100001 1]),(98,[.c 100001 2]),(73,[.c 100001 3]),(102,[.c 100001 4]),(58,[.c 100001 5])]
abbrev f4e(d:b6Q):List D:=[.str d.name,.sl (strs d.vars),.sl (d.b1E.map eD),.sl (d.cons.map c0W)]
abbrev f4f(d:b1G):List D:=[.str d.name,.str d.var,.sl (d.methods.map a5t)]
omit hN in
theorem b5F(i:Nat)(hi:i<l.length):tL G 47 [] l i (a5r aL bF aD l i) (λd=>.d (.agg (f4e d))):=b8C hV i hi
omit hN in
theorem c4e(i:Nat)(hi:i<l.length):tL G 48 [] l i (a1A aL bF aD l i) (λd=>.d (.agg (f4f d))):=c7U hV i hi
structure d8O (m:sC) (i:Nat):Prop where
 a:m.b6U.length<=i
 b:m.b1H.length<=i
 c:m.insts.length<=i
 d:m.b6V.length<=i
 e:m.c6i.length<=i
 f:m.defs.length<=i
theorem d0I(m:sC)(j0:Nat)(hi:j0<l.length)(hm:d8O m j0):pX G 18 [.ptr 100000 0,.ptr 100001 0] (a0U m) f0b l j0 (a2u aL bF aD l m j0) (λ_=>.cY []) a0U:=by
 have hl:=hV.len;have p0:=gQ hi;obtain⟨m1,m2,m3,m4,m5,m6⟩:=hm;obtain⟨da,cl,ins,me,qu,de⟩:=m;simp only at m1 m2 m3 m4 m5 m6;have eq1:∀d:b6Q,b7b d=[.str d.name,.sl (strs d.vars),.sl (d.b1E.map eD),.sl (d.cons.map c0W)]:=λd=>rfl;have eq2:∀d:b1G,c6n d=[.str d.name,.str d.var,.sl (d.methods.map a5t)]:=λd=>rfl;have eq3:=d8J;have eq4:=d8L;have eq5:=d8M;have eq6:=b2A;refine pX.bP func18 rfl ntmps18 rfl (by simp) ?_;intro Q Q0;unfold a2u at Q0;simp[a0U];cases s1:aJ l j0 [100,97,116,97]with
 |true=>
  have Q1:=Q0.uK s1;refine rdT s1 p0 hV.fin λp1=>?_;obtain⟨j1,tM⟩:∃j,j0+1=j:=⟨_,rfl⟩;rw[tM]at Q1 p1|-;simp;refine eV [0,1,2,3,5] 6 [] (.op 4 (.call [7,8,9,10,11] .none) (.call [4,7,8,9,10,11] .none)) (kV (a5r aL bF aD l j1)) (by kernel_rfl) (by kernel_rfl) ?_;simp;refine⟨?_,?_⟩
  all_goals
   refine rT Q1 p1 (.mk func47 rfl) ((b5F hV j1 p1.2)) ((aB.data hV.fin hV.oY.pred)) λx j2 x2 Q2 p2=>cS.mk ?_;simp;refine cJ (by first|omega|exact⟨λx _=>by rw[eq1];rfl,by omega⟩|exact⟨λx _=>rfl,by omega⟩) ?_;simp;exact Q2.ok _ j2 .normal _ rfl (.inl rfl) (by simp[a0U,eq1])
 |false=>
 have Q0:=Q0.sK (by rw[s1];decide);refine rdF s1 p0 ?_;simp;cases s2:aJ l j0 [99,108,97,115,115]with
 |true=>
  have Q1:=Q0.uK s2;refine rdT s2 p0 hV.fin λp1=>?_;obtain⟨j1,tM⟩:∃j,j0+1=j:=⟨_,rfl⟩;rw[tM]at Q1 p1|-;simp;refine eV [0,1,2,3,5] 6 [] (.op 4 (.call [7,8,9,10,11] .none) (.call [4,7,8,9,10,11] .none)) (kV (a1A aL bF aD l j1)) (by kernel_rfl) (by kernel_rfl) ?_;simp;refine⟨?_,?_⟩
  all_goals
   refine rT Q1 p1 (.mk func48 rfl) ((c4e hV j1 p1.2)) ((aB.cls hV.fin hV.oY.pred)) λx j2 x2 Q2 p2=>cS.mk ?_;simp;refine cJ (by first|omega|exact⟨λx _=>by rw[eq2];rfl,by omega⟩|exact⟨λx _=>rfl,by omega⟩) ?_;simp;exact Q2.ok _ j2 .normal _ rfl (.inl rfl) (by simp[a0U,eq2])
 |false=>
 have Q0:=Q0.sK (by rw[s2];decide);refine rdF s2 p0 ?_;simp;cases s3:aJ l j0 [105,110,115,116]with
 |true=>
  have Q1:=Q0.uK s3;refine rdT s3 p0 hV.fin λp1=>?_;obtain⟨j1,tM⟩:∃j,j0+1=j:=⟨_,rfl⟩;rw[tM]at Q1 p1|-;simp;refine eV [0,1,2,3,5] 6 [] (.op 4 (.call [7,8,9,10,11] .none) (.call [4,7,8,9,10,11] .none)) (kV (a7j aL bF aD l j1)) (by kernel_rfl) (by kernel_rfl) ?_;simp;refine⟨?_,?_⟩
  all_goals
   refine rT Q1 p1 (.mk func49 rfl) ((b8E hV hN j1 p1.2)) ((aB.inst hV.fin hV.oY)) λx j2 x2 Q2 p2=>cS.mk ?_;simp;refine cJ (by first|omega|exact⟨λx _=>by rw[eq3];rfl,by omega⟩|exact⟨λx _=>rfl,by omega⟩) ?_;simp;exact Q2.ok _ j2 .normal _ rfl (.inl rfl) (by simp[a0U,eq3])
 |false=>
 have Q0:=Q0.sK (by rw[s3];decide);refine rdF s3 p0 ?_;simp;cases s4:aJ l j0 [109,101,97,115,117,114,101]with
 |true=>
  have Q1:=Q0.uK s4;refine rdT s4 p0 hV.fin λp1=>?_;obtain⟨j1,tM⟩:∃j,j0+1=j:=⟨_,rfl⟩;rw[tM]at Q1 p1|-;simp;refine eV [0,1,2,3,5] 6 [] (.op 4 (.call [7,8,9,10,11] .none) (.call [4,7,8,9,10,11] .none)) (kV (a7k aL aD l j1)) (by kernel_rfl) (by kernel_rfl) ?_;simp;refine⟨?_,?_⟩
  all_goals
   refine rT Q1 p1 (.mk func50 rfl) ((c0j hV j1 p1.2)) ((aB.e2Y hV.fin hV.oY.pred)) λx j2 x2 Q2 p2=>cS.mk ?_;simp;refine cJ (by first|omega|exact⟨λx _=>by rw[eq4];rfl,by omega⟩|exact⟨λx _=>rfl,by omega⟩) ?_;simp;exact Q2.ok _ j2 .normal _ rfl (.inl rfl) (by simp[a0U,eq4])
 |false=>
 have Q0:=Q0.sK (by rw[s4];decide);refine rdF s4 p0 ?_;simp;cases s5:aJ l j0 [113,117,97,108]with
 |true=>
  have Q1:=Q0.uK s5;refine rdT s5 p0 hV.fin λp1=>?_;obtain⟨j1,tM⟩:∃j,j0+1=j:=⟨_,rfl⟩;rw[tM]at Q1 p1|-;simp;refine eV [0,1,2,3,5] 6 [] (.op 4 (.call [7,8,9,10,11] .none) (.call [4,7,8,9,10,11] .none)) (kV (a7l aL aD l j1)) (by kernel_rfl) (by kernel_rfl) ?_;simp;refine⟨?_,?_⟩
  all_goals
   refine rT Q1 p1 (.mk func51 rfl) ((d0H hV j1 p1.2)) ((aB.e2Z hV.fin hV.oY.pred)) λx j2 x2 Q2 p2=>cS.mk ?_;simp;refine cJ (by first|omega|exact⟨λx _=>by rw[eq5];rfl,by omega⟩|exact⟨λx _=>rfl,by omega⟩) ?_;simp;exact Q2.ok _ j2 .normal _ rfl (.inl rfl) (by simp[a0U,eq5])
 |false=>
 have Q0:=Q0.sK (by rw[s5];decide);refine rdF s5 p0 ?_;simp;refine uA Q0 p0 a5Q ((a8O hV hN j0 p0.2)) (a8T hV) λd j1 x1 Q1 p1=>?_;cases d with
 |none=>
  simp;refine rdX (ds:=[]) xZ (a0j (α:=sC) l j1 p1.2 (by omega) λ_=>.cY []) (λa j hx=>by unfold dN at hx;cases hx) (λn e hx=>?_)
  first|exact Q1.bad n e _ hx|(simp;exact Q1.bad n e _ hx)
 |some d=>simp;refine SW.vk ?_;simp;refine⟨.mk,?_⟩;refine cJ (by first|omega|exact⟨λx _=>by rw[eq6];rfl,by omega⟩) ?_;simp;exact Q1.ok _ j1 .normal _ rfl (.inl rfl) (by simp[a0U,eq6,a4M,a8Y])
end
section
variable {aD:List Tok->Nat->Nat->jA Pr} {l:List Tok} (hV:rP G aD l) (hN:∀i, -9223372036854775807<=(aH l i).n/\(aH l i).n<=9223372036854775807)
include hV
def exX(e:cP):List (Nat×bH):=[(100001,.cells ((zP e).map .d))]
def tyX(t:Ty):List (Nat×bH):=[(100001,.cells ((tyD t).map .d))]
def deX(d:eL):List (Nat×bH):=[(100001,.cells ((a4M d).map .d))]
theorem c7W(t0:Ty)(i:Nat)(hi:i<l.length):pX G 42 [.ptr 100000 0,.ptr 100001 0] (tyX t0) [] l i (mP aL bF aD l i) (λ_=>.cY []) tyX:=by have hl:=hV.len;refine pX.bP func42 rfl ntmps42 rfl (by simp) ?_;intro Q Q0;simp[tyX];refine rdX (ds:=[]) dP (qI hV i hi) (λt j h=>?_) (λn e h=>Q0.bad n e _ h);simp;exact Q0.ok t j _ _ h (.inl rfl) (by simp[tyX])
include hN
theorem c7X(e0:cP)(i:Nat)(hi:i<l.length):pX G 40 [.ptr 100000 0,.ptr 100001 0] (exX e0) [] l i (qD aL bF aD l i) (λ_=>.cY []) exX:=by have hl:=hV.len;refine pX.bP func40 rfl ntmps40 rfl (by simp) ?_;intro Q Q0;simp[exX];refine rdX (ds:=[]) cV (a3C hV hN i hi) (λt j h=>?_) (λn e h=>Q0.bad n e _ h);simp;exact Q0.ok t j _ _ h (.inl rfl) (by simp[exX])
abbrev eZ(aD:List Tok->Nat->Nat->jA Pr)(l:List Tok):bE eL:=do
 let d <- uH aL bF aD l
 match d with
 |none=>dN l
 |some d=>do
  let _ <- cD l [59]
  pure d
theorem d0J(d0:eL)(j0:Nat)(hi:j0<l.length):pX G 30 [.ptr 100000 0,.ptr 100001 0] (deX d0) [] l j0 (eZ aD l j0) (λ_=>.cY []) deX:=by
 have hl:=hV.len;have p0:=gQ hi;refine pX.bP func30 rfl ntmps30 rfl (by simp) ?_;intro Q Q0;simp[deX];refine uA Q0 p0 a5Q ((a8O hV hN j0 p0.2)) (a8T hV) λd j1 x1 Q1 p1=>?_;cases d with
 |none=>
  simp;refine rdX (ds:=[]) xZ (a0j (α:=eL) l j1 p1.2 (by omega) λ_=>.cY []) (λa j hx=>by unfold dN at hx;cases hx) (λn e hx=>?_)
  first|exact Q1.bad n e _ hx|(simp;exact Q1.bad n e _ hx)
 |some d=>
  simp;cases hs:aJ l j1 [59]with
  |true=>have Q2:=Q1.step (mS hs);refine rdT hs p1 hV.fin λp2=>?_;simp;exact Q2.ok _ (j1+1) _ _ rfl (.inl rfl) (by simp[deX,a4M,a8Y])
  |false=>have Q2:=Q1.step (mT hs);refine rdF hs p1 ?_;simp;exact Q2.ok _ j1 _ _ rfl (.inl rfl) (by simp[deX,a4M,a8Y])
abbrev moM(aD:List Tok->Nat->Nat->jA Pr)(l:List Tok)(m:sC):bE sC:=do
 let m <- a2u aL bF aD l m
 aQ l [[59]]
 pure m
omit hN in
theorem b8J(m:sC):aB l 1 (a2u aL bF aD l m):=aB.decl hV.fin hV.oY m
omit hN in
theorem c7Y(m:sC)(i:Nat)(m2:sC)(j:Nat)(hi:i<l.length)(hm:d8O m i)(h:a2u aL bF aD l m i=.ok m2 j):d8O m2 j:=by
 have ha:=b8J hV m i m2 j hi h;obtain⟨m1,m2,m3,m4,m5,m6⟩:=hm;unfold a2u at h;split at h
 .obtain⟨x,k,_,h⟩:=dC h;cases h;constructor<;>simp<;>omega
 split at h
 .obtain⟨x,k,_,h⟩:=dC h;cases h;constructor<;>simp<;>omega
 split at h
 .obtain⟨x,k,_,h⟩:=dC h;cases h;constructor<;>simp<;>omega
 split at h
 .obtain⟨x,k,_,h⟩:=dC h;cases h;constructor<;>simp<;>omega
 split at h
 .obtain⟨x,k,_,h⟩:=dC h;cases h;constructor<;>simp<;>omega
 .obtain⟨x,k,_,h⟩:=dC h;cases x with
  |none=>unfold dN at h;cases h
  |some d=>cases h;constructor<;>simp<;>omega
theorem c0k(j0:Nat)(hi:j0<l.length):pX G 16 [.ptr 100000 0,.ptr 100001 0] (a0U ⟨[],[],[],[],[],[]⟩) f0b l j0 (b6X aL bF aD l j0) (λ_=>.cY []) a0U:=by
 have hl:=hV.len;have p0:=gQ hi;refine pX.bP func16 rfl ntmps16 rfl (by simp) ?_;intro Q Q0;simp[a0U];refine SW.tK (ι:={x:sC×Nat×Nat//j0<=x.2.1/\x.2.1<l.length/\l.length<x.2.2+x.2.1/\d8O x.1 x.2.1/\eE (λi=> !decide ((aH l i).kind=0)) (moM aD l) x.2.2 x.1 x.2.1=b6X aL bF aD l j0}) (λ_=>[]) (λx=>rH l x.1.2.1++a0U x.1.1) (λ_=>f0b) (λx=>l.length-x.1.2.1) ⟨(⟨[],[],[],[],[],[]⟩,j0,l.length+2),g3p _,p0.2,by simp only;omega,⟨Nat.zero_le _,Nat.zero_le _,Nat.zero_le _,Nat.zero_le _,Nat.zero_le _,Nat.zero_le _⟩,rfl⟩ (by simp[a0U]) ?_;rintro⟨⟨m,j1,g⟩,hb,tM,hg,hm,hp⟩;simp only at hb tM hg hm hp;obtain⟨g,rfl⟩:∃k,g=k+1:=⟨g-1,by omega⟩;have p1:j0<=j1/\j1<l.length:=⟨hb,tM⟩;have ht:=dK (G:=G) l j1 j1 0;simp[a0U];refine pY (i:=j1) (ds:=[.int .i64 0]) cH ht ?_;by_cases hk:(aH l j1).kind=0
 .have hc:(λi=> !decide ((aH l i).kind=0)) j1=false:=by simp[hk]
  rw[a0n hV hc]at hp;simp[bL,hk];exact Q0.ok m j1 _ _ hp.symm (.inl rfl) (by simp[a0U])
 .have hc:(λi=> !decide ((aH l i).kind=0)) j1=true:=by simp[hk]
  simp[bL,hk];refine eB.mk (a1D (.mk func18 rfl) (d0I hV hN m j1 tM hm) [(100000,100000),(100001,100001)] (λa j hx=>?_) ?_ ?_ ?_ rfl rfl (λm2 j2 x2=>?_) (λn e hx=>by simp;exact Q0.bad _ _ _ (hp.symm.trans (tU hV hc (kN hx)))))
  .simp[a0U,aR,aY,bB,bA,bM,getKey]
  .simp[a0U,aR,aY,bB,bA,bM,getKey]
  .simp[aZ,bI,rk]
  .simp[a0U,aZ,bI,rk,dE,dM]
  .have p2:=b8J hV m j1 m2 j2 tM x2;have hm2:=c7Y hV m j1 m2 j2 tM hm x2;simp[bJ,a0U,aZ,bI,rk,dE,dM,bW,kU,jF,eN];refine rdX (hw:=by simp[strs]) (ds:=[.sl (strs [[59]])]) oC (pO l [[59]] j2 p2.2 (by omega) hV.fin) (λu j3 x3=>?_) (λn e hx=>by simp;exact Q0.bad _ _ _ (hp.symm.trans (tU hV hc ((bS x2).trans (kN hx)))));have p3:=aB.exp hV.fin _ _ j2 u j3 p2.2 x3;have hm3:d8O m2 j3:=⟨by have:=hm2.a;omega,by have:=hm2.b;omega,by have:=hm2.c;omega,by have:=hm2.d;omega,by have:=hm2.e;omega,by have:=hm2.f;omega⟩;have h1:moM aD l m j1=.ok m2 j3:=(bS x2).trans ((bS x3).trans rfl);rw[a0m hV hc h1]at hp;simp;exact bD.mk ⟨(m2,j3,g),by simp only;omega,p3.2,by simp only;omega,hm3,hp⟩ (by simp[a0U]) (by simp;omega)
end
end
end Go.Proofs.YtmfbjecjccipfaaGreatDoor
