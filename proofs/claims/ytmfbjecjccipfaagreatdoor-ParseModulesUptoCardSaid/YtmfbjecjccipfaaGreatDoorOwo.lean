/- Lemmas. No condition. -/
import Derived.Test.YtmfbjecjccipfaaGreatDoorOwn
set_option linter.unusedVariables false
set_option linter.unusedSimpArgs false
set_option linter.unusedSectionVars false
set_option maxRecDepth 100000
set_option maxHeartbeats 64000000
open Go.Proofs.Tryz
namespace Go.Proofs.YtmfbjecjccipfaaGreatDoor
section
open Go Go.VM
variable {G:GT}
theorem a4V{α:Type}(hG:G 1=some gD)(hS:G 0=some a0U)(C:α->List D)(a0:α){F:FuncId}(he:VM.Enters prog F)(x:List Tok->bF α)(s:List UInt8)(hs:s.length<=900000000)(hc:∀l:List Tok,rQ G rdQ l->(∀i, -9223372036854775807<=(aJ l i).n/\(aJ l i).n<=9223372036854775807)->0<l.length->qA G F [.ptr 100000 0,.ptr 100001 0] [(100001,.cells ((C a0).map .d))] [] l 0 (x l 0) (λ_=>.cX []) λa=>[(100001,.cells ((C a).map .d))])(ha:∀(l:List Tok) a j,pK l->a5L rdQ l->x l 0=.ok a j->j<l.length):
  match gA x s with
  |.ok a _=>CH prog G 15 ⟨[.d (.str s),.clo F [.ptr 100001 0]],[(100001,.cells ((C a0).map .d))],[]⟩ ⟨[.cX [.int .i64 0,.int .i64 0]],[(100001,.cells ((C a).map .d))],[]⟩
  |.bad n e=>CHd prog G 15 ⟨[.d (.str s),.clo F [.ptr 100001 0]],[(100001,.cells ((C a0).map .d))],[]⟩ (.cX [.int .i64 n,.int .i64 e]):=by
 have hlx:=c0v hS s hs;unfold gA;by_cases hl:40000<s.length
 .rw[if_pos hl]at hlx|-;exact b9C F s 0 7 (by decide) hlx
 .rw[if_neg hl]at hlx|-;cases hr:oV kN s 0 1 false with
  |error n=>rw[hr]at hlx;exact b9C F s n 14 (by decide) hlx
  |ok l=>
   rw[hr]at hlx;have hV:rQ G rdQ l:=d5r hG hr;have hN:=c2K hr;have a2I:0<l.length:=g3U.2 hV.fin.1;have qC:=hc l hV hN a2I;simp only;cases hx:x l 0 with
   |bad n e=>rw[hx]at qC;exact d9z hV C a0 n e he hlx qC
   |ok a j=>
    rw[hx]at qC;have hj:=ha l a j hV.fin hV.mZ hx;simp only;cases a2a:a5a l j with
    |bad n e=>exact d5w hV C a0 a j n e he hlx qC hj a2a
    |ok u k=>
     have hk:a5a l j=.ok () j:=by
      unfold a5a at a2a|-;split at a2a
      .rename_i h0;rw[if_pos h0]
      .unfold eV at a2a;cases a2a
     exact e4R hV C a0 a j he hlx qC hj hk
variable{cur r s:List UInt8}
theorem b3d{α:Type}{x:List Tok->bF α}(h:∀(l:List Tok) n e,pK l->a5L rdQ l->0<l.length->x l 0=.bad n e->e≠0){n e:Int}(hb:gA x s=.bad n e):e≠0:=by
 unfold gA at hb;split at hb
 .cases hb;decide
 .split at hb
  .cases hb;decide
  .rename_i l hl;have hE:=b6B (a2b s 0 1 false l hl);have a2I:0<l.length:=g3U.2 hE.1;have a1k:pK l:=by
    refine⟨hE.1,hE.2 _ ?_⟩;unfold aJ;rw[if_pos (by omega),g4s,g3u (by omega)]
    rfl
   split at hb
   .rename_i n' e' hx;cases hb;exact h l _ _ a1k (λe i p j hi hx=>c4O hE.2 e i p j hi hx) a2I hx
   .rename_i a j hx;split at hb
    .rename_i n' e' he;cases hb;unfold a5a at he;split at he
     .cases he
     .unfold eV at he;cases he;decide
    .cases hb
theorem b9F(l:List Tok):∀i e,PzR (rdQ l i e):=λi e n x h=>by
 unfold rdQ at h;split at h
 .cases h;decide
 .split at h
  .cases h
  .rename_i hc;cases h;exact hc
theorem f0E(l:List Tok):∀i e n x,i<l.length->rdQ l i e=.bad n x->x≠0:=λi e n x _ h=>b9F l i e n x h
abbrev moN:List D:=[.aE,.aE,.aE,.aE,.aE,.aE]
def moC:Option eK->List D
 |none=>moN
 |some m=>a1j m
def b1n{α:Type}:gO α->gO (Option α)
 |.ok a j=>.ok (some a) j
 |.bad n e=>.bad n e
section
variable {rdP:List Tok->Nat->Nat->gO Pr} {l:List Tok} (hV:rQ G rdP l) (hN:∀i, -9223372036854775807<=(aJ l i).n/\(aJ l i).n<=9223372036854775807)
include hV hN
theorem b9G(i:Nat)(hi:i<l.length):qA G 16 [.ptr 100000 0,.ptr 100001 0] [(100001,.cells ((moC none).map .d))] [] l i (b1n (a7K aH aZ rdP l i)) (λ_=>.cX []) λa=>[(100001,.cells ((moC a).map .d))]:=by
 have h:=c0U hV hN i hi;cases hr:a7K aH aZ rdP l i with
 |ok m j=>rw[hr]at h;intro base R μ args w rT;refine(h base R μ args w (rT.a4n ⟨by simp[moC],by simp[sQ,moC],by simp[moC],by simp[bK,moC,sQ,getKey]⟩)).mono ?_;rintro e w' ⟨v,R',μ',h1,h2,h3⟩;exact⟨v,R',μ',h1,h2.a4n ⟨by simp[moC,a1j],by simp[sQ,moC,a1j],by simp[moC,a1j],by simp[bK,moC,a1j]⟩,h3⟩
 |bad n e=>rw[hr]at h;intro base R μ args w rT;exact h base R μ args w (rT.a4n ⟨by simp[moC],by simp[sQ,moC],by simp[moC],by simp[bK,moC,sQ,getKey]⟩)
end
abbrev tkD(l:List Tok):D:=.sl (l.map bL)
theorem gI:VM.Enters prog 200:=.mk func200 rfl
theorem sN(l:List Tok)(i:Nat)(s:List UInt8)(hl:l.length<=900000000:=by omega):CS prog G 200 [tkD l,.int .i64 i,.str s] (.d (.bool (pM l i s))) none:=by
 refine CS.aY func200 rfl ntmps200 rfl ?_;by_cases aG:i<l.length
 .rw[b1h aG];obtain⟨t,ht⟩:∃t,l[i]=t:=⟨_,rfl⟩;rw[ht];simp[aG,ht,bL];by_cases h1:t.kind=4
  .by_cases h2:t.text=s<;>simp[h1,h2,aG,ht,bL]
  .simp[h1,aG,ht,bL]
 .rw[c4D aG];simp[aG]
theorem b1o(l:List Tok)(i:Nat)(hl:l.length<=900000000:=by omega):CS prog G 240 [tkD l,.int .i64 i] (.d (.bool (wtB l i))) none:=by
 refine CS.aY func240 rfl ntmps240 rfl ?_;by_cases aG:i<l.length
 .rw[c4F aG];obtain⟨t,ht⟩:∃t,l[i]=t:=⟨_,rfl⟩;rw[ht];simp[aG,ht,bL];by_cases h1:t.kind=1
  .simp[h1,aG,ht,bL]
  .by_cases h2:t.kind=2<;>simp[h1,h2,aG,ht,bL]
 .rw[c4G aG];simp[aG]
def opX(l:List Tok)(n k:Nat):Option (Int×Bool):=if k=6 then a3m l n else if k=2 then(if pM l n [61,62]=true then some (17,false) else none) else(b2T l n k).map λo=>(o,false)
def a5n:Option (Int×Bool)->DV
 |some (o,e)=>.cX [.int .i64 o,.bool e,.bool true]
 |none=>.cX [.int .i64 0,.bool false,.bool false]
theorem c4S(o):qN (a5n o)=true:=by
 cases o with
 |none=>rfl
 |some q=>obtain⟨a,b⟩:=q;rfl
theorem d9A{l:List Tok}{n k:Nat}(h:∀s,pM l n s=false):opX l n k=none:=by
 unfold opX a3m b2T;simp only[h];split
 .rfl
 split
 .simp
 .simp
variable{st:St}{x y:Code}{P:Program}{Q:Exit->St->Prop}
theorem kV{c:Operand}(hc:st.eval G c=.d (.bool false))(h:SW P G y st Q):SW P G (.cond c x y) st Q:=λbase R μ a w hr=>wp_cond (t:=false) (hr.a2F hc) (h base R μ a w hr)
def oU(t:Tok)(k v:Nat):St:=⟨List.set (([.undef,.undef,.d (.int .i64 k),.undef,.undef,.undef,.d (.int .i64 0),.d (.bool false),.d (.bool false),.d (.str t.text)]:List DV)++List.replicate 108 .undef) v (.d (.bool false)),[],[]⟩
theorem b9H(l:List Tok)(n k:Nat)(hk:1<=k/\k<=10:=by omega)(hl:l.length<=900000000:=by omega):CS prog G 202 [tkD l,.int .i64 n,.int .i64 k] (a5n (opX l n k)) none:=by
 obtain⟨o,ho⟩:∃o,opX l n k=o:=⟨_,rfl⟩;rw[ho];refine CS.a4w func202 rfl ntmps202 rfl ?_;refine SW.gN (SW.vk ?_);simp;by_cases aG:n<l.length;rotate_left
 .rw[d9A λs=>c4D aG s]at ho;subst ho;have hge:l.length<=n:=g3Z aG;refine SW.gN (SW.vk ?_);simp[hge,a5n]
 have hge:¬l.length<=n:=by omega
 obtain⟨t,ht⟩:∃t,l[n]=t:=⟨_,rfl⟩;by_cases h4:t.kind=4;rotate_left
 .rw[d9A λs=>by rw[b1h aG,ht];simp[h4]]at ho;subst ho;refine SW.gN (SW.vk ?_);simp[hge,aG,ht,bL];simp[h4,a5n]
 have hs:∀s,pM l n s=decide (t.text=s):=λs=>by rw[b1h aG,ht];simp[h4]
 unfold opX a3m b2T at ho;simp only[hs]at ho;refine oJ ⟨[.d (tkD l),.d (.int .i64 n),.d (.int .i64 k),.undef,.undef,.undef,.d (.int .i64 0),.d (.bool false),.d (.bool false)]++List.replicate 109 .undef,[],[]⟩ (SW.vk ?_) ?_
 .simp[hge,aG,ht,bL];simp[h4,List.replicate]
 refine SW.gN (SW.vk ?_);simp[aG,ht,bL,List.replicate];refine SW.gN (SW.d0n ?_);by_cases q0:k=1/\t.text=[60,61,62]
 .obtain⟨rfl,e⟩:=q0;simp[opL,cmpL,e]at ho;subst ho;refine SW.vk ?_;simp[e,a5n,oU,List.replicate]
 refine oJ (oU t k 27) (SW.vk ?_) (kV rfl ?_)
 .by_cases c:k=1
  .have e:¬t.text=[60,61,62]:=λe=>q0 ⟨c,e⟩;subst c;simp[e,oU,List.replicate]
  .have c':¬(k:Int)=1:=by omega
   simp[c',oU,List.replicate]
 by_cases q1:k=2/\t.text=[61,62]
 .obtain⟨rfl,e⟩:=q1;simp[opL,cmpL,e]at ho;subst ho;refine SW.vk ?_;simp[e,a5n,oU,List.replicate]
 refine oJ (oU t k 34) (SW.vk ?_) (kV rfl ?_)
 .by_cases c:k=2
  .have e:¬t.text=[61,62]:=λe=>q1 ⟨c,e⟩;subst c;simp[e,oU,List.replicate]
  .have c':¬(k:Int)=2:=by omega
   simp[c',oU,List.replicate]
 by_cases q2:k=3/\t.text=[124,124]
 .obtain⟨rfl,e⟩:=q2;simp[opL,cmpL,e]at ho;subst ho;refine SW.vk ?_;simp[e,a5n,oU,List.replicate]
 refine oJ (oU t k 41) (SW.vk ?_) (kV rfl ?_)
 .by_cases c:k=3
  .have e:¬t.text=[124,124]:=λe=>q2 ⟨c,e⟩;subst c;simp[e,oU,List.replicate]
  .have c':¬(k:Int)=3:=by omega
   simp[c',oU,List.replicate]
 by_cases q3:k=4/\t.text=[38,38]
 .obtain⟨rfl,e⟩:=q3;simp[opL,cmpL,e]at ho;subst ho;refine SW.vk ?_;simp[e,a5n,oU,List.replicate]
 refine oJ (oU t k 48) (SW.vk ?_) (kV rfl ?_)
 .by_cases c:k=4
  .have e:¬t.text=[38,38]:=λe=>q3 ⟨c,e⟩;subst c;simp[e,oU,List.replicate]
  .have c':¬(k:Int)=4:=by omega
   simp[c',oU,List.replicate]
 by_cases q4:k=6/\t.text=[61]
 .obtain⟨rfl,e⟩:=q4;simp[opL,cmpL,e]at ho;subst ho;refine SW.vk ?_;simp[e,a5n,oU,List.replicate]
 refine oJ (oU t k 55) (SW.vk ?_) (kV rfl ?_)
 .by_cases c:k=6
  .have e:¬t.text=[61]:=λe=>q4 ⟨c,e⟩;subst c;simp[e,oU,List.replicate]
  .have c':¬(k:Int)=6:=by omega
   simp[c',oU,List.replicate]
 by_cases q5:k=6/\t.text=[33,61]
 .obtain⟨rfl,e⟩:=q5;simp[opL,cmpL,e]at ho;subst ho;refine SW.vk ?_;simp[e,a5n,oU,List.replicate]
 refine oJ (oU t k 62) (SW.vk ?_) (kV rfl ?_)
 .by_cases c:k=6
  .have e:¬t.text=[33,61]:=λe=>q5 ⟨c,e⟩;subst c;simp[e,oU,List.replicate]
  .have c':¬(k:Int)=6:=by omega
   simp[c',oU,List.replicate]
 by_cases q6:k=6/\t.text=[60]
 .obtain⟨rfl,e⟩:=q6;simp[opL,cmpL,e]at ho;subst ho;refine SW.vk ?_;simp[e,a5n,oU,List.replicate]
 refine oJ (oU t k 69) (SW.vk ?_) (kV rfl ?_)
 .by_cases c:k=6
  .have e:¬t.text=[60]:=λe=>q6 ⟨c,e⟩;subst c;simp[e,oU,List.replicate]
  .have c':¬(k:Int)=6:=by omega
   simp[c',oU,List.replicate]
 by_cases q7:k=6/\t.text=[60,61]
 .obtain⟨rfl,e⟩:=q7;simp[opL,cmpL,e]at ho;subst ho;refine SW.vk ?_;simp[e,a5n,oU,List.replicate]
 refine oJ (oU t k 76) (SW.vk ?_) (kV rfl ?_)
 .by_cases c:k=6
  .have e:¬t.text=[60,61]:=λe=>q7 ⟨c,e⟩;subst c;simp[e,oU,List.replicate]
  .have c':¬(k:Int)=6:=by omega
   simp[c',oU,List.replicate]
 by_cases q8:k=6/\t.text=[62]
 .obtain⟨rfl,e⟩:=q8;simp[opL,cmpL,e]at ho;subst ho;refine SW.vk ?_;simp[e,a5n,oU,List.replicate]
 refine oJ (oU t k 83) (SW.vk ?_) (kV rfl ?_)
 .by_cases c:k=6
  .have e:¬t.text=[62]:=λe=>q8 ⟨c,e⟩;subst c;simp[e,oU,List.replicate]
  .have c':¬(k:Int)=6:=by omega
   simp[c',oU,List.replicate]
 by_cases q9:k=6/\t.text=[62,61]
 .obtain⟨rfl,e⟩:=q9;simp[opL,cmpL,e]at ho;subst ho;refine SW.vk ?_;simp[e,a5n,oU,List.replicate]
 refine oJ (oU t k 90) (SW.vk ?_) (kV rfl ?_)
 .by_cases c:k=6
  .have e:¬t.text=[62,61]:=λe=>q9 ⟨c,e⟩;subst c;simp[e,oU,List.replicate]
  .have c':¬(k:Int)=6:=by omega
   simp[c',oU,List.replicate]
 by_cases q10:k=7/\t.text=[43]
 .obtain⟨rfl,e⟩:=q10;simp[opL,cmpL,e]at ho;subst ho;refine SW.vk ?_;simp[e,a5n,oU,List.replicate]
 refine oJ (oU t k 97) (SW.vk ?_) (kV rfl ?_)
 .by_cases c:k=7
  .have e:¬t.text=[43]:=λe=>q10 ⟨c,e⟩;subst c;simp[e,oU,List.replicate]
  .have c':¬(k:Int)=7:=by omega
   simp[c',oU,List.replicate]
 by_cases q11:k=7/\t.text=[45]
 .obtain⟨rfl,e⟩:=q11;simp[opL,cmpL,e]at ho;subst ho;refine SW.vk ?_;simp[e,a5n,oU,List.replicate]
 refine oJ (oU t k 104) (SW.vk ?_) (kV rfl ?_)
 .by_cases c:k=7
  .have e:¬t.text=[45]:=λe=>q11 ⟨c,e⟩;subst c;simp[e,oU,List.replicate]
  .have c':¬(k:Int)=7:=by omega
   simp[c',oU,List.replicate]
 by_cases q12:k=8/\t.text=[42]
 .obtain⟨rfl,e⟩:=q12;simp[opL,cmpL,e]at ho;subst ho;refine SW.vk ?_;simp[e,a5n,oU,List.replicate]
 refine oJ (oU t k 111) (SW.vk ?_) (kV rfl ?_)
 .by_cases c:k=8
  .have e:¬t.text=[42]:=λe=>q12 ⟨c,e⟩;subst c;simp[e,oU,List.replicate]
  .have c':¬(k:Int)=8:=by omega
   simp[c',oU,List.replicate]
 have vB:o=none:=by
  rw[<-ho]
  clear ho hs h4 ht hge aG hl o
  obtain rfl|rfl|rfl|rfl|rfl|rfl|rfl|rfl|rfl|rfl:k=1\/k=2\/k=3\/k=4\/k=5\/k=6\/k=7\/k=8\/k=9\/k=10:=by omega
  all_goals
   simp at q0 q1 q2 q3 q4 q5 q6 q7 q8 q9 q10 q11 q12;simp[opL,cmpL, *]
 subst vB;refine SW.vk ?_;simp[oU,List.replicate];refine SW.vk ?_;simp[a5n]
theorem d2R(A:Prop)(st':St)(h1:SW P G x st λe s=>match e with
  |.normal=>A/\yY s st'
  |e=>Q e s)(h2:A->SW P G y st' Q):SW P G (.seq x y) st Q:=SW.gN λbase R μ a w hr=>
 wp_mono (h1 base R μ a w hr) λe a1 w1 ⟨s,R1,μ1,q1,q2,q3⟩=>by
  cases e with
  |normal=>exact⟨s,R1,μ1,λbase R μ a w hr=>h2 q1.1 base R μ a w (hr.a4n q1.2),q2,q3⟩
  |_=>exact⟨s,R1,μ1,q1,q2,q3⟩
def b9I:Option (List UInt8×Nat)->Nat->DV
 |some (s,n),_=>.cX [.str s,.int .i64 n,.bool true]
 |none,j=>.cX [.str [],.int .i64 j,.bool false]
theorem b3e(o)(j):qN (b9I o j)=true:=by
 cases o with
 |none=>rfl
 |some q=>obtain⟨a,b⟩:=q;rfl
def tT:Option (Pr×Nat)->Nat->DV
 |some (p,n),_=>.cX [.agg (prD p),.int .i64 n,.bool true]
 |none,j=>.cX [.agg (prD ⟨0,[],0,[]⟩),.int .i64 j,.bool false]
theorem oM(o)(j):qN (tT o j)=true:=by
 cases o with
 |none=>rfl
 |some q=>obtain⟨a,b⟩:=q;rfl
def b0j:Option (List Pr×Nat)->Nat->DV
 |some (ks,n),_=>.cX [.sl (ks.map qF),.int .i64 n,.bool true]
 |none,j=>.cX [.sl [],.int .i64 j,.bool false]
theorem b0k(o)(j):qN (b0j o j)=true:=by
 cases o with
 |none=>rfl
 |some q=>obtain⟨a,b⟩:=q;rfl
theorem b9J(l:List Tok)(i:Nat)(hl:a0M l)(hi:i<=l.length):CS prog G 226 [tkD l,.int .i64 i] (b9I (wR aH l i) i) none:=by
 have hll:=hl.1;obtain⟨o,ho⟩:∃o,wR aH l i=o:=⟨_,rfl⟩;rw[ho];unfold wR at ho;have hwd:=b1o (G:=G) l i;refine CS.a4w func226 rfl ntmps226 rfl ?_;refine SW.gN (SW.vk ?_);simp;refine d2R (b9n aH l i=true) ⟨[.d (tkD l),.d (.int .i64 i),.undef,.undef,.d (.str []),.d (.int .i64 0),.d (.bool false)]++List.replicate 133 .undef,[],[]⟩ (SW.vk ?_) (λpG=>?_)
 .simp;refine aC.mk (.mk func240 rfl) hwd ?_;cases hw:wtB l i with
  |false=>rw[if_neg (by simp[b9n,hw])]at ho;subst ho;simp[b9I]
  |true=>
   have aG:=a4H hw;obtain⟨t,ht⟩:∃t,l[i]=t:=⟨_,rfl⟩;have hnm:b9n aH l i=(!aH t.text||decide (t.text=[118])||decide (t.text=[116,97,103])||decide (t.text=[118,97,108])):=by unfold b9n;rw[hw,a8s aG,ht,Bool.true_and]
   rw[hnm]at ho|-;simp[aG,ht,bL];refine aC.mk (.mk func154 rfl) (a4p t.text) ?_;by_cases q1:aH t.text=true
   .by_cases q2:t.text=[118]
    .rw[q2]at q1;simp[q1,q2,aG,ht,bL,List.replicate]
    .by_cases q3:t.text=[116,97,103]
     .rw[q3]at q1;simp[q1,q3,aG,ht,bL,List.replicate]
     .by_cases q4:t.text=[118,97,108]
      .rw[q4]at q1;simp[q1,q4,aG,ht,bL,List.replicate]
      .rw[if_neg (by simp[q1,q2,q3,q4])]at ho;subst ho;simp[q1,q2,q3,q4,aG,ht,bL,b9I]
   .simp[q1,aG,ht,bL,List.replicate]
 .rw[if_pos pG]at ho;have aG:i<l.length:=by unfold b9n at pG;rw[g3q]at pG;exact a4H pG.1
  rw[a8s aG]at ho;obtain⟨t,ht⟩:∃t,l[i]=t:=⟨_,rfl⟩;rw[ht]at ho;obtain⟨rs,rn,hrr⟩:∃rs rn,sK l l.length (i+1) t.text=(rs,rn):=⟨_,_,rfl⟩;rw[hrr]at ho;subst ho;have hw1:=aX (show i<9223372036854775807 by omega);refine SW.vk ?_;simp[hw1,aG,ht,bL,List.replicate];refine SW.eA (ι:={p:Nat×List UInt8//p.1<=l.length/\p.2.length<=txS (l.take p.1)/\∃f,l.length<=f+p.1/\sK l f p.1 p.2=(rs,rn)}) (λp=>[(1,.d (.int .i64 p.1.1)),(7,.d (.str p.1.2))]) (λ_=>[]) (λ_=>[]) (λp=>l.length-p.1.1) ⟨(i+1,t.text),aG,by have:=a8t aG;rw[ht]at this;simp only;omega,l.length,by omega,hrr⟩ (by simp) ?_;rintro⟨⟨j,s⟩,hj,hs,f,hf,hp⟩;simp only at hj hs hf hp;have hsg:=sN (G:=G) l j [46];have tS:=aX (show j<9223372036854775807 by omega);have vH:IntKind.i64.wrap ((j:Int)+2)=((j+2:Nat):Int):=by rw[wrap64 (by omega)];simp
  have hj3:IntKind.i64.wrap ((j:Int)+3)=((j+3:Nat):Int):=by rw[wrap64 (by omega)];simp
  have hw1:=b1o (G:=G) l (j+1);have hw2:=b1o (G:=G) l (j+2);simp;refine aC.mk gI hsg ?_;cases hd:pM l j [46]with
  |false=>rw[b9v hd]at hp;cases hp;simp[b9I]
  |true=>
   have hjl:=oI hd;obtain⟨f,rfl⟩:∃g,f=g+1:=⟨f-1,by omega⟩;rw[sK,if_pos hd]at hp;simp[tS];refine aC.mk (.mk func240 rfl) hw1 ?_;cases hwt:wtB l (j+1)with
   |true=>
    have vP:=a4H hwt;rw[if_pos hwt]at hp;obtain⟨u,hu⟩:∃u,l[j+1]=u:=⟨_,rfl⟩;have hgr:=b1k hs vP;rw[a8s vP,hu]at hp;rw[hu]at hgr;have hb:=hl.le hgr;simp at hb;simp[tS,vP,hu,bL]
    repeat (refine bQ (by first|omega|(simp;omega)) ?_;simp[tS,vH,vP,hu,bL])
    exact bE.mk ⟨(j+2,s++([46]++u.text)),vP,hgr,f,by omega,by simpa using hp⟩ (by simp[vH]) (by simp;omega)
   |false=>
    rw[if_neg (by simp[hwt])]at hp;simp[tS];by_cases vP:j+1<l.length;rotate_left
    .rw[if_neg (by rw[d1s vP];simp)]at hp;have f4L:¬(j:Int)+1<(l.length:Int):=by omega
     cases hp;simp[tS,vP,f4L,b9I]
    obtain⟨u,hu⟩:∃u,l[j+1]=u:=⟨_,rfl⟩;have hgr:=b1k hs vP;rw[b1i vP,a8s vP,hu]at hp;rw[hu]at hgr;have hb:=hl.le hgr;simp at hb;simp[tS,vP,hu,bL];by_cases k3:u.kind=3;rotate_left
    .simp[k3]at hp;obtain⟨rfl,rfl⟩:=hp;simp[k3,tS,vP,hu,bL,b9I]
    simp[k3]at hp;simp[k3,tS,vH,vP,hu,bL];refine aC.mk (.mk func240 rfl) hw2 ?_;cases f0F:wtB l (j+2)with
    |false=>
     rw[if_neg (by simp[f0F])]at hp;simp[k3,tS,vH,vP,hu,bL]
     repeat (refine bQ (by first|omega|(simp;omega)) ?_;simp[tS,vH,vP,hu,bL])
     exact bE.mk ⟨(j+2,s++([46]++u.text)),vP,hgr,f,by omega,by simpa using hp⟩ (by simp[vH]) (by simp;omega)
    |true=>
     rw[if_pos f0F]at hp;have a6N:=a4H f0F;obtain⟨v,hv⟩:∃v,l[j+2]=v:=⟨_,rfl⟩;have c8E:=b5C hgr a6N;rw[hv]at c8E;rw[a8s a6N,hv]at hp;have hb3:=hl.le c8E;simp at hb3;have b2Y:(j:Int)+2<(l.length:Int):=by omega
     have hnn:(0:Int)<=(j:Int)+2:=by omega
     have htn:((j:Int)+2).toNat=j+2:=by omega
     try simp
     refine⟨.mk,?_⟩
     try simp[tS,vH,hj3,vP,a6N,hu,hv,bL,b2Y,hnn,htn]
     repeat (refine bQ (by first|omega|(simp;omega)) ?_;simp[tS,vH,hj3,vP,a6N,hu,hv,bL,b2Y,hnn,htn])
     exact bE.mk ⟨(j+3,s++([46]++u.text)++v.text),a6N,c8E,f,by omega,by simpa using hp⟩ (by simp[hj3]) (by simp;omega)
def d5y(G:GT)(l:List Tok)(f:Nat):Prop:=∀i k,1<=k->k<=10->i<=l.length->mu l.length i k<=f->CS prog G 178 [tkD l,.int .i64 i,.int .i64 k] (tT (jF aH l f i k) i) none
section
variable {l:List Tok} {f:Nat}
theorem vQ:VM.Enters prog 178:=.mk func178 rfl
theorem a6K(hl:a0M l)(hA:d5y G l f)(n:Nat)(hf:(l.length-n)*12+10<=f):∃j,CS prog G 227 [tkD l,.int .i64 n] (b0j (uS (jF aH l f) l n) j) none:=by
 have hll:=hl.1;obtain⟨o,ho⟩:∃o,uS (jF aH l f) l n=o:=⟨_,rfl⟩;rw[ho];unfold uS at ho;have hsg:=sN (G:=G) l n [40];cases hd:pM l n [40]with
 |false=>rw[if_neg (by simp[hd])]at ho;subst ho;refine⟨n,?_⟩;rw[hd]at hsg;refine CS.aY func227 rfl ntmps227 rfl ?_;simp;refine aC.mk gI hsg ?_;simp[b0j]
 |true=>
  have hnl:=oI hd;rw[if_pos hd]at ho;rw[hd]at hsg;obtain⟨jj,hjj⟩:∃jj:Nat->Nat->List Pr->Nat,∀g i acc,jj (g+1) i acc=(match jF aH l f (i+1) 1 with
   |none=>i
   |some (p,m)=>if pM l m [41]=true then i else if pM l m [44]=true then jj g m (acc++[p]) else i):=
   ⟨λg=>Nat.rec (motive:=λ_=>Nat->List Pr->Nat) (λ_ _=>0) (λg ih i acc=>match jF aH l f (i+1) 1 with
   |none=>i
   |some (p,m)=>if pM l m [41]=true then i else if pM l m [44]=true then ih m (acc++[p]) else i) g,λg i acc=>rfl⟩
  obtain⟨z,hz⟩:∃z,jj l.length n []=z:=⟨_,rfl⟩;refine⟨z,?_⟩;refine CS.aY func227 rfl ntmps227 rfl ?_;simp;refine aC.mk gI hsg ?_;simp;refine SW.eA (ι:={p:Nat×List Pr//p.1<l.length/\(l.length-p.1)*12+10<=f/\p.2.length<=p.1/\∃g,l.length<=g+p.1/\qG (jF aH l f) l g p.1 p.2=o/\jj g p.1 p.2=z}) (λp=>[(1,.d (.int .i64 p.1.1)),(7,.d (.sl (p.1.2.map qF)))]) (λ_=>[]) (λ_=>[(52,[.t 7])]) (λp=>l.length-p.1.1) ⟨(n,[]),hnl,hf,by simp,l.length,by omega,ho,hz⟩ (by simp) ?_;rintro⟨⟨i,acc⟩,hi,hf,hal,g,hg,hR,hz⟩;simp only at hi hf hal hg hR hz;have hi1:=aX (show i<9223372036854775807 by omega);obtain⟨g,rfl⟩:∃h,g=h+1:=⟨g-1,by omega⟩;rw[qG]at hR;rw[hjj]at hz;have hat:=hA (i+1) 1 (by omega) (by omega) hi (by rw[d9n hi];exact hf);simp[hi1];refine aC.mk (hkl:=oM _ _) vQ hat ?_;cases hr:jF aH l f (i+1) 1 with
  |none=>rw[hr]at hR hz;simp only at hR hz;subst hR hz;simp[tT,b0j]
  |some q=>
   obtain⟨p,m⟩:=q;have wF:=mT aH l f _ _ _ _ hr;rw[hr]at hR hz;simp only at hR hz;have hm1:=aX (show m<9223372036854775807 by omega);have hs1:=sN (G:=G) l m [41];have hs2:=sN (G:=G) l m [44];have f4D:=c8F acc;have hap:acc.map qF++[prD p]=(acc++[p]).map qF:=by simp[dE]
   simp[tT,rg1];have mQ:(acc.length+1)*57<=140737488355328:=by omega
   simp[mQ];refine aC.mk gI hs1 ?_;cases hd1:pM l m [41]with
   |true=>rw[if_pos hd1]at hR;subst hR;simp[hm1,b0j,dE]
   |false=>
    rw[if_neg (by simp[hd1])]at hR hz;simp;refine aC.mk gI hs2 ?_;cases hd2:pM l m [44]with
    |false=>rw[if_neg (by simp[hd2])]at hR hz;subst hR hz;simp[b0j]
    |true=>
     rw[if_pos hd2]at hR hz;have hml:=oI hd2;have hmu:(l.length-m)*12+10<=f:=by omega
     have hac:(acc++[p]).length<=m:=by simp;omega
     simp;exact bE.mk ⟨(m,acc++[p]),hml,hmu,hac,g,by omega,hR,hz⟩ (by simp[dE]) (by simp;omega)
theorem b5G(hl:a0M l)(hA:d5y G l f)(i k:Nat)(op:Int)(hk:1<=k/\k<=10)(hi:i+1<=l.length)(hf:mu l.length (i+1) k<=f):CS prog G 201 [tkD l,.int .i64 i,.int .i64 k,.int .i64 op] (tT ((jF aH l f (i+1) k).map λq=>((⟨op,[],0,[q.1]⟩:Pr),q.2)) i) none:=by
 have hll:=hl.1;have hi1:=aX (show i<9223372036854775807 by omega);have hat:=hA (i+1) k hk.1 hk.2 hi hf;refine CS.aY func201 rfl ntmps201 rfl ?_;simp[hi1];refine aC.mk (hkl:=oM _ _) vQ hat ?_;cases jF aH l f (i+1) k with
 |none=>simp[tT]
 |some q=>obtain⟨p,n⟩:=q;simp[tT,rg1,dE]
end
def aSt(l:List Tok)(i:Nat)(t:Tok)(v:Nat):St:=⟨List.set (([.d (tkD l),.d (.int .i64 i),.undef,.undef,.ptr 4 0,.d (.int .i64 0),.d (.bool false),.ptr 7 0]:List DV)++List.replicate 182 .undef) v (.d (.bool false)),[(4,.cells [.d (.int .i64 0),.d (.str []),.d (.int .i64 0),.d .aE]),(7,.cells [.d (.int .i64 t.kind),.d (.str t.text),.d (.int .i64 t.n),.d (.int .i64 t.line)])],[]⟩
section
variable {l:List Tok} {f:Nat}
theorem d1x(hl:a0M l)(hA:d5y G l f)(i:Nat)(hi:i<=l.length)(hf:mu l.length i 10<=f+1):CS prog G 199 [tkD l,.int .i64 i] (tT (zX aH (jF aH l f) l i) i) none:=by
 have hll:=hl.1;obtain⟨o,ho⟩:∃o,zX aH (jF aH l f) l i=o:=⟨_,rfl⟩;rw[ho];unfold zX at ho;refine CS.a4w func199 rfl ntmps199 rfl ?_;refine SW.gN (SW.vk ?_);simp;refine SW.gN (SW.vk ?_);simp;by_cases aG:i<l.length;rotate_left
 .rw[g3X (by omega)]at ho;subst ho;have hge:l.length<=i:=g3Z aG;simp[hge,tT]
 have hge:¬l.length<=i:=by omega
 rw[g3u aG]at ho;obtain⟨t,ht⟩:∃t,l[i]=t:=⟨_,rfl⟩;rw[ht]at ho;simp only at ho;have hi1:=aX (show i<9223372036854775807 by omega);have hi2:IntKind.i64.wrap ((i:Int)+2)=((i+2:Nat):Int):=by rw[wrap64 (by omega)];simp
 have hi3:IntKind.i64.wrap ((i:Int)+3)=((i+3:Nat):Int):=by rw[wrap64 (by omega)];simp
 have hi4:IntKind.i64.wrap ((i:Int)+4)=((i+4:Nat):Int):=by rw[wrap64 (by omega)];simp
 simp[hge];refine SW.gN (SW.vk ?_);simp[aG,ht,bL];refine d2R (b1l (jF aH l f) l i=o) (aSt l i t 133) (SW.d0n ?_) (λho=>?_)
 .by_cases k3:t.kind=3
  .rw[if_pos k3]at ho;subst ho;refine SW.vk ?_;simp[k3,hi1,tT]
  rw[if_neg k3]at ho;refine oJ (aSt l i t 33) (SW.vk ?_) (kV rfl ?_)
  .simp[k3,aSt,List.replicate]
  by_cases kt:t.kind=1/\t.text=[116,114,117,101]
  .rw[if_pos kt]at ho;subst ho;refine SW.vk ?_;simp[kt.1,kt.2,hi1,tT,aSt,List.replicate]
  rw[if_neg kt]at ho;refine oJ (aSt l i t 42) (SW.vk ?_) (kV rfl ?_)
  .by_cases k1:t.kind=1
   .have e:¬t.text=[116,114,117,101]:=λe=>kt ⟨k1,e⟩;simp[k1,e,aSt,List.replicate]
   .simp[k1,aSt,List.replicate]
  by_cases kf:t.kind=1/\t.text=[102,97,108,115,101]
  .rw[if_pos kf]at ho;subst ho;refine SW.vk ?_;simp[kf.1,kf.2,hi1,tT,aSt,List.replicate]
  rw[if_neg kf]at ho;refine oJ (aSt l i t 54) (SW.vk ?_) (kV rfl ?_)
  .by_cases k1:t.kind=1
   .have e:¬t.text=[102,97,108,115,101]:=λe=>kf ⟨k1,e⟩;simp[k1,e,aSt,List.replicate]
   .simp[k1,aSt,List.replicate]
  have hsq:=sN (G:=G) l i [63];have hsp:=sN (G:=G) l i [40];have hsm:=sN (G:=G) l (i+1) [45];have hsc:=sN (G:=G) l (i+3) [41];cases hp:pM l i [40]with
  |false=>
   rw[hp]at hsp;refine oJ (aSt l i t 66) (SW.vk ?_) (kV rfl ?_)
   .simp[aSt,List.replicate];refine aC.mk gI hsp ?_;simp
   refine oJ (aSt l i t 108) (SW.vk ?_) (kV rfl ?_)
   .simp[aSt,List.replicate];refine aC.mk gI hsp ?_;simp
   cases hq:pM l i [63]with
   |false=>
    rw[hq]at hsq;refine oJ (aSt l i t 133) (SW.vk ?_) (kV rfl ?_)
    .simp[aSt,List.replicate];refine aC.mk gI hsq ?_;simp
    have hP:b1l (jF aH l f) l i=o:=by rw[if_neg (by simp[hq]),if_neg (by simp[hp])]at ho;exact ho
    refine SW.vk ?_;simp[aSt,List.replicate,hP]
   |true=>
    rw[if_pos hq]at ho;rw[hq]at hsq;have hnm:=b9J (G:=G) l (i+1) hl aG;refine SW.vk ?_;simp[aSt,List.replicate];refine aC.mk gI hsq ?_;simp[hi1];refine aC.mk (hkl:=b3e _ _) (.mk func226 rfl) hnm ?_;cases hn:wR aH l (i+1)with
    |none=>rw[hn]at ho;subst ho;simp[b9I,tT]
    |some q=>
     obtain⟨s,n⟩:=q;have wF:=sL hn;rw[hn]at ho;simp only at ho;obtain⟨j,hli⟩:=a6K (G:=G) hl hA n (a9s hf (by omega) wF.2);simp[b9I];refine aC.mk (hkl:=b0k _ _) (.mk func227 rfl) hli ?_;cases hL:uS (jF aH l f) l n with
     |none=>rw[hL]at ho;subst ho;simp[b0j,tT]
     |some z=>obtain⟨ks,m⟩:=z;rw[hL]at ho;subst ho;simp[b0j,tT]
  |true=>
   have hq:pM l i [63]=false:=by rw[b1h aG,ht]at hp|-;simp only[g3q,g4e]at hp;simp[hp.2]
   rw[if_neg (by simp[hq]),if_pos hp]at ho;rw[hp]at hsp;by_cases a5J:pM l (i+1) [45]=true/\kdB l (i+2) 3=true/\pM l (i+3) [41]=true
   .rw[if_pos a5J]at ho;subst ho;obtain⟨n1,n2,n3⟩:=a5J;have h2:=b9o n2;rw[b1i h2]at n2;rw[d9h h2];obtain⟨u,hu⟩:∃u,l[i+2]=u:=⟨_,rfl⟩;rw[hu]at n2|-;have ku:u.kind=3:=of_decide_eq_true n2;rw[n1]at hsm;rw[n3]at hsc;have h2':(i:Int)+2<(l.length:Int):=by omega
    have hnn:(0:Int)<=(i:Int)+2:=by omega
    have htn:((i:Int)+2).toNat=i+2:=by omega
    refine SW.vk ?_;simp[aSt,List.replicate];refine aC.mk gI hsp ?_;simp[hi1];refine aC.mk gI hsm ?_;simp[hi2,h2,h2',hnn,htn,hu,ku,bL,hi3];refine aC.mk gI hsc ?_;simp[hi2,h2,h2',hnn,htn,hu,ku,bL,hi4,tT]
   .rw[if_neg a5J]at ho;have hat:=hA (i+1) 1 (by omega) (by omega) aG (by have:=uT (L:=l.length) (i:=i) (i':=i+1) (k:=10) (k':=1) (by omega) aG;omega)
    refine oJ (aSt l i t 66) (SW.vk ?_) (kV rfl ?_)
    .simp[aSt,List.replicate];refine aC.mk gI hsp ?_;simp[hi1];refine aC.mk gI hsm ?_;cases n1:pM l (i+1) [45]with
     |false=>simp
     |true=>
      have hnn:(0:Int)<=(i:Int)+2:=by omega
      have htn:((i:Int)+2).toNat=i+2:=by omega
      by_cases h2:i+2<l.length;rotate_left
      .have h2':¬(i:Int)+2<(l.length:Int):=by omega
       simp[hi2,h2']
      have h2':(i:Int)+2<(l.length:Int):=by omega
      obtain⟨u,hu⟩:∃u,l[i+2]=u:=⟨_,rfl⟩;by_cases ku:u.kind=3;rotate_left
      .simp[hi2,h2,h2',hnn,htn,hu,ku,bL]
      have n3:pM l (i+3) [41]=false:=by
       cases n3:pM l (i+3) [41]with
       |false=>rfl
       |true=>exact absurd ⟨n1,by rw[b1i h2,hu];simp[ku],n3⟩ a5J
      rw[n3]at hsc;simp[hi2,h2,h2',hnn,htn,hu,ku,bL,hi3];refine aC.mk gI hsc ?_;simp
    refine SW.vk ?_;simp[aSt,List.replicate];refine aC.mk gI hsp ?_;simp[hi1];refine aC.mk (hkl:=oM _ _) vQ hat ?_;cases hr:jF aH l f (i+1) 1 with
    |none=>rw[hr]at ho;subst ho;simp[tT]
    |some q=>
     obtain⟨p,n⟩:=q;have wF:=mT aH l f _ _ _ _ hr;have sS:=sN (G:=G) l n [41];rw[hr]at ho;simp only at ho;simp[tT];refine aC.mk gI sS ?_;cases hc:pM l n [41]with
     |false=>rw[if_neg (by simp[hc])]at ho;subst ho;simp[tT]
     |true=>rw[if_pos hc]at ho;subst ho;have hn1:=aX (show n<9223372036854775807 by omega);simp[hn1,tT]
 .clear ht hi2 hi3 hi4
  unfold b1l at ho;have hnm:=b9J (G:=G) l i hl hi;refine SW.vk ?_;simp[aSt,List.replicate];refine aC.mk (hkl:=b3e _ _) (.mk func226 rfl) hnm ?_;cases hn:wR aH l i with
  |none=>rw[hn]at ho;subst ho;simp[b9I,tT]
  |some q=>
   obtain⟨s,n⟩:=q;have wF:=sL hn;rw[hn]at ho;simp only at ho;obtain⟨j,hli⟩:=a6K (G:=G) hl hA n (a9s hf wF.1 wF.2);simp[b9I];refine aC.mk (hkl:=b0k _ _) (.mk func227 rfl) hli ?_;cases hL:uS (jF aH l f) l n with
   |none=>rw[hL]at ho;subst ho;simp[b0j,tT]
   |some z=>obtain⟨ks,m⟩:=z;rw[hL]at ho;subst ho;simp[b0j,tT]
end
theorem wI:VM.Enters prog 148:=.mk func148 rfl
theorem yV(c:UInt8):CS prog G 148 [.int .u8 c.toNat] (.d (.bool (smU c))) none:=by refine CS.aY func148 rfl ntmps148 rfl ?_;rw[<-d7W];by_cases h:(97:Int)<=c.toNat<;>simp[h,smI]
theorem b0m(c:UInt8):CS prog G 149 [.int .u8 c.toNat] (.d (.bool (caU c))) none:=by refine CS.aY func149 rfl ntmps149 rfl ?_;rw[<-d7X];by_cases h:(65:Int)<=c.toNat<;>simp[h,caI]
theorem a8z(c:UInt8):CS prog G 151 [.int .u8 c.toNat] (.d (.bool (dgU c))) none:=by refine CS.aY func151 rfl ntmps151 rfl ?_;rw[<-d2w];by_cases h:(48:Int)<=c.toNat<;>simp[h,dgI]
theorem b3g(c:UInt8):CS prog G 150 [.int .u8 c.toNat] (.d (.bool (inU c))) none:=by
 refine CS.aY func150 rfl ntmps150 rfl ?_;simp;refine aC.mk wI (yV c) ?_;by_cases h1:smU c=true
 .simp[h1,inU]
 .simp[h1];refine aC.mk (.mk func149 rfl) (b0m c) ?_;by_cases h2:caU c=true
  .simp[h2,inU]
  .simp[h2];refine aC.mk (.mk func151 rfl) (a8z c) ?_;by_cases h3:dgU c=true
   .simp[h3,inU]
   .by_cases h4:c.toNat=95
    .have h5:(c.toNat:Int)=95:=by omega
     simp[h1,h2,h3,inU,h4]
    .have h5:¬(c.toNat:Int)=95:=by omega
     simp[h1,h2,h3,inU,h4]
theorem c8S:∀{i:Nat},i<=s.length->jX (s.take i)<=jX s:=λ{i} hi=>by
 have h:∀(l:List UInt8)(a b:Nat),a<=b->a<=c0n b l:=by
  intro l
  induction l with
  |nil=>intro a b h;exact h
  |cons c r ih=>intro a b h;exact ih a (10*b+(c.toNat-48)) (by omega)
 have e:jX s=c0n (jX (s.take i)) (s.drop i):=by
  conv=>lhs;rw[<-g4d i s]
  unfold jX c0n;rw[List.foldl_append]
 rw[e];exact h _ _ _ (g3G _)
theorem b5H(s:List UInt8)(hs:∀c∈s,zL c=true)(hl:s.length<=900000000:=by omega):CS prog G 152 [.str s] (.cX [.int .i64 (kN s).1,.bool (kN s).2]) none:=by
 refine CS.aY func152 rfl ntmps152 rfl ?_;simp;refine SW.eA (ι:={i:Nat//i<=s.length/\jX (s.take i)<=1000000000000}) (λi=>[(4,.d (.int .i64 (jX (s.take i.1):Nat))),(5,.d (.int .i64 i.1))]) (λ_=>[]) (λ_=>[]) (λi=>s.length-i.1) ⟨0,by simp[a4W]⟩ (by simp[a4W]) ?_;rintro⟨i,hi,hv⟩
 try simp only at hi hv
 by_cases aG:i<s.length
 .have hw:=aX (show i<9223372036854775807 by omega);have hd:=hs _ (g3P aG);have hdd:=xB.1 hd;have hu:=d2p hd;have pP:=a0v aG;have hw1:IntKind.i64.wrap (10*((jX (s.take i):Nat):Int))=10*((jX (s.take i):Nat):Int):=wrap64 (by omega);have hw2:IntKind.i64.wrap (10*((jX (s.take i):Nat):Int)+((s[i].toNat-48:Nat):Int))=((jX (s.take (i+1)):Nat):Int):=by rw[pP,wrap64 (by omega)];omega
  by_cases f6k:1000000000000<jX (s.take (i+1))
  .have h1:¬jX s<=1000000000000:=by have:=c8S (s:=s) (i:=i+1) aG;omega
   have h2:(1000000000000:Int)<(jX (s.take (i+1)):Nat):=by omega
   simp[aG,hw1,hu,hw2,h2,kN,h1]
  .have h2:¬(1000000000000:Int)<(jX (s.take (i+1)):Nat):=by omega
   simp[aG,hw1,hu,hw2,h2];exact bE.mk ⟨i+1,aG,by omega⟩ (by simp[hw]) (by simp;omega)
 .have:i=s.length:=by omega
  subst this;rw[g4j]at hv;simp[kN,hv]
theorem c8T:CS prog G 172 [] (.d (.sl (dD.map λt=>[D.str t]))) none:=by refine CS.aY func172 rfl ntmps172 rfl ?_;have h31:List.range 31=[0,1,2,3,4,5,6,7,8,9,10,11,12,13,14,15,16,17,18,19,20,21,22,23,24,25,26,27,28,29,30]:=rfl;simp[dD,h31]
theorem d1y(s:List UInt8)(hl:s.length<=900000000):CS prog G 153 [.str s] (.d (.str (vG s))) none:=by
 refine CS.aY func153 rfl ntmps153 rfl ?_;simp;refine aC.mk (.mk func172 rfl) c8T ?_;have hlen:(dD.map λt=>[D.str t]).length=dD.length:=by simp
 have hsl:dD.length=31:=rfl;simp;refine SW.eA (ι:={i:Nat//i<=dD.length/\∀t∈dD.take i,t.isPrefixOf s=false}) (λi=>[(4,.d (.int .i64 i.1))]) (λ_=>[]) (λ_=>[]) (λi=>dD.length-i.1) ⟨0,by simp⟩ (by simp) ?_;rintro⟨i,hi,hn⟩
 try simp only at hi hn
 by_cases aG:i<dD.length
 .have hw2:=aX (show i<9223372036854775807 by omega);have tN:∀(hp:dD[i].isPrefixOf s=false),∀t∈dD.take (i+1),t.isPrefixOf s=false:=λhp t ht=>by
   rw[g3F aG]at ht;rcases g3Q.1 ht with ht|ht
   .exact hn t ht
   .simp at ht;rw[ht];exact hp
  simp[aG]
  try refine⟨.mk,?_⟩
  have b0I:=Lib.hasPrefix_of_take s dD[i];unfold Lib.hasPrefix at b0I;by_cases hle:dD[i].length<=s.length
  .by_cases he:s.take dD[i].length=dD[i]
   .have hp:dD[i].isPrefixOf s=true:=by rw[<-b0I];simp[hle,he]
    have hsg:=d2y aG hn hp;simp[hle,he,hsg,aG]
   .have hp:dD[i].isPrefixOf s=false:=by rw[<-b0I];simp[he]
    simp[hle,he,aG];exact bE.mk ⟨i+1,aG,tN hp⟩ (by simp[hw2]) (by simp;omega)
  .have hp:dD[i].isPrefixOf s=false:=by rw[<-b0I];simp[hle]
   simp[hle,aG];exact bE.mk ⟨i+1,aG,tN hp⟩ (by simp[hw2]) (by simp;omega)
 .have:i=dD.length:=by omega
  subst this;rw[g4j]at hn;have hsg:=c1W hn;simp[hsg]
variable{i:Nat}
theorem c4U(p:UInt8->Bool)(hi:i<=s.length)(h:∀b∈s.take i,p b=true):i<=(s.takeWhile p).length:=by have e:s=s.take i++s.drop i:=(g4d i s).symm;rw[e,List.takeWhile_append_of_pos h,g4b,g4c];omega
def a6L(c:UInt8):Int:=if smU c then 1 else if caU c then 2 else if dgU c then 3 else 4
def c4V(c:UInt8)(r:List UInt8):List D:=[.int .i64 (a6L c),.str (firstT kN (c::r)).2.1,.int .i64 (firstT kN (c::r)).2.2.1,.int .i64 0]
theorem c8V(c:UInt8)(r:List UInt8)(hl:(c::r).length<=900000000:=by simp;omega):CS prog G 103 [.str (c::r)] (.cX [.agg (c4V c r),.bool (firstT kN (c::r)).2.2.2]) none:=by
 have hfr:c4V c r=[.int .i64 (a6L c),.str (firstT kN (c::r)).2.1,.int .i64 (firstT kN (c::r)).2.2.1,.int .i64 0]:=rfl;rw[hfr];obtain⟨s,hs⟩:∃s,c::r=s:=⟨_,rfl⟩;have h0:1<=s.length:=by rw[<-hs];simp
 have h0':0<s.length:=h0;have t01:s.take 1=[c]:=by rw[<-hs];rfl
 have hc0:s[0]=c:=by subst hs;rfl
 have hf:firstT kN s=if smU c then(1,s.takeWhile inU,0,true) else if caU c then(2,s.takeWhile inU,0,true)
  else if dgU c then(3,s.takeWhile dgU,(kN (s.takeWhile dgU)).1,(kN (s.takeWhile dgU)).2)
  else if vG s=[] then(0,[],0,false) else(4,vG s,0,true):=by subst hs;rfl
 rw[hs]at hl|-
 clear hs hfr
 refine CS.aY func103 rfl ntmps103 rfl ?_;simp[h0',hc0];refine aC.mk wI (yV c) ?_;by_cases h1:smU c=true
 .have hp1:=e6F h1;simp[h1];refine SW.eA (ι:={i:Nat//i<=s.length/\1<=i/\∀b∈s.take i,inU b=true}) (λi=>[(4,.d (.int .i64 i.1))]) (λ_=>[(2,.cells [.d (.int .i64 0),.d (.str []),.d (.int .i64 0),.d (.int .i64 0)])]) (λ_=>[]) (λi=>s.length-i.1) ⟨1,h0,g3G _,λb hb=>by rw[t01]at hb;simp at hb;rw[hb];exact hp1⟩ (by simp) ?_;rintro⟨i,hi,hi1,hn⟩
  try simp only at hi hi1 hn
  have hle:=c4U inU hi hn;by_cases aG:i<s.length
  .have hw:=aX (show i<9223372036854775807 by omega);simp[aG];refine aC.mk (.mk func150 rfl) (b3g s[i]) ?_;by_cases yL:inU s[i]=true
   .simp[yL];refine bE.mk ⟨i+1,aG,by omega,λb hb=>?_⟩ (by simp[hw]) (by simp;omega);rw[g3F aG]at hb;rcases g3Q.1 hb with hb|hb
    .exact hn b hb
    .simp at hb;rw[hb];exact yL
   .have pP:=vJ aG hn;have htk:s.take i=s.takeWhile inU:=by rw[<-b2q inU s,pP]
    simp[yL,h0',hc0];refine aC.mk wI (yV c) ?_;simp[h1,hi,htk,hf,a6L]
  .have:i=s.length:=by omega
   subst this;rw[g4j]at hn;have htk:s.takeWhile inU=s:=tX hn;simp[h0',hc0];refine aC.mk wI (yV c) ?_;simp[h1,htk,hf,a6L]
 simp[h1,h0',hc0];refine aC.mk (.mk func149 rfl) (b0m c) ?_;by_cases h2:caU c=true
 .have hp1:=e6G h2;simp[h2];refine SW.eA (ι:={i:Nat//i<=s.length/\1<=i/\∀b∈s.take i,inU b=true}) (λi=>[(4,.d (.int .i64 i.1))]) (λ_=>[(2,.cells [.d (.int .i64 0),.d (.str []),.d (.int .i64 0),.d (.int .i64 0)])]) (λ_=>[]) (λi=>s.length-i.1) ⟨1,h0,g3G _,λb hb=>by rw[t01]at hb;simp at hb;rw[hb];exact hp1⟩ (by simp) ?_;rintro⟨i,hi,hi1,hn⟩
  try simp only at hi hi1 hn
  have hle:=c4U inU hi hn;by_cases aG:i<s.length
  .have hw:=aX (show i<9223372036854775807 by omega);simp[aG];refine aC.mk (.mk func150 rfl) (b3g s[i]) ?_;by_cases yL:inU s[i]=true
   .simp[yL];refine bE.mk ⟨i+1,aG,by omega,λb hb=>?_⟩ (by simp[hw]) (by simp;omega);rw[g3F aG]at hb;rcases g3Q.1 hb with hb|hb
    .exact hn b hb
    .simp at hb;rw[hb];exact yL
   .have pP:=vJ aG hn;have htk:s.take i=s.takeWhile inU:=by rw[<-b2q inU s,pP]
    simp[yL,h0',hc0];refine aC.mk wI (yV c) ?_;simp[h1,h2,hi,htk,hf,a6L]
  .have:i=s.length:=by omega
   subst this;rw[g4j]at hn;have htk:s.takeWhile inU=s:=tX hn;simp[h0',hc0];refine aC.mk wI (yV c) ?_;simp[h1,h2,htk,hf,a6L]
 simp[h2,h0',hc0];refine aC.mk (.mk func151 rfl) (a8z c) ?_;by_cases h3:dgU c=true
 .have hp1:=h3;simp[h3];refine SW.eA (ι:={i:Nat//i<=s.length/\1<=i/\∀b∈s.take i,dgU b=true}) (λi=>[(4,.d (.int .i64 i.1))]) (λ_=>[(2,.cells [.d (.int .i64 0),.d (.str []),.d (.int .i64 0),.d (.int .i64 0)])]) (λ_=>[]) (λi=>s.length-i.1) ⟨1,h0,g3G _,λb hb=>by rw[t01]at hb;simp at hb;rw[hb];exact hp1⟩ (by simp) ?_;rintro⟨i,hi,hi1,hn⟩
  try simp only at hi hi1 hn
  have hle:=c4U dgU hi hn;have f8q:∀b∈s.takeWhile dgU,zL b=true:=λb hb=>by rw[<-c3M];exact d0x hb
  have hdl:=d7Y dgU s;by_cases aG:i<s.length
  .have hw:=aX (show i<9223372036854775807 by omega);simp[aG];refine aC.mk (.mk func151 rfl) (a8z s[i]) ?_;by_cases yL:dgU s[i]=true
   .simp[yL];refine bE.mk ⟨i+1,aG,by omega,λb hb=>?_⟩ (by simp[hw]) (by simp;omega);rw[g3F aG]at hb;rcases g3Q.1 hb with hb|hb
    .exact hn b hb
    .simp at hb;rw[hb];exact yL
   .have pP:=vJ aG hn;have htk:s.take i=s.takeWhile dgU:=by rw[<-b2q dgU s,pP]
    simp[yL,hi,htk];refine aC.mk (.mk func152 rfl) (b5H (s.takeWhile dgU) f8q) ?_;simp[h1,h2,h3,hi,htk,hf,a6L]
  .have:i=s.length:=by omega
   subst this;rw[g4j]at hn;have htk:s.takeWhile dgU=s:=tX hn;simp;refine aC.mk (.mk func152 rfl) (b5H s (λb hb=>by rw[<-c3M];exact hn b hb) hl) ?_;simp[h1,h2,h3,htk,hf,a6L]
 simp[h3];refine aC.mk (.mk func153 rfl) (d1y s hl) ?_;by_cases h4:vG s=[]
 .simp[h1,h2,h3,h4,hf,a6L]
 .simp[h1,h2,h3,h4,hf,a6L]
theorem c4X(s:List UInt8)(hl:s.length<=900000000):CS prog G 52 [.str s] (.cX (if 40000<s.length then [.aE,.int .i64 0,.int .i64 7] else
  [c7l (oV kN s 0 1 false),.int .i64 (c7m (oV kN s 0 1 false)),.int .i64 (c7n (oV kN s 0 1 false))])) none:=by
 obtain⟨res,mB⟩:∃x,oV kN s 0 1 false=x:=⟨_,rfl⟩;rw[mB];refine CS.aY func52 rfl ntmps52 rfl ?_;by_cases b5j:40000<s.length
 .have h2:(40000:Int)<s.length:=by omega
  simp[b5j,h2]
 have h2:¬(40000:Int)<s.length:=by omega
 simp[b5j,h2];refine SW.eA (ι:={x:Nat×List Tok×Int×Bool//x.1<=s.length/\1<=x.2.2.1/\x.2.2.1<=x.1+1/\x.2.1.length<=x.1/\c7k x.2.1 (oV kN (s.drop x.1) 0 x.2.2.1 x.2.2.2)=res})
  (λx=>[(5,.d (.sl (b5V x.1.2.1))),(6,.d (.int .i64 x.1.2.2.1)),(7,.d (.bool x.1.2.2.2)),(8,.d (.int .i64 x.1.1))]) (λ_=>[]) (λ_=>[(79,[.t 5])]) (λx=>s.length-x.1.1) ⟨(0,[],1,false),by refine⟨by simp,by simp,by simp,by simp,?_⟩;simp only[List.drop_zero];rw[mB];cases res<;>rfl⟩ (by simp) ?_
 rintro⟨⟨i,out,ln,cm⟩,hi,hln,hb,ho,hR⟩
 try simp only at hi hln hb ho hR
 by_cases aG:i<s.length
 .have hQ:c7k out (oV kN (s.drop i) 0 ln cm)=res:=hR;have a5g:s.drop i=s[i]::s.drop (i+1):=g3D aG;have hw:=aX (show i<9223372036854775807 by omega);have hwl:IntKind.i64.wrap (ln+1)=ln+1:=wrap64 (by omega);have c10:=a7W s[i] 10;have c32:=a7W s[i] 32;have c9:=a7W s[i] 9;have c35:=a7W s[i] 35;simp at c10 c32 c9 c35;have hle:=Nat.le_of_lt aG;rw[a5g,oV]at hQ;by_cases h10:s[i]=10
  .have e:=c10.2 h10;rw[if_pos h10]at hQ;simp[aG,e];exact bE.mk ⟨(i+1,out,ln+1,false),aG,by simp only;omega,by simp only;omega,by simp only;omega,hQ⟩ (by simp[hw,hwl]) (by simp;omega)
  have e:¬s[i].toNat=10:=λh=>h10 (c10.1 h);rw[if_neg h10]at hQ;simp[aG,e];cases cm with
  |true=>
   rw[if_pos (.inl rfl)]at hQ
   try simp[aG]
   exact bE.mk ⟨(i+1,out,ln,true),aG,by simp only;omega,by simp only;omega,by simp only;omega,hQ⟩ (by simp[hw]) (by simp;omega)
  |false=>
   try simp[aG]
   by_cases h32:s[i]=32
   .have e2:=c32.2 h32;rw[if_pos (.inr (.inl h32))]at hQ;simp[e2];exact bE.mk ⟨(i+1,out,ln,false),aG,by simp only;omega,by simp only;omega,by simp only;omega,hQ⟩ (by simp[hw]) (by simp;omega)
   have e2:¬s[i].toNat=32:=λh=>h32 (c32.1 h);simp[e2,aG];by_cases h9:s[i]=9
   .have e3:=c9.2 h9;rw[if_pos (.inr (.inr h9))]at hQ;simp[e3];exact bE.mk ⟨(i+1,out,ln,false),aG,by simp only;omega,by simp only;omega,by simp only;omega,hQ⟩ (by simp[hw]) (by simp;omega)
   have e3:¬s[i].toNat=9:=λh=>h9 (c9.1 h);simp[e3,aG];rw[if_neg (by simp[h32,h9])]at hQ;by_cases h35:s[i]=35
   .have e4:=c35.2 h35;rw[if_pos h35]at hQ;simp[e4];exact bE.mk ⟨(i+1,out,ln,true),aG,by simp only;omega,by simp only;omega,by simp only;omega,hQ⟩ (by simp[hw]) (by simp;omega)
   have e4:¬s[i].toNat=35:=λh=>h35 (c35.1 h);have hQ2:c7k out (oV kN (s[i]::s.drop (i+1)) 0 ln false)=res:=by rw[<-a5g];exact hR
   rw[b7v ln h10 h32 h9 h35]at hQ2;have hdl:(s.drop (i+1)).length=s.length-(i+1):=by simp
   obtain⟨r,hr⟩:∃r,s.drop (i+1)=r:=⟨_,rfl⟩;obtain⟨c,hc⟩:∃c,s[i]=c:=⟨_,rfl⟩;rw[hr,hc]at hQ2 a5g;rw[hr]at hdl;simp[e4,hle,a5g];refine aC.mk (.mk func103 rfl) (c8V c r) ?_;obtain⟨ff,hff⟩:∃ff,firstT kN (c::r)=ff:=⟨_,rfl⟩;have pG:= @b1W kN (c::r);rw[hff]at hQ2 pG;obtain⟨k,tx,m,ok⟩:=ff;simp only at hQ2 pG;cases ok with
   |false=>
    have er:res=.error ln:=by rw[<-hQ2];rfl
    simp[hff,c4V,er,c7l,c7m,c7n]
   |true=>
    obtain⟨p1,p2,_⟩:=pG rfl;have f8r:=p2.length_le;have a2I:0<tx.length:=g3U.2 p1;simp only[List.length_cons]at f8r;have hk:a6L c=k:=by
     have:=hff;unfold firstT at this;unfold a6L;by_cases q1:smU c=true
     .simp[q1]at this|-;exact this.1
     by_cases q2:caU c=true
     .simp[q1,q2]at this|-;exact this.1
     by_cases q3:dgU c=true
     .simp[q1,q2,q3]at this|-;exact this.1
     by_cases q4:vG (c::r)=[]
     .simp[q1,q2,q3,q4]at this
     .simp[q1,q2,q3,q4]at this|-;exact this.1
    have mQ:(out.length+1)*41<=140737488355328:=by omega
    have hwt:IntKind.i64.wrap ((i:Int)+tx.length)=((i+tx.length:Nat):Int):=by rw[wrap64 (by omega)];simp
    simp[hff,c4V,mQ,hk];have hR2:c7k (out++[⟨k,tx,m,ln⟩]) (oV kN (s.drop (i+tx.length)) 0 ln false)=res:=by
     rw[<-List.drop_drop,a5g, <- hQ2,if_pos rfl];generalize oV kN ((c::r).drop tx.length) 0 ln false=y;cases y with
     |ok l=>simp[c7k]
     |error e=>rfl
    refine bE.mk ⟨(i+tx.length,out++[⟨k,tx,m,ln⟩],ln,false),?_⟩ (by simp[a8W,hwt]) (by simp;omega);refine⟨by simp only;omega,by simp only;omega,by simp only;omega,by simp only[g4b,List.length_cons,List.length_nil];omega,hR2⟩
 .have:i=s.length:=by omega
  subst this;rw[List.drop_length,oV]at hR;have e:res=.ok (out++[⟨0,[],0,ln⟩]):=by rw[<-hR];rfl
  have mQ:(out.length+1)*41<=140737488355328:=by omega
  simp[e,c7l,c7m,c7n,a8W,mQ]
def a4J(cur s:List UInt8):List (List UInt8):=match kH s with
 |p::ps=>(cur++p)::ps
 |[]=>[cur]
theorem b4q:∀s,kH s≠[]
 |[]=>by simp[kH]
 |c::r=>by
  unfold kH;split
  .simp
  .split<;>simp
theorem b9K(s:List UInt8):a4J [] s=kH s:=by
 unfold a4J;cases h:kH s with
 |nil=>exact absurd h (b4q s)
 |cons p ps=>simp
theorem d1z(cur:List UInt8):a4J cur []=[cur]:=by simp[a4J,kH]
variable{c:UInt8}
theorem d1A(h:c.toNat=46):a4J cur (c::r)=cur::kH r:=by simp[a4J,kH,h]
theorem c8W(h:c.toNat≠46):a4J cur (c::r)=a4J (cur++[c]) r:=by
 unfold a4J;simp only[kH,h,if_false];cases hp:kH r with
 |nil=>exact absurd hp (b4q r)
 |cons p ps=>simp
theorem b9L{b:Nat}(hb:b<=i)(h:i<s.length):(s.take (i+1)).drop b=(s.take i).drop b++[s[i]]:=by rw[g3F h,List.drop_append_of_le_length (by simp;omega)]
theorem b9M:∀s,(kH s).length<=s.length+1
 |[]=>by simp[kH]
 |c::r=>by
  have:=b9M r;unfold kH;split
  .simp;omega
  .split
   .rename_i p ps h;rw[h]at this;simp at this|-;omega
   .simp
theorem c8X(hs:s.length<=1000000:=by omega):CS prog G 260 [.str s] (.d (.sl (strs (kH s)))) none:=by
 refine CS.aY func260 rfl ntmps260 rfl ?_;simp;refine SW.eA (ι:={x:List (List UInt8)×Nat×Nat//x.2.1<=x.2.2/\x.2.2<=s.length/\x.1.length<=x.2.2/\kH s=x.1++a4J ((s.take x.2.2).drop x.2.1) (s.drop x.2.2)}) (λx=>[(3,.d (.sl (strs x.1.1))),(4,.d (.int .i64 x.1.2.1)),(8,.d (.int .i64 x.1.2.2))]) (λ_=>[]) (λ_=>[(9,[.t 3])]) (λx=>s.length-x.1.2.2) ⟨([],0,0),by simp[b9K]⟩ (by simp[strs]) ?_;rintro⟨⟨out,b,i⟩,hbi,hi,ho,he⟩;simp only at hbi hi ho he;by_cases aG:i<s.length
 .have hw:=aX (show i<9223372036854775807 by omega);rw[g3D aG]at he;by_cases h4:s[i].toNat=46
  .rw[d1A h4]at he;have mQ:(out.length+1)*17<=140737488355328:=by omega
   simp[aG,h4,hi,hbi,hw,mQ];exact bE.mk ⟨(out++[(s.take i).drop b],i+1,i+1),g3G _,aG,by simp;omega,by rw[he];simp[b9K]⟩ (by simp) (by simp;omega)
  .rw[c8W h4, <- b9L hbi aG]at he;simp[aG,h4];exact bE.mk ⟨(out,b,i+1),by simp;omega,aG,by simp;omega,he⟩ (by simp[hw]) (by simp;omega)
 .have:i=s.length:=by omega
  subst this;rw[List.drop_length,d1z,g4j]at he;have mQ:(out.length+1)*17<=140737488355328:=by omega
  simp[aG,hbi,mQ];rw[he];simp
theorem d5z(h:0<s.length):a7B s=(qS s[0].toNat&&rV wdB s):=by
 cases s with
 |nil=>simp at h
 |cons c s=>simp[a7B,Bool.and_comm]
theorem d1B:CS prog G 263 [.str s] (.d (.bool (wM s))) none:=by
 refine CS.aY func263 rfl ntmps263 rfl ?_;by_cases hl1:s.length<1
 .have:sizedB s=false:=by simp[sizedB];omega
  simp[hl1,wM,this]
 by_cases hl2:24<s.length
 .have:sizedB s=false:=by simp[sizedB];omega
  simp[hl1,hl2,wM,this]
 have hz:sizedB s=true:=by simp[sizedB];omega
 have h0:0<s.length:=by omega
 simp[hl1,hl2,h0];refine aC.mk tE (vF) ?_;simp;have hb:wM s=(rV anB s||(qS s[0].toNat&&rV wdB s)):=by rw[wM,hz,d5z h0];rfl
 refine SW.eA (ι:={x:Nat×Bool×Bool//x.1<=s.length/\rV anB s=(x.2.1&&rV anB (s.drop x.1))/\(qS s[0].toNat&&rV wdB s)=(x.2.2&&rV wdB (s.drop x.1))}) (λx=>[(3,.d (.bool x.1.2.1)),(4,.d (.bool x.1.2.2)),(19,.d (.int .i64 x.1.1))]) (λ_=>[]) (λ_=>[]) (λx=>s.length-x.1.1) ⟨(0,true,qS s[0].toNat),by simp⟩ (by simp) ?_;rintro⟨⟨i,p,q⟩,hi,hp,hq⟩;simp only at hi hp hq;by_cases aG:i<s.length
 .have hw:=aX (show i<9223372036854775807 by omega);have pP:∀f:Int->Bool,rV f (s.drop i)=(f s[i].toNat&&rV f (s.drop (i+1))):=λf=>by rw[g3D aG];rfl
  rw[pP]at hp hq;cases p
  .cases q
   .simp[aG];exact bE.mk ⟨(i+1,false,false),aG,by simpa using hp,by simpa using hq⟩ (by simp[hw]) (by simp;omega)
   .simp[aG];refine aC.mk tE (vF) ?_;cases h1:qS s[i].toNat
    .simp[aG];refine aC.mk zI (a1g) ?_;cases h3:b3F s[i].toNat
     .simp[aG];exact bE.mk ⟨(i+1,false,wdB s[i].toNat),aG,by simpa using hp,by simpa using hq⟩ (by simp[hw,wdB,h1,h3]) (by simp;omega)
     .simp[aG];exact bE.mk ⟨(i+1,false,wdB s[i].toNat),aG,by simpa using hp,by simpa using hq⟩ (by simp[hw,wdB,h1,h3]) (by simp;omega)
    .simp[aG];exact bE.mk ⟨(i+1,false,wdB s[i].toNat),aG,by simpa using hp,by simpa using hq⟩ (by simp[hw,wdB,h1]) (by simp;omega)
  .cases h1:qS s[i].toNat<;>cases h2:b7i s[i].toNat<;>cases h3:b3F s[i].toNat<;>cases q<;>simp[aG]<;>(refine aC.mk tE (vF) ?_)<;>simp[aG,h1]<;>
    (try (refine aC.mk (.mk func272 rfl) (a4o) ?_;simp[aG,h2]))<;>(try (refine aC.mk zI (a1g) ?_;simp[aG,h3]))<;>(try (refine aC.mk tE (vF) ?_;simp[aG,h1]))<;>(try (refine aC.mk zI (a1g) ?_;simp[aG,h3]))<;>
    first
    |exact bE.mk ⟨(i+1,anB s[i].toNat,false),aG,by simpa using hp,by simpa using hq⟩ (by simp[hw,anB,h1,h2,h3]) (by simp;omega)
    |exact bE.mk ⟨(i+1,anB s[i].toNat,wdB s[i].toNat),aG,by simpa using hp,by simpa using hq⟩ (by simp[hw,anB,wdB,h1,h2,h3]) (by simp;omega)
 .simp[aG];have he:s.drop i=[]:=List.drop_of_length_le (by omega);rw[he]at hp hq;rw[hb,hp,hq];cases p<;>simp[d7e]
theorem b1p(s:List UInt8):CS prog G 254 [.str s] (.d (.int .i64 (gU (sT s)))) none:=by
 refine CS.aY func254 rfl ntmps254 rfl ?_;by_cases hl:120<s.length
 .have:¬s.length<=120:=by omega
  simp[hl,sT,this,gU]
 .have hl':s.length<=120:=by omega
  simp[hl];refine aC.mk (.mk func260 rfl) (c8X) ?_;have e7l:(kH s).length<=s.length+1:=b9M s;cases hps:kH s with
  |nil=>exact absurd hps (b4q s)
  |cons p ps=>
   rw[hps]at e7l;have c1C:sT s=((wL p||oF p||(decide (p=[118])&& !ps.isEmpty))&&ps.all wM):=by simp[sT,hl',hps]
   have b7j:(wL p||oF p||(decide (p=[118])&& !ps.isEmpty))=false->sT s=false:=λh=>by rw[c1C,h];rfl
   have hgo:(wL p||oF p||(decide (p=[118])&& !ps.isEmpty))=true->sT s=ps.all wM:=λh=>by rw[c1C,h];rfl
   have hs2:strs (p::ps)=[.str p]::strs ps:=rfl;have g2l:ps.length<=121:=by simp at e7l;omega
   simp[hs2];refine aC.mk (.mk func261 rfl) (c6x) ?_;cases h1:wL p;rotate_left;simp[gU]
   replace hgo:=hgo (by simp[h1])
   rotate_left;simp[gU];refine aC.mk (.mk func262 rfl) (c6y) ?_;cases h2:oF p;rotate_left;simp[gU]
   replace hgo:=hgo (by simp[h1,h2])
   rotate_left 2;by_cases h3:p=[118];rotate_left
   .simp[h3,gU];rw[b7j (by rw[h1,h2];simp[h3])]
   rotate_left 2;rcases Nat.eq_zero_or_pos ps.length with h4|h4
   .have h4':ps=[]:=g4a h4;simp[h3,h4',gU];rw[b7j (by rw[h1,h2];simp[h4'])]
   have h4':ps.isEmpty=false:=by cases ps<;>simp at*
   have h5:¬ps=[]:=by rintro rfl;simp at h4
   have h6:¬((ps.length:Int)+1=1):=by omega
   simp[h3,h5,h6,gU]
   replace hgo:=hgo (by rw[h1,h2];simp[h3,h4'])
   all_goals
    refine SW.eA (ι:={i:Nat//i<=ps.length/\sT s=(ps.drop i).all wM}) (λi=>[(37,.d (.int .i64 i.1))]) (λ_=>[]) (λ_=>[]) (λi=>ps.length-i.1) ⟨0,by simp,by simpa using hgo⟩ (by simp[*]) ?_;rintro⟨i,hi,he⟩;by_cases aG:i<ps.length
    .have hw:=aX (show i<9223372036854775807 by omega);simp[aG];refine aC.mk (.mk func263 rfl) (d1B) ?_;cases g1:wM ps[i]
     .simp;rw[d7i he aG g1]
     .simp;exact bE.mk ⟨i+1,aG,d7h he aG g1⟩ (by simp[hw]) (by simp;omega)
    .simp[aG];rw[e3l he aG]
theorem a6n{e:Pr->Int}:∀(a b:List Pr),qK e (a++b)=if qK e a=0 then qK e b else qK e a
 |[],b=>by simp[qK]
 |p::a,b=>by
  rw[List.cons_append,qK,qK,a6n a b];by_cases h:e p=0
  .simp only[h,if_true]
  .simp only[h,if_false]
theorem a8B(op:Int):CS prog G 241 [.int .i64 op] (.d (.bool (zA op))) none:=by
 refine CS.aY func241 rfl ntmps241 rfl ?_;by_cases h3:op=3
 .simp[h3,zA]
 .by_cases h4:op=4
  .simp[h4,zA]
  .simp[h3,h4,zA]
def a0m(op len:Int):Bool:= !(decide (len<qU op)||decide (xI op<len))
theorem yW:VM.Enters prog 242:=.mk func242 rfl
theorem d1C(op:Int)(len:Nat):CS prog G 242 [.int .i64 op,.int .i64 len] (.d (.bool (a0m op len))) none:=by
 have one:∀k:Nat,(!(decide ((len:Int)<k)||decide ((k:Int)<len)))=decide (len=k):=λk=>by
  by_cases h:len=k
  .simp[h]
  .rcases Nat.lt_or_gt_of_ne h with h1|h1
   .have:(len:Int)<k:=by omega
    simp[h,this]
   .have:(k:Int)<len:=by omega
    simp[h,this]
 have z0:=one 0;have z1:=one 1;have z2:=one 2;refine CS.aY func242 rfl ntmps242 rfl ?_;by_cases h1:op=1
 .simp[a0m,qU,xI,h1];simpa using z0.symm
 by_cases h2:op=2
 .simp[a0m,qU,xI,h2];simpa using z0.symm
 by_cases h3:op=3
 .simp[a0m,qU,xI,h3];simpa using z0.symm
 by_cases h45:op=4\/op=5
 .have e:a0m op len=(decide (1<=len)&&decide (len<=24)):=by simp only[a0m,qU,xI,h1,h2,h3,or_self,if_false,h45,if_true,Bool.not_or, <- decide_not];congr 1<;>(rw[decide_eq_decide];omega)
  rw[e];rcases h45 with h|h
  .by_cases c1:1<=len
   .simp[h,c1]
   .simp[h,c1]
  .by_cases c1:1<=len
   .simp[h,c1]
   .simp[h,c1]
 by_cases d9B:op=9\/op=14
 .have e:a0m op len=decide (len=1):=by simp only[a0m,qU,xI,h1,h2,h3,or_self,if_false,h45,d9B,if_true];exact z1
  rw[e];have h4:¬op=4:=λe=>h45 (.inl e);have h5:¬op=5:=λe=>h45 (.inr e);rcases d9B with h|h<;>simp[h]
 .have e:a0m op len=decide (len=2):=by simp only[a0m,qU,xI,h1,h2,h3,or_self,if_false,h45,d9B];exact z2
  rw[e];have h4:¬op=4:=λe=>h45 (.inl e);have h5:¬op=5:=λe=>h45 (.inr e);have h9:¬op=9:=λe=>d9B (.inl e);have h14:¬op=14:=λe=>d9B (.inr e);simp[h1,h2,h3,h4,h5,h9,h14]
def c0Y(op:Int)(nm:Nm):Bool:= !(zA op&& !sT nm&& !a1m op nm)
theorem uD:VM.Enters prog 244:=.mk func244 rfl
theorem c4Z(p:Pr):CS prog G 244 [.agg (prD p)] (.d (.bool (c0Y p.op p.name))) none:=by
 refine CS.aY func244 rfl ntmps244 rfl ?_;by_cases h3:p.op=3
 .by_cases hv:p.name=[118]
  .simp[h3,hv,c0Y,zA,a1m]
  .simp[h3,hv];refine aC.mk (.mk func254 rfl) (b1p p.name) ?_;cases hc:sT p.name<;>simp[gU,c0Y,zA,a1m,h3,hv,hc]
 by_cases h4:p.op=4
 .by_cases hv:p.name=[116,97,103]
  .simp[h4,hv,c0Y,zA,a1m]
  .by_cases hv2:p.name=[118,97,108]
   .simp[h4,hv2,c0Y,zA,a1m]
   .simp[h4,hv,hv2];refine aC.mk (.mk func254 rfl) (b1p p.name) ?_;cases hc:sT p.name<;>simp[gU,c0Y,zA,a1m,h4,hv,hv2,hc]
 by_cases h5:p.op=5
 .simp[h5];refine aC.mk (.mk func254 rfl) (b1p p.name) ?_;cases hc:sT p.name<;>simp[gU,c0Y,zA,a1m,h5,hc]
 .simp[h3,h4,h5,c0Y,zA]
theorem d1D(p:Pr)(hlen:p.kids.length<=900000000:=by have:=qV p;have:=jY p.kids;omega):CS prog G 228 [.agg (prD p)] (.d (.int .i64 (a4b p))) none:=by
 obtain⟨op,nm,n,l⟩:=p;simp only at hlen;have c9a:=c4Z (G:=G) ⟨op,nm,n,l⟩;have hkd:=d1C (G:=G) op l.length;simp only at c9a;have hm:a4b ⟨op,nm,n,l⟩=if op<1\/18<op then 1 else if a6W op nm n l.length then 1 else if wU op n then 2 else if zA op&& !sT nm&& !a1m op nm then 3 else if op=8/\b2A l≠1 then 6 else 0:=rfl;have pJ:a6W op nm n l.length=((!zA op&& !decide (nm=[]))||(!decide (op=1)&& !decide (op=2)&& !decide (n=0))|| !a0m op l.length):=by simp only[a6W,a0m,Bool.not_not,Bool.or_assoc]
 rw[pJ]at hm;obtain⟨cb,hcb⟩:∃b,(zA op&& !sT nm&& !a1m op nm)=b:=⟨_,rfl⟩;have qC:c0Y op nm= !cb:=by rw[c0Y,hcb]
 rw[qC]at c9a;rw[hcb]at hm;refine CS.aY func228 rfl ntmps228 rfl ?_;by_cases a1:op<1
 .simp[a1]at hm;have o1:¬op=1:=by omega
  have o2:¬op=2:=by omega
  simp (maxSteps:=4000000) [o1,o2,a1,hm]
 by_cases a2:18<op
 .simp[a2]at hm;have o1:¬op=1:=by omega
  have o2:¬op=2:=by omega
  simp (maxSteps:=4000000) [o1,o2,a1,a2,hm]
 rw[if_neg (by omega)]at hm;by_cases o1:op=1
 .subst o1;have hn:zA 1=false:=rfl;rw[hn,Bool.false_and,Bool.false_and]at hcb;subst hcb;by_cases b1:nm=[];rotate_left
  .have b1':nm.isEmpty=false:=by cases nm<;>simp at b1|-
   simp[hn,b1]at hm;simp (maxSteps:=4000000) [b1,b1'];refine aC.mk (.mk func241 rfl) (a8B 1) ?_;simp (maxSteps:=4000000) [hn,hm]
  subst b1;by_cases c0:n=0
  .subst c0;simp (maxSteps:=4000000);refine aC.mk yW hkd ?_;cases hk:a0m 1 l.length
   .simp[hn,hk]at hm;simp (maxSteps:=4000000) [hm]
   .simp[hn,hk,wU]at hm;have hi:inB 0=true:=rfl;simp (maxSteps:=4000000);refine aC.mk (.mk func243 rfl) (c6I 0) ?_;simp[hi]at hm;simp (maxSteps:=4000000) [hi];refine aC.mk uD c9a ?_;simp (maxSteps:=4000000) [hm]
  .simp (maxSteps:=4000000) [c0];refine aC.mk yW hkd ?_;cases hk:a0m 1 l.length
   .simp[hn,hk]at hm;simp (maxSteps:=4000000) [hm]
   .simp[hn,hk,wU]at hm;simp (maxSteps:=4000000);refine aC.mk (.mk func243 rfl) (c6I n) ?_;cases hi:inB n
    .simp[hi]at hm;simp (maxSteps:=4000000) [hm]
    .simp[hi]at hm;simp (maxSteps:=4000000);refine aC.mk uD c9a ?_;simp (maxSteps:=4000000) [hm]
 by_cases o2:op=2
 .subst o2;have hn:zA 2=false:=rfl;rw[hn,Bool.false_and,Bool.false_and]at hcb;subst hcb;by_cases b1:nm=[];rotate_left
  .have b1':nm.isEmpty=false:=by cases nm<;>simp at b1|-
   simp[hn,b1]at hm;simp (maxSteps:=4000000) [b1,b1'];refine aC.mk (.mk func241 rfl) (a8B 2) ?_;simp (maxSteps:=4000000) [hn,hm]
  subst b1;by_cases c0:n=0
  .subst c0;simp (maxSteps:=4000000);refine aC.mk yW hkd ?_;cases hk:a0m 2 l.length
   .simp[hn,hk]at hm;simp (maxSteps:=4000000) [hm]
   .simp[hn,hk,wU]at hm;simp (maxSteps:=4000000);refine aC.mk uD c9a ?_;simp (maxSteps:=4000000) [hm]
  .simp (maxSteps:=4000000) [c0];refine aC.mk yW hkd ?_;cases hk:a0m 2 l.length
   .simp[hn,hk]at hm;simp (maxSteps:=4000000) [hm]
   .simp[hn,hk,wU,c0]at hm;by_cases c1:n=1
    .subst c1;simp at hm;simp (maxSteps:=4000000);refine aC.mk uD c9a ?_;simp (maxSteps:=4000000) [hm]
    .simp[c1]at hm;by_cases c2:n<0
     .simp (maxSteps:=4000000) [c2,hm]
     .have c3:1<n:=by omega
      simp (maxSteps:=4000000) [c2,c3,hm]
 by_cases b1:nm=[]
 .subst b1;by_cases c0:n=0;rotate_left
  .simp[o1,o2,c0]at hm;simp (maxSteps:=4000000) [a1,a2,o1,o2,c0,hm]
  subst c0;simp (maxSteps:=4000000) [a1,a2,o1,o2];refine aC.mk yW hkd ?_;cases hk:a0m op l.length
  .simp[hk]at hm;simp (maxSteps:=4000000) [hm]
  .simp[o1,o2,hk,wU]at hm;simp (maxSteps:=4000000) [o1,o2];refine aC.mk uD c9a ?_;cases cb
   .by_cases o8:op=8
    .subst o8
     match l,hk with
     |[],hk=>exact absurd hk (by decide)
     |k::r,hk=>
      by_cases e1:k.op=1
      .simp[b2A,e1]at hm;simp (maxSteps:=4000000) [e1,hm]
      .simp[b2A,e1]at hm;simp (maxSteps:=4000000) [e1,hm]
    .simp[o8]at hm;simp (maxSteps:=4000000) [o8,hm]
   .simp at hm;simp (maxSteps:=4000000) [hm]
 .have b1':nm.isEmpty=false:=by cases nm<;>simp at b1|-
  simp (maxSteps:=4000000) [a1,a2,o1,o2,b1,b1'];refine aC.mk (.mk func241 rfl) (a8B op) ?_;cases hn:zA op
  .simp[hn,b1]at hm;simp (maxSteps:=4000000) [hm]
  .by_cases c0:n=0;rotate_left
   .simp[hn,o1,o2,c0]at hm;simp (maxSteps:=4000000) [c0,hm]
   subst c0;simp (maxSteps:=4000000);refine aC.mk yW hkd ?_;cases hk:a0m op l.length
   .simp[hk]at hm;simp (maxSteps:=4000000) [hm]
   .simp[hn,o1,o2,hk,wU]at hm;simp (maxSteps:=4000000) [o1,o2];refine aC.mk uD c9a ?_;cases cb
    .by_cases o8:op=8
     .subst o8
      match l,hk with
      |[],hk=>exact absurd hk (by decide)
      |k::r,hk=>
       by_cases e1:k.op=1
       .simp[b2A,e1]at hm;simp (maxSteps:=4000000) [e1,hm]
       .simp[b2A,e1]at hm;simp (maxSteps:=4000000) [e1,hm]
     .simp[o8]at hm;simp (maxSteps:=4000000) [o8,hm]
    .simp at hm;simp (maxSteps:=4000000) [hm]
theorem d1E:∀p:Pr,bN p<=900000000->CS prog G 205 [.agg (prD p)] (.d (.int .i64 (qK a4b (a3x p)))) none:=by
 refine Pr.ind λp ih=>?_;intro hN;have hnd:=d1D (G:=G) p;have hpe:=a9i p;obtain⟨op,nm,n,l⟩:=p;simp only at ih hpe;have hn:=qV ⟨op,nm,n,l⟩;simp only at hn;have hl:=jY l;rw[hpe,qK];refine CS.aY func205 rfl ntmps205 rfl ?_;simp;refine aC.mk (.mk func228 rfl) hnd ?_;by_cases h0:a4b ⟨op,nm,n,l⟩=0;rotate_left
 .simp[h0]
 simp[h0];refine SW.eA (ι:={i:Nat//i<=l.length/\qK a4b (qQ (l.take i))=0}) (λi=>[(15,.d (.int .i64 i.1))]) (λ_=>[(1,prO op nm n (.sl (l.map qF)))]) (λ_=>[]) (λi=>l.length-i.1) ⟨0,by simp[qQ,qK]⟩ (by simp) ?_;rintro⟨i,hi,hR⟩
 try simp only at hi hR
 by_cases aG:i<l.length
 .have hg:=xJ aG;have hw:=aX (show i<9223372036854775807 by omega);have hb2:=tG aG;have hb3:=mA l (i+1);have ht:=b8i aG;have hsp:=a8c l (i+1);simp[aG,hg];refine aC.mk (.mk func205 rfl) (ih l[i] (g3P aG) (by omega)) ?_;by_cases hk:qK a4b (a3x l[i])=0
  .simp[hk];exact bE.mk ⟨i+1,aG,by rw[ht,a6n,if_pos hR,hk]⟩ (by simp[hw]) (by simp;omega)
  .have hf:qK a4b (qQ l)=qK a4b (a3x l[i]):=by rw[hsp,a6n,ht,a6n,if_pos hR,if_neg hk]
   simp[hk,hf]
 .have:i=l.length:=by omega
  subst this;rw[g4j]at hR;simp[hR]
theorem c9b(p:Pr)(hN:bN p<=900000000:=by have:=hn p n rfl;omega):CS prog G 179 [.agg (prD p)] (.d (.int .i64 (a8f p))) none:=by
 refine CS.aY func179 rfl ntmps179 rfl ?_;simp;refine aC.mk (.mk func203 rfl) (c6N p hN) ?_;by_cases h1:400<bN p
 .simp[h1,a8f,b5Y]
 simp[h1];refine aC.mk (.mk func204 rfl) (c7t p hN) ?_;by_cases h2:40<b5X p
 .simp[h1,h2,a8f,b5Y]
 simp[h2];refine aC.mk (.mk func205 rfl) (d1E p hN) ?_;simp[h1,h2,a8f,b5Y]
section
variable {l:List Tok} {f:Nat}
def b4r(rd:Nat->Nat->Option (Pr×Nat))(l:List Tok)(k:Nat):Nat->Pr->Nat->Pr×Nat
 |0,a,n=>(a,n)
 |g+1,a,n=>match opX l n k with
  |none=>(a,n)
  |some (op,ex)=>match rd (n+1) (if k=2 then 2 else k+1)with
   |none=>(a,n)
   |some (b,m)=>if k=6 then((if ex=true then tw op b a else tw op a b),m) else b4r rd l k g (if ex=true then tw op b a else tw op a b) m
variable{k n:Nat}
theorem d9C{l:List Tok}{q:Int×Bool}(h:opX l n k=some q):n<l.length:=by
 unfold opX at h;split at h
 .exact b9p h
 split at h
 .split at h
  .rename_i hs;exact oI hs
  .cases h
 .rw[g3p]at h;obtain⟨op,h,_⟩:=h;exact(b4k h).1
theorem c2M(rd:Nat->Nat->Option (Pr×Nat))(l:List Tok){k:Nat}(h2:k≠2)(h6:k≠6):∀(g:Nat)(a:Pr)(n:Nat),b4r rd l k g a n=eZ rd l k g a n
 |0,_,_=>rfl
 |g+1,a,n=>by
  rw[b4r,eZ];have e:opX l n k=(b2T l n k).map λo=>(o,false):=by unfold opX;rw[if_neg h6,if_neg h2]
  rw[e];cases b2T l n k with
  |none=>rfl
  |some op=>
   simp only[Option.map_some,if_neg h2,if_neg h6,g3K,if_false];cases rd (n+1) (k+1)with
   |none=>rfl
   |some q=>obtain⟨b,m⟩:=q;exact c2M rd l h2 h6 g _ m
theorem a8C{rd:Nat->Nat->Option (Pr×Nat)}(h:opX l n k=none)(g:Nat)(a:Pr):b4r rd l k g a n=(a,n):=by
 cases g with
 |zero=>rfl
 |succ g=>rw[b4r,h]
theorem e4S{i:Nat}(h1:1<=k)(h9:k<=9)(h5:k=5->pM l i [33]=false)(hk9:k=9->pM l i [45]=false)(hi:i<=l.length)(hf:mu l.length i k<=f+1):
  jF aH l (f+1) i k=(jF aH l f i (k+1)).map λq=>b4r (jF aH l f) l k l.length q.1 q.2:=by
 have hch:∀k,k≠2->k≠6->(λq:Pr×Nat=>b4r (jF aH l f) l k l.length q.1 q.2)=λq=>eZ (jF aH l f) l k l.length q.1 q.2:=λk h2 h6=>by funext q;exact c2M _ l h2 h6 _ _ _
 obtain rfl|rfl|rfl|rfl|rfl|rfl|rfl|rfl|rfl:k=1\/k=2\/k=3\/k=4\/k=5\/k=6\/k=7\/k=8\/k=9:=by omega
 .rw[hch 1 (by omega) (by omega)]
  rfl
 .have he:jF aH l (f+1) i 2=b4j (jF aH l f) l i:=rfl;obtain⟨o,ho⟩:∃o,jF aH l (f+1) i 2=o:=⟨_,rfl⟩;rw[ho];rw[he]at ho;unfold b4j at ho;cases hr:jF aH l f i 3 with
  |none=>rw[hr]at ho;exact ho.symm
  |some q=>
   obtain⟨a,n⟩:=q;have wF:=mT aH l f _ _ _ _ hr;rw[hr]at ho;simp only at ho;rw[Option.map_some];simp only;obtain⟨g,hg⟩:∃g,l.length=g+1:=⟨l.length-1,by omega⟩;cases hs:pM l n [61,62]with
   |false=>rw[if_neg (by simp[hs])]at ho;rw[a8C (by unfold opX;simp[hs]), <- ho]
   |true=>
    rw[if_pos hs]at ho;have hx:opX l n 2=some (17,false):=by unfold opX;simp[hs]
    rw[hg,b4r,hx];simp only[if_true];cases hr2:jF aH l f (n+1) 2 with
    |none=>rw[hr2]at ho;exact ho.symm
    |some z=>
     obtain⟨b,m⟩:=z;have b5D:=mT aH l f _ _ _ _ hr2;rw[hr2]at ho;simp only at ho;simp only[g3K,if_false];rw[if_neg (by omega)];have f4M:jF aH l (f+1) i 2=some (tw 17 a b,m):=by rw[he];unfold b4j;rw[hr];simp only;rw[if_pos hs,hr2]
     cases hs2:pM l m [61,62]with
     |false=>rw[a8C (by unfold opX;simp[hs2]), <- ho]
     |true=>
      have hml:=oI hs2;have a2a:=d2J aH l (f+1) f i _ m hi hf f4M hs2 (by have:=uT (L:=l.length) (i:=i) (i':=m+1) (k:=2) (k':=2) (by omega) hml;omega)
      cases g with
      |zero=>exact ho.symm
      |succ g=>
       have hx2:opX l m 2=some (17,false):=by unfold opX;simp[hs2]
       rw[b4r,hx2];simp only[if_true];rw[a2a, <- ho]
 .rw[hch 3 (by omega) (by omega)]
  rfl
 .rw[hch 4 (by omega) (by omega)]
  rfl
 .have he:jF aH l (f+1) i 5=jF aH l f i 6:=by
   show(if pM l i [33]=true then _ else jF aH l f i 6)=_
   rw[if_neg (by simp[h5 rfl])]
  rw[he];cases jF aH l f i 6 with
  |none=>rfl
  |some q=>rw[Option.map_some,a8C (by rfl)]
 .have he:jF aH l (f+1) i 6=a9w (jF aH l f) l i:=rfl;rw[he];unfold a9w;cases hr:jF aH l f i 7 with
  |none=>rfl
  |some q=>
   obtain⟨a,n⟩:=q;have wF:=mT aH l f _ _ _ _ hr;obtain⟨g,hg⟩:∃g,l.length=g+1:=⟨l.length-1,by omega⟩;have hx:opX l n 6=a3m l n:=rfl;simp only[Option.map_some];rw[hg,b4r,hx];cases a3m l n with
   |none=>rfl
   |some c=>
    obtain⟨op,ex⟩:=c;simp only[show ¬(6:Nat)=2 by omega,if_false];cases jF aH l f (n+1) 7 with
    |none=>rfl
    |some z=>rfl
 .rw[hch 7 (by omega) (by omega)]
  rfl
 .rw[hch 8 (by omega) (by omega)]
  rfl
 .have he:jF aH l (f+1) i 9=jF aH l f i 10:=by
   show(if pM l i [45]=true then _ else jF aH l f i 10)=_
   rw[if_neg (by simp[hk9 rfl])]
  rw[he];cases jF aH l f i 10 with
  |none=>rfl
  |some q=>rw[Option.map_some,a8C (by rfl)]
def d9D(l:List Tok)(i k:Nat):St:=⟨([.d (tkD l),.d (.int .i64 i),.d (.int .i64 k),.undef,.undef,.undef,.ptr 6 0,.d (.int .i64 0),.d (.bool false)]:List DV)++List.replicate 105 .undef,[(6,.cells [.d (.int .i64 0),.d (.str []),.d (.int .i64 0),.d .aE])],[]⟩
theorem d1F(hl:a0M l)(hA:d5y G l f):d5y G l (f+1):=by
 have hll:=hl.1;intro i k h1 h10 hi hf;by_cases k10:k=10
 .subst k10;have hat:=d1x (G:=G) hl hA i hi hf;have he:jF aH l (f+1) i 10=zX aH (jF aH l f) l i:=rfl;rw[he];refine CS.aY func178 rfl ntmps178 rfl ?_;simp;refine aC.mk (hkl:=oM _ _) (.mk func199 rfl) hat ?_;cases zX aH (jF aH l f) l i with
  |none=>simp[tT]
  |some q=>obtain⟨p,n⟩:=q;simp[tT]
 by_cases f5:k=5/\pM l i [33]=true
 .obtain⟨rfl,hs⟩:=f5;have zC:=oI hs;have hsg:=sN (G:=G) l i [33];rw[hs]at hsg;have hfr:=b5G (G:=G) hl hA i 5 14 (by omega) zC (by have:=uT (L:=l.length) (i:=i) (i':=i+1) (k:=5) (k':=5) (by omega) zC;omega)
  have he:jF aH l (f+1) i 5=(jF aH l f (i+1) 5).map λq=>((⟨14,[],0,[q.1]⟩:Pr),q.2):=by
   show(if pM l i [33]=true then _ else _)=_
   rw[if_pos hs]
  rw[he];refine CS.aY func178 rfl ntmps178 rfl ?_;simp;refine aC.mk gI hsg ?_;simp;refine aC.mk (hkl:=oM _ _) (.mk func201 rfl) hfr ?_;cases (jF aH l f (i+1) 5).map λq=>((⟨14,[],0,[q.1]⟩:Pr),q.2)with
  |none=>simp[tT]
  |some q=>obtain⟨p,n⟩:=q;simp[tT]
 by_cases f9:k=9/\pM l i [45]=true
 .obtain⟨rfl,hs⟩:=f9;have zC:=oI hs;have hsg:=sN (G:=G) l i [45];rw[hs]at hsg;have hfr:=b5G (G:=G) hl hA i 9 9 (by omega) zC (by have:=uT (L:=l.length) (i:=i) (i':=i+1) (k:=9) (k':=9) (by omega) zC;omega)
  have he:jF aH l (f+1) i 9=(jF aH l f (i+1) 9).map λq=>((⟨9,[],0,[q.1]⟩:Pr),q.2):=by
   show(if pM l i [45]=true then _ else _)=_
   rw[if_pos hs]
  rw[he];refine CS.aY func178 rfl ntmps178 rfl ?_;simp;refine aC.mk gI hsg ?_;simp;refine aC.mk (hkl:=oM _ _) (.mk func201 rfl) hfr ?_;cases (jF aH l f (i+1) 9).map λq=>((⟨9,[],0,[q.1]⟩:Pr),q.2)with
  |none=>simp[tT]
  |some q=>obtain⟨p,n⟩:=q;simp[tT]
 have q5:k=5->pM l i [33]=false:=λe=>by
  cases hs:pM l i [33]with
  |false=>rfl
  |true=>exact absurd ⟨e,hs⟩ f5
 have q9:k=9->pM l i [45]=false:=λe=>by
  cases hs:pM l i [45]with
  |false=>rfl
  |true=>exact absurd ⟨e,hs⟩ f9
 obtain⟨o,ho⟩:∃o,jF aH l (f+1) i k=o:=⟨_,rfl⟩;have qZ:=e4S (f:=f) h1 (by omega) q5 q9 hi hf;rw[ho]at qZ|-;have f8s:¬(k:Int)=10:=by omega
 have hk1:=aX (show k<9223372036854775807 by omega);have hat:=hA i (k+1) (by omega) (by omega) hi (by have:=b9s (L:=l.length) (i:=i) (show k<k+1 by omega) (by omega);omega)
 refine CS.a4w func178 rfl ntmps178 rfl ?_;refine SW.gN (SW.vk ?_);simp;refine oJ (d9D l i k) (SW.vk ?_) ?_
 .by_cases k5:k=5
  .have hsg:=sN (G:=G) l i [33];rw[q5 k5]at hsg;subst k5;simp;refine aC.mk gI hsg ?_;simp[d9D,List.replicate]
  by_cases k9:k=9
  .have hsg:=sN (G:=G) l i [45];rw[q9 k9]at hsg;subst k9;simp;refine aC.mk gI hsg ?_;simp[d9D,List.replicate]
  have k5':¬(k:Int)=5:=by omega
  have k9':¬(k:Int)=9:=by omega
  simp[f8s,k5',k9',d9D,List.replicate]
 refine SW.vk ?_;simp[d9D,List.replicate,hk1];refine aC.mk (hkl:=oM _ _) vQ hat ?_;cases hr:jF aH l f i (k+1)with
 |none=>rw[hr]at qZ;subst qZ;simp[tT]
 |some q=>
  obtain⟨a,n⟩:=q;have wF:=mT aH l f _ _ _ _ hr;rw[hr,Option.map_some]at qZ;obtain⟨⟨rp,rn⟩,mB⟩:∃r,b4r (jF aH l f) l k l.length a n=r:=⟨_,rfl⟩;simp only at qZ;rw[mB]at qZ;subst qZ;simp[tT];refine SW.eA (ι:={p:Pr×Nat//p.2<=l.length/\i<p.2/\∃g,l.length<=g+p.2/\b4r (jF aH l f) l k g p.1 p.2=(rp,rn)}) (λp=>[(10,.d (.int .i64 p.1.2))]) (λp=>[(6,.cells [.d (.int .i64 0),.d (.str []),.d (.int .i64 0),.d .aE]),(9,.cells ((prD p.1.1).map .d))]) (λ_=>[]) (λp=>l.length-p.1.2) ⟨(a,n),wF.2,wF.1,l.length,by omega,mB⟩ (by simp) ?_;rintro⟨⟨a,n⟩,hn,yL,g,hg,hR⟩;simp only at hn yL hg hR;have qD:=b9H (G:=G) l n k;have hn1:=aX (show n<9223372036854775807 by omega);simp;refine aC.mk (hkl:=c4S _) (.mk func202 rfl) qD ?_;cases hx:opX l n k with
  |none=>rw[a8C hx]at hR;cases hR;simp[a5n]
  |some c=>
   obtain⟨op,ex⟩:=c;have hnl:=d9C hx;obtain⟨g,rfl⟩:∃h,g=h+1:=⟨g-1,by omega⟩;rw[b4r,hx]at hR;simp only at hR;simp[a5n];by_cases h2:k=2
   .rw[if_pos h2]at hR;have h26:¬k=6:=by omega
    simp only[if_neg h26]at hR;subst h2;have c4J:=hA (n+1) 2 (by omega) (by omega) hnl (by have:=uT (L:=l.length) (i:=i) (i':=n+1) (k:=2) (k':=2) (by omega) hnl;omega)
    simp[hn1,hk1];refine aC.mk (hkl:=oM _ _) vQ c4J ?_;cases hr2:jF aH l f (n+1) 2 with
    |none=>rw[hr2]at hR;cases hR;simp[tT]
    |some z=>
     obtain⟨b,m⟩:=z;have b5D:=mT aH l f _ _ _ _ hr2;rw[hr2]at hR;simp only at hR;simp[tT];cases ex with
     |true=>simp[rg2];exact bE.mk ⟨(tw op b a,m),b5D.2,by simp only;omega,g,by simp only;omega,by simpa using hR⟩ (by simp[tw,dE]) (by simp;omega)
     |false=>simp[rg2];exact bE.mk ⟨(tw op a b,m),b5D.2,by simp only;omega,g,by simp only;omega,by simpa using hR⟩ (by simp[tw,dE]) (by simp;omega)
   .rw[if_neg h2]at hR;have h2':¬(k:Int)=2:=by omega
    have c4J:=hA (n+1) (k+1) (by omega) (by omega) hnl (by have:=uT (L:=l.length) (i:=i) (i':=n+1) (k:=k) (k':=k+1) (by omega) hnl;omega)
    simp[hn1,hk1,h2,h2'];refine aC.mk (hkl:=oM _ _) vQ c4J ?_;cases hr2:jF aH l f (n+1) (k+1)with
    |none=>rw[hr2]at hR;cases hR;simp[tT]
    |some z=>
     obtain⟨b,m⟩:=z;have b5D:=mT aH l f _ _ _ _ hr2;rw[hr2]at hR;simp only at hR;simp[tT];by_cases h6:k=6
     .rw[if_pos h6]at hR;cases hR;have h6':(k:Int)=6:=by omega
      cases ex with
      |true=>simp[rg2,h6,h6',tw,dE]
      |false=>simp[rg2,h6,h6',tw,dE]
     .rw[if_neg h6]at hR;have h6':¬(k:Int)=6:=by omega
      cases ex with
      |true=>simp[rg2,h6,h6'];exact bE.mk ⟨(tw op b a,m),b5D.2,by simp only;omega,g,by simp only;omega,by simpa using hR⟩ (by simp[tw,dE]) (by simp;omega)
      |false=>simp[rg2,h6,h6'];exact bE.mk ⟨(tw op a b,m),b5D.2,by simp only;omega,g,by simp only;omega,by simpa using hR⟩ (by simp[tw,dE]) (by simp;omega)
theorem c2N(hl:a0M l):∀f,d5y G l f
 |0=>λi k _ h10 _ h=>by unfold mu at h;omega
 |f+1=>d1F hl (c2N hl f)
theorem d9E(hl:a0M l):CS prog G 178 [tkD l,.int .i64 0,.int .i64 1] (tT (a6J l) 0) none:=c2N hl _ 0 1 (by omega) (by omega) (by omega) (g3G _)
end
theorem d1G(l:List Tok)(hl:a0M l)(hn:∀p n,a6J l=some (p,n)->bN p<=1000000):CS prog G 160 [.sl (l.map bL)] (b5E l) none:=by
 have hat:=d9E (G:=G) hl;obtain⟨o,ho⟩:∃o,a6J l=o:=⟨_,rfl⟩;rw[ho]at hat hn;unfold b5E;rw[ho];refine CS.aY func160 rfl ntmps160 rfl ?_;simp;refine aC.mk (hkl:=oM _ _) vQ hat ?_;cases o with
 |none=>simp[tT]
 |some q=>
  obtain⟨p,n⟩:=q;have hck:=c9b (G:=G) p;simp[tT];refine aC.mk (.mk func179 rfl) hck ?_;by_cases h0:a8f p=0
  .simp[h0]
  .simp[h0]
end
end Go.Proofs.YtmfbjecjccipfaaGreatDoor
section
namespace Go.VM
open Go Go.RowKit
def b9N(k:Nat):DV->Bool
 |.d _=>true
 |.undef=>true
 |.cX _=>true
 |.rS=>true
 |.ptr k' _=>decide (k'≠k)
 |_=>false
def b1q:bG->Bool
 |.cells cs=>cs.all λc=>match c with
  |.d _=>true
  |_=>false
 |_=>false
section
variable {P:Program} {G:GT} {st:St}
variable{μ μ':Nat->Nat}{R:Nat->Nat->Prop}{w:World}
theorem TV.other{v:Value}{d:DV}{k:Nat}(h:TV R μ w v d)(hk:b9N k d=true)(hμ:∀j,j≠k->μ' j=μ j):TV R μ' w v d:=by
 cases h with
 |d v x h=>exact .d _ _ h
 |undef v=>exact .undef _
 |ptr j off=>simp only[b9N,g4e]at hk;rw[<-hμ j hk];exact .ptr j off
 |cX vs ds h1 h2=>exact .cX vs ds h1 h2
 |rS b=>exact .rS b
 |_=>cases hk
variable{o:bG}
theorem oC.other{b:Nat}(h:oC R μ w b o)(ho:b1q o=true):oC R μ' w b o:=by
 cases o with
 |cells cs=>
  obtain⟨vs,T,h1,h2,h3,h4⟩:=h;refine⟨vs,T,h1,h2,λi d hd=>⟨(h3 i d hd).1,?_⟩,h4⟩;have hp:=g3t.1 ho d (g3v hd);have ht:=(h3 i d hd).2;generalize vs.getD i undef=u at ht|-;cases d with
  |d x=>cases ht with|d v x h=>exact .d _ _ h
  |_=>cases hp
 |_=>cases ho
variable{kc:Nat}{f:FuncId}{t:Tmp}{ls:List (Option Loc)}{ds:List D}
theorem pC.f0K(hch:CH P G f ⟨ds.map .d,[],[]⟩ ⟨[.ptr kc 0],[(kc,o)],[]⟩)(k:Nat){g3o:List DV}(pJ:WkT g3o (ds.map .d))(oO:st.own=[])(hk:k<100000)(a1e:getKey k st.H=none)(ho:b1q o=true)(hT:st.tmps.all (b9N k)=true)(hO:st.H.all (λp=>b1q p.2)=true):
  pC P G f g3o ls st (some t) ⟨st.tmps.set t (.ptr k 0),(k,o)::st.H,[]⟩:=by
 intro base R μ a w args hr hl hv a9u
 let mV:dU:=⟨λb=>w.heap.size<=b,μ⟩
 have sub:∀b,mV b->base b:=λb hb=>hr.base b hb;have a2Q:Rel P G mV R μ ⟨ds.map .d,[],[]⟩ {tmps:=args,defers:=[]} w:=by
  obtain⟨g1,g2⟩:=a1f pJ;refine⟨rfl,by show args.size=(ds.map DV.d).length;omega,λi v d hiv hid=>?_,λk o hk=>(by cases hk),λk k' o o' hk=>(by cases hk),λc hc=>(by cases hc),⟨[],rfl,λi c v h _=>by simp at h,.nil⟩,hr.wY.up sub,hr.sB,λb hb=>hb,λk hk=>rfl⟩;obtain⟨d0,hd0,b7s⟩:=g2 i d hid;have hva:=hv i d0 hd0;have hav:args.getD i undef=v:=by simp only at hiv;simp[g3s,hiv]
  rw[hav]at hva;rcases b7s with hc|hc|⟨hc1,hc2⟩
  .rw[hc];exact .undef _
  .rw[hc];exact hva
  .rw[hc2];rw[hc1]at hva;obtain⟨ao,rfl⟩:=hva.b1B.mW;exact .d _ _ (.emp _ _)
 refine(hch mV R μ args w a2Q).mono λe w' hh=>?_;obtain⟨v,R',μ',he,jG,hs⟩:=hh;obtain⟨μ2,hμk,hμ⟩:∃μ2:Nat->Nat,μ2 k=μ' kc/\∀j,j≠k->μ2 j=μ j:=⟨λj=>if j=k then μ' kc else μ j,by simp,λj hj=>by simp[hj]⟩;refine⟨v,R',μ2,he,?_,⟨hs.below.mono sub,hs.mono,λb o h1 h2=>sub b (hs.new b o h1 h2),hs.cells⟩⟩;have hsb:Step base R w R' w':=⟨hs.below.mono sub,hs.mono,λb o h1 h2=>sub b (hs.new b o h1 h2),hs.cells⟩;have kept:∀b, ¬mV b->w'.heap[b]? =w.heap[b]? /\∀off,R' b off->R b off:=λb hb=>⟨hs.below.block b hb,λoff h=>by
  by_cases hx:R b off
  .exact hx
  .exact absurd (hs.new b off h hx) hb⟩
 obtain⟨n1,n2,n3⟩:=jG.mL kc o (by simp[getKey]);have old:∀j o',getKey j st.H=some o'-> ¬mV (μ j):=λj o' hj hb=>by have:=(hr.mL j o' hj).2.2.lt;exact absurd hb (Nat.not_le.2 this)
 have mB:TV R' μ' w' v (.ptr kc 0):=jG.tmps 0 v _ rfl rfl;refine⟨hr.defers,by simp[Act.put,hr.size],λi u d hu hd=>?_,λj o' hj=>?_,λj j' o1 o2 hj hj' he'=>?_,(λc hc=>by cases hc),⟨[],rfl,λi c v h _=>by simp at h,.nil⟩,hr.wY.cD hsb,jG.sB,λb hb=>hr.base b (Nat.le_trans hs.below.size hb),λj hj=>?_⟩
 .simp only[Act.put]at hu hd;by_cases hti:t=i
  .subst hti;have h1:t<st.tmps.length:=by
    by_cases aG:t<st.tmps.length
    .exact aG
    .have vB:(st.tmps.set t (.ptr k 0))[t]? =none:=g3X (by rw[List.length_set];exact g3Z aG);rw[vB]at hd;cases hd
   have h2:t<a.tmps.size:=by rw[hr.size];exact h1
   simp[h1]at hd;simp[h2]at hu;subst hu hd;cases mB with
   |ptr _ _=>
    have:TV R' μ2 w' (.pointer (some ⟨μ2 k,0,none⟩)) (.ptr k 0):=.ptr k 0
    rwa[hμk]at this
  .rw[g4q hti]at hu;rw[List.getElem?_set_ne hti]at hd;exact((hr.tmps i u d hu hd).cD hsb).other (g3t.1 hT d (g3v hd)) hμ
 .by_cases hjk:j=k
  .subst hjk;simp only[getKey,if_true,g3w]at hj;subst hj;rw[hμk];exact⟨sub _ n1,n2,n3.other ho⟩
  .have hj:getKey j st.H=some o':=by
    unfold getKey at hj
    rwa[if_neg (λh:k=j=>hjk h.symm)]at hj
   obtain⟨p1,p2,p3⟩:=hr.mL j o' hj;obtain⟨e1,e2⟩:=kept _ (old j o' hj);rw[hμ j hjk];exact⟨p1,λoff h=>p2 off (e2 off h),(p3.cD hsb e1).other (g3t.1 hO (j,o') (kK hj))⟩
 .have main:∀j o',j≠k->getKey j ((k,o)::st.H)=some o'->getKey j st.H=some o':=λj o' hjk hj=>by
   unfold getKey at hj
   rwa[if_neg (λh:k=j=>hjk h.symm)]at hj
  by_cases h1:j=k
  .by_cases h2:j'=k
   .rw[h1,h2]
   .rw[h1,hμk,hμ j' h2]at he';exact absurd (he'▸n1) (old j' o2 (main j' o2 h2 hj'))
  .by_cases h2:j'=k
   .rw[h2,hμk,hμ j h1]at he';exact absurd (he'▸n1) (old j o1 (main j o1 h1 hj))
   .rw[hμ j h1,hμ j' h2]at he';exact hr.inj j j' o1 o2 (main j o1 h1 hj) (main j' o2 h2 hj') he'
 .rw[hμ j (by omega)];exact hr.pass j hj
theorem jV.new(he:Enters P f)(hch:CH P G f ⟨ds.map .d,[],[]⟩ ⟨[.ptr kc 0],[(kc,o)],[]⟩)(k:Nat){g3o:List D}{all:Array Oper}{rest:List Oper}{X:List XI}{Q:Exit->St->Prop}(pJ:WkT (g3o.map .d) (ds.map .d))(oO:st.own=[])(hk:k<100000)(a1e:getKey k st.H=none)(ho:b1q o=true)(hT:st.tmps.all (b9N k)=true)(hO:st.H.all (λp=>b1q p.2)=true)(h:XK P G (.ops all rest::X) .normal ⟨st.tmps.set t (.ptr k 0),(k,o)::st.H,[]⟩ Q):jV P G f g3o ls (some t) all rest X st Q:=by unfold jV;exact .inr ⟨_,⟨he,pC.f0K hch k pJ oO hk a1e ho hT hO⟩,h⟩
end
end Go.VM
end
namespace Go.Proofs.YtmfbjecjccipfaaGreatDoor
section
open Go Go.VM
variable {G:GT}
variable{l:List Tok}
theorem c5b(pG:a0M l)(s:dB)(e:Nat)(hv:bY l s)(hse:s.er=0->s.pl<=e)(he:e<=l.length):eH G 119 [.int .i64 e] l s (pL rdQ l e s) d4n:=by
 have hl:=pG.1;by_cases h0:s.er=0;rotate_left
 .obtain⟨i,er,ln⟩:=s;refine eH.bO func119 rfl ntmps119 rfl ?_;intro Q Q0;unfold pL at Q0;have Q0:=Q0.rK h0;simp[h0];exact Q0.ok _ _ (.inr rfl) (by simp[eE])
 have hpk:eH G 21 [.int .i64 0] l s _ _:=oG hl 0 s hv (by omega);obtain⟨i,er,ln⟩:=s;simp only at h0;subst h0;have hi:i<l.length:=hv rfl;have hke:i<=e:=hse rfl;obtain⟨L,hL⟩:∃L,(l.take e).drop i=L:=⟨_,rfl⟩;have d9t:a0M L:=by rw[<-hL];exact c8N pG e i
 have hrd:=d1G (G:=G) L d9t (λp n h=>Nat.le_trans (b4o h) (by have:=d9t.1;omega));have hLm:((l.map bL).take e).drop i=L.map bL:=by rw[<-hL,List.map_drop,List.map_take]
 rw[<-hLm]at hrd;refine eH.xA func119 rfl ntmps119 rfl ?_;intro Q Q0;unfold pL rdQ at Q0;have Q0:=Q0.sW rfl;simp only[show min i e=i by omega,hL]at Q0;rw[a0D hi]at hpk;refine SW.gN (SW.xk ?_);simp;refine SW.gN (SW.xk ?_);simp;refine SW.gN (SW.vk ?_);simp[hke,he,a3k];refine⟨.mk,?_⟩;refine aC.mk (hkl:=b0h L) (.mk func160 rfl) hrd ?_;unfold b5E;cases hR:a6J L with
 |none=>simp only[hR]at Q0;simp;refine SW.xk ?_;simp;refine cH gV hpk (λT s1 h1=>?_);cases h1;generalize aJ l i=T at Q0|-;obtain⟨a,b,c,d⟩:=T;simp[bL];exact Q0.ok _ _ (.inr rfl) (by simp[eE])
 |some q=>
  obtain⟨p,n⟩:=q;have hn:=a5k hR;have hLl:L.length<=e-i:=by rw[<-hL];simp;omega
  simp only[hR]at Q0;by_cases hc:a8f p=0
  .simp only[if_pos hc]at Q0;have hw:IntKind.i64.wrap ((i:Int)+(n:Int))=((i+n:Nat):Int):=by rw[wrap64 (by omega)];omega
   simp only[if_pos hc];simp;refine SW.xk ?_;simp[hw];exact Q0.ok _ _ (.inr rfl) (by simp)
  .simp only[if_neg hc]at Q0;simp only[if_neg hc];simp;refine SW.xk ?_;simp[hc];refine cH gV hpk (λT s1 h1=>?_);cases h1;generalize aJ l i=T at Q0|-;obtain⟨a,b,c,d⟩:=T;simp[bL];exact Q0.ok _ _ (.inr rfl) (by simp[eE])
theorem c2O{s:List UInt8}(h:oV kN s 0 1 false=.ok l)(hs:s.length<=19000):rR G rdQ l:=by
 have pG:=(c8M h (by omega)).1;have hO:=a2b s 0 1 false l h;have hE:=b6B hO;have hlen:l.length<=20000:=by have:=(yF kN s 0 1 false l h).2.1;omega
 have hW:WfD l:=λi t ht hk=>((d2N hO) t (g3v ht)).2 hk;have a1k:pK l:=by
  have a2I:0<l.length:=g3U.2 hE.1;have aG:l.length-1<l.length:=by omega
  refine⟨hE.1,hE.2 _ ?_⟩;unfold aJ;rw[if_pos aG,g4s,g3u aG]
  rfl
 have wF:a5L rdQ l:=λe i p j hi hx=>c4O hE.2 e i p j hi hx;refine⟨⟨a1k,λi=>((d2N hO) _ (c8P hE.1 i)).1,wF,λi e n x hi hx=>f0E l i e n x hi hx,λi p k hi hx hs=>?_⟩,hlen,λi e p j hx=>?_,λs e hv hse he=>c5b pG s e hv hse he⟩
 .exact e4L hW i p k hi hx (wF _ _ _ _ hi hx).2 hs
 .unfold rdQ at hx;split at hx
  .cases hx
  .rename_i q n hr;split at hx
   .cases hx;have h1:=b4o hr;simp only[g4p,g4c]at h1;omega
   .cases hx
def a0c(s:List UInt8):List Tok×dB:=if 40000<s.length then([],⟨0,7,0⟩) else match oV kN s 0 1 false with
 |.error n=>([],⟨0,14,n⟩)
 |.ok l=>(l,⟨0,0,0⟩)
theorem c5c(s:List UInt8)(hs:s.length<=900000000:=by omega):CH prog G 20 ⟨[D.str s].map .d,[],[]⟩ ⟨[.ptr 16 0],[(16,rfO (a0c s).1 (a0c s).2)],[]⟩:=by
 have hlx:=c4X (G:=G) s hs;unfold a0c;by_cases b5j:40000<s.length
 .rw[if_pos b5j]at hlx|-;refine CH.aY func20 rfl ntmps20 rfl (by simp) ?_;simp;refine aC.mk (.mk func52 rfl) hlx ?_;simp
 rw[if_neg b5j]at hlx|-;cases hx:oV kN s 0 1 false with
 |error e=>rw[hx]at hlx;simp only[c7l,c7m,c7n]at hlx;refine CH.aY func20 rfl ntmps20 rfl (by simp) ?_;simp;refine aC.mk (.mk func52 rfl) hlx ?_;simp
 |ok l=>rw[hx]at hlx;simp only[c7l,c7m,c7n,b5V]at hlx;refine CH.aY func20 rfl ntmps20 rfl (by simp) ?_;simp;refine aC.mk (.mk func52 rfl) hlx ?_;simp
section
variable {β:Type} {Q:Exit->St->Prop} {l:List Tok} {s:dB} {enc:β->DV}
variable{av:List DV}{f:FuncId}{ds:List D}{st:St}{ls:List (Option VM.Loc)}{dst:Option Tmp}
theorem f8u(k:Nat){y:β×dB}{KK:St->Prop}(he:VM.Enters prog f)(hc:eH G f ds l s y enc)(pG:∀a s1,y=(a,s1)->KK ⟨kJ dst (enc a) st.tmps,cF k (rfO l s1) st.H,jB dst (dropKey k st.own)⟩)(hk:∀a,bB [(100000,k)] (enc a)=true/\bI [(100000,k)] (enc a)=enc a:=by intro a;exact⟨rfl,rfl⟩)(hw:WkT av (.ptr k 0::ds.map .d):=by simp)(hH:getKey k st.H=some (rfO l s):=by simp):tQ prog G f av ls dst st KK Q true:=by
 refine tQ.mk (x:=.inl (enc y.1,rfH l y.2,[])) he hc [(100000,k)] (λd H1 own1 hx=>?_) (λv hx=>by cases hx) ?_ ?_ rfl rfl (λd H1 own1 hx=>?_) (λv hx=>by cases hx) (rest:=st.own)
 .cases hx;simp[aW,bB,bD,bC,eX,bK,getKey,(hk y.1).1]
 .simpa[bA,bI,rk,kO]using hw
 .simp only[dC,rfO,List.map_cons,List.map_nil,rk,if_true,dL,bA,bI,WkH,and_true];exact⟨_,hH,by simp[WkO]⟩
 .cases hx;have:=pG y.1 y.2 rfl;simpa[bJ,bX,dL,bA,bI,rk,eI,(hk y.1).2]using this
theorem f0L(k:Nat){y:β×dB}{all:Array Oper}{ops:List Oper}{X:List XI}(he:VM.Enters prog f)(hc:eH G f ds l s y enc)(pG:∀a s1,y=(a,s1)->XK prog G (.ops all ops::X) .normal ⟨kJ dst (enc a) st.tmps,cF k (rfO l s1) st.H,jB dst (dropKey k st.own)⟩ Q)(hk:∀a,bB [(100000,k)] (enc a)=true/\bI [(100000,k)] (enc a)=enc a:=by intro a;exact⟨rfl,rfl⟩)(hw:WkT av (.ptr k 0::ds.map .d):=by simp)(hH:getKey k st.H=some (rfO l s):=by simp):dX prog G f av ls dst all ops X st Q:=dX.mk (f8u (hw:=hw) (hH:=hH) k he hc pG hk)
end
def e7o{α:Type}(r:gO α)(t:α)(s2:dB):Prop:=match r with
 |.ok a _=>t=a/\s2.er=0
 |.bad n e=>e≠0/\s2.er=e/\s2.ln=n
variable{s:dB}
theorem b9O(h:s.er≠0:=by rw[k2];exact k1):(b7V l s).2=s:=by unfold b7V;rw[if_neg (λh'=>h h'.1)]
theorem f0M{α:Type}(C:List Tok->dB->α×dB->Prop){x:List Tok->bF α}{y:List Tok->RM α}(z:α)(s:List UInt8)(hs:s.length<=19000)(hW:∀l,rR G rdQ l->(∀i, -9223372036854775807<=(aJ l i).n/\(aJ l i).n<=9223372036854775807)->∀s,bY l s->C l s (y l s))(hE:∀s:dB,s.er≠0->C [] s (z,s))(hM:∀l,rR G rdQ l->aF l 0 (x l) (y l)):
  ∃t s1,C (a0c s).1 (a0c s).2 (t,s1)/\bY (a0c s).1 s1/\(a0c s).1.length<=50000/\e7o (gA x s) t (b7V (a0c s).1 s1).2:=by
 unfold a0c gA;have hng:∀(e n:Int),e≠0->∃t s1,C [] ⟨0,e,n⟩ (t,s1)/\bY [] s1/\([]:List Tok).length<=50000/\e7o (.bad n e:gO α) t (b7V [] s1).2:=λe n he=>by refine⟨z,⟨0,e,n⟩,hE ⟨0,e,n⟩ he,λh=>absurd h he,by simp,he,?_⟩;rw[b9O (s:=⟨0,e,n⟩) he];exact⟨rfl,rfl⟩
 by_cases hl:40000<s.length
 .omega
 rw[if_neg hl,if_neg hl];cases hx:oV kN s 0 1 false with
 |error n=>exact hng 14 n (by decide)
 |ok l=>
  have hV:rR G rdQ l:=c2O hx hs;have h0:0<l.length:=g3U.2 hV.fin.1;have d5A:=(hM l hV).yS 0 0 (g3G _) h0;refine⟨(y l ⟨0,0,0⟩).1,(y l ⟨0,0,0⟩).2,hW l hV (c2K hx) ⟨0,0,0⟩ λ_=>h0,(hM l hV).next (s:=⟨0,0,0⟩) (λ_=>h0) rfl,by have:=hV.len;simp only;omega,?_⟩;simp only;cases hr:x l 0 with
  |bad n e=>rw[hr]at d5A;obtain⟨k1,k2,k3⟩:e≠0/\_:=d5A;simp only;exact⟨k1,by rw[b9O];exact k2,by rw[b9O];exact k3⟩
  |ok a j=>
   rw[hr]at d5A;have d5A:y l ⟨0,0,0⟩=(a,⟨j,0,0⟩):=d5A;have hj:=((hM l hV).av 0 a j h0 hr).2;rw[d5A];simp only;unfold a5a b7V;rw[a0D hj];by_cases hk:(aJ l j).kind=0
   .rw[if_pos hk,if_neg (λh=>h.2 hk)];exact⟨rfl,rfl⟩
   .rw[if_neg hk,if_pos ⟨rfl,hk⟩,wE hj];exact⟨by decide,rfl,rfl⟩
variable{P:Program}{Q:Exit->St->Prop}{st:St}
theorem jH.mkd{q ro:Bool}{ls:List (Option VM.Loc)}{f:FuncId}{s0:St}{r:DV}{«g3o» :List DV}{dst:Option Tmp}{all:Array Oper}{ops:List Oper}{k:List KI}{rest:List (TypeId×List VM.Loc)}(he:VM.Enters P f)(hch:CHd P G f s0 r)(K:List (Nat×Nat))(H':List (Nat×bG))(mX:aW K s0 .undef s0.H=true)(pJ:WkT «g3o» (bA K s0.tmps))(hH:WkH st.H (dC K s0.H))(oO:yK st st.own (s0.own.map (sD K ls))=some rest)(c0m:a1w st.tmps.length ls s0.own=true)(hK:∀k o,getKey k H'=some o->getKey k st.H=some o/\∀p∈s0.H,k≠rk K p.1)(h:VK P G (.ops q all ops::k) .normal ⟨kJ dst r st.tmps,H',[]⟩ Q)(hro:ro=false:=by kernel_rfl):jH P G q ro f «g3o» ls dst all ops k st Q:=jH.mk' ⟨_,⟨he,pC.f0A hch K H' mX pJ hH oO c0m hK⟩,h⟩ hro
theorem b0n(hG:G 1=some gD)(hS:G 0=some a0U)(s:List UInt8)(hs:s.length<=900000000:=by decide):CS prog G 14 [.str s] (.cX [.agg (tyD (a0N jZ (gA tyM s))),.int .i64 (a5l (gA tyM s))]) none:=by
 have hrd:=a4V hG hS (C:=tyD) jZ (.mk func42 rfl) tyM s hs (λl hV hN hp=>c8u hV jZ 0 hp) (λl a j hE hB hx=>((aB.typ hE hB.pred) 0 a j (g3U.2 hE.1) hx).2);have hnz:∀n e,gA tyM s=.bad n e->e≠0:=λn e h=>b3d (λl n e hE hB hp h=>bH.typ (b9F l) 0 n e h) h;cases hr:gA tyM s with
 |ok t j=>
  rw[hr]at hrd;refine CS.aY func14 rfl ntmps14 rfl ?_;simp;refine jH.mk oT hrd [(100001,4)] ?_ ?_ ?_ rfl rfl ?_ (rest:=[])
  .simp[aW,bB,bD,bC,bK,getKey]
  .simp[bA,bI,rk]
  .simp[bA,bI,rk,dC,dL,jZ,eE,strs]
  .simp[bJ,bA,bI,rk,dC,dL,bX,kI,jA,eI,a0N,a5l]
 |bad n e=>
  rw[hr]at hrd;have he:=hnz n e hr;refine CS.aY func14 rfl ntmps14 rfl ?_;simp;refine jH.mkd oT hrd [(100001,4)] [(2,.cells [.d (.int .i64 0),.d (.str []),.d .aE,.d .aE,.d (.int .i64 0),.d (.str []),.d (.int .i64 0),.d .aE,.d .aE])] ?_ ?_ ?_ rfl rfl ?_ ?_ (rest:=[])
  .simp[aW,bB,bD,bC,bK,getKey]
  .simp[bA,bI,rk]
  .simp[bA,bI,rk,dC,dL,jZ,eE,strs]
  .intro k o hk;simp only[getKey]at hk;split at hk
   .rename_i h2;subst h2;exact⟨by simpa[getKey]using hk,by simp[rk]⟩
   .cases hk
  .simp[a0N,a5l,he,jZ,eE,strs]
theorem sO:VM.Enters prog 13:=.mk func13 rfl
theorem uE(hG:G 1=some gD)(hS:G 0=some a0U)(s:List UInt8)(hs:s.length<=900000000:=by decide):CS prog G 13 [.str s] (.cX [.agg (a0h (a0N qP (gA exM s))),.int .i64 (a5l (gA exM s))]) none:=by
 have hrd:=a4V hG hS (C:=a0h) qP (.mk func40 rfl) exM s hs (λl hV hN hp=>c8v hV hN qP 0 hp) (λl a j hE hB hx=>((aB.exF hE hB.pred _ 0) 0 a j (g3U.2 hE.1) hx).2);have hnz:∀n e,gA exM s=.bad n e->e≠0:=λn e h=>b3d (λl n e hE hB hp h=>bH.expr (b9F l) 0 n e h) h;cases hr:gA exM s with
 |ok t j=>
  rw[hr]at hrd;refine CS.aY func13 rfl ntmps13 rfl ?_;simp;refine jH.mk oT hrd [(100001,4)] ?_ ?_ ?_ rfl rfl ?_ (rest:=[])
  .simp[aW,bB,bD,bC,bK,getKey]
  .simp[bA,bI,rk]
  .simp[bA,bI,rk,dC,dL,qP,a0h,strs]
  .simp[bJ,bA,bI,rk,dC,dL,bX,kI,jA,eI,a0N,a5l]
 |bad n e=>
  rw[hr]at hrd;have he:=hnz n e hr;refine CS.aY func13 rfl ntmps13 rfl ?_;simp;refine jH.mkd oT hrd [(100001,4)] [(2,.cells [.d (.int .i64 0),.d (.str []),.d (.int .i64 0),.d .aE,.d .aE,.d .aE,.d .aE])] ?_ ?_ ?_ rfl rfl ?_ ?_ (rest:=[])
  .simp[aW,bB,bD,bC,bK,getKey]
  .simp[bA,bI,rk]
  .simp[bA,bI,rk,dC,dL,qP,a0h,strs]
  .intro k o hk;simp only[getKey]at hk;split at hk
   .rename_i h2;subst h2;exact⟨by simpa[getKey]using hk,by simp[rk]⟩
   .cases hk
  .simp[a0N,a5l,he,qP,a0h,strs]
theorem d9F(hE:pK l)(hB:a5L rdQ l):aB l 0 (a4G rdQ l):=aB.bl (aB.c0o hE hB) λd=>by
 cases d with
 |none=>exact aB.failed
 |some d=>exact(aB.skip hE _).bl λ_=>aB.bP _
theorem e4T:bH (a4G rdQ l):=bH.xW (bH.defn (b9F l)) λd=>by
 cases d with
 |none=>exact bH.failed
 |some d=>exact bH.xW (bH.skip _) λ_=>bH.bP _
theorem c5d(hG:G 1=some gD)(hS:G 0=some a0U)(s:List UInt8)(hs:s.length<=900000000:=by decide):CS prog G 9 [.str s] (.cX [.agg (b1b (a0N b6f (gA (a4G rdQ) s))),.int .i64 (a5l (gA (a4G rdQ) s))]) none:=by
 have hrd:=a4V hG hS (C:=b1b) b6f (.mk func30 rfl) (a4G rdQ) s hs (λl hV hN hp=>d1o hV hN b6f 0 hp) (λl a j hE hB hx=>((d9F hE hB) 0 a j (g3U.2 hE.1) hx).2);have hnz:∀n e,gA (a4G rdQ) s=.bad n e->e≠0:=λn e h=>b3d (λl n e hE hB hp h=>e4T 0 n e h) h;cases hr:gA (a4G rdQ) s with
 |ok t j=>
  rw[hr]at hrd;refine CS.aY func9 rfl ntmps9 rfl ?_;simp;refine jH.mk oT hrd [(100001,4)] ?_ ?_ ?_ rfl rfl ?_ (rest:=[])
  .simp[aW,bB,bD,bC,bK,getKey]
  .simp[bA,bI,rk]
  .simp[bA,bI,rk,dC,dL,b6f,b1b,b2P,vZ,jZ,eE,qP,cB,strs]
  .simp[bJ,bA,bI,rk,dC,dL,bX,kI,jA,eI,a0N,a5l]
 |bad n e=>
  rw[hr]at hrd;have he:=hnz n e hr;refine CS.aY func9 rfl ntmps9 rfl ?_;simp;refine jH.mkd oT hrd [(100001,4)] [(2,.cells [.d (.str []),.d .aE,.d (.int .i64 0),.d (.str []),.d (.int .i64 0),.d .aE,.d .aE,.d .aE,.d .aE,.d (.int .i64 0),.d (.bool false),.d .aE,.d .aE,.d .aE,.d .aE,.d (.int .i64 0),.d (.str []),.d .aE,.d .aE,.d (.int .i64 0),.d (.str []),.d (.int .i64 0),.d .aE,.d .aE,.d .aE])] ?_ ?_ ?_ rfl rfl ?_ ?_ (rest:=[])
  .simp[aW,bB,bD,bC,bK,getKey]
  .simp[bA,bI,rk]
  .simp[bA,bI,rk,dC,dL,b6f,b1b,b2P,vZ,jZ,eE,qP,cB,strs]
  .intro k o hk;simp only[getKey]at hk;split at hk
   .rename_i h2;subst h2;exact⟨by simpa[getKey]using hk,by simp[rk]⟩
   .cases hk
  .simp[a0N,a5l,he,b6f,b1b,b2P,vZ,jZ,eE,qP,cB,strs]
theorem wJ:VM.Enters prog 6:=.mk func6 rfl
abbrev b9P:eK:=⟨[],[],[],[],[],[]⟩
theorem d1H{α:Type}(x:List Tok->bF α)(s:List UInt8):gA (λl=>(λi=>b1n (x l i):bF (Option α))) s=b1n (gA x s):=by
 unfold gA;split
 .rfl
 .split
  .rfl
  .rename_i l hl;simp only;cases x l 0 with
   |bad n e=>rfl
   |ok a j=>simp only[b1n];cases a5a l j<;>rfl
theorem xP(hG:G 1=some gD)(hS:G 0=some a0U)(s:List UInt8)(hs:s.length<=900000000:=by decide):CS prog G 6 [.str s] (.cX [.agg (a1j (a0N b9P (gA moQ s))),.int .i64 (c0X (gA moQ s)),.int .i64 (a5l (gA moQ s))]) none:=by
 have hrd:=a4V hG hS (C:=moC) none (.mk func16 rfl) (λl=>(λi=>b1n (moQ l i):bF (Option eK))) s hs (λl hV hN hp=>b9G hV hN 0 hp) (λl a j hE hB hx=>by
  cases hm:moQ l 0 with
  |bad n e=>simp[hm,b1n]at hx
  |ok m k=>simp only[hm,b1n]at hx;cases hx;have mZ:aB l 0 (moQ l):=aB.many (λm=>(aB.decl hE hB m).le (by omega) |>.bl λ_=>(aB.exp hE _ _).bz λ_=>aB.bP _) _;exact(mZ 0 _ _ (g3U.2 hE.1) hm).2)
 rw[d1H]at hrd;have hnz:∀n e,gA moQ s=.bad n e->e≠0:=λn e h=>b3d (λl n e hE hB hp h=>bH.mod (b9F l) 0 n e h) h;cases hr:gA moQ s with
 |ok t j=>
  rw[hr]at hrd;refine CS.aY func6 rfl ntmps6 rfl ?_;simp;refine jH.mk oT hrd [(100001,5)] ?_ ?_ ?_ rfl rfl ?_ (rest:=[])
  .simp[aW,bB,bD,bC,bK,getKey,moC,a1j]
  .simp[bA,bI,rk]
  .simp[bA,bI,rk,dC,dL,moC]
  .simp[bJ,bA,bI,rk,dC,dL,bX,kI,jA,eI,a0N,a5l,c0X,moC,a1j]
 |bad n e=>
  rw[hr]at hrd;have he:=hnz n e hr;refine CS.aY func6 rfl ntmps6 rfl ?_;simp;refine jH.mkd oT hrd [(100001,5)] [(2,.cells [.d .aE,.d .aE,.d .aE,.d .aE,.d .aE,.d .aE])] ?_ ?_ ?_ rfl rfl ?_ ?_ (rest:=[])
  .simp[aW,bB,bD,bC,bK,getKey,moC]
  .simp[bA,bI,rk]
  .simp[bA,bI,rk,dC,dL,moC]
  .intro k o hk;simp only[getKey]at hk;split at hk
   .rename_i h2;subst h2;exact⟨by simpa[getKey]using hk,by simp[rk]⟩
   .cases hk
  .simp[a0N,a5l,c0X,he,a1j]
def d1I(m:eK):Nat:=m.a2S.length+m.vY.length+m.insts.length+m.a2T.length+m.a4Z.length+m.defs.length
theorem c4z.of{m:eK}{i:Nat}(h:d1I m<=i):c4z m i:=by unfold d1I at h;constructor<;>omega
theorem d1J{rdP:List Tok->Nat->Nat->gO Pr}(m:eK)(s:dB):d1I (xZ aH aZ rdP l m s).1=d1I m+1:=by
 unfold xZ
 repeat' split
 all_goals
  simp[aQ,zS,d1I]
  try omega
abbrev d1K(l:List Tok)(s:dB):Bool:=decide (s.er=0)&& !decide ((gG l 0 s).kind=0)
abbrev f4O(l:List Tok)(m:eK):RM eK:=do
 let m <- xZ aH aZ rdQ l m
 aK l [59]
 pure m
abbrev e4U:eK:=⟨[],[],[],[],[],[]⟩
theorem d9G(h:s.er≠0):c7q aH aZ rdQ l s=(e4U,s):=by
 show wC (d1K l) (f4O l) (l.length+2) e4U s=_
 unfold wC;rw[if_neg (by simp[d1K,h])]
abbrev f8v(k:Nat)(m:eK):List (Nat×bG):=[(k,.cells [.d (.sl (m.a2S.map yO)),.d (.sl (m.vY.map a0k)),.d (.sl (m.insts.map a2Y)),.d (.sl (m.a2T.map a1O)),.d (.sl (m.a4Z.map a2Z)),.d (.sl (m.defs.map a2X))])]
theorem e4V{id:Nat}{ops:Array Oper}(ss:List Nat)(c:Nat)(rG:List Nat)(T:Ord)(hm:P.follows .mixedOrders=true)(hB:d2v ops ss c rG T=true)(h:VK P G [.ops true ops (sel ops ss)] .normal st λ_ s=>VK P G [.ops true ops (sel ops rG)] .normal s λ_ s=>b2d P G ops c (λs=>xF Q .normal s) T s):SW P G (.region id ops true) st Q:=by
 simp only[d2v,g3q,List.isEmpty_iff,g4e,g3M,g3T,g3t]at hB;obtain⟨⟨⟨⟨⟨⟨⟨hN,pP⟩,hlen⟩,yL⟩,hs⟩,gJ⟩,eQ⟩,ht⟩:=hB;obtain⟨k,hk⟩:=Nat.exists_eq_add_of_le hlen;have qC:=a3V ss _ pP gR.zero;have e:ops.size-ss.length-rG.length=k+1:=by omega
 rw[e]at ht;refine SW.mono (λe s=>b2k) ?_;intro base R μ a w hr;obtain⟨jG,tL⟩:=hr.drew;refine wp_region_any hm ?_;simp only[VK]at h;have main:=b6w (QQ:=λe a' w'=>∃s' R' μ',xF Q e s'/\Rel P G base R' μ' s' a' w'/\Step base R w R' w') (K:=λs=>vU P G true ops (sel ops rG) s λs=>b2d P G ops c (λs=>xF Q .normal s) T s) (λc a a' w h1 h2 ⟨s',R',μ',q1,q2,q3⟩=>⟨⟨List.replicate a'.tmps.size .undef,[],[]⟩,R',μ',q1,q2.b2l a' (h1▸q2.defers),q3⟩) ss _ (rG.length+(k+1)) st pP h base R μ a w.drew jG λs a' R1 μ1 q1 q2 q3=>by have:=a5e (P:=P) (G:=G) (c:=c) (Q:=λs=>xF Q .normal s) hN rG _ s (k+1) qC hs (tW (λs tL=>⟨λh'=>(gJ h').elim,λj hj=>a8Q hN T k _ s (gR.cT rG _ qC hs) ht tL j hj (eQ j hj)⟩) _ _ (xE rG s yL q1)) λ_=>trivial;exact a7O _ _ s this base R1 μ1 a' w.drew q2 λs a' w' R' μ' p1 p2 p3=>⟨s,R',μ',p1,p2,tL.trans (q3.trans p3)⟩
 rw[show ss.length+(rG.length+(k+1))=ops.size by omega]at main;exact main
theorem c1b(s:List UInt8)(hs:s.length<=19000:=by omega):CS prog G 7 [.str s] (.cX [.agg (a1j (a0N b9P (gA moQ s))),.int .i64 (c0X (gA moQ s)),.int .i64 (a5l (gA moQ s))]) none:=by
 have pP:=c5c (G:=G) s;obtain⟨t,s1,⟨v0,f0O,hy⟩,v1,hl,ht⟩:=f0M (G:=G) (x:=moQ) (y:=λl=>c7q aH aZ rdQ l) (λl s y=>bY l s/\(s.er=0->rR G rdQ l/\∀i, -9223372036854775807<=(aJ l i).n/\(aJ l i).n<=9223372036854775807)/\y=c7q aH aZ rdQ l s) e4U s hs (λl hV hn s hv=>⟨hv,λ_=>⟨hV,hn⟩,rfl⟩) (λs hs=>⟨λh=>absurd h hs,λh=>absurd h hs,(d9G hs).symm⟩) (λl hV=>aF.mod hV.toRfH);generalize (a0c s).1=l at pP v0 f0O hy v1 hl ht;generalize (a0c s).2=s0 at pP v0 f0O hy;refine CS.a4w func7 rfl ntmps7 rfl (SW.xk ?_);simp;refine jV.new (.mk func20 rfl) pP 50000 (by simp) rfl (by decide) (by simp[getKey]) (by simp[b1q]) (by simp[b9N]) (by simp[b1q]) ?_;simp;refine a9f (d1K l) (λs h=>by simp[d1K,h]) (f4O l) d1I (λ_=>True) (λ_=>[]) (λm s=>[(50000,rfO l s),(2,.cells [.d .aE,.d .aE,.d .aE,.d .aE,.d .aE,.d .aE])]++f8v 6 m) (λ_=>[(69,[.c 6 0]),(95,[.c 6 1]),(98,[.c 6 2]),(73,[.c 6 3]),(102,[.c 6 4]),(58,[.c 6 5])]) (l.length+2) e4U s0 (by omega) v0 (by simp[d1I]) trivial (by simp) ?_ ?_
 .intro m s2 e2 i2 bs la _ hc R hR;obtain⟨hV,hn⟩:=f0O bs.1;have v2:bY l s2:=λ_=>i2;have hk:¬(gG l 0 s2).kind=0:=by intro h;simp[d1K,h]at hc
  have hp:=oG (G:=G) hl 0 s2 v2 (by omega);simp[e2];refine f0L (hH:=by simp[getKey]) 50000 gV hp (λT x hx=>?_);cases hx;simp[bL,hk];refine dX.mk (tQ.mk (x:=.inl (.cX [],rfH l (xZ aH aZ rdQ l m s2).2++sQ (xZ aH aZ rdQ l m s2).1,d1i)) (.mk func22 rfl) (d1p hV hn m s2 i2 (c4z.of la)) [(100000,50000),(100001,6)] (λd H1 own1 hx=>?_) (λv hx=>by cases hx) ?_ ?_ rfl rfl (λd H1 own1 hx=>?_) (λv hx=>by cases hx) (rest:=[]))
  .cases hx;simp[sQ,aW,bB,bD,bC,bK,getKey]
  .simp[bA,bI,rk]
  .simp[sQ,bA,bI,rk,dC,dL]
  .cases hx;obtain⟨m3,s3,h3⟩:∃a b,xZ aH aZ rdQ l m s2=(a,b):=⟨_,_,rfl⟩;have p3:uI l 1 s2 s3:=(aF.decl hV.toRfH m).d4m (aB.decl hV.fin hV.mZ m) v2 h3;have v3:=bY.next p3;have hlen:=d1J (rdP:=rdQ) (l:=l) m s2;rw[h3]at hlen|-;simp only at hlen;simp[bJ,sQ,bA,bI,rk,dC,dL,bX,kI,jA,eI];refine f0L (hH:=by simp[getKey]) 50000 oR (qI (by omega) [59] s3 v3) (λu s4 h4=>?_);have p4:uI l 1 s3 s4:=oH hV.fin v3 h4;simp;refine hR _ m3 s4 ?_ (by simp) (λh=>?_) (by omega) trivial
   .show(xZ aH aZ rdQ l m >>=λm=>aK l [59] >>=λ_=>pure m) s2=_
    rw[aQ,h3,aQ,h4]
    rfl
   .have q4:=p4 h;have q3:=p3 q4.1;omega
 .intro m s2 hc qZ la _ v2 hy2 R;have hy3:(t,s1)=(m,s2):=hy.trans hy2;cases hy3;have hp:=oG (G:=G) hl 0 s1 v2 (by omega);have a2a:(b7V l s1).2=s1:=by unfold b7V;rw[if_neg];rintro⟨h1,h2⟩;simp[d1K,h1,h2]at hc
  rw[a2a]at ht;by_cases he:s1.er=0
  .have hk:(gG l 0 s1).kind=0:=by
    by_cases h:(gG l 0 s1).kind=0
    .exact h
    .simp[d1K,he,h]at hc
   simp[he];refine f0L (hH:=by simp[getKey]) 50000 gV hp (λT x hx=>?_);cases hx;simp[bL,hk,he];cases hr:gA moQ s with
   |ok a j=>rw[hr]at ht;obtain⟨rfl,_⟩:=ht;simp[a0N,a5l,c0X,a1j]
   |bad n e=>rw[hr]at ht;obtain⟨k1,k2,k3⟩:=ht;exact absurd (k2.symm.trans he) k1
  .simp[he];cases hr:gA moQ s with
   |ok a j=>rw[hr]at ht;exact absurd ht.2 he
   |bad n e=>rw[hr]at ht;obtain⟨k1,k2,k3⟩:=ht;subst k2 k3;refine e4V [1,2,3,5,6,7] 9 [0] (.op 4 (.op 8 (.call [10,11] .none) (.call [8,10,11] .none)) (.op 8 (.op 4 (.call [10,11] .none) (.call [4,10,11] .none)) (.call [4,8,10,11] .none))) (by kernel_rfl) (by kernel_rfl) ?_;simp[a0N,a5l,c0X,a1j,b9P]
end
end Go.Proofs.YtmfbjecjccipfaaGreatDoor
