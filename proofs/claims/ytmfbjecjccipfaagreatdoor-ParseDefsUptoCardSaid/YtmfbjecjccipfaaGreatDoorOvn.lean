/- Lemmas. No condition. -/
import Derived.Test.YtmfbjecjccipfaaGreatDoorOvm
import Derived.Defers
import Derived.Recover
import Derived.Tactics2
import Derived.Laws.Pointers
set_option linter.unusedVariables false
set_option linter.unusedSimpArgs false
set_option linter.unusedSectionVars false
set_option maxRecDepth 100000
set_option maxHeartbeats 64000000
open Go.Proofs.Tryz
namespace Go.Proofs.YtmfbjecjccipfaaGreatDoor
section
open Go Go.VM
variable {G:GT}
theorem b8K(a b:List Tok):txS (a++b)=txS a+txS b:=by
 induction a with
 |nil=>simp[txS]
 |cons t r ih=>simp only[List.cons_append,txS,ih];omega
variable{l:List Tok}
theorem c7Z(h:a0r l)(e k:Nat):a0r ((l.take e).drop k):=by have h1:=b8K (l.take e) (l.drop e);rw[g3M]at h1;have h2:=b8K ((l.take e).take k) ((l.take e).drop k);rw[g3M]at h2;refine⟨?_,by have:=h.2;omega⟩;have:=h.1;simp;omega
theorem a9M(l:List Tok):qK (b5a l)=true:=by
 unfold b5a;split
 .rfl
 .split<;>rfl
theorem c4f(hG:G 1=some gC)(oB:a0r l)(i e:Nat)(hi:i<l.length)(he:e<=l.length):tL G 116 [.int .i64 e] l i (vP l i e) d3H:=by
 have hl:=oB.1;obtain⟨k,hk⟩:∃k,min i e=k:=⟨_,rfl⟩;have hke:k<=e:=by omega
 have a5e:min (i:Int) (e:Int)=(k:Int):=by omega
 obtain⟨L,hL⟩:∃L,(l.take e).drop k=L:=⟨_,rfl⟩;have d8P:a0r L:=by rw[<-hL];exact c7Z oB e k
 have hrd:=b3H (G:=G) hG L d8P (λp n h=>Nat.le_trans (b3I h) (by have:=d8P.1;omega));have hLm:((l.map bL).take e).drop k=L.map bL:=by rw[<-hL,List.map_drop,List.map_take]
 rw[<-hLm]at hrd;have d7j:(if e<i then(e:Int) else(i:Int))=(k:Int):=by split<;>omega
 have ht:=dK (G:=G) l i i 0;refine pX.xV func116 rfl ntmps116 rfl (by simp) ?_;intro Q Q0;unfold vP at Q0;rw[hk,hL]at Q0;refine SW.jC (SW.xk ?_);simp;refine SW.jC (SW.vk ?_);simp[a5e,hke,he,d7j,a2G];refine⟨.mk,?_⟩;refine aC.mk (hkl:=a9M L) (.mk func157 rfl) hrd ?_;unfold b5a;cases hR:a1p L with
 |none=>rw[hR]at Q0;simp;refine SW.jC (SW.jC (SW.xk ?_));simp;refine SW.a9y rfl ?_;refine SW.lw (LW.app 5 ?_);simp;refine c3i (i:=i) (ds:=[.int .i64 0]) cH ht ?_;have hb:=λs=>Q0.bad (aH l i).line 14 s rfl;simp[bL];refine LW.c9H (td:=_) (n:=(aH l i).line) (e:=14) rfl rfl (by simp) (by simp) ?_;exact hb _
 |some q=>
  obtain⟨p,n⟩:=q;have hn:=a4O hR;have hLl:L.length<=e-k:=by rw[<-hL];simp;omega
  rw[hR]at Q0;simp only at Q0|-;by_cases hc:a7E p=0
  .have Q0:=Q0.uK hc;have hw:IntKind.i64.wrap ((i:Int)+(n:Int))=((i+n:Nat):Int):=by rw[wrap64 (by omega)];omega
   rw[if_pos hc];simp;refine SW.xk ?_;simp[hw];exact Q0.ok p (i+n) _ _ rfl (.inr rfl) (by simp)
  .have Q0:=Q0.sK hc;rw[if_neg hc];simp;refine SW.jC (SW.jC (SW.xk ?_));simp[hc];refine SW.a9y rfl ?_;refine SW.lw (LW.app 5 ?_);simp;refine c3i (i:=i) (ds:=[.int .i64 0]) cH ht ?_;have hb:=λs=>Q0.bad (aH l i).line (a7E p) s rfl;simp[bL];refine LW.c9H (td:=_) (n:=(aH l i).line) (e:=a7E p) rfl rfl (by simp) (by simp) ?_;exact hb _
end
section
def b0V(l:List Tok):Prop:=∀t,l[l.length-1]? =some t->t.kind=0
variable{l:List Tok}{i j:Nat}
theorem b3M(hE:b0V l){t:Tok}(h:l[i]? =some t)(hk:t.kind≠0:=by omega):i+1<l.length:=by
 have hi:=(g3a.1 h).1;rcases Nat.lt_or_ge (i+1) l.length with h1|h1
 .exact h1
 .have:l.length-1=i:=by omega
  exact(hk (hE t (by rw[this];exact h))).elim
variable{s:List UInt8}
theorem b5T(hE:b0V l)(h:jP l i s=true):i+1<l.length:=by
 unfold jP at h;split at h
 .rename_i t ht;simp only[g2Z,g3N]at h;exact b3M hE ht
 .cases h
theorem d2f(hE:b0V l){k:Int}(h:kdB l i k=true)(hk:k≠0:=by omega):i+1<l.length:=by
 unfold kdB at h;split at h
 .rename_i t ht;simp only[g3N]at h;exact b3M hE ht
 .cases h
theorem c4g(hE:b0V l)(h:wtB l i=true):i+1<l.length:=by unfold wtB at h;rw[g3l]at h;rcases h with h|h<;>exact d2f hE h
theorem a5S{l:List Tok}(hE:b0V l):∀(f i:Nat)(s:List UInt8),i<l.length->i<=(pA l f i s).2/\(pA l f i s).2<l.length
 |0,i,s,h=>⟨g3p _,h⟩
 |f+1,i,s,h=>by
  rw[pA];split
  .rename_i h1;have:=b5T hE h1;split
   .rename_i h2;have:=c4g hE h2;have:=a5S hE (l:=l) f (i+2) (s++[46]++txA l (i+1)) (by omega);omega
   .split
    .rename_i h3;have:=d2f hE h3;split
     .rename_i h4;have:=c4g hE h4;have:=a5S hE (l:=l) f (i+3) (s++[46]++txA l (i+1)++txA l (i+2)) (by omega);omega
     .have:=a5S hE (l:=l) f (i+2) (s++[46]++txA l (i+1)) (by omega);omega
    .exact⟨g3p _,h⟩
  .exact⟨g3p _,h⟩
theorem c1R{kw:List UInt8->Bool}(hE:b0V l){n:Nat}(h:pV kw l i=some (s,n)):i<n/\n<l.length:=by
 unfold pV at h;split at h
 .rename_i hb;unfold a7P at hb;rw[g2Z]at hb;have h1:=c4g hE hb.1;have h2:=a5S hE (l:=l) l.length (i+1) (txA l i) (by omega);rw[g3f]at h;rw[h]at h2;simp only at h2;omega
 .cases h
def d4H(l:List Tok)(rd:Nat->Nat->Option (Pr×Nat)):Prop:=∀i k p n,rd i k=some (p,n)->i<n/\n<l.length
section
variable {kw:List UInt8->Bool} {rd rd':Nat->Nat->Option (Pr×Nat)} {l:List Tok}
theorem b8L(hE:b0V l)(h:d4H l rd)(k:Nat):∀(g:Nat)(a:Pr)(n:Nat),n<l.length->n<=(dX rd l k g a n).2/\(dX rd l k g a n).2<l.length
 |0,a,n,hn=>⟨g3p _,hn⟩
 |g+1,a,n,hn=>by
  rw[dX];split
  .exact⟨g3p _,hn⟩
  .split
   .exact⟨g3p _,hn⟩
   .rename_i op _ _ b m hr;have h1:=h _ _ _ _ hr;have h2:=b8L hE h k g (tw op a b) m h1.2;omega
theorem c1S(hE:b0V l)(h:d4H l rd):∀(g i:Nat)(acc ks:List Pr)(m:Nat),kZ rd l g i acc=some (ks,m)->i<m/\m<l.length
 |0,_,_,_,_,hr=>by cases hr
 |g+1,i,acc,ks,m,hr=>by
  rw[kZ]at hr;split at hr
  .cases hr
  .rename_i p n hp;have h1:=h _ _ _ _ hp;split at hr
   .rename_i hs;have:=b5T hE hs;cases hr;omega
   .split at hr
    .have:=c1S hE h g n _ ks m hr;omega
    .cases hr
variable{i n:Nat}
theorem c1T(hE:b0V l)(h:d4H l rd){m:Nat}{ks:List Pr}(hr:rF rd l i=some (ks,m)):i<m/\m<l.length:=by
 unfold rF at hr;split at hr
 .exact c1S hE h _ _ _ _ _ hr
 .cases hr
variable{p:Pr}
theorem d4I(hE:b0V l)(h:d4H l rd)(hr:uM kw rd l i=some (p,n)):i<n/\n<l.length:=by
 unfold uM at hr;split at hr
 .cases hr
 .rename_i t ht;have yJ:=(g3a.1 ht).1;have hnx:∀x:Int,x≠0->t.kind=x->i+1<l.length:=λx hx hk=>b3M hE ht;split at hr
  .rename_i hk;have:=hnx 3 (by omega) hk;cases hr;omega
  split at hr
  .rename_i hk;have:=hnx 1 (by omega) hk.1;cases hr;omega
  split at hr
  .rename_i hk;have:=hnx 1 (by omega) hk.1;cases hr;omega
  split at hr
  .split at hr
   .cases hr
   .rename_i s m hn;have h1:=c1R hE hn;rw[g2Y]at hr;obtain⟨⟨ks,q⟩,hq,he⟩:=hr;have h2:=c1T hE h hq;cases he;simp only at *;omega
  split at hr
  .split at hr
   .rename_i hc;have:=b5T hE hc.2.2;cases hr;omega
   .split at hr
    .cases hr
    .rename_i q m hq;have h1:=h _ _ _ _ hq;split at hr
     .rename_i hs;have:=b5T hE hs;cases hr;omega
     .cases hr
  .split at hr
   .cases hr
   .rename_i s m hn;have h1:=c1R hE hn;split at hr
    .rename_i ks q hq;have h2:=c1T hE h hq;cases hr;omega
    .cases hr;omega
theorem e4k(hE:b0V l)(h:d4H l rd){k:Nat}(hr:atG kw rd l i k=some (p,n)):i<n/\n<l.length:=by
 unfold atG at hr;split at hr
 .unfold a8Z at hr;split at hr
  .cases hr
  .rename_i a m ha;have h1:=h _ _ _ _ ha;split at hr
   .split at hr
    .rename_i b q hb;have h2:=h _ _ _ _ hb;cases hr;omega
    .cases hr;exact h1
   .cases hr;exact h1
 .split at hr
  .rw[g2Y]at hr;obtain⟨⟨a,m⟩,ha,he⟩:=hr;have h1:=h _ _ _ _ ha;cases he;simp only;omega
  .exact h _ _ _ _ hr
 .unfold a3T at hr;split at hr
  .cases hr
  .rename_i a m ha;have h1:=h _ _ _ _ ha;split at hr
   .cases hr;exact h1
   .split at hr
    .cases hr;exact h1
    .rename_i b q hb;have h2:=h _ _ _ _ hb;cases hr;omega
 .split at hr
  .rw[g2Y]at hr;obtain⟨⟨a,m⟩,ha,he⟩:=hr;have h1:=h _ _ _ _ ha;cases he;simp only;omega
  .exact h _ _ _ _ hr
 .exact d4I hE h hr
 .rw[g2Y]at hr;obtain⟨⟨a,m⟩,ha,he⟩:=hr;have h1:=h _ _ _ _ ha;have h2:=b8L (k:=k) hE h l.length a m h1.2;have h3:(dX rd l k l.length a m).2=n:=by rw[he]
  omega
end
theorem b8M(kw:List UInt8->Bool)(l:List Tok)(hE:b0V l):∀f,d4H l (gV kw l f)
 |0=>λ_ _ _ _ h=>by cases h
 |f+1=>λ_ _ _ _ h=>e4k hE (b8M kw l hE f) h
theorem c4h(hE:b0V l)(e i:Nat)(p:Pr)(j:Nat)(hi:i<l.length)(h:vP l i e=.ok p j):i<=j/\j<l.length:=by
 unfold vP at h;split at h
 .cases h
 .rename_i q n hr;split at h
  .cases h;refine⟨by omega,?_⟩;have h1:=a4O hr;rw[g3Y,g3L]at h1;rcases Nat.lt_or_ge e l.length with he|he
   .omega
   .have a5e:min i e=i:=by omega
    rw[a5e,List.take_of_length_le he]at hr;have hS:b0V (l.drop i):=λt ht=>by rw[g3Y,g3s]at ht;exact hE t (by rw[show l.length-1=i+(l.length-i-1) by omega];exact ht)
    have h2:=(b8M aL (l.drop i) hS _ _ _ _ _ hr).2;rw[g3Y]at h2;omega
  .cases h
def dQ{α:Type}(x:List Tok->bE α)(s:List UInt8):jA α:=if 40000<s.length then .bad 0 7 else match jX jZ s 0 1 false with
 |.error n=>.bad n 14
 |.ok l=>match x l 0 with
  |.bad n e=>.bad n e
  |.ok a j=>match a2v l j with
   |.bad n e=>.bad n e
   |.ok _ _=>.ok a j
theorem c1U{α:Type}{x:List Tok->bE α}{a:α}(h:dQ x s=.ok a j):¬40000<s.length/\∃l,jX jZ s 0 1 false=.ok l/\x l 0=.ok a j/\(aH l j).kind=0:=by
 unfold dQ at h;split at h
 .cases h
 .rename_i hl;split at h
  .cases h
  .rename_i l hlx;split at h
   .cases h
   .rename_i b k hx;split at h
    .cases h
    .rename_i u m he;cases h;refine⟨hl,l,hlx,hx,?_⟩;unfold a2v at he;split at he
     .assumption
     .unfold dN at he;cases he
theorem c8a{α:Type}{x:List Tok->bE α}{a:α}(hs:¬40000<s.length)(hl:jX jZ s 0 1 false=.ok l)(hx:x l 0=.ok a j)(he:(aH l j).kind=0:=by rw[htE j h2]):dQ x s=.ok a j:=by unfold dQ;rw[if_neg hs,hl];simp only[hx];unfold a2v;rw[if_pos he]
end
section
open Go Go.VM
variable {G:GT}
theorem e4l{p:Pr}(h:a7E p=0):p.op≠0:=by
 unfold a7E b5t at h;split at h
 .cases h
 split at h
 .cases h
 intro h0;have hn:a3y p=1:=by unfold a3y;rw[if_pos (by omega)]
 obtain⟨op,nm,n,ks⟩:=p;simp[a2S,qG,hn]at h
variable{ln:Int}{l:List Tok}
theorem b5U{num:List UInt8->Int×Bool}(h:OkT num l ln):l≠[]/\∀t,l[l.length-1]? =some t->t.kind=0:=by
 induction h with
 |fin ln l hl=>exact⟨by simp,λt ht=>by simp at ht;subst ht;rfl⟩
 |cons t r ln h1 h2 h3 ih=>refine⟨by simp,λu hu=>ih.2 u ?_⟩;have:0<r.length:=g3D.2 ih.1;rw[List.length_cons,Nat.add_sub_cancel]at hu;rw[show r.length=(r.length-1)+1 by omega]at hu;simpa using hu
theorem e4m(h:OkT jZ l ln):∀t∈l,0<=t.n/\t.n<=1000000000000:=by
 induction h with
 |fin ln l hl=>intro t ht;simp at ht;subst ht;simp
 |cons t r ln h1 h2 h3 ih=>
  intro u hu;rcases g3w.1 hu with rfl|hu
  .have hn:(firstT jZ u.text).2.2.1=u.n:=by rw[h2]
   rw[<-hn];have hb:∀s,0<=(jZ s).1/\(jZ s).1<=1000000000000:=λs=>by
    unfold jZ;split
    .simp only;omega
    .simp only;omega
   unfold firstT;split
   .simp
   .split
    .simp
    .split
     .simp
     .split
      .exact hb _
      .split<;>simp
  .exact ih u hu
theorem c8b(h:l≠[])(i:Nat):aH l i∈l:=by
 unfold aH;split
 .rename_i hi;rw[g4b,g3d hi];exact g3y hi
 .rw[List.getLastD_eq_getLast?,List.getLast?_eq_some_getLast h];exact List.getLast_mem h
variable{s:List UInt8}
theorem d4J(hG:G 1=some gC)(h:jX jZ s 0 1 false=.ok l)(hs:s.length<=40000:=by omega):rP G vP l:=by
 have oB:=(c7Q h hs).1;have hO:=a1z s 0 1 false l h;have hE:=b5U hO;refine⟨hG,oB.1,⟨hE.1,?_⟩,λi e hi he=>c4f hG oB i e hi he,λe i p j hi hx=>c4h hE.2 e i p j hi hx,λi e p j hi hx=>?_⟩
 .have a2i:0<l.length:=g3D.2 hE.1;have aG:l.length-1<l.length:=by omega
  refine hE.2 _ ?_;unfold aH;rw[if_pos aG,g4b,g3d aG]
  rfl
 .unfold vP at hx;split at hx
  .cases hx
  .rename_i q n hr;split at hx
   .rename_i hc;cases hx;have:=c4c aL _ _ _ _ _ _ hr;exact⟨by omega,e4l hc⟩
   .cases hx
theorem c1V(h:jX jZ s 0 1 false=.ok l):∀i, -9223372036854775807<=(aH l i).n/\(aH l i).n<=9223372036854775807:=λi=>by have hO:=a1z s 0 1 false l h;have:=e4m hO _ (c8b (b5U hO).1 i);omega
end
section
abbrev tyM(l:List Tok):bE Ty:=mP aL bF vP l
abbrev exM(l:List Tok):bE cP:=qD aL bF vP l
abbrev moQ(l:List Tok):bE sC:=b6X aL bF vP l
def a1N{α:Type}(z:α):jA α->α
 |.ok a _=>a
 |.bad _ _=>z
def a1O{α:Type}:jA α->Int
 |.ok _ _=>0
 |.bad _ e=>e
def d4K{α:Type}:jA α->Int
 |.ok _ _=>0
 |.bad n _=>n
end
end Go.Proofs.YtmfbjecjccipfaaGreatDoor
section
namespace Go.VM
open Go Go.RowKit
section
variable {P:Program} {G:GT} {st:St} {base:dU} {R:Nat->Nat->Prop} {μ:Nat->Nat} {a:Act} {w:World}
variable{s0:St}{ls:List (Option Loc)}{args:Array Value}{rest:List (TypeId×List Loc)}{g2X:List DV}
theorem b8N(K:List (Nat×Nat))(mO:aR K s0 .undef s0.H=true)(pD:WkT g2X (aZ K s0.tmps))(hH:WkH st.H (dE K s0.H))(oG:xW st st.own (s0.own.map (sB K ls))=some rest)(kn:a1d st.tmps.length ls s0.own=true)(hr:Rel P G base R μ st a w)(hl:args.size=g2X.length)(hv:∀(i:Nat)(d:DV),g2X[i]? =some d->TV R μ w (args.getD i undef) d)(a8V:∀(i:Nat)(l:Loc),ls[i]? =some (some l)->∀u,cX a w μ l=some u->u=args.getD i undef):
  ∃mM:dU,(∀b,mM b->base b)/\Rel P G mM R (λk=>μ (rk K k)) s0 {tmps:=args,defers:=[]} w/\∀k o,getKey k st.H=some o->(∀p∈s0.H,k≠rk K p.1)-> ¬mM (μ k):=by
 simp only[aR,g2Z,g3N,g3c]at mO;obtain⟨⟨⟨⟨⟨⟨⟨⟨kf,ks⟩,kp⟩,kt⟩,kh⟩,kl⟩,kr⟩,kd⟩,k1⟩:=mO;obtain⟨vs,sU⟩:=hr.own;obtain⟨vsT,vsR,t1,t2,t3,t4,t5,t6,t7⟩:=a7i hr _ _ _ vs ⟨sU.len,sU.one,sU.apart⟩ oG;have inK:∀k o,getKey k s0.H=some o->(K.any λp=>p.1==k)=true/\bB K o=true/\(getKey k s0.H).isSome=true:=λk o hk=>by
  have:=kh _ (kH hk)
  try simp only[g2Z]at this
  exact⟨this.1.1,this.1.2,this.2⟩
 have inst:∀k o,getKey k s0.H=some o->∃o',getKey (rk K k) st.H=some o'/\WkO o' (dM K o):=λk o hk=>by
  have hm:=kH hk;have:∀{l:List (Nat×bH)},WkH st.H (dE K l)->(k,o)∈l->∃o',getKey (rk K k) st.H=some o'/\WkO o' (dM K o):=by
   intro l
   induction l with
   |nil=>intro _ h;cases h
   |cons p l ih=>
    intro hw hp;obtain⟨h1,h2⟩:=hw;rcases g3w.1 hp with rfl|hp
    .exact h1
    .exact ih h2 hp
  exact this hH hm
 have big:∀k,(K.any λp=>p.1==k)=true->100000<=k:=λk hk=>by obtain⟨p,h1,h2,_⟩:=a2j hk;rw[<-h2];exact kp p h1
 have d6H:∀k k',(K.any λp=>p.1==k)=true->(K.any λp=>p.1==k')=true->rk K k=rk K k'->k=k':=λk k' h h' he=>by
  obtain⟨p,p1,p2,p3⟩:=a2j h;obtain⟨q,q1,q2,q3⟩:=a2j h';have hpq:p.2=q.2:=by rw[<-p3, <- q3,he]
  have:p=q:=oR.b4r.a8n ks p1 q1 hpq;rw[<-p2, <- q2,this]
 have one:∀k,(getKey k s0.H).isSome=true->∃o,getKey k s0.H=some o:=λk hk=>by
  obtain⟨o,ho⟩:=g3B.1 hk;have:=k1 _ (kH ho)
  try simp only[g2Z]at this
  exact g3B.1 this.2
 let mM:dU:=⟨λb=>w.heap.size<=b\/(∃k o,getKey k s0.H=some o/\b=μ (rk K k))\/(∃v∈vsT,bQ v=some b),λk=>μ (rk K k)⟩
 have sub:∀b,mM b->base b:=λb hb=>by
  rcases hb with hb|⟨k,o,hk,rfl⟩|⟨v,hv,hs⟩
  .exact hr.base b hb
  .obtain⟨o',xF,_⟩:=inst k o hk;exact(hr.mE _ o' xF).1
  .obtain⟨i,hi⟩:=g3q hv;have yJ:i<(s0.own.map (sB K ls)).length:=by rw[<-t1];exact(g3a.1 hi).1
   exact(t2 i _ v (g3d yJ) hi).own.a2X hs
 have a2q:Rel P G mM R (λk=>μ (rk K k)) s0 {tmps:=args,defers:=[]} w:=by
  obtain⟨g1,g2⟩:=a0N pD;rw[tH]at g1 g2;refine⟨rfl,by show args.size=s0.tmps.length;rw[List.length_map]at g1;omega,λi v d hiv hid=>?_,λk o hk=>?_,λk k' o o' hk hk' he=>?_,λc hc k off hl'=>?_,⟨vsT,by simpa using t1,λi c v hc hv'=>?_,t3⟩,hr.wS.up sub,hr.rY,λb hb=>.inl hb,λk hk=>rfl⟩
  .obtain⟨d0,hd0,b6J⟩:=g2 i (bI K d) (by rw[g3j,hid];rfl);have hva:=hv i d0 hd0;have hav:args.getD i undef=v:=by simp only at hiv;simp[g3b,hiv]
   rw[hav]at hva;have d6I:TV R μ w v (bI K d):=by
    rcases b6J with hc|hc|⟨hc1,hc2⟩
    .rw[hc];exact .undef _
    .rw[hc];exact hva
    .rw[hc2];rw[hc1]at hva;obtain⟨ao,rfl⟩:=hva.b1j.mN;exact .d _ _ (.emp _ _)
   exact d6I.ren (μ:=μ) (λ_ _=>rfl) (kt d (g3e hid))
  .obtain⟨q1,q2,_⟩:=inK k o hk;obtain⟨o',xF,hw⟩:=inst k o hk;obtain⟨p1,p2,p3⟩:=hr.mE _ o' xF;exact⟨.inr (.inl ⟨k,o,hk,rfl⟩),p2,(b5O hw p3).ren (λ_ _=>rfl) q2⟩
  .obtain⟨o1,h1,_⟩:=inst k o hk;obtain⟨o2,h2,_⟩:=inst k' o' hk';exact d6H k k' (inK k o hk).1 (inK k' o' hk').1 (hr.inj _ _ o1 o2 h1 h2 he)
  .have:=g3c.1 (g3c.1 kl c hc) _ hl';exact g3B.1 this
  .have ho:=t2 i (sB K ls c) v (by rw[g3j,hc];rfl) hv';refine⟨λl hl' u hu=>?_,?_,λk o hk=>?_⟩
   .have hn:=g3c.1 (g3c.1 kn c (g3e hc)) l hl';cases l with
    |t j=>
     simp only at hn;split at hn
     .rename_i t hj;simp only[g3N]at hn;have ht:t<a.tmps.size:=by rw[hr.size];exact hn
      have hlv:cX a w μ (.t t)=some a.tmps[t]:=by simp[cX,ht]
      have h1:=a8V j _ hj _ hlv;have h2:=ho.eR (.t t) (g3E.2 ⟨.t j,hl',by simp[b6H,hj]⟩) _ hlv;simp only[cX]at hu;have h3:args.getD j undef=u:=by simp[g3b,hu]
      rw[<-h3, <- h1,h2]
     .cases hn
    |c k off=>exact ho.eR (.c (rk K k) off) (g3E.2 ⟨.c k off,hl',rfl⟩) u hu
   .rcases ho.own with h|⟨g,n,cap,cur,h0,h1,h2,h3,h4⟩
    .exact .inl h
    .by_cases zO:cap=0
     .subst zO;have:n=0:=by omega
      subst this;exact .inl ⟨_,h0⟩
     .exact .inr ⟨g,n,cap,cur,h0,.inr (.inr ⟨v,g3e hv',by rw[h0];simp[bQ,zO]⟩),h2,h3,h4⟩
   .obtain⟨o',xF,_⟩:=inst k o hk;exact ho.keys _ o' xF
 refine⟨mM,sub,a2q,λk o ho hk hb=>?_⟩;rcases hb with hb|⟨k0,o0,h0,he'⟩|⟨u,hu,hsp⟩
 .have:=(hr.mE k o ho).2.2.lt;omega
 .obtain⟨o',xF,_⟩:=inst k0 o0 h0;have:=hr.inj k (rk K k0) o o' ho xF he';exact hk (k0,o0) (kH h0) this
 .obtain⟨i,hi⟩:=g3q hu;have yJ:i<(s0.own.map (sB K ls)).length:=by rw[<-t1];exact(g3a.1 hi).1
  exact(t2 i _ u (g3d yJ) hi).keys k o ho hsp
def CHd(P:Program)(G:GT)(f:FuncId)(s0:St)(r:DV):Prop:=
 ∀(base:dU)(R:Nat->Nat->Prop)(μ:Nat->Nat)(args:Array Value)(w:World),Rel P G base R μ s0 {tmps:=args,defers:=[]} w->
  Calls P f args w λe w'=>∃v R',e=.returned v/\(∀μ',TV R' μ' w' v r)/\Step base R w R' w'/\∀b o,R' b o->b<w'.heap.size
variable{f:FuncId}
theorem oR.f0d{r:DV}(zN:CHd P G f s0 r)(K:List (Nat×Nat)){dst:Option Tmp}(H':List (Nat×bH))(mO:aR K s0 .undef s0.H=true)(pD:WkT g2X (aZ K s0.tmps))(hH:WkH st.H (dE K s0.H))(oG:xW st st.own (s0.own.map (sB K ls))=some rest)(kn:a1d st.tmps.length ls s0.own=true)(hK:∀k o,getKey k H'=some o->getKey k st.H=some o/\∀p∈s0.H,k≠rk K p.1):
  oR P G f g2X ls st dst ⟨kG dst r st.tmps,H',[]⟩:=by
 intro base R μ a w args hr hl hv a8V;obtain⟨mM,sub,a2q,vT⟩:=b8N K mO pD hH oG kn hr hl hv a8V;refine(zN mM R _ args w a2q).mono λe w' ⟨v,R',he,kX,hs,hb⟩=>⟨v,R',μ,he,?_,⟨hs.below.mono sub,hs.mono,λb o h1 h2=>sub b (hs.new b o h1 h2),hs.cells⟩⟩;have hsb:Step base R w R' w':=⟨hs.below.mono sub,hs.mono,λb o h1 h2=>sub b (hs.new b o h1 h2),hs.cells⟩;have kept:∀b, ¬mM b->w'.heap[b]? =w.heap[b]? /\∀off,R' b off->R b off:=λb hb=>⟨hs.below.block b hb,λoff h=>by
  by_cases hx:R b off
  .exact hx
  .exact absurd (hs.new b off h hx) hb⟩
 refine⟨by cases dst<;>exact hr.defers,?_,λi u d hu hd=>?_,λk o hk=>?_,λk k' o o' hk hk' he'=>?_,(λc hc=>by cases hc),⟨[],rfl,λi c v h _=>by simp at h,.nil⟩,hr.wS.cA hsb,hb,λb hb=>hr.base b (Nat.le_trans hs.below.size hb),hr.pass⟩
 .cases dst with
  |none=>exact hr.size
  |some t=>simp[kG,Act.put,hr.size]
 .cases dst with
  |none=>exact(hr.tmps i u d hu hd).cA hsb
  |some t=>
   simp only[kG,Act.put]at hu hd;by_cases hti:t=i
   .subst hti;have h1:t<st.tmps.length:=by
     by_cases aG:t<st.tmps.length
     .exact aG
     .have uV:(st.tmps.set t r)[t]? =none:=g3G (by rw[List.length_set];exact g3I aG);rw[uV]at hd;cases hd
    have h2:t<a.tmps.size:=by rw[hr.size];exact h1
    simp[h1]at hd;simp[h2]at hu;subst hu hd;exact kX μ
   .rw[g3Z hti]at hu;rw[List.getElem?_set_ne hti]at hd;exact(hr.tmps i u d hu hd).cA hsb
 .obtain⟨hk2,hk1⟩:=hK k o hk;obtain⟨p1,p2,p3⟩:=hr.mE k o hk2;obtain⟨e1,e2⟩:=kept _ (vT k o hk2 hk1);exact⟨p1,λoff h=>p2 off (e2 off h),p3.cA hsb e1⟩
 .exact hr.inj k k' o o' (hK k o hk).1 (hK k' o' hk').1 he'
theorem b1R.rG{v:Value}(zN:CPn P G f s0 v)(K:List (Nat×Nat))(H':List (Nat×bH))(mO:aR K s0 .undef s0.H=true)(pD:WkT g2X (aZ K s0.tmps))(hH:WkH st.H (dE K s0.H))(oG:xW st st.own (s0.own.map (sB K ls))=some rest)(kn:a1d st.tmps.length ls s0.own=true)(hK:∀k o,getKey k H'=some o->getKey k st.H=some o/\∀p∈s0.H,k≠rk K p.1)(hr:Rel P G base R μ st a w)(hl:args.size=g2X.length)(hv:∀(i:Nat)(d:DV),g2X[i]? =some d->TV R μ w (args.getD i undef) d)(a8V:∀(i:Nat)(l:Loc),ls[i]? =some (some l)->∀u,cX a w μ l=some u->u=args.getD i undef):
  Calls P f args w λe w'=>∃R',e=.panicked (a1C v)/\Rel P G base R' μ ⟨st.tmps,H',[]⟩ a w'/\Step base R w R' w':=by
 obtain⟨mM,sub,a2q,vT⟩:=b8N K mO pD hH oG kn hr hl hv a8V;refine(zN mM R _ args w a2q).mono λe w' ⟨R',he,hs,hb⟩=>⟨R',he,?_,⟨hs.below.mono sub,hs.mono,λb o h1 h2=>sub b (hs.new b o h1 h2),hs.cells⟩⟩;have hsb:Step base R w R' w':=⟨hs.below.mono sub,hs.mono,λb o h1 h2=>sub b (hs.new b o h1 h2),hs.cells⟩;have kept:∀b, ¬mM b->w'.heap[b]? =w.heap[b]? /\∀off,R' b off->R b off:=λb hb=>⟨hs.below.block b hb,λoff h=>by
  by_cases hx:R b off
  .exact hx
  .exact absurd (hs.new b off h hx) hb⟩
 refine⟨hr.defers,hr.size,λi u d hu hd=>(hr.tmps i u d hu hd).cA hsb,λk o hk=>?_,λk k' o o' hk hk' he'=>?_,(λc hc=>by cases hc),⟨[],rfl,λi c v h _=>by simp at h,.nil⟩,hr.wS.cA hsb,hb,λb hb=>hr.base b (Nat.le_trans hs.below.size hb),hr.pass⟩
 .obtain⟨hk2,hk1⟩:=hK k o hk;obtain⟨p1,p2,p3⟩:=hr.mE k o hk2;obtain⟨e1,e2⟩:=kept _ (vT k o hk2 hk1);exact⟨p1,λoff h=>p2 off (e2 off h),p3.cA hsb e1⟩
 .exact hr.inj k k' o o' (hK k o hk).1 (hK k' o' hk').1 he'
end
end Go.VM
namespace Go.VM
open Go Go.RowKit
section
variable {P:Program} {G:GT} {st:St} {base:dU} {R:Nat->Nat->Prop} {μ:Nat->Nat} {a:Act} {w:World}
theorem put_defers(a:Act)(ds:List Deferred)(dst:Option Tmp)(v:Value):({a with defers:=ds}:Act).put dst v={a.put dst v with defers:=ds}:=by cases dst<;>rfl
theorem f4h{o:Oper}{ds:List Deferred}{K K':Act->World->Prop}{Q Q':Exit->Act->World->Prop}(ha:a.defers=[])(h:o.wp P a w K Q)(hK0:∀a' w',K a' w'->a'.defers=[])(hK:∀a' w',K a' w'->K' {a' with defers:=ds} w')(hQ:∀e a' w',Q e a' w'->Q' e {a' with defers:=ds} w'):o.wp P {a with defers:=ds} w K' Q':=by
 unfold Oper.wp at h|-;have he:execOp ({a with defers:=ds}:Act).eval o=execOp a.eval o:=rfl;rw[he];generalize (execOp a.eval o).run P w=r at h|-;unfold Oper.upon at h|-;split at h
 .rw[put_defers];exact hK _ _ h
 .rw[put_defers];exact hK _ _ h
 .rename_i d w';have:=hK0 _ _ h;rw[put_defers]at this;simp at this
 .refine h.mono λe w' hx=>?_;cases e with
  |returned v=>simp only at hx|-;rw[put_defers];exact hK _ _ hx
  |panicked chain=>exact hQ _ _ _ hx
  |outgrown=>obtain⟨a0,w0,h0⟩:=hx;exact⟨_,_,hQ _ _ _ h0⟩
 .refine h.mono λv w' hx=>?_;rw[put_defers];exact hK _ _ hx
 .exact hQ _ _ _ h
 .exact h.elim
def d4L(P:Program)(G:GT)(all:Array Oper)(Q:Exit->St->Prop):List Oper->St->Prop
 |[],st=>Q .normal st
 |o::rest,st=>a7W P G all o st (d4L P G all Q rest) Q
theorem c4i{all:Array Oper}{Q:Exit->St->Prop}(ds:List Deferred):∀(l:List Oper)(st:St),d4L P G all Q l st->∀(base:dU)(R:Nat->Nat->Prop)(μ:Nat->Nat)(a:Act)(w:World),Rel P G base R μ st a w->
  ∀QQ:Exit->Act->World->Prop,(∀e s a' w' R' μ',Q e s->Rel P G base R' μ' s a' w'->Step base R w R' w'->QQ e {a' with defers:=ds} w')->wpList P all QQ l {a with defers:=ds} w
 |[],st,h,base,R,μ,a,w,hr,QQ,hk=>hk _ st a w R μ h hr (.refl _ _ _)
 |o::rest,st,h,base,R,μ,a,w,hr,QQ,hk=>by
  have h1:=c7S (KK:=λa' w'=>a'.defers=[]/\wpList P all QQ rest {a' with defers:=ds} w') (QQ:=λe a' w'=>QQ e {a' with defers:=ds} w') (show a7W P G all o st (d4L P G all Q rest) Q from h) hr (λs v w' R' μ' p1 p2 p3=>⟨p2.defers,c4i ds rest s p1 base R' μ' _ w' p2 QQ λe s a' w2 R2 μ2 q1 q2 q3=>hk e s a' w2 R2 μ2 q1 q2 (p3.trans q3)⟩) λc s w' R' μ' p1 p2 p3=>hk _ s a w' R' μ' p1 p2 p3;unfold wpList;by_cases hw:Region.wanted o (yielded all a.tmps)=true
  .rw[if_pos hw]at h1;rw[if_pos (show Region.wanted o (yielded all ({a with defers:=ds}:Act).tmps)=true from hw)];rcases h1 with h1|⟨h1,a0,w0,h2⟩
   .exact .inl (f4h hr.defers h1 (λ_ _ h=>h.1) (λ_ _ h=>h.2) λ_ _ _ h=>h)
   .exact .inr ⟨h1,_,_,h2⟩
  .rw[if_neg hw]at h1;rw[if_neg (show ¬Region.wanted o (yielded all ({a with defers:=ds}:Act).tmps)=true from hw),put_defers];exact h1.2
def DW(P:Program)(G:GT)(ds:List Deferred)(c:Code)(st:St)(Q:Exit->St->Prop):Prop:=
 ∀(base:dU)(R:Nat->Nat->Prop)(μ:Nat->Nat)(a:Act)(w:World),Rel P G base R μ st a w->c.wp P (λe a' w'=>∃a0 s R' μ',a'={a0 with defers:=ds}/\Q e s/\Rel P G base R' μ' s a0 w'/\Step base R w R' w') {a with defers:=ds} w
theorem DW.region{ds:List Deferred}{id:Nat}{ops:Array Oper}{Q:Exit->St->Prop}(h:d4L P G ops Q ops.toList st):DW P G ds (.region id ops false) st Q:=λbase R μ a w hr=>wp_region_list (c4i ds ops.toList st h base R μ a w hr _ λe s a' w' R' μ' q1 q2 q3=>⟨a',s,R',μ',rfl,q1,q2,q3⟩)
theorem DW.seq{ds:List Deferred}{x y:Code}{Q:Exit->St->Prop}(h:DW P G ds x st λe s=>match e with
  |.normal=>DW P G ds y s Q
  |e=>Q e s):DW P G ds (.seq x y) st Q:=λbase R μ a w hr=>
 wp_seq (wp_mono (h base R μ a w hr) λe a1 w1 ⟨a0,s,R1,μ1,q0,q1,q2,q3⟩=>by
  cases e with
  |normal=>subst q0;exact wp_mono (q1 base R1 μ1 a0 w1 q2) λe2 a2 w2 ⟨a3,s2,R2,μ2,p0,p1,p2,p3⟩=>⟨a3,s2,R2,μ2,p0,p1,p2,q3.trans p3⟩
  |_=>exact⟨a0,s,R1,μ1,q0,q1,q2,q3⟩)
theorem DW.ret{ds:List Deferred}{Q:Exit->St->Prop}(h:Q .ret st):DW P G ds .ret st Q:=λbase R μ a w hr=>wp_ret ⟨a,st,R,μ,rfl,h,hr,.refl _ _ _⟩
attribute [simp] d4L
end
end Go.VM
end
namespace Go.Proofs.YtmfbjecjccipfaaGreatDoor
section
open Go Go.VM
theorem d8R{p q:Addr}(w:World):
  CallsD prog 45 #[.pointer (some p),.pointer (some q)] .returning w λe u' w'=>e=.returned (.tuple #[])/\u'=.returning/\w'=w:=by
 refine callsD_of_wpS func45 rfl λc₀ cs hu=>?_;apply wpS_seq;apply wpS_region;simp[wpOpsS,go_sem,recoverD,hu,ntmps45,Exit.thenS];apply wpS_seq;apply wpS_region;simp[wpOpsS,go_sem,recoverD,hu,ntmps45,Exit.thenS];refine wpS_cond (t:=false) (by simp[Act.eval,Array.replicate]) ?_;simp only[g3t,if_false];refine wpS_of_wp (wp_skip ?_);cases c₀
 simp_all [bodyPostS,results]
variable{P:Program}
theorem f0e{T xT:TypeId}(hu:(P.underlying T).map (λtd=>match td with|.interface _=>false|_=>true)=some true)(v:Value)(w:World):(Instr.typeAssert (.iface T v) xT T true).run P w=.ok (.tuple #[v,.bool true]) w:=by obtain⟨td,h1,h2⟩:=g2Y.1 hu;unfold Instr.typeAssert;rw[g3O,g3P h1];simp only[g3Q];cases td<;>first|(simp at h2;done)|(simp only[if_true,go_sem];done)|(simp[go_sem,Result.andThen];done)
variable {G:GT}
variable{a:Act}{w:World}{D:Code}{R:Nat->Nat->Prop}
theorem c8c{id:Nat}{ops:Array Oper}{QQ:Exit->Act->World->Prop}{base:dU}(Qf:Exit->St->Prop)(hk:∀e s a' w' R' μ',Qf e s->Rel P G base R' μ' s a' w'->Step base R w R' w'->QQ e a' w')(h:∀QL:Exit->Act->World->Prop,(∀s a' w' R' μ',SW P G D s Qf->Rel P G base R' μ' s a' w'->Step base R w R' w'->QL .normal a' w')->wpList P ops QL ops.toList a w):(Code.seq (.region id ops false) D).wp P QQ a w:=
 wp_seq (wp_region_list (h _ λs a' w' R' μ' hD hr hs=>wp_mono (hD base R' μ' a' w' hr) λe a2 w2 ⟨s2,R2,μ2,q1,q2,q3⟩=>hk e s2 a2 w2 R2 μ2 q1 q2 (hs.trans q3)))
variable{μ:Nat->Nat}
theorem LW.next{all:Array Oper}{l:List Oper}{st:St}{Qf:Exit->St->Prop}{base:dU}{QL:Exit->Act->World->Prop}(hQL:∀s a' w' R' μ',SW P G D s Qf->Rel P G base R' μ' s a' w'->Step base R w R' w'->QL .normal a' w')(hr:Rel P G base R μ st a w)(h:LW P G all l st λe s=>e=.normal/\SW P G D s Qf):wpList P all QL l a w:=by unfold LW at h;exact h base R μ a w hr QL λe s a' w' R' μ' hq jD hs=>by obtain⟨rfl,hq⟩:=hq;exact hQL s a' w' R' μ' hq jD hs
def f4i:OT:=(.op 0 (.op 1 (.op 2 (.op 3 (.op 4 (.op 5 .stop .none) .none) (.op 4 (.op 3 (.op 5 .stop .none) .none) .none)) (.op 4 (.op 2 (.op 3 (.op 5 .stop .none) .none) .none) .none)) (.op 2 (.op 1 (.op 3 (.op 4 (.op 5 .stop .none) .none) (.op 4 (.op 3 (.op 5 .stop .none) .none) .none)) (.op 3 (.op 1 (.op 4 (.op 5 .stop .none) .none) .none) .none)) .none)) (.op 2 (.op 0 (.op 1 (.op 3 (.op 4 (.op 5 .stop .none) .none) (.op 4 (.op 3 (.op 5 .stop .none) .none) .none)) (.op 3 (.op 1 (.op 4 (.op 5 .stop .none) .none) .none) .none)) (.op 3 (.op 0 (.op 1 (.op 4 (.op 5 .stop .none) .none) .none) .none) .none)) .none))
abbrev d8S(x y:Int):List (Nat×bH):=[(100000,.cells [.d (.int .i64 x)]),(100001,.cells [.d (.int .i64 y)])]
theorem e4n{base:dU}{args:Array Value}{x y:Int}(n e:Int)(hr:Rel prog G base R μ ⟨[.ptr 100000 0,.ptr 100001 0],d8S x y,[]⟩ {tmps:=args,defers:=[]} w):
  CallsD prog 45 args (.panicking (a1C (rO n e))) w λe' u' w'=>e'=.returned (.tuple #[])/\u'=.panicking [{v:=rO n e,recovered:=true}]/\∃R' μ' a',Rel prog G base R' μ' ⟨List.replicate 20 .undef,d8S n e,[]⟩ a' w'/\Step base R w R' w':=by
 have mI:args.size=2:=hr.size;obtain⟨v0,v1,rfl⟩:∃v0 v1,args=#[v0,v1]:=by
  obtain⟨l⟩:=args
  match l,mI with
  |[a,b],_=>exact⟨a,b,rfl⟩
 refine callsD_of_wpS func45 rfl λc₀ cs hu=>?_;apply wpS_seq;apply wpS_region;simp[wpOpsS,go_sem,recoverD,hu,ntmps45,Exit.thenS];apply wpS_seq;apply wpS_region;simp[wpOpsS,go_sem,recoverD,hu,ntmps45,Exit.thenS];refine wpS_cond (t:=true) (by simp[Act.eval,Array.replicate]) ?_;simp only[if_true];refine wpS_of_wp ?_;have hr1:Rel prog G base R μ ⟨.ptr 100000 0::.ptr 100001 0::List.replicate 18 .undef,d8S x y,[]⟩ {tmps:=#[v0,v1,rO n e,undef,undef,rO n e,rO n e,.bool true,undef,undef,undef,undef,undef,undef,undef,undef,undef,undef,undef,undef],defers:=[]} w:=by
  refine⟨rfl,rfl,λi v d hv hd=>?_,hr.mE,hr.inj,hr.eR,⟨[],rfl,λi c v h _=>by simp at h,.nil⟩,hr.wS,hr.rY,hr.base,hr.pass⟩
  match i,hv,hd with
  |0,hv,hd=>exact hr.tmps 0 v d (by simpa using hv) (by simpa using hd)
  |1,hv,hd=>exact hr.tmps 1 v d (by simpa using hv) (by simpa using hd)
  |i+2,hv,hd=>
   simp only[List.getElem?_cons_succ,g3R]at hd;split at hd
   .simp at hd;subst hd;exact .undef _
   .cases hd
 have hta:=λ(v:Value) (w:World)=>f0e (P:=prog) (T:=115) (xT:=20) (by kernel_rfl) v w
 show Code.wp prog _ _ {tmps:=#[v0,v1,rO n e,undef,undef,rO n e,rO n e,.bool true,undef,undef,undef,undef,undef,undef,undef,undef,undef,undef,undef,undef],defers:=[]} w
 generalize ha1:({tmps:=#[v0,v1,rO n e,undef,undef,rO n e,rO n e,.bool true,undef,undef,undef,undef,undef,undef,undef,undef,undef,undef,undef,undef],defers:=[]}:Act)=a1 at hr1|-;have h2:a1.eval (.tmp 2)=rO n e:=by rw[<-ha1];rfl
 have hz:a1.tmps.size=20:=by rw[<-ha1];rfl
 refine c8c (G:=G) (base:=base) (R:=R) (λe' s=>e'=.normal/\yE s ⟨List.replicate 20 .undef,d8S n e,[]⟩) (λe2 s2 a2 w2 R2 μ2 hq q2 q3=>?_) λQL hQL=>?_
 .obtain⟨he,hw⟩:=hq;subst he;exact⟨q2.defers,_,rfl,.tuple #[],by simp[results],rfl,rfl,R2,⟨μ2,a2,q2.a3N hw⟩,q3⟩
 have hr2:=hr1.put (dst:=some 9) (v:=rO n e) (dv:=.undef) (act:=.no) (.undef _) trivial;refine tE (w':=w) (v:=rO n e) rfl (.inl (by show(pure (Next.value (a1.eval (.tmp 2))):Sem Next).run _ w=_;rw[h2];rfl)) rfl ?_;have h9:(a1.put (some 9) (rO n e)).eval (.tmp 9)=rO n e:=eM (by omega);have hr3:=hr2.put (dst:=some 10) (v:=.tuple #[.agg #[.int .i64 n,.int .i64 e],.bool true]) (dv:=.cY [.agg [.int .i64 n,.int .i64 e],.bool true]) (act:=.no) (.cY _ _ rfl (λi d hd=>by
  match i,hd with
  |0,hd=>
   simp at hd;subst hd;refine .agg _ _ rfl (λi d hd=>?_) (λi d hd=>?_)
   .match i,hd with
    |0,hd=>simp at hd;subst hd;rfl
    |1,hd=>simp at hd;subst hd;rfl
   .match i,hd with
    |0,hd=>simp at hd;subst hd;exact .int _ _
    |1,hd=>simp at hd;subst hd;exact .int _ _
  |1,hd=>simp at hd;subst hd;exact .bool _)) trivial
 refine tE (w':=w) (v:=.tuple #[.agg #[.int .i64 n,.int .i64 e],.bool true]) rfl (.inl ?_) rfl ?_
 .show(Instr.typeAssert ((a1.put (some 9) (rO n e)).eval (.tmp 9)) _ _ true >>=λs=>pure (Next.value s):Sem Next).run _ w=_
  rw[h9,g3O,hta]
  rfl
 refine LW.next hQL hr3 (LW.vk ?_);simp;refine SW.jC (SW.xk ?_);simp;refine c1P f4i (by kernel_rfl) (by kernel_rfl) ?_;simp[f4i]
end
section
open Go Go.VM
variable {G:GT}
theorem oJ:VM.Enters prog 15:=.mk func15 rfl
variable{P:Program}{w:World}{R:Nat->Nat->Prop}{μ:Nat->Nat}
theorem Rel.frame{base:dU}{args:Array Value}{fn:Func}{n:Nat}{s0:St}(hn:fn.ntmps=n)(hT:(s0.own.all λc=>c.2.all λl=>match l with|.t i=>decide (i<s0.tmps.length)|_=>true)=true)(hr:Rel P G base R μ s0 {tmps:=args,defers:=[]} w):
  Rel P G base R μ ⟨s0.tmps++List.replicate (n-s0.tmps.length) (.cY []),s0.H,s0.own⟩ {tmps:=args++Array.replicate (fn.ntmps-args.size) undef,defers:=[]} w:=by
 have mI:args.size=s0.tmps.length:=hr.size;refine⟨rfl,by simp[mI,hn],λi v d hiv hid=>?_,hr.mE,hr.inj,hr.eR,?_,hr.wS,hr.rY,hr.base,hr.pass⟩
 .simp only at hid;by_cases hi:i<s0.tmps.length
  .rw[g3k hi]at hid;rw[g3H (by omega)]at hiv;exact hr.tmps i v d hiv hid
  .rw[g3h (by omega),g3R]at hid;split at hid<;>simp at hid;subst hid;rw[g3W (by omega),Array.getElem?_replicate]at hiv;split at hiv<;>simp at hiv;subst hiv;exact .cY #[] [] rfl (by simp)
 .obtain⟨vs,hl,h1,hap⟩:=hr.own;refine⟨vs,hl,λi c v hc hv=>?_,hap⟩;have ho:=h1 i c v hc hv;refine⟨λl hl u hu=>?_,ho.own,ho.keys⟩;cases l with
  |t j=>have hj:=g3c.1 (g3c.1 hT c (g3e hc)) _ hl;simp only[g3N]at hj;simp only[cX]at hu;rw[g3H (by omega)]at hu;exact ho.eR _ hl u hu
  |c k off=>exact ho.eR _ hl u hu
variable{T:Exit->St->Prop}{a:Act}{QQ:Exit->Act->World->Prop}{st:St}
theorem SW.wps{x y:Code}{base:dU}(h:SW P G x st T)(hr:Rel P G base R μ st a w)(hn:∀s R' μ' a' w',T .normal s->Rel P G base R' μ' s a' w'->Step base R w R' w'->y.wp P QQ a' w')(hq:∀e s R' μ' a' w',e≠ .normal->T e s->Rel P G base R' μ' s a' w'->Step base R w R' w'->QQ e a' w'):(Code.seq x y).wp P QQ a w:=
 wp_seq (wp_mono (h base R μ a w hr) λe a' w' ⟨s,R',μ',q1,q2,q3⟩=>by
  cases e with
  |normal=>exact hn s R' μ' a' w' q1 q2 q3
  |_=>exact hq _ s R' μ' a' w' (by simp) q1 q2 q3)
variable{rest:Code}
theorem SW.e4o{r0 r1 rc:Code}{base:dU}(h:SW P G r0 st λe s=>e=.normal/\SW P G r1 s λe s=>e=.normal/\SW P G rc s T)(hr:Rel P G base R μ st a w)(hn:∀s R' μ' a' w',T .normal s->Rel P G base R' μ' s a' w'->Step base R w R' w'->rest.wp P QQ a' w')(hq:∀e s R' μ' a' w',e≠ .normal->T e s->Rel P G base R' μ' s a' w'->Step base R w R' w'->QQ e a' w'):(Code.seq r0 (.seq r1 (.seq rc rest))).wp P QQ a w:=
 SW.wps h hr (λs R1 μ1 a1 w1 q1 q2 q3=>SW.wps q1.2 q2 (λs R2 μ2 a2 w2 p1 p2 p3=>SW.wps p1.2 p2 (λs R3 μ3 a3 w3 k1 k2 k3=>hn s R3 μ3 a3 w3 k1 k2 ((q3.trans p3).trans k3)) λe s R3 μ3 a3 w3 k0 k1 k2 k3=>hq e s R3 μ3 a3 w3 k0 k1 k2 ((q3.trans p3).trans k3)) λe s R2 μ2 a2 w2 p0 p1 p2 p3=>(p0 p1.1).elim) λe s R1 μ1 a1 w1 q0 q1 q2 q3=>(q0 q1.1).elim
theorem TV.d2g{μ':Nat->Nat}{v:Value}{ds:List D}(h:TV R μ w v (.cY ds)):TV R μ' w v (.cY ds):=by
 cases h with
 |cY vs ds h1 h2=>exact .cY _ _ h1 h2
theorem b8O{cs:List DV}(F:FuncId)(s:List UInt8)(n e:Int)(he:e≠0)(hlx:CS prog G 44 [.str s] (.cY [.aE,.int .i64 n,.int .i64 e]) none):
  CHd prog G 15 ⟨[.d (.str s),.clo F [.ptr 100001 0]],[(100001,.cells cs)],[]⟩ (.cY [.int .i64 n,.int .i64 e]):=by
 intro base R μ args w hr;refine calls_of_wp_defers func15 rfl ?_;have hr0:=Rel.frame ntmps15 rfl hr;refine SW.e4o (T:=λe' s'=>e'=.ret/\a3k prog s' [.cell 4 3,.cell 5 31]=some (.cY [.int .i64 n,.int .i64 e])) ?h hr0 (λs' R' μ' a' w' q1 q2 q3=>by cases q1.1) (λe' s' R' μ' a' w' q0 q1 q2 q3=>?_)
 case h=>refine SW.xk ?_;simp;refine SW.xk ?_;simp;refine jT.mk yZ hlx ?_;simp;refine SW.xk ?_;simp[he]
 .obtain⟨rfl,kX⟩:=q1;obtain⟨v,hv1,hv2⟩:=a2p (fn:=f15) q2 kX
  show Leaves _ _ _ _ a'.defers _ _
  rw[q2.defers];exact⟨v,hv1,v,R',rfl,λμ'=>TV.d2g hv2,q3,q2.rY⟩
abbrev b8P(s:List UInt8)(F:FuncId)(l:List Tok)(H:List (Nat×bH)):St:=⟨[.d (.str s),.clo F [.ptr 100001 0],.undef,.undef,.ptr 4 0,.ptr 5 0,.d (.sl (l.map bL))]++List.replicate 21 .undef,(4,.cells [.d (.int .i64 0)])::(5,.cells [.d (.int .i64 0)])::H,[]⟩
abbrev d4M(p q:Value):Deferred:={target:=.fn (.func 45) #[p,q],args:=#[]}
variable{l:List Tok}{s:List UInt8}{F:FuncId}
theorem b0W{base:dU}{H:List (Nat×bH)}{id:Nat}{all:Array Oper}{y0 y1:TypeId}{p0 p1:String}{f0 f1:Array Edge}(eS:all=#[⟨some 19,.makeFunc (.func 45) #[] #[.tmp 4,.tmp 5],y0,p0,f0,none⟩,⟨none,.defer {callee:=.value (.tmp 19),args:=#[],argTypes:=#[]},y1,p1,f1,none⟩])(hr:Rel prog G base R μ (b8P s F l H) a w)(h:∀a1,Rel prog G base R μ (b8P s F l H) a1 w->rest.wp prog QQ {a1 with defers:=[d4M (.pointer (some ⟨μ 4,0,none⟩)) (.pointer (some ⟨μ 5,0,none⟩))]} w):(Code.seq (.region id all false) rest).wp prog QQ a w:=by
 subst eS;have h4:a.eval (.tmp 4)=.pointer (some ⟨μ 4,0,none⟩):=hr.eJ rfl;have h5:a.eval (.tmp 5)=.pointer (some ⟨μ 5,0,none⟩):=hr.eJ rfl;have hz:a.tmps.size=28:=hr.size;refine wp_seq (wp_region_list ?_);generalize hfv:(Value.func (.func 45) #[] #[.pointer (some ⟨μ 4,0,none⟩),.pointer (some ⟨μ 5,0,none⟩)])=fv;have hr2:=hr.put (dst:=some 19) (v:=fv) (dv:=.undef) (act:=.no) (.undef _) trivial;refine tE (w':=w) (v:=fv) rfl (.inl ?_) rfl ?_
 .rw[<-hfv, <- h4, <- h5]
  show(Instr.makeFunc (.func 45) (#[].map a.eval) (#[.tmp 4,.tmp 5].map a.eval) >>=λx=>pure (Next.value x):Sem Next).run _ w=_
  simp[Instr.makeFunc,go_sem]
 have h19:(a.put (some 19) fv).eval (.tmp 19)=fv:=eM (by omega);have hw:∀(o:Oper) y,o.guard=none->Region.wanted o y=true:=λo y hg=>by unfold Region.wanted;rw[hg]
 unfold wpList;rw[if_pos (hw _ _ rfl)];left;unfold Oper.wp;have e2:(execOp (a.put (some 19) fv).eval ⟨none,.defer {callee:=.value (.tmp 19),args:=#[],argTypes:=#[]},y1,p1,f1,none⟩).run prog w=.ok (.defer (d4M (.pointer (some ⟨μ 4,0,none⟩)) (.pointer (some ⟨μ 5,0,none⟩)))) w:=by
  show((Deferred.ofValue ((a.put (some 19) fv).eval (.tmp 19)) (#[].map (a.put (some 19) fv).eval) >>=λd=>pure (Next.defer d)):Sem Next).run _ w=_
  rw[h19, <- hfv,g3O];simp[Deferred.ofValue,go_sem]
 rw[e2];have hd:(a.put (some 19) fv).defers=[]:=hr2.defers;rw[Oper.upon_defer];unfold wpList;have a0Q:finish (b8P s F l H) (some 19) .undef .no=b8P s F l H:=by simp[finish,oL,dF,kG,List.replicate]
 rw[a0Q]at hr2;have:=h (a.put (some 19) fv) hr2;rw[<-hd]at this;exact this
theorem DW.go{ds:List Deferred}{c:Code}{Q:Exit->St->Prop}(h:DW P G ds c st Q){base:dU}(hr:Rel P G base R μ st a w):c.wp P (λe a' w'=>∃a0 s R' μ',a'={a0 with defers:=ds}/\Q e s/\Rel P G base R' μ' s a0 w'/\Step base R w R' w') {a with defers:=ds} w:=h base R μ a w hr
@[simp] theorem e0M(k:Nat)(ds:List D):ds.map (oL k∘DV.d)=ds.map DV.d:=rfl
@[simp] theorem e0N(k k':Nat)(ds:List D):ds.map ((oL k∘oL k')∘DV.d)=ds.map DV.d:=rfl
@[simp] theorem d8T:∀ds:List D,WkT (ds.map DV.d) (ds.map DV.d)
 |[]=>by simp
 |d::r=>by have:=d8T r;simp[this]
@[simp] theorem d4N(K:List (Nat×Nat)):∀ds:List D,bA K (ds.map DV.d)=true
 |[]=>by simp[bA]
 |d::r=>by have:=d4N K r;simp[bA,aY,this]
@[simp] theorem d4O:∀ds:List D,d7k (ds.map DV.d) (ds.map DV.d)
 |[]=>by simp
 |d::r=>by have:=d4O r;simp[this]
theorem a1P{f:FuncId}(he:VM.Enters P f)(args cap:Array Value)(w:World):(invoke (.fn (.func f) cap) args).run P w=.ok (.enter f (args++cap)) w:=by
 obtain⟨fn,hf1,hf2,hf3⟩:=he;have c2q:¬fn.body=none:=λhe=>by simp[he]at hf2
 have c2r:¬fn.name= "runtime.NumGoroutine" :=by simpa using hf3
 simp[invoke,callFunc,hf1,c2q,c2r]
theorem e4p{α:Type}{aD:List Tok->Nat->Nat->jA Pr}(hV:rP G aD l)(C:α->List D)(a0 a:α)(j:Nat)(he:VM.Enters prog F)(hlx:CS prog G 44 [.str s] (.cY [.sl (l.map bL),.int .i64 0,.int .i64 0]) none)(hc:pX G F [.ptr 100000 0,.ptr 100001 0] [(100001,.cells ((C a0).map .d))] [] l 0 (.ok a j) (λ_=>.cY []) (λa=>[(100001,.cells ((C a).map .d))]))(hj:j<l.length)(a2R:a2v l j=.ok () j):
  CH prog G 15 ⟨[.d (.str s),.clo F [.ptr 100001 0]],[(100001,.cells ((C a0).map .d))],[]⟩ ⟨[.cY [.int .i64 0,.int .i64 0]],[(100001,.cells ((C a).map .d))],[]⟩:=by
 intro base R μ args w hr;refine calls_of_wp_defers func15 rfl ?_;have hr0:=Rel.frame ntmps15 rfl hr;refine SW.e4o (T:=λe' s'=>e'=.normal/\yE s' (b8P s F l [(100001,.cells ((C a0).map .d))])) ?h hr0 (λs' R' μ' a' w' q1 q2 q3=>?_) (λe' s' R' μ' a' w' q0 q1 q2 q3=>(q0 q1.1).elim)
 case h=>refine SW.xk ?_;simp;refine SW.xk ?_;simp;refine jT.mk yZ hlx ?_;simp;refine SW.xk ?_;simp[List.replicate]
 .refine b0W rfl (q2.a3N q1.2) λa1 hr1=>?_;refine wp_mono (DW.go (Q:=λe s=>e=.ret/\a5x prog s [.cell 4 3,.cell 5 31] (.cY [.int .i64 0,.int .i64 0]) [(100001,.cells ((C a).map .d))] []) ?hD hr1) λe a2 w2 ⟨a3,s3,R3,μ3,h0,⟨h1,h2⟩,h3,h4⟩=>?_
  case hD=>
   refine DW.seq (DW.region ?_);simp[List.replicate];refine DW.seq (DW.region ?_);simp;refine b2K.mk (a1D he hc [(100000,22),(100001,100001)] (λa j hx=>?_) ?_ ?_ ?_ rfl rfl (λa2 j2 hx=>?_) (λn e hx=>by cases hx))
   .simp[aR,aY,bB,bA,bM,getKey,eX]
   .simp[aR,aY,bB,bA,bM,getKey,eX]
   .simp[aZ,bI,rk]
   .simp[aZ,bI,rk,dE,dM,kI]
   .cases hx;simp[bJ,aZ,bI,rk,dE,dM,bW,kU,jF,eN,kI];refine DW.seq (DW.region ?_);simp;refine b2K.mk (a1D (X:=[]) (own:=[]) (r:=a2v l j) (enc:=λ_=>.cY []) (Y:=λ_=>[]) (av0:=[.ptr 100000 0]) (.mk func46 rfl) (c1Q hV j hj) [(100000,22)] (λa j hx=>?_) ?_ ?_ ?_ rfl rfl (λu j2 hx=>?_) (λn e hx=>by rw[a2R]at hx;cases hx))
    .simp[aR,aY,bB,bA,bM,getKey,eX]
    .simp[aR,aY,bB,bA,bM,getKey,eX]
    .simp[aZ,bI,rk]
    .simp[aZ,bI,rk,dE,dM,kI]
    .simp[bJ,aZ,bI,rk,dE,dM,bW,kU,jF,eN,kI];refine DW.seq (DW.region ?_);simp;exact DW.ret ⟨rfl,by simp⟩
  .subst h0 h1;have p4:=hr1.eJ (x:=.tmp 4) rfl
   show Leaves _ _ _ _ [d4M _ _] .returning w2
   refine leaves_cons (f:=45) (args:=#[.pointer (some ⟨μ' 4,0,none⟩),.pointer (some ⟨μ' 5,0,none⟩)]) (by simp) (a1P (.mk func45 rfl) #[] #[.pointer (some ⟨μ' 4,0,none⟩),.pointer (some ⟨μ' 5,0,none⟩)] w2) ?_;refine(d8R w2).mono ?_;rintro e' u' w'' ⟨rfl,rfl,rfl⟩;unfold a5x at h2;split at h2
   .rename_i r kX;obtain⟨v,hv1,hv2⟩:=a2p (fn:=f15) h3 kX;exact⟨v,hv1,v,R3,μ3,rfl,((h3.ret hv1 hv2).e6h h2.1).e9i h2.2,q3.trans h4⟩
   .exact h2.elim
abbrev a7Y(x y:Int):List (Nat×bH):=[(4,.cells [.d (.int .i64 x)]),(5,.cells [.d (.int .i64 y)])]
theorem a9N{base:dU}{tmps:List DV}{x y:Int}(n e:Int)(hr:Rel prog G base R μ ⟨tmps,a7Y x y,[]⟩ a w)(h4:tmps[4]? =some (.ptr 4 0))(h5:tmps[5]? =some (.ptr 5 0))(RR:Ending->World->Prop)(hR:∀v R' w',(∀μ',TV R' μ' w' v (.cY [.int .i64 n,.int .i64 e]))->Step base R w R' w'->(∀b o,R' b o->b<w'.heap.size)->RR (.returned v) w'):
  Leaves prog f15 a.tmps RR [d4M (.pointer (some ⟨μ 4,0,none⟩)) (.pointer (some ⟨μ 5,0,none⟩))] (.panicking (a1C (rO n e))) w:=by
 refine leaves_cons (f:=45) (args:=#[.pointer (some ⟨μ 4,0,none⟩),.pointer (some ⟨μ 5,0,none⟩)]) (by simp) (a1P (.mk func45 rfl) #[] #[.pointer (some ⟨μ 4,0,none⟩),.pointer (some ⟨μ 5,0,none⟩)] w) ?_;obtain⟨mM,sub,a2q,vT⟩:=b8N (s0:=⟨[.ptr 100000 0,.ptr 100001 0],d8S x y,[]⟩) (args:=#[.pointer (some ⟨μ 4,0,none⟩),.pointer (some ⟨μ 5,0,none⟩)]) [(100000,4),(100001,5)] («g2X» :=[.ptr 4 0,.ptr 5 0]) (ls:=[]) (rest:=[]) (by simp[aR,aY,bB,bA,bM,getKey]) (by simp[aZ,bI,rk]) (by simp[aZ,bI,rk,dE,dM]) rfl rfl hr rfl (λi d hd=>by
  match i,hd with
  |0,hd=>simp at hd;subst hd;exact .ptr 4 0
  |1,hd=>simp at hd;subst hd;exact .ptr 5 0) (λi l h=>by simp at h)
 refine(e4n n e a2q).mono ?_;rintro e' u' w' ⟨rfl,rfl,R',μ',a',jD,hs⟩;have uO:Step base R w R' w':=⟨hs.below.mono sub,hs.mono,λb o h1 h2=>sub b (hs.new b o h1 h2),hs.cells⟩;have m4:μ' 100000=μ 4:=(jD.pass 100000 (by omega)).trans (a2q.pass 100000 (by omega)).symm;have m5:μ' 100001=μ 5:=(jD.pass 100001 (by omega)).trans (a2q.pass 100001 (by omega)).symm;have a0Q:Rel prog G base R' μ ⟨tmps,a7Y n e,[]⟩ a w':=by
  refine⟨hr.defers,hr.size,λi u d hu hd=>(hr.tmps i u d hu hd).cA uO,λk o hk=>?_,λk k' o o' hk hk' he'=>?_,(λc hc=>by cases hc),⟨[],rfl,λi c v h _=>by simp at h,.nil⟩,hr.wS.cA uO,jD.rY,λb hb=>hr.base b (Nat.le_trans hs.below.size hb),hr.pass⟩
  .simp only[a7Y,getKey]at hk;split at hk
   .rename_i hk4;cases hk;subst hk4;obtain⟨q1,q2,q3⟩:=jD.mE 100000 (.cells [.d (.int .i64 n)]) rfl;rw[m4]at q1 q2 q3;exact⟨sub _ q1,q2,q3.c0z (ν:=μ') (K:=[]) (λk hk=>by simp at hk) rfl⟩
   .split at hk
    .rename_i hk5;cases hk;subst hk5;obtain⟨q1,q2,q3⟩:=jD.mE 100001 (.cells [.d (.int .i64 e)]) rfl;rw[m5]at q1 q2 q3;exact⟨sub _ q1,q2,q3.c0z (ν:=μ') (K:=[]) (λk hk=>by simp at hk) rfl⟩
    .cases hk
  .have one:∀k o,getKey k (a7Y n e)=some o->∃o1,getKey k (a7Y x y)=some o1:=λk o h=>by
    simp only[a7Y,getKey]at h|-;split at h
    .exact⟨_,by rw[if_pos (by assumption)]⟩
    .split at h
     .exact⟨_,by rw[if_neg (by assumption),if_pos (by assumption)]⟩
     .cases h
   obtain⟨o1,h1⟩:=one k o hk;obtain⟨o2,h2⟩:=one k' o' hk';exact hr.inj k k' o1 o2 h1 h2 he'
 have f7P:settle (.panicking [{v:=rO n e,recovered:=true}])=.returning:=by simp[settle]
 show Leaves _ _ _ _ [] (settle _) _
 rw[f7P];have kX:a3k prog ⟨tmps,a7Y n e,[]⟩ (f15).results.toList=some (.cY [.int .i64 n,.int .i64 e]):=by simp[a3k,h4,h5]
 obtain⟨v,hv1,hv2⟩:=a2p (fn:=f15) a0Q kX;exact⟨v,hv1,hR v R' w' (λμ'=>TV.d2g hv2) uO jD.rY⟩
end
end Go.Proofs.YtmfbjecjccipfaaGreatDoor
section
namespace Go.VM
open Go Go.RowKit
section
variable {P:Program} {G:GT} {st:St}
variable{t:Tmp}{a:Act}
theorem a1Y{dst:Option Tmp}(hd:dst≠some t){v:Value}:(a.put dst v).eval (.tmp t)=a.eval (.tmp t):=by
 cases dst with
 |none=>rfl
 |some x=>exact cK (λe=>hd (by rw[e]))
variable{w:World}
theorem d8U{o:Oper}{K:Act->World->Prop}{Q:Exit->Act->World->Prop}(hd:o.dst≠some t)(h:o.wp P a w K Q):o.wp P a w (λa' w'=>K a' w'/\a'.eval (.tmp t)=a.eval (.tmp t)) (λe a' w'=>Q e a' w'/\(e≠ .outgrown->a'.eval (.tmp t)=a.eval (.tmp t))):=by
 unfold Oper.wp at h|-;generalize (execOp a.eval o).run P w=r at h|-;unfold Oper.upon at h|-;split at h
 .exact⟨h,a1Y hd⟩
 .exact⟨h,a1Y hd⟩
 .rename_i d w';exact⟨h,(a1Y (a:={a with defers:=d::a.defers}) hd).trans rfl⟩
 .refine h.mono λe w' hx=>?_;cases e with
  |returned v=>exact⟨hx,a1Y hd⟩
  |panicked chain=>exact⟨hx,λ_=>rfl⟩
  |outgrown=>obtain⟨a0,w0,h0⟩:=hx;exact⟨a0,w0,h0,λh=>(h rfl).elim⟩
 .exact h.mono λv w' hx=>⟨hx,a1Y hd⟩
 .exact⟨h,λ_=>rfl⟩
 .exact h.elim
theorem a5T{all:Array Oper}{QQ:Exit->Act->World->Prop}{t:Tmp}:∀(l:List Oper)(a:Act)(w:World),(∀o∈l,o.dst≠some t)->wpList P all QQ l a w->wpList P all (λe a' w'=>QQ e a' w'/\(e≠ .outgrown->a'.eval (.tmp t)=a.eval (.tmp t))) l a w
 |[],a,w,_,h=>⟨h,λ_=>rfl⟩
 |o::rest,a,w,hd,h=>by
  have h0:=hd o (by simp);have hr:=λo' (ho:o'∈rest)=>hd o' (by simp[ho]);have mono:∀(a1:Act)(w1:World),a1.eval (.tmp t)=a.eval (.tmp t)->wpList P all QQ rest a1 w1->wpList P all (λe a' w'=>QQ e a' w'/\(e≠ .outgrown->a'.eval (.tmp t)=a.eval (.tmp t))) rest a1 w1:=λa1 w1 he hx=>by
   have:=a5T rest a1 w1 hr hx
   rwa[he]at this
  unfold wpList at h|-;split at h
  .rename_i hw;rw[if_pos hw];rcases h with h|⟨h1,a0,w0,h2⟩
   .exact .inl (Oper.wp_mono (λa1 w1 hx=>mono a1 w1 hx.2 hx.1) (d8U h0 h))
   .exact .inr ⟨h1,a0,w0,h2,λh=>(h rfl).elim⟩
  .rename_i hw;rw[if_neg hw];exact mono _ _ (a1Y h0) h
theorem DW.frame{ds:List Deferred}{id:Nat}{ops:Array Oper}{Q:Exit->St->Prop}{u:Tmp}(h:d4L P G ops Q ops.toList st)(ht:∀o∈ops.toList,o.dst≠some t)(hu:∀o∈ops.toList,o.dst≠some u){base:dU}{R:Nat->Nat->Prop}{μ:Nat->Nat}(hr:Rel P G base R μ st a w):
  (Code.region id ops false).wp P (λe a' w'=>((∃a0 s R' μ',a'={a0 with defers:=ds}/\Q e s/\Rel P G base R' μ' s a0 w'/\Step base R w R' w')/\(e≠ .outgrown->a'.eval (.tmp t)=a.eval (.tmp t)))/\(e≠ .outgrown->a'.eval (.tmp u)=a.eval (.tmp u))) {a with defers:=ds} w:=
 wp_region_list (a5T ops.toList _ w hu (a5T ops.toList _ w ht (c4i ds ops.toList st h base R μ a w hr _ λe s a' w' R' μ' q1 q2 q3=>⟨a',s,R',μ',rfl,q1,q2,q3⟩)))
end
end Go.VM
end
namespace Go.Proofs.YtmfbjecjccipfaaGreatDoor
section
open Go Go.VM
variable {G:GT}
abbrev b8Q(s:List UInt8)(F:FuncId)(l:List Tok)(ds:List D):St:=⟨[.d (.str s),.clo F [.ptr 100001 0],.undef,.undef,.ptr 4 0,.ptr 5 0,.undef,.undef,.ptr 22 0]++List.replicate 19 .undef,[(4,.cells [.d (.int .i64 0)]),(5,.cells [.d (.int .i64 0)]),(22,rdO l 0),(100001,.cells (ds.map .d))],[]⟩
variable{l:List Tok}{s:List UInt8}{aD:List Tok->Nat->Nat->jA Pr}{F:FuncId}
theorem d8V{α:Type}(hV:rP G aD l)(C:α->List D)(a0:α)(n e:Int)(he:VM.Enters prog F)(hlx:CS prog G 44 [.str s] (.cY [.sl (l.map bL),.int .i64 0,.int .i64 0]) none)(hc:pX G F [.ptr 100000 0,.ptr 100001 0] [(100001,.cells ((C a0).map .d))] [] l 0 (.bad n e:jA α) (λ_=>.cY []) (λa=>[(100001,.cells ((C a).map .d))])):
  CHd prog G 15 ⟨[.d (.str s),.clo F [.ptr 100001 0]],[(100001,.cells ((C a0).map .d))],[]⟩ (.cY [.int .i64 n,.int .i64 e]):=by
 intro base R μ args w hr;refine calls_of_wp_defers func15 rfl ?_;have hr0:=Rel.frame ntmps15 rfl hr;refine SW.e4o (T:=λe' s'=>e'=.normal/\yE s' (b8P s F l [(100001,.cells ((C a0).map .d))])) ?h hr0 (λs' R' μ' a' w' q1 q2 q3=>?_) (λe' s' R' μ' a' w' q0 q1 q2 q3=>(q0 q1.1).elim)
 case h=>refine SW.xk ?_;simp;refine SW.xk ?_;simp;refine jT.mk yZ hlx ?_;simp;refine SW.xk ?_;simp[List.replicate]
 .refine b0W rfl (q2.a3N q1.2) λa1 hr1=>?_;refine wp_seq (wp_mono (DW.frame (t:=4) (u:=5) (Q:=λe s'=>e=.normal/\yE s' (b8Q s F l (C a0))) ?hD (by decide) (by decide) hr1) λe2 a2 w2 ⟨⟨⟨a3,s3,R3,μ3,h0,⟨h1,h2⟩,h3,h4⟩,f4⟩,f5⟩=>?_)
  case hD=>simp[List.replicate]
  .subst h0 h1;have hr3:=h3.a3N h2;have f4:a3.eval (.tmp 4)=a1.eval (.tmp 4):=f4 (by simp);have f5:a3.eval (.tmp 5)=a1.eval (.tmp 5):=f5 (by simp);have m4:μ3 4=μ' 4:=by have k1:=hr3.eJ (x:=.tmp 4) (k:=4) (off:=0) rfl;have k2:=hr1.eJ (x:=.tmp 4) (k:=4) (off:=0) rfl;rw[f4,k2]at k1;exact((Addr.mk.inj (Option.some.inj (Value.pointer.inj k1))).1).symm
   have m5:μ3 5=μ' 5:=by have k1:=hr3.eJ (x:=.tmp 5) (k:=5) (off:=0) rfl;have k2:=hr1.eJ (x:=.tmp 5) (k:=5) (off:=0) rfl;rw[f5,k2]at k1;exact((Addr.mk.inj (Option.some.inj (Value.pointer.inj k1))).1).symm
   have hz:a3.tmps.size=28:=hr3.size;obtain⟨vs,f7Q,sU,hvc⟩:=(hr3.qQ (x:=.tmp 1) rfl).b1l;obtain⟨vc,rfl⟩:∃vc,vs=#[vc]:=by
    obtain⟨L⟩:=vs
    match L,sU with
    |[x],_=>exact⟨x,rfl⟩
   have h8:a3.eval (.tmp 8)=.pointer (some ⟨μ3 22,0,none⟩):=hr3.eJ rfl;refine wp_seq (wp_region_list ?_);have hr4:=hr3.put (dst:=some 23) (v:=.func (.func F) #[] #[vc]) (dv:=.undef) (act:=.no) (.undef _) trivial;have hr5:=hr4.put (dst:=some 24) (v:=.pointer (some ⟨μ3 22,0,none⟩)) (dv:=.undef) (act:=.no) (.undef _) trivial;have a0Q:finish (finish (b8Q s F l (C a0)) (some 23) .undef .no) (some 24) .undef .no=b8Q s F l (C a0):=by simp[finish,oL,dF,kG,List.replicate]
   rw[a0Q]at hr5;refine tE (w':=w2) (v:=.func (.func F) #[] #[vc]) rfl (.inl (by show(pure (Next.value (a3.eval (.tmp 1))):Sem Next).run _ w2=_;rw[f7Q];rfl)) rfl ?_;refine tE (w':=w2) (v:=.pointer (some ⟨μ3 22,0,none⟩)) rfl (.inl (by show(pure (Next.value (((a3.put (some 23) (.func (.func F) #[] #[vc]))).eval (.tmp 8))):Sem Next).run _ w2=_;rw[cK (by decide),h8];rfl)) rfl ?_
   change wpList _ _ _ _ { (a3.put (some 23) (.func (.func F) #[] #[vc])).put (some 24) (.pointer (some ⟨μ3 22,0,none⟩))with defers:=[d4M (.pointer (some ⟨μ' 4,0,none⟩)) (.pointer (some ⟨μ' 5,0,none⟩))]} w2
   generalize ha5:(a3.put (some 23) (.func (.func F) #[] #[vc])).put (some 24) (.pointer (some ⟨μ3 22,0,none⟩))=a5 at hr5|-;have e23:a5.eval (.tmp 23)=.func (.func F) #[] #[vc]:=by rw[<-ha5,cK (by decide)];exact eM (by omega)
   have e24:a5.eval (.tmp 24)=.pointer (some ⟨μ3 22,0,none⟩):=by rw[<-ha5];exact eM (by rw[size_put];omega)
   have hd5:a5.defers=[]:=hr5.defers;have hw:∀(o:Oper) y,o.guard=none->Region.wanted o y=true:=λo y hg=>by unfold Region.wanted;rw[hg]
   unfold wpList;rw[if_pos (hw _ _ rfl)];left;unfold Oper.wp;have e2:∀(o:Oper),o.op=.call {callee:=.value (.tmp 23),args:=#[.tmp 24],argTypes:=#[76]}->(execOp a5.eval o).run prog w2=.ok (.enter F (#[.pointer (some ⟨μ3 22,0,none⟩)]++ #[vc])) w2:=λo ho=>by have hi:=a1P he #[.pointer (some ⟨μ3 22,0,none⟩)] #[vc] w2;simp[execOp,ho,resolve,e23,e24,Deferred.ofValue];exact hi
   show Oper.upon _ _ _ _ _ ((execOp a5.eval _).run prog w2)
   rw[e2 _ (by rfl),Oper.upon_enter];refine(b1R.rG (st:=b8Q s F l (C a0)) hc [(100000,22),(100001,100001)] («g2X» :=[.ptr 22 0,.ptr 100001 0]) (ls:=[]) (rest:=[]) (a7Y 0 0) (by simp[aR,aY,bB,bA,bM,getKey]) (by simp[aZ,bI,rk]) (by simp[aZ,bI,rk,dE,dM,kI]) rfl rfl (λk o hk=>?_) hr5 rfl (λi d hd=>?_) (λi l h=>by simp at h)).mono ?_
   .simp only[a7Y,getKey]at hk;split at hk
    .rename_i hk4;subst hk4;exact⟨by simpa[getKey]using hk,by simp[rk]⟩
    .split at hk
     .rename_i hk5;subst hk5;exact⟨by simpa[getKey]using hk,by simp[rk]⟩
     .cases hk
   .match i,hd with
    |0,hd=>simp at hd;subst hd;exact(TV.ptr 22 0:TV R3 μ3 w2 (.pointer (some ⟨μ3 22,0,none⟩)) _)
    |1,hd=>simp at hd;subst hd;exact hvc 0 (.ptr 100001 0) rfl
   .rintro e' w4 ⟨R4,rfl,hr6,hs6⟩;have hP:=a9N n e hr6 rfl rfl (λen w'=>∃v R',en=.returned v/\(∀μ',TV R' μ' w' v (.cY [.int .i64 n,.int .i64 e]))/\Step base R w R' w'/\∀b o,R' b o->b<w'.heap.size) λv R7 w7 hv hs7 hb7=>by exact⟨v,R7,rfl,hv,((q3.trans h4).trans hs6).trans hs7,hb7⟩
    rw[m4,m5]at hP;exact hP
abbrev c4j(s:List UInt8)(F:FuncId)(l:List Tok)(j:Nat)(ds:List D):St:=⟨[.d (.str s),.clo F [.ptr 100001 0],.undef,.undef,.ptr 4 0,.ptr 5 0,.undef,.undef,.ptr 22 0]++List.replicate 19 .undef,[(4,.cells [.d (.int .i64 0)]),(5,.cells [.d (.int .i64 0)]),(22,rdO l j),(100001,.cells (ds.map .d))],[]⟩
theorem d4P{α:Type}(hV:rP G aD l)(C:α->List D)(a0 a:α)(j:Nat)(n e:Int)(he:VM.Enters prog F)(hlx:CS prog G 44 [.str s] (.cY [.sl (l.map bL),.int .i64 0,.int .i64 0]) none)(hc:pX G F [.ptr 100000 0,.ptr 100001 0] [(100001,.cells ((C a0).map .d))] [] l 0 (.ok a j) (λ_=>.cY []) (λa=>[(100001,.cells ((C a).map .d))]))(hj:j<l.length)(a2R:a2v l j=.bad n e):
  CHd prog G 15 ⟨[.d (.str s),.clo F [.ptr 100001 0]],[(100001,.cells ((C a0).map .d))],[]⟩ (.cY [.int .i64 n,.int .i64 e]):=by
 intro base R μ args w hr;refine calls_of_wp_defers func15 rfl ?_;have hr0:=Rel.frame ntmps15 rfl hr;refine SW.e4o (T:=λe' s'=>e'=.normal/\yE s' (b8P s F l [(100001,.cells ((C a0).map .d))])) ?h hr0 (λs' R' μ' a' w' q1 q2 q3=>?_) (λe' s' R' μ' a' w' q0 q1 q2 q3=>(q0 q1.1).elim)
 case h=>refine SW.xk ?_;simp;refine SW.xk ?_;simp;refine jT.mk yZ hlx ?_;simp;refine SW.xk ?_;simp[List.replicate]
 .refine b0W rfl (q2.a3N q1.2) λa1 hr1=>?_;refine wp_seq (wp_mono (DW.frame (t:=4) (u:=5) (Q:=λe s'=>e=.normal/\yE s' (b8Q s F l (C a0))) ?hD (by decide) (by decide) hr1) λe2 a2 w2 ⟨⟨⟨a3,s3,R3,μ3,h0,⟨h1,h2⟩,h3,h4⟩,f4⟩,f5⟩=>?_)
  case hD=>simp[List.replicate]
  .subst h0 h1;have hr3:=h3.a3N h2;have f4:a3.eval (.tmp 4)=a1.eval (.tmp 4):=f4 (by simp);have f5:a3.eval (.tmp 5)=a1.eval (.tmp 5):=f5 (by simp);have m4:μ3 4=μ' 4:=by have k1:=hr3.eJ (x:=.tmp 4) (k:=4) (off:=0) rfl;have k2:=hr1.eJ (x:=.tmp 4) (k:=4) (off:=0) rfl;rw[f4,k2]at k1;exact((Addr.mk.inj (Option.some.inj (Value.pointer.inj k1))).1).symm
   have m5:μ3 5=μ' 5:=by have k1:=hr3.eJ (x:=.tmp 5) (k:=5) (off:=0) rfl;have k2:=hr1.eJ (x:=.tmp 5) (k:=5) (off:=0) rfl;rw[f5,k2]at k1;exact((Addr.mk.inj (Option.some.inj (Value.pointer.inj k1))).1).symm
   have hz:a3.tmps.size=28:=hr3.size;refine wp_seq (wp_mono (DW.frame (t:=4) (u:=5) (Q:=λe s'=>e=.normal/\yE s' (c4j s F l j (C a))) ?hD2 (by decide) (by decide) hr3) λe5 a5 w5 ⟨⟨⟨a6,s6,R6,μ6,h0',⟨h1',h2'⟩,h3',h4'⟩,g4⟩,g5⟩=>?_)
   case hD2=>
    simp[List.replicate];refine b2K.mk (a1D he hc [(100000,22),(100001,100001)] (λa j hx=>?_) ?_ ?_ ?_ rfl rfl (λa2 j2 hx=>?_) (λn e hx=>by cases hx))
    .simp[aR,aY,bB,bA,bM,getKey,eX]
    .simp[aR,aY,bB,bA,bM,getKey,eX]
    .simp[aZ,bI,rk]
    .simp[aZ,bI,rk,dE,dM,kI]
    .cases hx;simp[bJ,aZ,bI,rk,dE,dM,bW,kU,jF,eN,kI]
   .subst h0' h1';have hr6:=h3'.a3N h2';have g4:a6.eval (.tmp 4)=a3.eval (.tmp 4):=g4 (by simp);have g5:a6.eval (.tmp 5)=a3.eval (.tmp 5):=g5 (by simp);have n4:μ6 4=μ' 4:=by have k1:=hr6.eJ (x:=.tmp 4) (k:=4) (off:=0) rfl;have k2:=hr1.eJ (x:=.tmp 4) (k:=4) (off:=0) rfl;rw[g4,f4,k2]at k1;exact((Addr.mk.inj (Option.some.inj (Value.pointer.inj k1))).1).symm
    have n5:μ6 5=μ' 5:=by have k1:=hr6.eJ (x:=.tmp 5) (k:=5) (off:=0) rfl;have k2:=hr1.eJ (x:=.tmp 5) (k:=5) (off:=0) rfl;rw[g5,f5,k2]at k1;exact((Addr.mk.inj (Option.some.inj (Value.pointer.inj k1))).1).symm
    have h8:a6.eval (.tmp 8)=.pointer (some ⟨μ6 22,0,none⟩):=hr6.eJ rfl;have hz6:a6.tmps.size=28:=hr6.size;refine wp_seq (wp_region_list ?_);have hr7:=hr6.put (dst:=some 26) (v:=.pointer (some ⟨μ6 22,0,none⟩)) (dv:=.undef) (act:=.no) (.undef _) trivial;have a0Q:finish (c4j s F l j (C a)) (some 26) .undef .no=c4j s F l j (C a):=by simp[finish,oL,dF,kG,List.replicate]
    rw[a0Q]at hr7;refine tE (w':=w5) (v:=.pointer (some ⟨μ6 22,0,none⟩)) rfl (.inl (by show(pure (Next.value (a6.eval (.tmp 8))):Sem Next).run _ w5=_;rw[h8];rfl)) rfl ?_
    change wpList _ _ _ _ {a6.put (some 26) (.pointer (some ⟨μ6 22,0,none⟩))with defers:=[d4M (.pointer (some ⟨μ' 4,0,none⟩)) (.pointer (some ⟨μ' 5,0,none⟩))]} w5
    generalize ha7:a6.put (some 26) (.pointer (some ⟨μ6 22,0,none⟩))=a7 at hr7|-;have e26:a7.eval (.tmp 26)=.pointer (some ⟨μ6 22,0,none⟩):=by rw[<-ha7];exact eM (by omega)
    have hw:∀(o:Oper) y,o.guard=none->Region.wanted o y=true:=λo y hg=>by unfold Region.wanted;rw[hg]
    unfold wpList;rw[if_pos (hw _ _ rfl)];left;unfold Oper.wp;have e2:∀(o:Oper),o.op=.call {callee:=.value (.func 46),args:=#[.tmp 26],argTypes:=#[76]}->(execOp a7.eval o).run prog w5=.ok (.enter 46 (#[.pointer (some ⟨μ6 22,0,none⟩)]++ #[])) w5:=λo ho=>by
     have hi:=a1P (.mk func46 rfl) #[.pointer (some ⟨μ6 22,0,none⟩)] #[] w5;have f7S:a7.tmps[26]?.getD undef=.pointer (some ⟨μ6 22,0,none⟩):=by simpa[Act.eval]using e26
     simp[execOp,ho,resolve,f7S,Deferred.ofValue,Act.eval]at hi|-;exact hi
    show Oper.upon _ _ _ _ _ ((execOp a7.eval _).run prog w5)
    rw[e2 _ (by rfl),Oper.upon_enter];have hce:=c1Q (G:=G) hV j hj;rw[a2R]at hce;refine(b1R.rG (st:=c4j s F l j (C a)) hce [(100000,22)] («g2X» :=[.ptr 22 0]) (ls:=[]) (rest:=[]) (a7Y 0 0) (by simp[aR,aY,bB,bA,bM,getKey]) (by simp[aZ,bI,rk]) (by simp[aZ,bI,rk,dE,dM,kI]) rfl rfl (λk o hk=>?_) hr7 rfl (λi d hd=>?_) (λi l h=>by simp at h)).mono ?_
    .simp only[a7Y,getKey]at hk;split at hk
     .rename_i hk4;subst hk4;exact⟨by simpa[getKey]using hk,by simp[rk]⟩
     .split at hk
      .rename_i hk5;subst hk5;exact⟨by simpa[getKey]using hk,by simp[rk]⟩
      .cases hk
    .match i,hd with
     |0,hd=>simp at hd;subst hd;exact(TV.ptr 22 0:TV R6 μ6 w5 (.pointer (some ⟨μ6 22,0,none⟩)) _)
    .rintro e' w8 ⟨R8,rfl,hr8,hs8⟩;have hP:=a9N n e hr8 rfl rfl (λen w'=>∃v R',en=.returned v/\(∀μ',TV R' μ' w' v (.cY [.int .i64 n,.int .i64 e]))/\Step base R w R' w'/\∀b o,R' b o->b<w'.heap.size) λv R9 w9 hv hs9 hb9=>by exact⟨v,R9,rfl,hv,(((q3.trans h4).trans h4').trans hs8).trans hs9,hb9⟩
     rw[n4,n5]at hP;exact hP
end
section
def PzR{α:Type}(r:jA α):Prop:=∀n e,r=.bad n e->e≠0
def bG{α:Type}(x:bE α):Prop:=∀i,PzR (x i)
section
variable {kw:Nm->Bool} {l:List Tok} {α β:Type}
theorem PzR.ok{a:α}{i:Nat}:PzR (.ok a i):=λn e h=>by cases h
variable{c:Prop}
theorem PzR.ite[Decidable c]{x y:jA α}(h:PzR x)(h':PzR y):PzR (if c then x else y):=by
 split
 .exact h
 .exact h'
theorem bG.at{x:bE α}(h:bG x)(i:Nat):PzR (x i):=h i
theorem bG.bZ(a:α):bG (pure a:bE α):=λi=>PzR.ok
theorem bG.dB{x:bE α}{f:α->bE β}(h:bG x)(hf:∀a,bG (f a)):bG (x >>=f):=λi n e hr=>by
 rw[bX]at hr;cases hk:x i with
 |bad n' e'=>rw[hk]at hr;cases hr;exact h i n e hk
 |ok a j=>rw[hk]at hr;exact hf a j n e hr
theorem bG.ite[Decidable c]{x y:bE α}(h:bG x)(h':bG y):bG (if c then x else y):=by
 split
 .exact h
 .exact h'
theorem bG.failed:bG (dN l:bE α):=λi n e h=>by unfold dN at h;cases h;decide
theorem bG.exp:∀s:List Nm,bG (aQ l s)
 |[]=>bG.bZ ()
 |s::r=>λi=>PzR.ite (bG.exp r (i+1)) (bG.failed i)
theorem bG.skip(s:Nm):bG (cD l s):=λi=>PzR.ite PzR.ok PzR.ok
theorem bG.take(ok:Tok->Bool):bG (mH l ok):=λi=>PzR.ite PzR.ok (bG.failed i)
theorem bG.loop{c:Nm}{one:α->bE α}(h:∀a,bG (one a)):∀(g:Nat)(a:α),bG (eT l c one g a)
 |0,a=>λi n e h=>by unfold eT at h;cases h;decide
 |g+1,a=>λi=>by
  unfold eT;split
  .rename_i n e hb;exact hb▸h a i
  .exact PzR.ite (bG.loop h g _ _) PzR.ok
theorem bG.list{c:Nm}{one:α->bE α}{a:α}(h:∀a,bG (one a)):bG (dI l c one a):=bG.loop h _ a
theorem bG.b0o{c:Nat->Bool}{one:α->bE α}(h:∀a,bG (one a)):∀(g:Nat)(a:α),bG (eE c one g a)
 |0,a=>λi n e h=>by unfold eE at h;cases h;decide
 |g+1,a=>λi=>by
  unfold eE;refine PzR.ite ?_ PzR.ok;split
  .rename_i n e hb;exact hb▸h a i
  .exact bG.b0o h g _ _
theorem bG.many{c:Nat->Bool}{one:α->bE α}{a:α}(h:∀a,bG (one a)):bG (pK l c one a):=bG.b0o h _ a
theorem bG.chain{ops:List (Nm×Int)}{one:bE cP}(h:bG one):∀(g:Nat)(e:cP),bG (eU l ops one g e)
 |0,a=>λi n e h=>by unfold eU at h;cases h;decide
 |g+1,a=>λi=>by
  unfold eU;split
  .exact PzR.ok
  .split
   .rename_i n e hb;exact hb▸h (i+1)
   .exact bG.chain h g _ _
theorem NZ{p:Prop}(h:p:=by repeat' first|assumption|exact bG.at (by assumption) _|exact PzR.ok|exact bG.bZ _|exact bG.exp _|exact bG.skip _|exact bG.take _|exact bG.failed|exact hN _ _|refine bG.dB ?_ λ_=>?_|refine bG.ite ?_ ?_|refine bG.list λ_=>?_|refine bG.many λ_=>?_|refine bG.chain ?_ _ _|refine PzR.ite ?_ ?_|split|refine bG.at ?_ _|intro _):p:=h
theorem bG.words:bG (gD kw l):=by unfold gD;exact NZ
theorem bG.vars(v:Bool):bG (qC kw l v):=by unfold qC;exact NZ
theorem bG.base:bG (gO kw l):=by unfold gO;exact NZ
theorem bG.yU:bG (qX kw l):=by unfold qX;exact NZ
theorem bG.head(m:Int):bG (tZ kw l m):=by have:=bG.words (kw:=kw) (l:=l);unfold tZ;exact NZ
variable {andP:Pr->Pr->Pr} {aD:List Tok->Nat->Nat->jA Pr} (hN:∀i e,PzR (aD l i e))
include hN
theorem bG.pred:bG (kY aD l):=λi=>hN i _
section
variable {ty:bE Ty} (ht:bG ty)
include ht
theorem bG.b6Y:bG (vC andP aD l ty):=by have:=bG.pred hN;unfold vC;exact NZ
theorem bG.a1e:bG (kO kw andP aD l ty):=by have:=bG.base (kw:=kw) (l:=l);have:=bG.b6Y (andP:=andP) hN ht;unfold kO;exact NZ
theorem bG.c6j:bG (tB kw andP aD l ty):=by have:=bG.pred hN;have:=bG.a1e (kw:=kw) (andP:=andP) hN ht;unfold tB;exact NZ
omit hN in
theorem bG.c6k:bG (vD kw l ty):=by unfold vD;exact NZ
theorem bG.c2O:bG (wO kw andP aD l ty):=by have:=bG.base (kw:=kw) (l:=l);have:=bG.b6Y (andP:=andP) hN ht;have:=bG.c6j (kw:=kw) (andP:=andP) hN ht;have:=bG.c6k (kw:=kw) (l:=l) ht;unfold wO;exact NZ
end
theorem bG.a7n:∀n,bG (xJ kw andP aD l n)
 |0=>λi n e h=>by unfold xJ at h;cases h;decide
 |n+1=>bG.c2O hN (bG.a7n n)
theorem bG.typ:bG (mP kw andP aD l):=bG.a7n hN _
section
variable {ex:Nat->bE cP} (hx:∀k,bG (ex k))
include hx
theorem bG.b1J:bG (uF kw andP aD l ex):=by have:=bG.typ (kw:=kw) (andP:=andP) hN;have h0:=hx 0;unfold uF yW qW jB oN;exact NZ
theorem bG.unG:bG (a2t kw andP aD l ex):=by have:=bG.b1J (kw:=kw) (andP:=andP) hN hx;have:=hx 7;unfold a2t;exact NZ
theorem bG.a6w:bG (pL kw andP aD l ex):=by have:=bG.unG (kw:=kw) (andP:=andP) hN hx;unfold pL a8p yX;exact NZ
theorem bG.a8X:bG (xK kw andP aD l ex):=by have:=bG.a6w (kw:=kw) (andP:=andP) hN hx;have:=hx 3;unfold xK a0f;exact NZ
theorem bG.exG:bG (a3n kw andP aD l ex):=by have:=bG.a8X (kw:=kw) (andP:=andP) hN hx;have:=bG.typ (kw:=kw) (andP:=andP) hN;have:=bG.words (kw:=kw) (l:=l);have:=hx 0;unfold a3n a0d sD a0e jB c0V b3p yX;exact NZ
end
theorem bG.exF:∀n k,bG (uG kw andP aD l n k)
 |0,k=>λi n e h=>by unfold uG at h;cases h;decide
 |n+1,k=>by unfold uG;exact bG.ite (bG.unG hN (bG.exF n)) (bG.ite (bG.a8X hN (bG.exF n)) (bG.exG hN (bG.exF n)))
theorem bG.expr:bG (qD kw andP aD l):=bG.exF hN _ _
theorem bG.sig:bG (rN kw andP aD l):=by have:=bG.typ (kw:=kw) (andP:=andP) hN;have:=bG.pred hN;have:=bG.yU (kw:=kw) (l:=l);have:=bG.vars (kw:=kw) (l:=l) false;unfold rN qY;exact NZ
theorem bG.defn:bG (uH kw andP aD l):=by have:=bG.sig (kw:=kw) (andP:=andP) hN;have:=bG.expr (kw:=kw) (andP:=andP) hN;have:=bG.head (kw:=kw) (l:=l) 0;have:=bG.head (kw:=kw) (l:=l) 1;have:=bG.head (kw:=kw) (l:=l) 2;unfold uH vE;exact NZ
theorem bG.data:bG (a5r kw andP aD l):=by have:=bG.typ (kw:=kw) (andP:=andP) hN;have:=bG.vars (kw:=kw) (l:=l) false;unfold a5r b6W;exact NZ
theorem bG.cls:bG (a1A kw andP aD l):=by have:=bG.typ (kw:=kw) (andP:=andP) hN;unfold a1A;exact NZ
theorem bG.inst:bG (a7j kw andP aD l):=by have:=bG.defn (kw:=kw) (andP:=andP) hN;have:=bG.a1e (kw:=kw) (andP:=andP) hN (bG.typ (kw:=kw) (andP:=andP) hN);have:=bG.yU (kw:=kw) (l:=l);unfold a7j;exact NZ
theorem bG.e2Y:bG (a7k kw aD l):=by have:=bG.pred hN;have:=bG.words (kw:=kw) (l:=l);unfold a7k;exact NZ
theorem bG.e2Z:bG (a7l kw aD l):=by have:=bG.pred hN;have:=bG.vars (kw:=kw) (l:=l) true;unfold a7l;exact NZ
theorem bG.decl(m:sC):bG (a2u kw andP aD l m):=by have:=bG.defn (kw:=kw) (andP:=andP) hN;have:=bG.data (kw:=kw) (andP:=andP) hN;have:=bG.cls (kw:=kw) (andP:=andP) hN;have:=bG.inst (kw:=kw) (andP:=andP) hN;have:=bG.e2Y (kw:=kw) hN;have:=bG.e2Z (kw:=kw) hN;unfold a2u;exact NZ
theorem bG.mod:bG (b6X kw andP aD l):=by unfold b6X;exact bG.many λm=>bG.dB (bG.decl hN m) λ_=>NZ
end
end
section
open Go Go.VM
variable {G:GT}
theorem a4w{α:Type}(hG:G 1=some gC)(hS:G 0=some a0A)(C:α->List D)(a0:α){F:FuncId}(he:VM.Enters prog F)(x:List Tok->bE α)(s:List UInt8)(hs:s.length<=900000000)(hc:∀l:List Tok,rP G vP l->(∀i, -9223372036854775807<=(aH l i).n/\(aH l i).n<=9223372036854775807)->0<l.length->pX G F [.ptr 100000 0,.ptr 100001 0] [(100001,.cells ((C a0).map .d))] [] l 0 (x l 0) (λ_=>.cY []) λa=>[(100001,.cells ((C a).map .d))])(ha:∀(l:List Tok) a j,pE l->a5s vP l->x l 0=.ok a j->j<l.length):
  match dQ x s with
  |.ok a _=>CH prog G 15 ⟨[.d (.str s),.clo F [.ptr 100001 0]],[(100001,.cells ((C a0).map .d))],[]⟩ ⟨[.cY [.int .i64 0,.int .i64 0]],[(100001,.cells ((C a).map .d))],[]⟩
  |.bad n e=>CHd prog G 15 ⟨[.d (.str s),.clo F [.ptr 100001 0]],[(100001,.cells ((C a0).map .d))],[]⟩ (.cY [.int .i64 n,.int .i64 e]):=by
 have hlx:=b9J hS s hs;unfold dQ;by_cases hl:40000<s.length
 .rw[if_pos hl]at hlx|-;exact b8O F s 0 7 (by decide) hlx
 .rw[if_neg hl]at hlx|-;cases hr:jX jZ s 0 1 false with
  |error n=>rw[hr]at hlx;exact b8O F s n 14 (by decide) hlx
  |ok l=>
   rw[hr]at hlx;have hV:rP G vP l:=d4J hG hr;have hN:=c1V hr;have a2i:0<l.length:=g3D.2 hV.fin.1;have qM:=hc l hV hN a2i;simp only;cases hx:x l 0 with
   |bad n e=>rw[hx]at qM;exact d8V hV C a0 n e he hlx qM
   |ok a j=>
    rw[hx]at qM;have hj:=ha l a j hV.fin hV.oY hx;simp only;cases a2R:a2v l j with
    |bad n e=>exact d4P hV C a0 a j n e he hlx qM hj a2R
    |ok u k=>
     have hk:a2v l j=.ok () j:=by
      unfold a2v at a2R|-;split at a2R
      .rename_i h0;rw[if_pos h0]
      .unfold dN at a2R;cases a2R
     exact e4p hV C a0 a j he hlx qM hj hk
variable{s:List UInt8}
theorem a7Z{α:Type}{x:List Tok->bE α}(h:∀(l:List Tok) n e,pE l->a5s vP l->0<l.length->x l 0=.bad n e->e≠0){n e:Int}(hb:dQ x s=.bad n e):e≠0:=by
 unfold dQ at hb;split at hb
 .cases hb;decide
 .split at hb
  .cases hb;decide
  .rename_i l hl;have hE:=b5U (a1z s 0 1 false l hl);have a2i:0<l.length:=g3D.2 hE.1;have a0Q:pE l:=by
    refine⟨hE.1,hE.2 _ ?_⟩;unfold aH;rw[if_pos (by omega),g4b,g3d (by omega)]
    rfl
   split at hb
   .rename_i n' e' hx;cases hb;exact h l _ _ a0Q (λe i p j hi hx=>c4h hE.2 e i p j hi hx) a2i hx
   .rename_i a j hx;split at hb
    .rename_i n' e' he;cases hb;unfold a2v at he;split at he
     .cases he
     .unfold dN at he;cases he;decide
    .cases hb
theorem b8R(l:List Tok):∀i e,PzR (vP l i e):=λi e n x h=>by
 unfold vP at h;split at h
 .cases h;decide
 .split at h
  .cases h
  .rename_i hc;cases h;exact hc
theorem f0h(l:List Tok):∀i e n x,i<l.length->vP l i e=.bad n x->x≠0:=λi e n x _ h=>b8R l i e n x h
abbrev moN:List D:=[.aE,.aE,.aE,.aE,.aE,.aE]
def moC:Option sC->List D
 |none=>moN
 |some m=>a9v m
def b0X{α:Type}:jA α->jA (Option α)
 |.ok a j=>.ok (some a) j
 |.bad n e=>.bad n e
section
variable {aD:List Tok->Nat->Nat->jA Pr} {l:List Tok} (hV:rP G aD l) (hN:∀i, -9223372036854775807<=(aH l i).n/\(aH l i).n<=9223372036854775807)
include hV hN
theorem b8S(i:Nat)(hi:i<l.length):pX G 16 [.ptr 100000 0,.ptr 100001 0] [(100001,.cells ((moC none).map .d))] [] l i (b0X (b6X aL bF aD l i)) (λ_=>.cY []) λa=>[(100001,.cells ((moC a).map .d))]:=by
 have h:=c0k hV hN i hi;cases hr:b6X aL bF aD l i with
 |ok m j=>rw[hr]at h;intro base R μ args w hrel;refine(h base R μ args w (hrel.a3N ⟨by simp[moC],by simp[a0U,moC],by simp[moC],by simp[bM,moC,a0U,getKey]⟩)).mono ?_;rintro e w' ⟨v,R',μ',h1,h2,h3⟩;exact⟨v,R',μ',h1,h2.a3N ⟨by simp[moC,a9v],by simp[a0U,moC,a9v],by simp[moC,a9v],by simp[bM,moC,a9v]⟩,h3⟩
 |bad n e=>rw[hr]at h;intro base R μ args w hrel;exact h base R μ args w (hrel.a3N ⟨by simp[moC],by simp[a0U,moC],by simp[moC],by simp[bM,moC,a0U,getKey]⟩)
end
abbrev tkD(l:List Tok):D:=.sl (l.map bL)
theorem gG:VM.Enters prog 200:=.mk func200 rfl
theorem sI(l:List Tok)(i:Nat)(s:List UInt8)(hl:l.length<=900000000:=by omega):CS prog G 200 [tkD l,.int .i64 i,.str s] (.d (.bool (jP l i s))) none:=by
 refine CS.aW func200 rfl ntmps200 rfl ?_;by_cases aG:i<l.length
 .rw[b0N aG];obtain⟨t,ht⟩:∃t,l[i]=t:=⟨_,rfl⟩;rw[ht];simp[aG,ht,bL];by_cases h1:t.kind=4
  .by_cases h2:t.text=s<;>simp[h1,h2,aG,ht,bL]
  .simp[h1,aG,ht,bL]
 .rw[c3U aG];simp[aG]
theorem b0Y(l:List Tok)(i:Nat)(hl:l.length<=900000000:=by omega):CS prog G 240 [tkD l,.int .i64 i] (.d (.bool (wtB l i))) none:=by
 refine CS.aW func240 rfl ntmps240 rfl ?_;by_cases aG:i<l.length
 .rw[c3W aG];obtain⟨t,ht⟩:∃t,l[i]=t:=⟨_,rfl⟩;rw[ht];simp[aG,ht,bL];by_cases h1:t.kind=1
  .simp[h1,aG,ht,bL]
  .by_cases h2:t.kind=2<;>simp[h1,h2,aG,ht,bL]
 .rw[c3X aG];simp[aG]
def opX(l:List Tok)(n k:Nat):Option (Int×Bool):=if k=6 then wL l n else if k=2 then(if jP l n [61,62]=true then some (17,false) else none) else(a4e l n k).map λo=>(o,false)
def a4Q:Option (Int×Bool)->DV
 |some (o,e)=>.cY [.int .i64 o,.bool e,.bool true]
 |none=>.cY [.int .i64 0,.bool false,.bool false]
theorem c4l(o):qK (a4Q o)=true:=by
 cases o with
 |none=>rfl
 |some q=>obtain⟨a,b⟩:=q;rfl
theorem d8W{l:List Tok}{n k:Nat}(h:∀s,jP l n s=false):opX l n k=none:=by
 unfold opX wL a4e;simp only[h];split
 .rfl
 split
 .simp
 .simp
variable{P:Program}{Q:Exit->St->Prop}{x y:Code}{st:St}
theorem kQ{c:Operand}(hc:st.eval G c=.d (.bool false))(h:SW P G y st Q):SW P G (.cond c x y) st Q:=λbase R μ a w hr=>wp_cond (t:=false) (hr.a2f hc) (h base R μ a w hr)
def oK(t:Tok)(k v:Nat):St:=⟨List.set (([.undef,.undef,.d (.int .i64 k),.undef,.undef,.undef,.d (.int .i64 0),.d (.bool false),.d (.bool false),.d (.str t.text)]:List DV)++List.replicate 108 .undef) v (.d (.bool false)),[],[]⟩
theorem b8T(l:List Tok)(n k:Nat)(hk:1<=k/\k<=10:=by omega)(hl:l.length<=900000000:=by omega):CS prog G 202 [tkD l,.int .i64 n,.int .i64 k] (a4Q (opX l n k)) none:=by
 obtain⟨o,ho⟩:∃o,opX l n k=o:=⟨_,rfl⟩;rw[ho];refine CS.a3U func202 rfl ntmps202 rfl ?_;refine SW.jC (SW.vk ?_);simp;by_cases aG:n<l.length;rotate_left
 .rw[d8W λs=>c3U aG s]at ho;subst ho;have hge:l.length<=n:=g3I aG;refine SW.jC (SW.vk ?_);simp[hge,a4Q]
 have hge:¬l.length<=n:=by omega
 obtain⟨t,ht⟩:∃t,l[n]=t:=⟨_,rfl⟩;by_cases h4:t.kind=4;rotate_left
 .rw[d8W λs=>by rw[b0N aG,ht];simp[h4]]at ho;subst ho;refine SW.jC (SW.vk ?_);simp[hge,aG,ht,bL];simp[h4,a4Q]
 have hs:∀s,jP l n s=decide (t.text=s):=λs=>by rw[b0N aG,ht];simp[h4]
 unfold opX wL a4e at ho;simp only[hs]at ho;refine oA ⟨[.d (tkD l),.d (.int .i64 n),.d (.int .i64 k),.undef,.undef,.undef,.d (.int .i64 0),.d (.bool false),.d (.bool false)]++List.replicate 109 .undef,[],[]⟩ (SW.vk ?_) ?_
 .simp[hge,aG,ht,bL];simp[h4,List.replicate]
 refine SW.jC (SW.vk ?_);simp[aG,ht,bL,List.replicate];refine SW.jC (SW.c9E ?_);by_cases q0:k=1/\t.text=[60,61,62]
 .obtain⟨rfl,e⟩:=q0;simp[opL,cmpL,e]at ho;subst ho;refine SW.vk ?_;simp[e,a4Q,oK,List.replicate]
 refine oA (oK t k 27) (SW.vk ?_) (kQ rfl ?_)
 .by_cases c:k=1
  .have e:¬t.text=[60,61,62]:=λe=>q0 ⟨c,e⟩;subst c;simp[e,oK,List.replicate]
  .have c':¬(k:Int)=1:=by omega
   simp[c',oK,List.replicate]
 by_cases q1:k=2/\t.text=[61,62]
 .obtain⟨rfl,e⟩:=q1;simp[opL,cmpL,e]at ho;subst ho;refine SW.vk ?_;simp[e,a4Q,oK,List.replicate]
 refine oA (oK t k 34) (SW.vk ?_) (kQ rfl ?_)
 .by_cases c:k=2
  .have e:¬t.text=[61,62]:=λe=>q1 ⟨c,e⟩;subst c;simp[e,oK,List.replicate]
  .have c':¬(k:Int)=2:=by omega
   simp[c',oK,List.replicate]
 by_cases q2:k=3/\t.text=[124,124]
 .obtain⟨rfl,e⟩:=q2;simp[opL,cmpL,e]at ho;subst ho;refine SW.vk ?_;simp[e,a4Q,oK,List.replicate]
 refine oA (oK t k 41) (SW.vk ?_) (kQ rfl ?_)
 .by_cases c:k=3
  .have e:¬t.text=[124,124]:=λe=>q2 ⟨c,e⟩;subst c;simp[e,oK,List.replicate]
  .have c':¬(k:Int)=3:=by omega
   simp[c',oK,List.replicate]
 by_cases q3:k=4/\t.text=[38,38]
 .obtain⟨rfl,e⟩:=q3;simp[opL,cmpL,e]at ho;subst ho;refine SW.vk ?_;simp[e,a4Q,oK,List.replicate]
 refine oA (oK t k 48) (SW.vk ?_) (kQ rfl ?_)
 .by_cases c:k=4
  .have e:¬t.text=[38,38]:=λe=>q3 ⟨c,e⟩;subst c;simp[e,oK,List.replicate]
  .have c':¬(k:Int)=4:=by omega
   simp[c',oK,List.replicate]
 by_cases q4:k=6/\t.text=[61]
 .obtain⟨rfl,e⟩:=q4;simp[opL,cmpL,e]at ho;subst ho;refine SW.vk ?_;simp[e,a4Q,oK,List.replicate]
 refine oA (oK t k 55) (SW.vk ?_) (kQ rfl ?_)
 .by_cases c:k=6
  .have e:¬t.text=[61]:=λe=>q4 ⟨c,e⟩;subst c;simp[e,oK,List.replicate]
  .have c':¬(k:Int)=6:=by omega
   simp[c',oK,List.replicate]
 by_cases q5:k=6/\t.text=[33,61]
 .obtain⟨rfl,e⟩:=q5;simp[opL,cmpL,e]at ho;subst ho;refine SW.vk ?_;simp[e,a4Q,oK,List.replicate]
 refine oA (oK t k 62) (SW.vk ?_) (kQ rfl ?_)
 .by_cases c:k=6
  .have e:¬t.text=[33,61]:=λe=>q5 ⟨c,e⟩;subst c;simp[e,oK,List.replicate]
  .have c':¬(k:Int)=6:=by omega
   simp[c',oK,List.replicate]
 by_cases q6:k=6/\t.text=[60]
 .obtain⟨rfl,e⟩:=q6;simp[opL,cmpL,e]at ho;subst ho;refine SW.vk ?_;simp[e,a4Q,oK,List.replicate]
 refine oA (oK t k 69) (SW.vk ?_) (kQ rfl ?_)
 .by_cases c:k=6
  .have e:¬t.text=[60]:=λe=>q6 ⟨c,e⟩;subst c;simp[e,oK,List.replicate]
  .have c':¬(k:Int)=6:=by omega
   simp[c',oK,List.replicate]
 by_cases q7:k=6/\t.text=[60,61]
 .obtain⟨rfl,e⟩:=q7;simp[opL,cmpL,e]at ho;subst ho;refine SW.vk ?_;simp[e,a4Q,oK,List.replicate]
 refine oA (oK t k 76) (SW.vk ?_) (kQ rfl ?_)
 .by_cases c:k=6
  .have e:¬t.text=[60,61]:=λe=>q7 ⟨c,e⟩;subst c;simp[e,oK,List.replicate]
  .have c':¬(k:Int)=6:=by omega
   simp[c',oK,List.replicate]
 by_cases q8:k=6/\t.text=[62]
 .obtain⟨rfl,e⟩:=q8;simp[opL,cmpL,e]at ho;subst ho;refine SW.vk ?_;simp[e,a4Q,oK,List.replicate]
 refine oA (oK t k 83) (SW.vk ?_) (kQ rfl ?_)
 .by_cases c:k=6
  .have e:¬t.text=[62]:=λe=>q8 ⟨c,e⟩;subst c;simp[e,oK,List.replicate]
  .have c':¬(k:Int)=6:=by omega
   simp[c',oK,List.replicate]
 by_cases q9:k=6/\t.text=[62,61]
 .obtain⟨rfl,e⟩:=q9;simp[opL,cmpL,e]at ho;subst ho;refine SW.vk ?_;simp[e,a4Q,oK,List.replicate]
 refine oA (oK t k 90) (SW.vk ?_) (kQ rfl ?_)
 .by_cases c:k=6
  .have e:¬t.text=[62,61]:=λe=>q9 ⟨c,e⟩;subst c;simp[e,oK,List.replicate]
  .have c':¬(k:Int)=6:=by omega
   simp[c',oK,List.replicate]
 by_cases q10:k=7/\t.text=[43]
 .obtain⟨rfl,e⟩:=q10;simp[opL,cmpL,e]at ho;subst ho;refine SW.vk ?_;simp[e,a4Q,oK,List.replicate]
 refine oA (oK t k 97) (SW.vk ?_) (kQ rfl ?_)
 .by_cases c:k=7
  .have e:¬t.text=[43]:=λe=>q10 ⟨c,e⟩;subst c;simp[e,oK,List.replicate]
  .have c':¬(k:Int)=7:=by omega
   simp[c',oK,List.replicate]
 by_cases q11:k=7/\t.text=[45]
 .obtain⟨rfl,e⟩:=q11;simp[opL,cmpL,e]at ho;subst ho;refine SW.vk ?_;simp[e,a4Q,oK,List.replicate]
 refine oA (oK t k 104) (SW.vk ?_) (kQ rfl ?_)
 .by_cases c:k=7
  .have e:¬t.text=[45]:=λe=>q11 ⟨c,e⟩;subst c;simp[e,oK,List.replicate]
  .have c':¬(k:Int)=7:=by omega
   simp[c',oK,List.replicate]
 by_cases q12:k=8/\t.text=[42]
 .obtain⟨rfl,e⟩:=q12;simp[opL,cmpL,e]at ho;subst ho;refine SW.vk ?_;simp[e,a4Q,oK,List.replicate]
 refine oA (oK t k 111) (SW.vk ?_) (kQ rfl ?_)
 .by_cases c:k=8
  .have e:¬t.text=[42]:=λe=>q12 ⟨c,e⟩;subst c;simp[e,oK,List.replicate]
  .have c':¬(k:Int)=8:=by omega
   simp[c',oK,List.replicate]
 have uV:o=none:=by
  rw[<-ho]
  clear ho hs h4 ht hge aG hl o
  obtain rfl|rfl|rfl|rfl|rfl|rfl|rfl|rfl|rfl|rfl:k=1\/k=2\/k=3\/k=4\/k=5\/k=6\/k=7\/k=8\/k=9\/k=10:=by omega
  all_goals
   simp at q0 q1 q2 q3 q4 q5 q6 q7 q8 q9 q10 q11 q12;simp[opL,cmpL, *]
 subst uV;refine SW.vk ?_;simp[oK,List.replicate];refine SW.vk ?_;simp[a4Q]
theorem d2h(A:Prop)(st':St)(h1:SW P G x st λe s=>match e with
  |.normal=>A/\yE s st'
  |e=>Q e s)(h2:A->SW P G y st' Q):SW P G (.seq x y) st Q:=SW.jC λbase R μ a w hr=>
 wp_mono (h1 base R μ a w hr) λe a1 w1 ⟨s,R1,μ1,q1,q2,q3⟩=>by
  cases e with
  |normal=>exact⟨s,R1,μ1,λbase R μ a w hr=>h2 q1.1 base R μ a w (hr.a3N q1.2),q2,q3⟩
  |_=>exact⟨s,R1,μ1,q1,q2,q3⟩
def b8U:Option (List UInt8×Nat)->Nat->DV
 |some (s,n),_=>.cY [.str s,.int .i64 n,.bool true]
 |none,j=>.cY [.str [],.int .i64 j,.bool false]
theorem b2M(o)(j):qK (b8U o j)=true:=by
 cases o with
 |none=>rfl
 |some q=>obtain⟨a,b⟩:=q;rfl
def tN:Option (Pr×Nat)->Nat->DV
 |some (p,n),_=>.cY [.agg (prD p),.int .i64 n,.bool true]
 |none,j=>.cY [.agg (prD ⟨0,[],0,[]⟩),.int .i64 j,.bool false]
theorem oE(o)(j):qK (tN o j)=true:=by
 cases o with
 |none=>rfl
 |some q=>obtain⟨a,b⟩:=q;rfl
def a9O:Option (List Pr×Nat)->Nat->DV
 |some (ks,n),_=>.cY [.sl (ks.map qO),.int .i64 n,.bool true]
 |none,j=>.cY [.sl [],.int .i64 j,.bool false]
theorem a9P(o)(j):qK (a9O o j)=true:=by
 cases o with
 |none=>rfl
 |some q=>obtain⟨a,b⟩:=q;rfl
theorem b8V(l:List Tok)(i:Nat)(hl:a0r l)(hi:i<=l.length):CS prog G 226 [tkD l,.int .i64 i] (b8U (pV aL l i) i) none:=by
 have hll:=hl.1;obtain⟨o,ho⟩:∃o,pV aL l i=o:=⟨_,rfl⟩;rw[ho];unfold pV at ho;have hwd:=b0Y (G:=G) l i;refine CS.a3U func226 rfl ntmps226 rfl ?_;refine SW.jC (SW.vk ?_);simp;refine d2h (a7P aL l i=true) ⟨[.d (tkD l),.d (.int .i64 i),.undef,.undef,.d (.str []),.d (.int .i64 0),.d (.bool false)]++List.replicate 133 .undef,[],[]⟩ (SW.vk ?_) (λoB=>?_)
 .simp;refine aC.mk (.mk func240 rfl) hwd ?_;cases hw:wtB l i with
  |false=>rw[if_neg (by simp[a7P,hw])]at ho;subst ho;simp[b8U]
  |true=>
   have aG:=a4f hw;obtain⟨t,ht⟩:∃t,l[i]=t:=⟨_,rfl⟩;have hnm:a7P aL l i=(!aL t.text||decide (t.text=[118])||decide (t.text=[116,97,103])||decide (t.text=[118,97,108])):=by unfold a7P;rw[hw,a7S aG,ht,Bool.true_and]
   rw[hnm]at ho|-;simp[aG,ht,bL];refine aC.mk (.mk func154 rfl) (a3P t.text) ?_;by_cases q1:aL t.text=true
   .by_cases q2:t.text=[118]
    .rw[q2]at q1;simp[q1,q2,aG,ht,bL,List.replicate]
    .by_cases q3:t.text=[116,97,103]
     .rw[q3]at q1;simp[q1,q3,aG,ht,bL,List.replicate]
     .by_cases q4:t.text=[118,97,108]
      .rw[q4]at q1;simp[q1,q4,aG,ht,bL,List.replicate]
      .rw[if_neg (by simp[q1,q2,q3,q4])]at ho;subst ho;simp[q1,q2,q3,q4,aG,ht,bL,b8U]
   .simp[q1,aG,ht,bL,List.replicate]
 .rw[if_pos oB]at ho;have aG:i<l.length:=by unfold a7P at oB;rw[g2Z]at oB;exact a4f oB.1
  rw[a7S aG]at ho;obtain⟨t,ht⟩:∃t,l[i]=t:=⟨_,rfl⟩;rw[ht]at ho;obtain⟨rs,rn,hrr⟩:∃rs rn,pA l l.length (i+1) t.text=(rs,rn):=⟨_,_,rfl⟩;rw[hrr]at ho;subst ho;have hw1:=bC (show i<9223372036854775807 by omega);refine SW.vk ?_;simp[hw1,aG,ht,bL,List.replicate];refine SW.gA (ι:={p:Nat×List UInt8//p.1<=l.length/\p.2.length<=txS (l.take p.1)/\∃f,l.length<=f+p.1/\pA l f p.1 p.2=(rs,rn)}) (λp=>[(1,.d (.int .i64 p.1.1)),(7,.d (.str p.1.2))]) (λ_=>[]) (λ_=>[]) (λp=>l.length-p.1.1) ⟨(i+1,t.text),aG,by have:=a7T aG;rw[ht]at this;simp only;omega,l.length,by omega,hrr⟩ (by simp) ?_;rintro⟨⟨j,s⟩,hj,hs,f,hf,hp⟩;simp only at hj hs hf hp;have hsg:=sI (G:=G) l j [46];have tM:=bC (show j<9223372036854775807 by omega);have vB:IntKind.i64.wrap ((j:Int)+2)=((j+2:Nat):Int):=by rw[wrap64 (by omega)];simp
  have hj3:IntKind.i64.wrap ((j:Int)+3)=((j+3:Nat):Int):=by rw[wrap64 (by omega)];simp
  have hw1:=b0Y (G:=G) l (j+1);have hw2:=b0Y (G:=G) l (j+2);simp;refine aC.mk gG hsg ?_;cases hd:jP l j [46]with
  |false=>rw[b8w hd]at hp;cases hp;simp[b8U]
  |true=>
   have hjl:=mZ hd;obtain⟨f,rfl⟩:∃g,f=g+1:=⟨f-1,by omega⟩;rw[pA,if_pos hd]at hp;simp[tM];refine aC.mk (.mk func240 rfl) hw1 ?_;cases hwt:wtB l (j+1)with
   |true=>
    have vO:=a4f hwt;rw[if_pos hwt]at hp;obtain⟨u,hu⟩:∃u,l[j+1]=u:=⟨_,rfl⟩;have hgr:=b0Q hs vO;rw[a7S vO,hu]at hp;rw[hu]at hgr;have hb:=hl.le hgr;simp at hb;simp[tM,vO,hu,bL]
    repeat (refine cJ (by first|omega|(simp;omega)) ?_;simp[tM,vB,vO,hu,bL])
    exact bD.mk ⟨(j+2,s++([46]++u.text)),vO,hgr,f,by omega,by simpa using hp⟩ (by simp[vB]) (by simp;omega)
   |false=>
    rw[if_neg (by simp[hwt])]at hp;simp[tM];by_cases vO:j+1<l.length;rotate_left
    .rw[if_neg (by rw[d0A vO];simp)]at hp;have f4l:¬(j:Int)+1<(l.length:Int):=by omega
     cases hp;simp[tM,vO,f4l,b8U]
    obtain⟨u,hu⟩:∃u,l[j+1]=u:=⟨_,rfl⟩;have hgr:=b0Q hs vO;rw[b0O vO,a7S vO,hu]at hp;rw[hu]at hgr;have hb:=hl.le hgr;simp at hb;simp[tM,vO,hu,bL];by_cases k3:u.kind=3;rotate_left
    .simp[k3]at hp;obtain⟨rfl,rfl⟩:=hp;simp[k3,tM,vO,hu,bL,b8U]
    simp[k3]at hp;simp[k3,tM,vB,vO,hu,bL];refine aC.mk (.mk func240 rfl) hw2 ?_;cases f0i:wtB l (j+2)with
    |false=>
     rw[if_neg (by simp[f0i])]at hp;simp[k3,tM,vB,vO,hu,bL]
     repeat (refine cJ (by first|omega|(simp;omega)) ?_;simp[tM,vB,vO,hu,bL])
     exact bD.mk ⟨(j+2,s++([46]++u.text)),vO,hgr,f,by omega,by simpa using hp⟩ (by simp[vB]) (by simp;omega)
    |true=>
     rw[if_pos f0i]at hp;have a6p:=a4f f0i;obtain⟨v,hv⟩:∃v,l[j+2]=v:=⟨_,rfl⟩;have c7I:=b4Y hgr a6p;rw[hv]at c7I;rw[a7S a6p,hv]at hp;have hb3:=hl.le c7I;simp at hb3;have b2G:(j:Int)+2<(l.length:Int):=by omega
     have hnn:(0:Int)<=(j:Int)+2:=by omega
     have htn:((j:Int)+2).toNat=j+2:=by omega
     try simp
     refine⟨.mk,?_⟩
     try simp[tM,vB,hj3,vO,a6p,hu,hv,bL,b2G,hnn,htn]
     repeat (refine cJ (by first|omega|(simp;omega)) ?_;simp[tM,vB,hj3,vO,a6p,hu,hv,bL,b2G,hnn,htn])
     exact bD.mk ⟨(j+3,s++([46]++u.text)++v.text),a6p,c7I,f,by omega,by simpa using hp⟩ (by simp[hj3]) (by simp;omega)
def d4R(G:GT)(l:List Tok)(f:Nat):Prop:=∀i k,1<=k->k<=10->i<=l.length->mu l.length i k<=f->CS prog G 178 [tkD l,.int .i64 i,.int .i64 k] (tN (gV aL l f i k) i) none
section
variable {l:List Tok} {f:Nat}
theorem vQ:VM.Enters prog 178:=.mk func178 rfl
theorem a6m(hl:a0r l)(hA:d4R G l f)(n:Nat)(hf:(l.length-n)*12+10<=f):∃j,CS prog G 227 [tkD l,.int .i64 n] (a9O (rF (gV aL l f) l n) j) none:=by
 have hll:=hl.1;obtain⟨o,ho⟩:∃o,rF (gV aL l f) l n=o:=⟨_,rfl⟩;rw[ho];unfold rF at ho;have hsg:=sI (G:=G) l n [40];cases hd:jP l n [40]with
 |false=>rw[if_neg (by simp[hd])]at ho;subst ho;refine⟨n,?_⟩;rw[hd]at hsg;refine CS.aW func227 rfl ntmps227 rfl ?_;simp;refine aC.mk gG hsg ?_;simp[a9O]
 |true=>
  have hnl:=mZ hd;rw[if_pos hd]at ho;rw[hd]at hsg;obtain⟨jj,hjj⟩:∃jj:Nat->Nat->List Pr->Nat,∀g i acc,jj (g+1) i acc=(match gV aL l f (i+1) 1 with
   |none=>i
   |some (p,m)=>if jP l m [41]=true then i else if jP l m [44]=true then jj g m (acc++[p]) else i):=
   ⟨λg=>Nat.rec (motive:=λ_=>Nat->List Pr->Nat) (λ_ _=>0) (λg ih i acc=>match gV aL l f (i+1) 1 with
   |none=>i
   |some (p,m)=>if jP l m [41]=true then i else if jP l m [44]=true then ih m (acc++[p]) else i) g,λg i acc=>rfl⟩
  obtain⟨z,hz⟩:∃z,jj l.length n []=z:=⟨_,rfl⟩;refine⟨z,?_⟩;refine CS.aW func227 rfl ntmps227 rfl ?_;simp;refine aC.mk gG hsg ?_;simp;refine SW.gA (ι:={p:Nat×List Pr//p.1<l.length/\(l.length-p.1)*12+10<=f/\p.2.length<=p.1/\∃g,l.length<=g+p.1/\kZ (gV aL l f) l g p.1 p.2=o/\jj g p.1 p.2=z}) (λp=>[(1,.d (.int .i64 p.1.1)),(7,.d (.sl (p.1.2.map qO)))]) (λ_=>[]) (λ_=>[(52,[.t 7])]) (λp=>l.length-p.1.1) ⟨(n,[]),hnl,hf,by simp,l.length,by omega,ho,hz⟩ (by simp) ?_;rintro⟨⟨i,acc⟩,hi,hf,hal,g,hg,hR,hz⟩;simp only at hi hf hal hg hR hz;have hi1:=bC (show i<9223372036854775807 by omega);obtain⟨g,rfl⟩:∃h,g=h+1:=⟨g-1,by omega⟩;rw[kZ]at hR;rw[hjj]at hz;have hat:=hA (i+1) 1 (by omega) (by omega) hi (by rw[d8B hi];exact hf);simp[hi1];refine aC.mk (hkl:=oE _ _) vQ hat ?_;cases hr:gV aL l f (i+1) 1 with
  |none=>rw[hr]at hR hz;simp only at hR hz;subst hR hz;simp[tN,a9O]
  |some q=>
   obtain⟨p,m⟩:=q;have wC:=kS aL l f _ _ _ _ hr;rw[hr]at hR hz;simp only at hR hz;have hm1:=bC (show m<9223372036854775807 by omega);have hs1:=sI (G:=G) l m [41];have hs2:=sI (G:=G) l m [44];have f3T:=c7J acc;have hap:acc.map qO++[prD p]=(acc++[p]).map qO:=by simp[dH]
   simp[tN,rg1];have mI:(acc.length+1)*57<=140737488355328:=by omega
   simp[mI];refine aC.mk gG hs1 ?_;cases hd1:jP l m [41]with
   |true=>rw[if_pos hd1]at hR;subst hR;simp[hm1,a9O,dH]
   |false=>
    rw[if_neg (by simp[hd1])]at hR hz;simp;refine aC.mk gG hs2 ?_;cases hd2:jP l m [44]with
    |false=>rw[if_neg (by simp[hd2])]at hR hz;subst hR hz;simp[a9O]
    |true=>
     rw[if_pos hd2]at hR hz;have hml:=mZ hd2;have hmu:(l.length-m)*12+10<=f:=by omega
     have hac:(acc++[p]).length<=m:=by simp;omega
     simp;exact bD.mk ⟨(m,acc++[p]),hml,hmu,hac,g,by omega,hR,hz⟩ (by simp[dH]) (by simp;omega)
theorem b5c(hl:a0r l)(hA:d4R G l f)(i k:Nat)(op:Int)(hk:1<=k/\k<=10)(hi:i+1<=l.length)(hf:mu l.length (i+1) k<=f):CS prog G 201 [tkD l,.int .i64 i,.int .i64 k,.int .i64 op] (tN ((gV aL l f (i+1) k).map λq=>((⟨op,[],0,[q.1]⟩:Pr),q.2)) i) none:=by
 have hll:=hl.1;have hi1:=bC (show i<9223372036854775807 by omega);have hat:=hA (i+1) k hk.1 hk.2 hi hf;refine CS.aW func201 rfl ntmps201 rfl ?_;simp[hi1];refine aC.mk (hkl:=oE _ _) vQ hat ?_;cases gV aL l f (i+1) k with
 |none=>simp[tN]
 |some q=>obtain⟨p,n⟩:=q;simp[tN,rg1,dH]
end
def aSt(l:List Tok)(i:Nat)(t:Tok)(v:Nat):St:=⟨List.set (([.d (tkD l),.d (.int .i64 i),.undef,.undef,.ptr 4 0,.d (.int .i64 0),.d (.bool false),.ptr 7 0]:List DV)++List.replicate 182 .undef) v (.d (.bool false)),[(4,.cells [.d (.int .i64 0),.d (.str []),.d (.int .i64 0),.d .aE]),(7,.cells [.d (.int .i64 t.kind),.d (.str t.text),.d (.int .i64 t.n),.d (.int .i64 t.line)])],[]⟩
section
variable {l:List Tok} {f:Nat}
theorem d0K(hl:a0r l)(hA:d4R G l f)(i:Nat)(hi:i<=l.length)(hf:mu l.length i 10<=f+1):CS prog G 199 [tkD l,.int .i64 i] (tN (uM aL (gV aL l f) l i) i) none:=by
 have hll:=hl.1;obtain⟨o,ho⟩:∃o,uM aL (gV aL l f) l i=o:=⟨_,rfl⟩;rw[ho];unfold uM at ho;refine CS.a3U func199 rfl ntmps199 rfl ?_;refine SW.jC (SW.vk ?_);simp;refine SW.jC (SW.vk ?_);simp;by_cases aG:i<l.length;rotate_left
 .rw[g3G (by omega)]at ho;subst ho;have hge:l.length<=i:=g3I aG;simp[hge,tN]
 have hge:¬l.length<=i:=by omega
 rw[g3d aG]at ho;obtain⟨t,ht⟩:∃t,l[i]=t:=⟨_,rfl⟩;rw[ht]at ho;simp only at ho;have hi1:=bC (show i<9223372036854775807 by omega);have hi2:IntKind.i64.wrap ((i:Int)+2)=((i+2:Nat):Int):=by rw[wrap64 (by omega)];simp
 have hi3:IntKind.i64.wrap ((i:Int)+3)=((i+3:Nat):Int):=by rw[wrap64 (by omega)];simp
 have hi4:IntKind.i64.wrap ((i:Int)+4)=((i+4:Nat):Int):=by rw[wrap64 (by omega)];simp
 simp[hge];refine SW.jC (SW.vk ?_);simp[aG,ht,bL];refine d2h (b0R (gV aL l f) l i=o) (aSt l i t 133) (SW.c9E ?_) (λho=>?_)
 .by_cases k3:t.kind=3
  .rw[if_pos k3]at ho;subst ho;refine SW.vk ?_;simp[k3,hi1,tN]
  rw[if_neg k3]at ho;refine oA (aSt l i t 33) (SW.vk ?_) (kQ rfl ?_)
  .simp[k3,aSt,List.replicate]
  by_cases kt:t.kind=1/\t.text=[116,114,117,101]
  .rw[if_pos kt]at ho;subst ho;refine SW.vk ?_;simp[kt.1,kt.2,hi1,tN,aSt,List.replicate]
  rw[if_neg kt]at ho;refine oA (aSt l i t 42) (SW.vk ?_) (kQ rfl ?_)
  .by_cases k1:t.kind=1
   .have e:¬t.text=[116,114,117,101]:=λe=>kt ⟨k1,e⟩;simp[k1,e,aSt,List.replicate]
   .simp[k1,aSt,List.replicate]
  by_cases kf:t.kind=1/\t.text=[102,97,108,115,101]
  .rw[if_pos kf]at ho;subst ho;refine SW.vk ?_;simp[kf.1,kf.2,hi1,tN,aSt,List.replicate]
  rw[if_neg kf]at ho;refine oA (aSt l i t 54) (SW.vk ?_) (kQ rfl ?_)
  .by_cases k1:t.kind=1
   .have e:¬t.text=[102,97,108,115,101]:=λe=>kf ⟨k1,e⟩;simp[k1,e,aSt,List.replicate]
   .simp[k1,aSt,List.replicate]
  have hsq:=sI (G:=G) l i [63];have hsp:=sI (G:=G) l i [40];have hsm:=sI (G:=G) l (i+1) [45];have hsc:=sI (G:=G) l (i+3) [41];cases hp:jP l i [40]with
  |false=>
   rw[hp]at hsp;refine oA (aSt l i t 66) (SW.vk ?_) (kQ rfl ?_)
   .simp[aSt,List.replicate];refine aC.mk gG hsp ?_;simp
   refine oA (aSt l i t 108) (SW.vk ?_) (kQ rfl ?_)
   .simp[aSt,List.replicate];refine aC.mk gG hsp ?_;simp
   cases hq:jP l i [63]with
   |false=>
    rw[hq]at hsq;refine oA (aSt l i t 133) (SW.vk ?_) (kQ rfl ?_)
    .simp[aSt,List.replicate];refine aC.mk gG hsq ?_;simp
    have hP:b0R (gV aL l f) l i=o:=by rw[if_neg (by simp[hq]),if_neg (by simp[hp])]at ho;exact ho
    refine SW.vk ?_;simp[aSt,List.replicate,hP]
   |true=>
    rw[if_pos hq]at ho;rw[hq]at hsq;have hnm:=b8V (G:=G) l (i+1) hl aG;refine SW.vk ?_;simp[aSt,List.replicate];refine aC.mk gG hsq ?_;simp[hi1];refine aC.mk (hkl:=b2M _ _) (.mk func226 rfl) hnm ?_;cases hn:pV aL l (i+1)with
    |none=>rw[hn]at ho;subst ho;simp[b8U,tN]
    |some q=>
     obtain⟨s,n⟩:=q;have wC:=qJ hn;rw[hn]at ho;simp only at ho;obtain⟨j,hli⟩:=a6m (G:=G) hl hA n (a8S hf (by omega) wC.2);simp[b8U];refine aC.mk (hkl:=a9P _ _) (.mk func227 rfl) hli ?_;cases hL:rF (gV aL l f) l n with
     |none=>rw[hL]at ho;subst ho;simp[a9O,tN]
     |some z=>obtain⟨ks,m⟩:=z;rw[hL]at ho;subst ho;simp[a9O,tN]
  |true=>
   have hq:jP l i [63]=false:=by rw[b0N aG,ht]at hp|-;simp only[g2Z,g3N]at hp;simp[hp.2]
   rw[if_neg (by simp[hq]),if_pos hp]at ho;rw[hp]at hsp;by_cases a2r:jP l (i+1) [45]=true/\kdB l (i+2) 3=true/\jP l (i+3) [41]=true
   .rw[if_pos a2r]at ho;subst ho;obtain⟨n1,n2,n3⟩:=a2r;have h2:=b8r n2;rw[b0O h2]at n2;rw[d8v h2];obtain⟨u,hu⟩:∃u,l[i+2]=u:=⟨_,rfl⟩;rw[hu]at n2|-;have ku:u.kind=3:=of_decide_eq_true n2;rw[n1]at hsm;rw[n3]at hsc;have h2':(i:Int)+2<(l.length:Int):=by omega
    have hnn:(0:Int)<=(i:Int)+2:=by omega
    have htn:((i:Int)+2).toNat=i+2:=by omega
    refine SW.vk ?_;simp[aSt,List.replicate];refine aC.mk gG hsp ?_;simp[hi1];refine aC.mk gG hsm ?_;simp[hi2,h2,h2',hnn,htn,hu,ku,bL,hi3];refine aC.mk gG hsc ?_;simp[hi2,h2,h2',hnn,htn,hu,ku,bL,hi4,tN]
   .rw[if_neg a2r]at ho;have hat:=hA (i+1) 1 (by omega) (by omega) aG (by have:=rW (L:=l.length) (i:=i) (i':=i+1) (k:=10) (k':=1) (by omega) aG;omega)
    refine oA (aSt l i t 66) (SW.vk ?_) (kQ rfl ?_)
    .simp[aSt,List.replicate];refine aC.mk gG hsp ?_;simp[hi1];refine aC.mk gG hsm ?_;cases n1:jP l (i+1) [45]with
     |false=>simp
     |true=>
      have hnn:(0:Int)<=(i:Int)+2:=by omega
      have htn:((i:Int)+2).toNat=i+2:=by omega
      by_cases h2:i+2<l.length;rotate_left
      .have h2':¬(i:Int)+2<(l.length:Int):=by omega
       simp[hi2,h2']
      have h2':(i:Int)+2<(l.length:Int):=by omega
      obtain⟨u,hu⟩:∃u,l[i+2]=u:=⟨_,rfl⟩;by_cases ku:u.kind=3;rotate_left
      .simp[hi2,h2,h2',hnn,htn,hu,ku,bL]
      have n3:jP l (i+3) [41]=false:=by
       cases n3:jP l (i+3) [41]with
       |false=>rfl
       |true=>exact absurd ⟨n1,by rw[b0O h2,hu];simp[ku],n3⟩ a2r
      rw[n3]at hsc;simp[hi2,h2,h2',hnn,htn,hu,ku,bL,hi3];refine aC.mk gG hsc ?_;simp
    refine SW.vk ?_;simp[aSt,List.replicate];refine aC.mk gG hsp ?_;simp[hi1];refine aC.mk (hkl:=oE _ _) vQ hat ?_;cases hr:gV aL l f (i+1) 1 with
    |none=>rw[hr]at ho;subst ho;simp[tN]
    |some q=>
     obtain⟨p,n⟩:=q;have wC:=kS aL l f _ _ _ _ hr;have sN:=sI (G:=G) l n [41];rw[hr]at ho;simp only at ho;simp[tN];refine aC.mk gG sN ?_;cases hc:jP l n [41]with
     |false=>rw[if_neg (by simp[hc])]at ho;subst ho;simp[tN]
     |true=>rw[if_pos hc]at ho;subst ho;have hn1:=bC (show n<9223372036854775807 by omega);simp[hn1,tN]
 .clear ht hi2 hi3 hi4
  unfold b0R at ho;have hnm:=b8V (G:=G) l i hl hi;refine SW.vk ?_;simp[aSt,List.replicate];refine aC.mk (hkl:=b2M _ _) (.mk func226 rfl) hnm ?_;cases hn:pV aL l i with
  |none=>rw[hn]at ho;subst ho;simp[b8U,tN]
  |some q=>
   obtain⟨s,n⟩:=q;have wC:=qJ hn;rw[hn]at ho;simp only at ho;obtain⟨j,hli⟩:=a6m (G:=G) hl hA n (a8S hf wC.1 wC.2);simp[b8U];refine aC.mk (hkl:=a9P _ _) (.mk func227 rfl) hli ?_;cases hL:rF (gV aL l f) l n with
   |none=>rw[hL]at ho;subst ho;simp[a9O,tN]
   |some z=>obtain⟨ks,m⟩:=z;rw[hL]at ho;subst ho;simp[a9O,tN]
end
theorem wF:VM.Enters prog 148:=.mk func148 rfl
theorem yC(c:UInt8):CS prog G 148 [.int .u8 c.toNat] (.d (.bool (smU c))) none:=by refine CS.aW func148 rfl ntmps148 rfl ?_;rw[<-d7r];by_cases h:(97:Int)<=c.toNat<;>simp[h,smI]
theorem a9R(c:UInt8):CS prog G 149 [.int .u8 c.toNat] (.d (.bool (caU c))) none:=by refine CS.aW func149 rfl ntmps149 rfl ?_;rw[<-d7s];by_cases h:(65:Int)<=c.toNat<;>simp[h,caI]
theorem a8c(c:UInt8):CS prog G 151 [.int .u8 c.toNat] (.d (.bool (dgU c))) none:=by refine CS.aW func151 rfl ntmps151 rfl ?_;rw[<-d1O];by_cases h:(48:Int)<=c.toNat<;>simp[h,dgI]
theorem b2O(c:UInt8):CS prog G 150 [.int .u8 c.toNat] (.d (.bool (inU c))) none:=by
 refine CS.aW func150 rfl ntmps150 rfl ?_;simp;refine aC.mk wF (yC c) ?_;by_cases h1:smU c=true
 .simp[h1,inU]
 .simp[h1];refine aC.mk (.mk func149 rfl) (a9R c) ?_;by_cases h2:caU c=true
  .simp[h2,inU]
  .simp[h2];refine aC.mk (.mk func151 rfl) (a8c c) ?_;by_cases h3:dgU c=true
   .simp[h3,inU]
   .by_cases h4:c.toNat=95
    .have h5:(c.toNat:Int)=95:=by omega
     simp[h1,h2,h3,inU,h4]
    .have h5:¬(c.toNat:Int)=95:=by omega
     simp[h1,h2,h3,inU,h4]
theorem c8e:∀{i:Nat},i<=s.length->jW (s.take i)<=jW s:=λ{i} hi=>by
 have h:∀(l:List UInt8)(a b:Nat),a<=b->a<=b9B b l:=by
  intro l
  induction l with
  |nil=>intro a b h;exact h
  |cons c r ih=>intro a b h;exact ih a (10*b+(c.toNat-48)) (by omega)
 have e:jW s=b9B (jW (s.take i)) (s.drop i):=by
  conv=>lhs;rw[<-g3M i s]
  unfold jW b9B;rw[List.foldl_append]
 rw[e];exact h _ _ _ (g3p _)
theorem b5d(s:List UInt8)(hs:∀c∈s,yS c=true)(hl:s.length<=900000000:=by omega):CS prog G 152 [.str s] (.cY [.int .i64 (jZ s).1,.bool (jZ s).2]) none:=by
 refine CS.aW func152 rfl ntmps152 rfl ?_;simp;refine SW.gA (ι:={i:Nat//i<=s.length/\jW (s.take i)<=1000000000000}) (λi=>[(4,.d (.int .i64 (jW (s.take i.1):Nat))),(5,.d (.int .i64 i.1))]) (λ_=>[]) (λ_=>[]) (λi=>s.length-i.1) ⟨0,by simp[a4x]⟩ (by simp[a4x]) ?_;rintro⟨i,hi,hv⟩
 try simp only at hi hv
 by_cases aG:i<s.length
 .have hw:=bC (show i<9223372036854775807 by omega);have hd:=hs _ (g3y aG);have hdd:=wU.1 hd;have hu:=d1G hd;have pZ:=a0c aG;have hw1:IntKind.i64.wrap (10*((jW (s.take i):Nat):Int))=10*((jW (s.take i):Nat):Int):=wrap64 (by omega);have hw2:IntKind.i64.wrap (10*((jW (s.take i):Nat):Int)+((s[i].toNat-48:Nat):Int))=((jW (s.take (i+1)):Nat):Int):=by rw[pZ,wrap64 (by omega)];omega
  by_cases f5Q:1000000000000<jW (s.take (i+1))
  .have h1:¬jW s<=1000000000000:=by have:=c8e (s:=s) (i:=i+1) aG;omega
   have h2:(1000000000000:Int)<(jW (s.take (i+1)):Nat):=by omega
   simp[aG,hw1,hu,hw2,h2,jZ,h1]
  .have h2:¬(1000000000000:Int)<(jW (s.take (i+1)):Nat):=by omega
   simp[aG,hw1,hu,hw2,h2];exact bD.mk ⟨i+1,aG,by omega⟩ (by simp[hw]) (by simp;omega)
 .have:i=s.length:=by omega
  subst this;rw[g3S]at hv;simp[jZ,hv]
theorem c8f:CS prog G 172 [] (.d (.sl (dA.map λt=>[D.str t]))) none:=by refine CS.aW func172 rfl ntmps172 rfl ?_;have h31:List.range 31=[0,1,2,3,4,5,6,7,8,9,10,11,12,13,14,15,16,17,18,19,20,21,22,23,24,25,26,27,28,29,30]:=rfl;simp[dA,h31]
theorem d0L(s:List UInt8)(hl:s.length<=900000000):CS prog G 153 [.str s] (.d (.str (sQ s))) none:=by
 refine CS.aW func153 rfl ntmps153 rfl ?_;simp;refine aC.mk (.mk func172 rfl) c8f ?_;have hlen:(dA.map λt=>[D.str t]).length=dA.length:=by simp
 have hsl:dA.length=31:=rfl;simp;refine SW.gA (ι:={i:Nat//i<=dA.length/\∀t∈dA.take i,t.isPrefixOf s=false}) (λi=>[(4,.d (.int .i64 i.1))]) (λ_=>[]) (λ_=>[]) (λi=>dA.length-i.1) ⟨0,by simp⟩ (by simp) ?_;rintro⟨i,hi,hn⟩
 try simp only at hi hn
 by_cases aG:i<dA.length
 .have hw2:=bC (show i<9223372036854775807 by omega);have tI:∀(hp:dA[i].isPrefixOf s=false),∀t∈dA.take (i+1),t.isPrefixOf s=false:=λhp t ht=>by
   rw[g3o aG]at ht;rcases g3z.1 ht with ht|ht
   .exact hn t ht
   .simp at ht;rw[ht];exact hp
  simp[aG]
  try refine⟨.mk,?_⟩
  have b0n:=Lib.hasPrefix_of_take s dA[i];unfold Lib.hasPrefix at b0n;by_cases hle:dA[i].length<=s.length
  .by_cases he:s.take dA[i].length=dA[i]
   .have hp:dA[i].isPrefixOf s=true:=by rw[<-b0n];simp[hle,he]
    have hsg:=d1Q aG hn hp;simp[hle,he,hsg,aG]
   .have hp:dA[i].isPrefixOf s=false:=by rw[<-b0n];simp[he]
    simp[hle,he,aG];exact bD.mk ⟨i+1,aG,tI hp⟩ (by simp[hw2]) (by simp;omega)
  .have hp:dA[i].isPrefixOf s=false:=by rw[<-b0n];simp[hle]
   simp[hle,aG];exact bD.mk ⟨i+1,aG,tI hp⟩ (by simp[hw2]) (by simp;omega)
 .have:i=dA.length:=by omega
  subst this;rw[g3S]at hn;have hsg:=c1h hn;simp[hsg]
end
end Go.Proofs.YtmfbjecjccipfaaGreatDoor
