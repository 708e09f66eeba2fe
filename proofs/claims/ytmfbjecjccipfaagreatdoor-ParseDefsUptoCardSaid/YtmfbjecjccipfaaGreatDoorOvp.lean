/- Lemmas. No condition. -/
import Derived.Test.YtmfbjecjccipfaaGreatDoorOvo
set_option linter.unusedVariables false
set_option linter.unusedSimpArgs false
set_option linter.unusedSectionVars false
set_option maxRecDepth 100000
set_option maxHeartbeats 64000000
open Go.Proofs.Tryz
namespace Go.Proofs.YtmfbjecjccipfaaGreatDoor
section
structure d9h (l l':List Tok) (N d:Nat) (u:Nm):Prop where
 len:N<l.length
 a9f:N+d<l'.length
 le:l.length<=l'.length
 kind:∀i,i<N->(aH l' (i+d)).kind=(aH l i).kind
 text:∀i,i<N->(aH l' (i+d)).text=(aH l i).text
 n:∀i,i<N->(aH l' (i+d)).n=(aH l i).n
 stp:(aH l N).kind=0\/((aH l N).kind=4/\(aH l N).text=u)
 d0X:(aH l' (N+d)).kind=4/\(aH l' (N+d)).text=u
 uu:u=[41]\/u=[59]
def e6R{α:Type}(N d:Nat)(W:Nat->Prop)(x y:bE α):Prop:=∀i a j,i<=N->x i=.ok a j->j<=N->W j->y (i+d)=.ok a (j+d)
section
variable {α β:Type} {kw:Nm->Bool} {andP:Pr->Pr->Pr} {aD:List Tok->Nat->Nat->jA Pr} {l l':List Tok} {N d:Nat} {W W':Nat->Prop} {u:Nm}
variable (hE:pE l) (hN:d9h l l' N d u)
include hE hN
variable{i:Nat}
omit hE in
theorem d9i(hi:i<N)(s:Nm):cI (aH l' (i+d)) s=cI (aH l i) s:=by unfold cI;rw[hN.kind i hi,hN.text i hi]
omit hE in
theorem e4w(hi:i<N)(s:Nm):aJ l' (i+d) s=aJ l i s:=d9i hN hi s
omit hE in
theorem e4x(hi:i<N):gU kw (aH l' (i+d))=gU kw (aH l i):=by unfold gU;rw[hN.kind i hi,hN.text i hi]
omit hE in
theorem f4A{s:Nm}(h1:s≠[41])(h2:s≠[59]):u≠s:=by
 rcases hN.uu with rfl|rfl
 .exact λe=>h1 e.symm
 .exact λe=>h2 e.symm
omit hE in
theorem f8j{s:Nm}(h1:s≠[41])(h2:s≠[59]):aJ l N s=false:=by
 unfold aJ cI;rcases hN.stp with h|⟨h,h3⟩
 .simp[h]
 .simp[h3,f4A hN h1 h2]
omit hE in
theorem f4B{s:Nm}(h1:s≠[41])(h2:s≠[59]):aJ l' (N+d) s=false:=by unfold aJ cI;obtain⟨h,h3⟩:=hN.d0X;simp[h3,f4A hN h1 h2]
omit hE in
theorem f8k:gU kw (aH l N)=false:=by unfold gU;rcases hN.stp with h|⟨h,_⟩<;>simp[h]
omit hE in
theorem f4C:gU kw (aH l' (N+d))=false:=by unfold gU;simp[hN.d0X.1]
omit hE in
theorem c4A{s:Nm}(h1:s≠[41])(h2:s≠[59])(hi:i<=N):aJ l' (i+d) s=aJ l i s:=by
 by_cases h:i=N
 .subst h;rw[f8j hN h1 h2,f4B hN h1 h2]
 .exact e4w hN (by omega) s
omit hE in
theorem e4y(hi:i<=N):gU kw (aH l' (i+d))=gU kw (aH l i):=by
 by_cases h:i=N
 .subst h;rw[f8k hN,f4C hN]
 .exact e4x hN (by omega)
end
def d2p{α:Type}(l:List Tok)(c:Int)(x:bE α):Prop:=∀i a j,i<l.length->x i=.ok a j->i<=j/\j<l.length/\par l i j=c
def e4z(s:Nm):Int:=b0M ⟨4,s,0,0⟩
section
variable {α β:Type} {kw:Nm->Bool} {andP:Pr->Pr->Pr} {aD:List Tok->Nat->Nat->jA Pr} {l:List Tok} {c c1 c2:Int}
variable{i:Nat}
theorem d9j(hi:i<l.length):a2U l i=b0M (aH l i):=by
 unfold a2U aH;rw[if_pos hi,g4b,g3d hi]
 rfl
theorem e4A{t:Tok}{s:Nm}(h:cI t s=true):b0M t=e4z s:=by unfold cI at h;simp only[g2Z,g3N]at h;unfold e4z b0M;rw[h.2]
theorem f0t{s:Nm}(hi:i<l.length)(h:aJ l i s=true):a2U l i=e4z s:=by rw[d9j hi,e4A h]
theorem d9k(hW:WfD l)(hi:i<l.length)(h:(aH l i).kind≠4):a2U l i=0:=by
 rw[d9j hi];refine hW i _ ?_ h;unfold aH;rw[if_pos hi,g4b,g3d hi]
 rfl
variable (hE:pE l) (hW:WfD l)
include hE
include hW
theorem d2p.take{ok:Tok->Bool}(hk:∀t,ok t=true->t.kind≠0/\t.kind≠4):d2p l 0 (mH l ok):=λi a j hi h=>by
 unfold mH at h;split at h
 .rename_i hs;have h1:=hk _ hs;have:=qZ hE hi h1.1;cases h;exact⟨by omega,this,by rw[zG,d9k hW hi h1.2]⟩
 .unfold dN at h;cases h
theorem d2p.base:d2p l 0 (gO kw l):=λi a j hi h=>by
 have nx:∀{s:Nm},e4z s=0->aJ l i s=true->i<=i+1/\i+1<l.length/\par l i (i+1)=0:=λhs h1=>⟨by omega,aV hE hi h1,by rw[zG,f0t hi h1,hs]⟩;unfold gO at h;split at h
 .rename_i h1;cases h;exact nx rfl h1
 split at h
 .rename_i h1;cases h;exact nx rfl h1
 split at h
 .rename_i h1;cases h;exact nx rfl h1
 split at h
 .rename_i h1;have hn:=a8r hE hi h1;cases h;refine⟨by omega,hn,?_⟩;rw[zG,d9k hW hi];unfold gU at h1;simp only[g2Z,g3N]at h1;omega
 .cases h;exact⟨g3p _,hi,zF _⟩
end
end
section
open Go Go.VM
variable {G:GT}
def Got{α:Type}(l:List Tok)(P:α->Prop)(x:bE α):Prop:=∀i a j,i<l.length->x i=.ok a j->P a
section
variable {α β:Type} {l:List Tok} {P:α->Prop} {Q:β->Prop}
theorem Got.any(x:bE α):Got l (λ_=>True) x:=λ_ _ _ _ _=>trivial
end
theorem WB.zero:WB 900000000 jK:=.mk _ _ _ _ _ _ (by simp) (by simp) (by simp[eI,bO,eK]) (by simp) (λq hq=>by cases hq) (λk hk=>by cases hk)
theorem WB.pred{t:Ty}(h:WB 900000000 t){p:Pr}(hp:bO p<=900000000):WB 900000000 {t with pred:=p}:=by
 cases h with
 |mk _ _ _ _ _ _ h1 h2 h3 h4 h5 h6=>exact .mk _ _ _ _ _ _ h1 h2 hp h4 h5 h6
section
variable {aD:List Tok->Nat->Nat->jA Pr} {l:List Tok} (hV:rP G aD l)
include hV
omit hV in
theorem WE.op(op:Int){ks:List cP}(h:ks.length<=900000000)(hk:∀k∈ks,WE 900000000 k):WE 900000000 (eA op ks):=.mk _ h (by simp[eA]) (by simp[eA]) (by simp[eA]) hk (λp hp=>by cases hp) (λa ha=>by cases ha) (λa ha=>by cases ha) (λt ht=>by cases ht)
omit hV in
theorem WE.one(op:Int){a:cP}(h:WE 900000000 a):WE 900000000 (eA op [a]):=WE.op op (by simp) λk hk=>by rw[g3g]at hk;rw[hk];exact h
end
end
section
section
variable {α β:Type} {kw:Nm->Bool} {andP:Pr->Pr->Pr} {aD:List Tok->Nat->Nat->jA Pr} {l l':List Tok} {N d:Nat} {W W':Nat->Prop} {u:Nm}
variable (hE:pE l) (hN:d9h l l' N d u)
include hE hN
omit hE in
theorem e6R.base:e6R N d W (gO kw l) (gO kw l'):=λi a j hi h hj hw=>by
 have e1:=c4A hN (s:=[73,110,116]) (by decide) (by decide) hi;have e2:=c4A hN (s:=[66,111,111,108]) (by decide) (by decide) hi;have e3:=c4A hN (s:=[67,101,108,108]) (by decide) (by decide) hi;have e4:=e4y (kw:=kw) hN hi;unfold gO at h|-;rw[e1,e2,e3,e4];split at h
 .rename_i h1;rw[if_pos h1];cases h;rw[show i+1+d=i+d+1 by omega]
 rename_i h1;rw[if_neg h1];split at h
 .rename_i h2;rw[if_pos h2];cases h;rw[show i+1+d=i+d+1 by omega]
 rename_i h2;rw[if_neg h2];split at h
 .rename_i h3;rw[if_pos h3];cases h;rw[show i+1+d=i+d+1 by omega]
 rename_i h3;rw[if_neg h3];split at h
 .rename_i h4;rw[if_pos h4,hN.text i (by cases h;omega)];cases h;rw[show i+1+d=i+d+1 by omega]
 rename_i h4;rw[if_neg h4];cases h
 rfl
end
def f4D(l:List Tok)(i:Nat)(w:Nm):Prop:=(aH l i).kind=4/\(aH l i).text=w
section
variable {kw:Nm->Bool} {andP:Pr->Pr->Pr} {aD:List Tok->Nat->Nat->jA Pr} {l:List Tok} {ex:Nat->bE cP} {i j k k1 k2 k3:Nat} {a b c e:cP}
theorem f4D.is{w:Nm}(h:f4D l i w)(s:Nm):aJ l i s=decide (w=s):=by unfold aJ cI;rw[h.1,h.2];simp
end
end
section
open Go Go.VM
def TL:List TypeId:=[5,9,36,194,252,255,256]
theorem d0Y:a3j prog TL=true:=by kernel_rfl
theorem rZ:laidOutB prog=true:=by kernel_rfl
theorem hmr:mapsRowed prog=true:=by kernel_rfl
theorem hsf:((List.range prog.types.size).all λt=>match prog.underlying t with|some (.slice e)=>decide (0<prog.cellsOf e)|_=>true)=true:=by kernel_rfl
theorem oG:ownKnob prog.godebug=none:=by kernel_rfl
theorem tu9:prog.underlying 9=some .string:=by kernel_rfl
theorem d0Z{P:Program}{G:GT}{q:Bool}{x:VM.Out}{c:Prop}[Decidable c]{dst:Option Tmp}{all:Array Oper}{rest:List Oper}{k:List KI}{Q:Exit->St->Prop}(hc:c)(h:b4k P G q (some x) dst all rest k Q):b4k P G q (if c then some x else none) dst all rest k Q:=by rw[if_pos hc];exact h
def xA{α:Type}(P:α->Prop)(r:jA α):Prop:=∀a j,r=.ok a j->P a
def Gt{α:Type}(P:α->Prop)(x:bE α):Prop:=∀i,xA P (x i)
def LL{α:Type}(k:Nat)(P:α->Prop)(l:List α):Prop:=l.length<=k/\∀x∈l,P x
section
variable {α β:Type} {l:List Tok} {P:α->Prop} {Q:β->Prop} {k:Nat}
theorem LL.nil:LL 0 P []:=⟨g3p _,λx h=>by cases h⟩
theorem LL.cons{a:α}{r:List α}(h:P a)(h':LL k P r):LL (k+1) P (a::r):=⟨Nat.succ_le_succ h'.1,λx hx=>by
 cases hx with
 |head=>exact h
 |tail _ hx=>exact h'.2 x hx⟩
theorem LL.snoc{a:α}{r:List α}(h':LL k P r)(h:P a):LL (k+1) P (r++[a]):=⟨by simpa using h'.1,λx hx=>by
 rcases g3z.1 hx with hx|hx
 .exact h'.2 x hx
 .rw[g3g]at hx;rw[hx];exact h⟩
theorem LL.im{r:List α}{P':α->Prop}(h:LL k P r)(hp:∀x,P x->P' x):LL k P' r:=⟨h.1,λx hx=>hp x (h.2 x hx)⟩
theorem LL.up{n:Nat}{r:List α}(h:LL k P r)(hk:k<=n):LL n P r:=⟨Nat.le_trans h.1 hk,h.2⟩
theorem xA.ok{a:α}{j:Nat}(h:P a):xA P (.ok a j):=λb j hx=>by cases hx;exact h
theorem xA.bad{n e:Int}:xA P (.bad n e):=λb j hx=>by cases hx
theorem xA.ite{c:Prop}[Decidable c]{x y:jA α}(hx:xA P x)(hy:xA P y):xA P (if c then x else y):=by
 split
 .exact hx
 .exact hy
theorem Gt.at{x:bE α}(h:Gt P x)(i:Nat):xA P (x i):=h i
theorem Gt.bZ{a:α}(h:P a):Gt P (pure a:bE α):=λi=>xA.ok h
theorem Gt.ite{c:Prop}[Decidable c]{x y:bE α}(hx:Gt P x)(hy:Gt P y):Gt P (if c then x else y):=by
 split
 .exact hx
 .exact hy
theorem Gt.failed:Gt P (dN l:bE α):=λi=>xA.bad
theorem Gt.bind{x:bE α}{f:α->bE β}(hx:Gt P x)(hf:∀a,P a->Gt Q (f a)):Gt Q (x >>=f):=λi b j h=>by
 rw[bX]at h;cases h1:x i with
 |bad n e=>rw[h1]at h;cases h
 |ok a k=>rw[h1]at h;exact hf a (hx i a k h1) k b j h
theorem Gt.skip{x:bE α}{f:α->bE β}(hf:∀a,Gt Q (f a)):Gt Q (x >>=f):=Gt.bind (P:=λ_=>True) (λ_ _ _ _=>trivial) λa _=>hf a
theorem d2q{I:Nat->α->Prop}{c:Nm}{one:α->bE α}(h:∀k a,I k a->Gt (I (k+1)) (one a)):∀(g k:Nat)(a:α),I k a->Gt (λb=>∃n,n<=k+g/\I n b) (eT l c one g a)
 |0,k,a,_=>λi=>xA.bad
 |g+1,k,a,ha=>λi b j hx=>by
  unfold eT at hx;split at hx
  .cases hx
  .rename_i a' j' ho;have h1:=h k a ha i a' j' ho;split at hx
   .obtain⟨n,h2,h3⟩:=d2q h g (k+1) a' h1 _ b j hx;exact⟨n,by omega,h3⟩
   .cases hx;exact⟨_,by omega,h1⟩
theorem d2r{I:Nat->α->Prop}{c:Nat->Bool}{one:α->bE α}(h:∀k a,I k a->Gt (I (k+1)) (one a)):∀(g k:Nat)(a:α),I k a->Gt (λb=>∃n,n<=k+g/\I n b) (eE c one g a)
 |0,k,a,_=>λi=>xA.bad
 |g+1,k,a,ha=>λi b j hx=>by
  unfold eE at hx;split at hx
  .split at hx
   .cases hx
   .rename_i a' j' ho;obtain⟨n,h2,h3⟩:=d2r h g (k+1) a' (h k a ha i a' j' ho) _ b j hx;exact⟨n,by omega,h3⟩
  .cases hx;exact⟨k,by omega,ha⟩
variable (hl:l.length<=20000)
include hl
theorem c4B{I:Nat->α->Prop}{c:Nm}{one:α->bE α}{a:α}(h:∀k a,I k a->Gt (I (k+1)) (one a))(ha:I 0 a):Gt (λb=>∃n,n<=20002/\I n b) (dI l c one a):=λi b j hx=>by obtain⟨n,h1,h2⟩:=d2q h _ 0 a ha i b j hx;exact⟨n,by omega,h2⟩
variable{c:Nat->Bool}
theorem d2s{I:Nat->α->Prop}{one:α->bE α}{a:α}{k:Nat}(h:∀k a,I k a->Gt (I (k+1)) (one a))(ha:I k a):Gt (λb=>∃n,n<=k+20002/\I n b) (pK l c one a):=λi b j hx=>by obtain⟨n,h1,h2⟩:=d2r h _ k a ha i b j hx;exact⟨n,by omega,h2⟩
theorem zL{P:β->Prop}{c:Nm}{one:List β->bE (List β)}(h:∀k a,LL k P a->Gt (LL (k+1) P) (one a)):Gt (LL 20002 P) (dI l c one []):=λi b j hx=>by obtain⟨n,h1,h2⟩:=c4B hl h LL.nil i b j hx;exact h2.up h1
theorem c8u{P:β->Prop}{one:List β->bE (List β)}(h:∀k a,LL k P a->Gt (LL (k+1) P) (one a)):Gt (LL 20002 P) (pK l c one []):=λi b j hx=>by obtain⟨n,h1,h2⟩:=d2s hl h LL.nil i b j hx;exact h2.up (by omega)
end
variable{ns:List Nm}{ps:List Pr}{k m n:Nat}{args:List Ty}
theorem WB.one(op:Int)(nm:Nm)(h1:LL k (WB 900000000) args)(h2:ns.length<=900000000)(h3:LL m (λq=>bO q<=20001) ps)(hk:k<=900000000:=by omega)(hm:m<=900000000:=by omega):WB 900000000 ⟨op,nm,args,ns,eI,ps⟩:=
 .mk _ _ _ _ _ _ (Nat.le_trans h1.1 hk) h2 (by simp[eI,bO,eK]) (Nat.le_trans h3.1 hm) (λq hq=>Nat.le_trans (h3.2 q hq) (by omega)) h1.2
def TB(n:Nat)(t:Ty):Prop:=WB 900000000 t/\bO t.pred<=n
theorem TB.of(op:Int)(nm:Nm)(h1:LL k (WB 900000000) args)(h2:ns.length<=900000000)(h3:LL m (λq=>bO q<=20001) ps)(hk:k<=900000000:=by omega)(hm:m<=900000000:=by omega):TB (n+20002) ⟨op,nm,args,ns,eI,ps⟩:=⟨WB.one op nm h1 h2 h3 hk hm,by simp only[eI,bO,eK];omega⟩
theorem TB.wQ{n:Nat}(op:Int)(nm:Nm):TB (n+20002) (wQ op nm):=TB.of op nm LL.nil (by simp) LL.nil
theorem TB.up{t:Ty}(h:TB n t)(hm:n<=m):TB m t:=⟨h.1,Nat.le_trans h.2 hm⟩
section
variable {aD:List Tok->Nat->Nat->jA Pr} {l:List Tok} (hl:l.length<=20000) (hN:∀i e p j,aD l i e=.ok p j->bO p<=20001)
include hl hN
omit hl in
theorem c4C:Gt (λp=>bO p<=20001) (kY aD l):=λi p j h=>hN _ _ _ _ h
omit hl hN in
theorem d2t{n:Nat}:Gt (λo:Option Ty=>∀t,o=some t->TB (n+20002) t) (gO aL l):=λi o j h t ht=>by
 subst ht;unfold gO at h
 repeat' split at h
 all_goals first|(cases h;exact TB.wQ _ _)|cases h
omit hN in
theorem c8v{kw:Nm->Bool}:Gt (LL 20002 λ_=>True) (gD kw l):=by unfold gD;exact Gt.skip λ_=>Gt.bind (zL hl λk a ha=>Gt.skip λw=>Gt.bZ (ha.snoc trivial)) λout h=>Gt.skip λ_=>Gt.bZ h
section
variable {ty:bE Ty} {n:Nat} (mU:Gt (TB n) ty) (hn:n+20002<=900000000)
include mU hn
theorem d2u:Gt (TB (n+20002)) (vC bF aD l ty):=by
 unfold vC;refine Gt.skip λ_=>Gt.bind mU λt ht=>Gt.ite Gt.failed (Gt.skip λ_=>Gt.bind (c4C hN) λp hp=>Gt.skip λ_=>Gt.bZ ?_);have h2:bO (if t.pred.op=0 then p else bF t.pred p)<=n+20002:=by
  have:=ht.2;split
  .omega
  .have:=c1v t.pred p;omega
 exact⟨ht.1.pred (by omega),h2⟩
theorem d4X:Gt (TB (n+20002)) (kO aL bF aD l ty):=by
 unfold kO;refine Gt.bind (d2t (n:=n)) λo ho=>?_;cases o with
 |some t=>exact Gt.bZ (ho t rfl)
 |none=>exact λi=>xA.ite (xA.ok (TB.wQ _ _)) (xA.ite (d2u hl hN mU hn i) (Gt.at (Gt.skip λ_=>Gt.bind mU λt ht=>Gt.skip λ_=>Gt.bZ (ht.up (by omega))) i))
theorem d9l:Gt (TB (n+20002)) (tB aL bF aD l ty):=by unfold tB;refine Gt.skip λnm=>Gt.bind (c8u hl (P:=WB 900000000) λk a ha=>Gt.bind (d4X hl hN mU hn) λt ht=>Gt.bZ (ha.snoc ht.1)) λargs h1=>Gt.skip λb=>Gt.ite ?_ (Gt.bZ (TB.of _ _ h1 (Nat.zero_le _) LL.nil));exact Gt.bind (zL hl λk a ha=>Gt.skip λ_=>Gt.bind (c4C hN) λp hp=>Gt.bZ (ha.snoc hp)) λps h3=>Gt.skip λ_=>Gt.bZ (TB.of _ _ h1 (Nat.zero_le _) h3)
def LP(n k:Nat)(p:List Nm×List Ty):Prop:=p.1.length<=k/\LL k (TB n) p.2
omit hN in
theorem e4B:Gt (TB (n+20002)) (vD aL l ty):=by
 unfold vD;refine Gt.skip λ_=>Gt.bind (P:=λp=>∃k,k<=20002/\LP n k p) (λi=>xA.ite (c4B hl (I:=LP n) (λk a ha=>Gt.skip λw=>Gt.skip λ_=>Gt.bind mU λt ht=>Gt.bZ ⟨by simpa using ha.1,ha.2.snoc ht⟩) ⟨g3p _,LL.nil⟩ i) (c4B hl (I:=LP n) (λk a ha=>Gt.bind mU λt ht=>Gt.bZ (a:=(a.1,a.2++[t])) ⟨Nat.le_succ_of_le ha.1,ha.2.snoc ht⟩) ⟨g3p _,LL.nil⟩ i)) λq ⟨k,hk,hq⟩=>?_;obtain⟨ns,ts⟩:=q;refine Gt.skip λ_ i t j h=>?_;simp only at h;split at h
 .rename_i hc;simp only[g2Z,g3N]at hc;cases h
  match ts,hc.1.2,hq.2 with
  |[t],_,h=>exact(h.2 t (.head _)).up (by omega)
 .exact(Gt.skip λ_=>Gt.bind mU λt ht=>Gt.bZ (TB.of _ _ ((hq.2.snoc ht).im λ_ h=>h.1) (Nat.le_trans hq.1 (by omega)) LL.nil):Gt (TB (n+20002)) _) i t j h
theorem e4C:Gt (TB (n+20002)) (wO aL bF aD l ty):=by
 unfold wO;refine Gt.bind (d2t (n:=n)) λo ho=>?_;cases o with
 |some t=>exact Gt.bZ (ho t rfl)
 |none=>exact λi=>xA.ite (d9l hl hN mU hn i) (xA.ite (d2u hl hN mU hn i) (e4B hl mU hn i))
end
theorem d2v:∀n,n<=20002->Gt (TB (n*20002)) (xJ aL bF aD l n)
 |0,_=>λi=>xA.bad
 |n+1,h=>by have:=e4C hl hN (d2v n (by omega)) (by omega);rw[show(n+1)*20002=n*20002+20002 by omega];exact this
theorem b9f:Gt (WB 900000000) (mP aL bF aD l):=λi t j h=>(d2v hl hN _ (by omega) i t j h).1
theorem d9m:Gt (LL 20002 (WB 900000000)) (qW aL bF aD l):=by unfold qW;exact Gt.skip λb=>Gt.ite (Gt.bind (zL hl λk a ha=>Gt.bind (b9f hl hN) λt ht=>Gt.bZ (ha.snoc ht)) λts h=>Gt.skip λ_=>Gt.bZ h) (Gt.bZ (LL.nil.up (by omega)))
omit hl hN in
theorem WE.of{op:Int}{nm:Nm}{n:Int}{ks:List cP}{ps:List (Nm×Ty)}{al:List (Nm×List Nm×cP)}{ts:List Ty}{k m q r:Nat}(h1:LL k (WE 900000000) ks)(h2:LL m (λp=>WB 900000000 p.2) ps)(h3:LL q (λa=>a.2.1.length<=900000000/\WE 900000000 a.2.2) al)(h4:LL r (WB 900000000) ts)(e:k+m+q+r<=900000000:=by omega):WE 900000000 ⟨op,nm,n,ks,ps,al,ts⟩:=
 .mk _ (Nat.le_trans h1.1 (by omega)) (Nat.le_trans h2.1 (by omega)) (Nat.le_trans h3.1 (by omega)) (Nat.le_trans h4.1 (by omega)) h1.2 h2.2 (λa h=>(h3.2 a h).1) (λa h=>(h3.2 a h).2) h4.2
omit hl hN in
theorem WE.ks{op:Int}{nm:Nm}{n:Int}{ks:List cP}{k:Nat}(h1:LL k (WE 900000000) ks)(e:k<=900000000:=by omega):WE 900000000 ⟨op,nm,n,ks,[],[],[]⟩:=WE.of h1 LL.nil LL.nil LL.nil
section
variable {ex:Nat->bE cP} (hx:∀k,Gt (WE 900000000) (ex k))
include hx
theorem c8w:Gt (LL 20002 (WE 900000000)) (jB l ex):=by unfold jB;exact Gt.skip λ_=>Gt.bind (zL hl λk a ha=>Gt.bind (hx 0) λe he=>Gt.bZ (ha.snoc he)) λks h=>Gt.skip λ_=>Gt.bZ h
theorem d2w(op:Int):Gt (WE 900000000) (yW l ex op):=by unfold yW;exact Gt.skip λ_=>Gt.bind (hx 0) λe he=>Gt.skip λ_=>Gt.bZ (WE.ks (LL.nil.cons he))
theorem e4D:Gt (WE 900000000) (a0d aL bF aD l ex):=by unfold a0d;exact Gt.skip λnm=>Gt.skip λb=>Gt.bind (P:=LL 1 (WB 900000000)) (Gt.ite (Gt.bind (b9f hl hN) λt ht=>Gt.bZ (LL.nil.cons ht)) (Gt.bZ (LL.nil.up (by omega)))) λts h=>Gt.skip λ_=>Gt.bind (hx 0) λa ha=>Gt.skip λ_=>Gt.bind (hx 0) λc hc=>Gt.bZ (WE.of ((LL.nil.cons hc).cons ha) LL.nil LL.nil h)
theorem d4Y:Gt (WE 900000000) (sD aL l ex):=by unfold sD;exact Gt.bind (hx 0) λe he=>Gt.skip λ_=>Gt.bind (zL hl (P:=λa=>a.2.1.length<=900000000/\WE 900000000 a.2.2) λk a ha=>Gt.skip λc=>Gt.bind (P:=LL 20002 λ_=>True) (λi=>xA.ite (c8v hl i) (xA.ok (LL.nil.up (by omega)))) λns hns=>Gt.skip λ_=>Gt.bind (hx 0) λb hb=>Gt.bZ (ha.snoc ⟨Nat.le_trans hns.1 (by omega),hb⟩)) λalts h=>Gt.skip λ_=>Gt.bZ (WE.of (LL.nil.cons he) LL.nil h LL.nil)
theorem e4E:Gt (WE 900000000) (a0e aL bF aD l ex):=by unfold a0e;exact Gt.skip λ_=>Gt.bind (zL hl (P:=λp:Nm×Ty=>WB 900000000 p.2) λk a ha=>Gt.skip λw=>Gt.skip λb=>Gt.bind (Gt.ite (b9f hl hN) (Gt.bZ WB.zero)) λt ht=>Gt.bZ (ha.snoc ht)) λps h=>Gt.skip λ_=>Gt.bind (hx 0) λe he=>Gt.bZ (WE.of (LL.nil.cons he) h LL.nil LL.nil)
theorem d1a:Gt (WE 900000000) (oN aL bF aD l ex):=by unfold oN;exact Gt.skip λ_=>λi=>xA.ite (xA.ok (WE.ks LL.nil)) (Gt.at (Gt.bind (hx 0) λe he=>Gt.skip λb=>Gt.bind (P:=WE 900000000) (Gt.ite (Gt.bind (b9f hl hN) λt ht=>Gt.bZ (WE.of (LL.nil.cons he) LL.nil LL.nil (LL.nil.cons ht))) (Gt.bZ he)) λe he=>Gt.skip λ_=>Gt.bZ he) i)
theorem d9n:Gt (WE 900000000) (uF aL bF aD l ex):=λi=>by have hA:=c8w hl hN hx;have hT:=d9m hl hN;unfold uF;exact xA.ite (xA.ok (WE.ks LL.nil)) (xA.ite (xA.ok (WE.ks LL.nil)) (xA.ite (xA.ok (WE.ks LL.nil)) (xA.ite (d2w hl hN hx _ _) (xA.ite (d2w hl hN hx _ _) (xA.ite (Gt.at (Gt.skip λ_=>Gt.bind (hx 0) λa ha=>Gt.skip λ_=>Gt.bind (hx 0) λb hb=>Gt.skip λ_=>Gt.bZ (WE.ks ((LL.nil.cons hb).cons ha))) _) (xA.ite (xA.ite (xA.ok (WE.ks LL.nil)) (Gt.at (Gt.bind hT λts ht=>Gt.bind hA λks hk=>Gt.bZ (WE.of hk LL.nil LL.nil ht)) _)) (xA.ite (Gt.at (Gt.bind hT λts ht=>Gt.bind (P:=LL 20002 (WE 900000000)) (λj=>xA.ite (hA j) (xA.ok (LL.nil.up (by omega)))) λks hk=>Gt.bZ (WE.of hk LL.nil LL.nil ht)) _) (d1a hl hN hx i))))))))
theorem d9o:Gt (WE 900000000) (a2t aL bF aD l ex):=λi=>xA.ite (Gt.at (Gt.bind (hx 7) λe he=>Gt.bZ (WE.ks (LL.nil.cons he))) _) (d9n hl hN hx i)
omit hl hN hx in
theorem c8x{ops:List (Nm×Int)}{one:bE cP}(h0:Gt (WE 900000000) one):∀(g:Nat)(e:cP),WE 900000000 e->Gt (WE 900000000) (eU l ops one g e)
 |0,e,_=>λi=>xA.bad
 |g+1,e,he=>λi a j h=>by
  unfold eU at h;split at h
  .cases h;exact he
  .split at h
   .cases h
   .rename_i x k hk;exact c8x h0 g _ (WE.ks ((LL.nil.cons (h0 _ x k hk)).cons he)) k a j h
omit hl hN hx in
theorem c4D{ops:List (Nm×Int)}{one:bE cP}(h0:Gt (WE 900000000) one):Gt (WE 900000000) (yX l ops one):=by unfold yX;exact Gt.bind h0 λe he=>c8x h0 _ e he
theorem e4F:Gt (WE 900000000) (a0f aL bF aD l ex):=by have hs:Gt (WE 900000000) (pL aL bF aD l ex):=c4D (c4D (d9o hl hN hx));unfold a0f;have h2:∀(f:cP->cP)(i:Nat),(∀x,WE 900000000 x->WE 900000000 (f x))->xA (WE 900000000) ((pL aL bF aD l ex >>=λx=>pure (f x)) i):=λf i h=>Gt.at (Gt.bind hs λx hx=>Gt.bZ (h x hx)) i;have two:∀op a b,WE 900000000 a->WE 900000000 b->WE 900000000 (eA op [a,b]):=λop a b ha hb=>WE.ks ((LL.nil.cons hb).cons ha);exact Gt.bind hs λe he i=>xA.ite (h2 _ _ λx hx=>two _ _ _ he hx) (xA.ite (h2 _ _ λx hx=>WE.ks (LL.nil.cons (two _ _ _ he hx))) (xA.ite (h2 _ _ λx hx=>two _ _ _ he hx) (xA.ite (h2 _ _ λx hx=>two _ _ _ he hx) (xA.ite (h2 _ _ λx hx=>two _ _ _ hx he) (xA.ite (h2 _ _ λx hx=>two _ _ _ hx he) (xA.ok he))))))
theorem d2x:Gt (WE 900000000) (xK aL bF aD l ex):=λi=>xA.ite (Gt.at (Gt.bind (hx 3) λe he=>Gt.bZ (WE.ks (LL.nil.cons he))) _) (e4F hl hN hx i)
theorem f0u:Gt (WE 900000000) (a3n aL bF aD l ex):=λi=>by have hA:=c8w hl hN hx;unfold a3n;exact xA.ite (e4D hl hN hx _) (xA.ite (Gt.at (Gt.bind (hx 0) λa ha=>Gt.skip λ_=>Gt.bind (hx 0) λb hb=>Gt.skip λ_=>Gt.bind (hx 0) λc hc=>Gt.bZ (WE.ks (((LL.nil.cons hc).cons hb).cons ha))) _) (xA.ite (d4Y hl hN hx _) (xA.ite (e4E hl hN hx _) (xA.ite (Gt.at (Gt.skip λnm=>Gt.bind hA λks hk=>Gt.skip λ_=>Gt.bind (hx 0) λb hb=>Gt.bZ (WE.ks (hk.snoc hb))) _) (c4D (c4D (d2x hl hN hx)) i)))))
end
theorem d9p:∀n k,Gt (WE 900000000) (uG aL bF aD l n k)
 |0,k=>λi=>xA.bad
 |n+1,k=>by have hx:=d9p n;unfold uG;exact Gt.ite (d9o hl hN hx) (Gt.ite (d2x hl hN hx) (f0u hl hN hx))
theorem e4G:Gt (WE 900000000) (qD aL bF aD l):=d9p hl hN _ 0
end
end
section
open Go Go.VM
variable {G:GT}
theorem a9g(l:List psV)(hl:l.length<=900000000):CS prog G 61 [.sl (l.map eD),.sl (l.map eD)] (.d (.bool true)) none:=by
 refine CS.aW func61 rfl ntmps61 rfl ?_;simp;refine SW.gA (ι:={i:Nat//i<=l.length}) (λi=>[(5,.d (.int .i64 i.1))]) (λ_=>[]) (λ_=>[]) (λi=>l.length-i.1) ⟨0,by simp⟩ (by simp) ?_;rintro⟨i,hi⟩;by_cases aG:i<l.length
 .have hw:=bC (show i<9223372036854775807 by omega);simp[aG,eD];refine⟨.mk,?_⟩;exact bD.mk ⟨i+1,aG⟩ (by simp[hw]) (by simp;omega)
 .have hie:i=l.length:=by omega
  subst hie;simp
theorem b1d(l:List psV)(hl:l.length<=900000000):CS prog G 64 [.sl (l.map eD),.sl (l.map eD)] (.d (.bool true)) none:=by
 refine CS.aW func64 rfl ntmps64 rfl ?_;simp;refine SW.gA (ι:={i:Nat//i<=l.length}) (λi=>[(5,.d (.int .i64 i.1))]) (λ_=>[]) (λ_=>[]) (λi=>l.length-i.1) ⟨0,by simp⟩ (by simp) ?_;rintro⟨i,hi⟩;by_cases aG:i<l.length
 .have hw:=bC (show i<9223372036854775807 by omega);simp[aG,eD];refine⟨.mk,?_⟩;exact bD.mk ⟨i+1,aG⟩ (by simp[hw]) (by simp;omega)
 .have hie:i=l.length:=by omega
  subst hie;simp
theorem b1e(l:List Pr)(hl:l.length<=900000000)(hp:∀p∈l,bO p<=900000000):CS prog G 76 [.sl (l.map qO),.sl (l.map qO)] (.d (.bool true)) none:=by
 refine CS.aW func76 rfl ntmps76 rfl ?_;simp;refine SW.gA (ι:={i:Nat//i<=l.length}) (λi=>[(5,.d (.int .i64 i.1))]) (λ_=>[]) (λ_=>[]) (λi=>l.length-i.1) ⟨0,by simp⟩ (by simp) ?_;rintro⟨i,hi⟩;by_cases aG:i<l.length
 .have hg:=xB aG;have hw:=bC (show i<9223372036854775807 by omega);have hsi:=vI (G:=G) l[i] l[i] (hp _ (g3y aG));rw[a4S]at hsi;simp[aG,hg];refine⟨.mk,?_⟩;refine aC.mk rE hsi ?_;simp;exact bD.mk ⟨i+1,aG⟩ (by simp[hw]) (by simp;omega)
 .have hie:i=l.length:=by omega
  subst hie;simp
structure WS (s:zQ):Prop where
 vars:s.vars.length<=900000000
 yU:s.yU.length<=900000000
 abs:s.abs.length<=900000000
 bounds:s.bounds.length<=900000000
 dB:∀b∈s.bounds,b.vars.length<=900000000/\bO b.hyp<=900000000/\bO b.goal<=900000000
 type:WB 900000000 s.type
 a5q:s.a5q.length<=900000000
 met:∀p∈s.a5q,bO p<=900000000
theorem b3P{s:zQ}(h:WS s):CS prog G 39 [.agg (a8Y s),.agg (a8Y s)] (.d (.bool true)) none:=by
 obtain⟨vs,ne,ab,bo,⟨op,nm,l,ns,p,ps⟩,me⟩:=s;obtain⟨h1,h2,h3,h4,h5,h6,h7,h8⟩:=h;simp only at h1 h2 h3 h4 h5 h6 h7 h8;have hns:=tF (G:=G) vs h1;have gK:=b1d (G:=G) ne h2;have mU:=zK (G:=G) _ h6;have hme:=b1e (G:=G) me h7 h8;refine CS.a3U func39 rfl ntmps39 rfl (SW.xk ?_);simp;refine jT.mk uN hns ?_;simp;refine jT.mk (.mk func64 rfl) gK ?_;simp;refine jT.mk (.mk func63 rfl) mU ?_;simp;refine jT.mk (.mk func76 rfl) hme ?_;simp;refine SW.tK (ι:={i:Nat//i<=ab.length}) (λi=>[(5,.d (.int .i64 i.1))]) (λ_=>[(2,.cells [.d (.sl (strs vs)),.d (.sl (ne.map eD)),.d (.sl (ab.map eD)),.d (.sl (bo.map b0p)),.d (.int .i64 op),.d (.str nm),.d (.sl (l.map tyC)),.d (.sl (strs ns)),.d (.int .i64 p.op),.d (.str p.name),.d (.int .i64 p.n),.d (.sl (p.kids.map qO)),.d (.sl (ps.map qO)),.d (.sl (me.map qO))]),(3,.cells [.d (.sl (strs vs)),.d (.sl (ne.map eD)),.d (.sl (ab.map eD)),.d (.sl (bo.map b0p)),.d (.int .i64 op),.d (.str nm),.d (.sl (l.map tyC)),.d (.sl (strs ns)),.d (.int .i64 p.op),.d (.str p.name),.d (.int .i64 p.n),.d (.sl (p.kids.map qO)),.d (.sl (ps.map qO)),.d (.sl (me.map qO))])]) (λ_=>[]) (λi=>ab.length-i.1) ⟨0,by simp⟩ (by simp) ?_;rintro⟨i,hi⟩;by_cases aG:i<ab.length
 .have hw:=bC (show i<9223372036854775807 by omega);simp[aG];refine SW.vk ?_;simp[aG,eD];refine⟨.mk,?_⟩;exact bD.mk ⟨i+1,aG⟩ (by simp[hw]) (by simp;omega)
 .have hie:i=ab.length:=by omega
  subst hie;simp;refine SW.tK (ι:={i:Nat//i<=bo.length}) (λi=>[(6,.d (.int .i64 i.1))]) (λ_=>[(2,.cells [.d (.sl (strs vs)),.d (.sl (ne.map eD)),.d (.sl (ab.map eD)),.d (.sl (bo.map b0p)),.d (.int .i64 op),.d (.str nm),.d (.sl (l.map tyC)),.d (.sl (strs ns)),.d (.int .i64 p.op),.d (.str p.name),.d (.int .i64 p.n),.d (.sl (p.kids.map qO)),.d (.sl (ps.map qO)),.d (.sl (me.map qO))]),(3,.cells [.d (.sl (strs vs)),.d (.sl (ne.map eD)),.d (.sl (ab.map eD)),.d (.sl (bo.map b0p)),.d (.int .i64 op),.d (.str nm),.d (.sl (l.map tyC)),.d (.sl (strs ns)),.d (.int .i64 p.op),.d (.str p.name),.d (.int .i64 p.n),.d (.sl (p.kids.map qO)),.d (.sl (ps.map qO)),.d (.sl (me.map qO))])]) (λ_=>[]) (λi=>bo.length-i.1) ⟨0,by simp⟩ (by simp) ?_;rintro⟨i,hi⟩;by_cases aG:i<bo.length
  .have hg:=a8N bo[i];have hw:=bC (show i<9223372036854775807 by omega);obtain⟨b1,b2,b3⟩:=h5 _ (g3y aG);have hv:=a9g (G:=G) bo[i].vars b1;have hy:=vI (G:=G) bo[i].hyp bo[i].hyp b2;have hz:=vI (G:=G) bo[i].goal bo[i].goal b3;rw[a4S]at hy hz;simp[aG];refine d2m [0,1,2,3,4,5,6,7,8,9] (e4u 10 11 12 13) 121 (by kernel_rfl) (by kernel_rfl) (by simp) ?_;simp[aG,hg,e4u];refine jT.mk (.mk func61 rfl) hv ?_;simp;refine jT.mk rE hy ?_;simp;refine jT.mk rE hz ?_;simp;exact bD.mk ⟨i+1,aG⟩ (by simp[hw]) (by simp;omega)
  .have hie:i=bo.length:=by omega
   subst hie;simp
structure WD (d:eL):Prop where
 params:d.params.length<=900000000
 body:WE 900000000 d.body
 sig:WS d.sig
theorem b3Q{d:eL}(h:WD d):CS prog G 11 [.agg (a4M d),.agg (a4M d)] (.d (.bool true)) none:=by have hns:=tF (G:=G) _ h.params;have hbo:=c0n (G:=G) h.body;have hsi:=b3P (G:=G) h.sig;refine CS.aW func11 rfl ntmps11 rfl ?_;simp;refine aC.mk uN hns ?_;simp;refine aC.mk (.mk func38 rfl) hbo ?_;simp;refine aC.mk (.mk func39 rfl) hsi ?_;simp
end
section
open Go Go.VM
variable{k:Nat}
theorem LL.s{α:Type}{P:α->Prop}{l:List α}(h:LL k P l):LL (k+1) P l:=h.up (by omega)
theorem LL.b{α:Type}{P:α->Prop}{l:List α}(h:LL k P l)(hk:k<=900000000:=by omega):l.length<=900000000:=Nat.le_trans h.1 hk
section
variable {aD:List Tok->Nat->Nat->jA Pr} {l:List Tok} (hl:l.length<=20000) (hN:∀i e p j,aD l i e=.ok p j->bO p<=20001)
include hl hN
variable{kw:Nm->Bool}
omit hN in
theorem d2y(v:Bool):Gt (LL 20002 λ_=>True) (qC kw l v):=by unfold qC;exact zL hl λk a ha=>Gt.skip λ_=>Gt.skip λ_=>Gt.skip λ_=>Gt.skip λ_=>Gt.bZ (ha.snoc trivial)
omit hN in
theorem d9q:Gt (LL 20002 λ_=>True) (qX kw l):=by unfold qX;exact zL hl λk a ha=>Gt.skip λ_=>Gt.skip λ_=>Gt.bZ (ha.snoc trivial)
theorem d1b:Gt WS (rN aL bF aD l):=by have hp:=c4C hN;unfold rN qY;refine Gt.skip λb=>Gt.bind (P:=LL 20003 λ_=>True) (Gt.ite (Gt.skip λw=>Gt.bind (P:=λb=>∃n,n<=1+20002/\LL n (λ_=>True) b) (d2s hl (I:=λk=>LL k λ_=>True) (λk a ha=>Gt.skip λ_=>Gt.bZ (ha.snoc trivial)) (LL.nil.cons trivial)) λws ⟨n,hn,h⟩=>Gt.skip λ_=>Gt.bZ (h.up (by omega))) (Gt.bZ (LL.nil.up (by omega)))) λvs h1=>?_;refine Gt.skip λb=>Gt.bind (P:=LL 20002 λ_=>True) (Gt.ite (Gt.bind (d9q hl) λ_ h=>Gt.skip λ_=>Gt.bZ h) (Gt.bZ (LL.nil.up (by omega)))) λns h2=>?_;refine Gt.skip λb=>Gt.bind (P:=LL 20002 λ_=>True) (Gt.ite (Gt.bind (d2y hl false) λ_ h=>Gt.skip λ_=>Gt.bZ h) (Gt.bZ (LL.nil.up (by omega)))) λab h3=>?_;refine Gt.bind (c8u hl (P:=λb=>b.vars.length<=900000000/\bO b.hyp<=900000000/\bO b.goal<=900000000) λk a ha=>Gt.skip λ_=>Gt.bind (P:=λb:pI=>b.vars.length<=900000000/\bO b.hyp<=900000000/\bO b.goal<=900000000) (Gt.skip λ_=>Gt.skip λ_=>Gt.bind (d2y hl false) λvs hv=>Gt.skip λ_=>Gt.bind hp λp hp1=>Gt.skip λ_=>Gt.bind hp λg hg=>Gt.skip λ_=>Gt.bZ ⟨hv.b,Nat.le_trans hp1 (by omega),Nat.le_trans hg (by omega)⟩) λb hb=>Gt.bZ (ha.snoc hb)) λbs h4=>?_;refine Gt.bind (b9f hl hN) λt h5=>Gt.skip λb=>Gt.bind (P:=LL 20002 λp=>bO p<=900000000) (Gt.ite (λi=>Gt.at (zL hl λk a ha=>Gt.bind (P:=λp=>bO p<=900000000) (λj p k h=>Nat.le_trans (hN _ _ _ _ h) (by omega)) λp hp=>Gt.bZ (ha.snoc hp)) i) (Gt.bZ (LL.nil.up (by omega)))) λms h6=>Gt.bZ ⟨h1.b,h2.b,h3.b,h4.b,h4.2,h5,h6.b,h6.2⟩
omit hl hN in
theorem WS.zero:WS uP:=⟨by simp[uP],by simp[uP],by simp[uP],by simp[uP],by simp[uP],WB.zero,by simp[uP],by simp[uP]⟩
omit hl hN in
theorem WD.zero:WD ⟨[],[],pW,0,false,uP⟩:=⟨by simp,WE.ks LL.nil,WS.zero⟩
omit hN in
theorem c4E(mode:Int):Gt WD (tZ aL l mode):=by unfold tZ;exact Gt.skip λ_=>Gt.bind (P:=LL 20002 λ_=>True) (λi=>xA.ite (xA.ite (xA.ok (LL.nil.up (by omega))) (c8v hl i)) (xA.ok (LL.nil.up (by omega)))) λps h=>Gt.bZ ⟨h.b,WE.ks LL.nil,WS.zero⟩
def WO(o:Option eL):Prop:=∀d,o=some d->WD d
variable{d:eL}
omit hl hN in
theorem WO.mk(h:WD d):WO (some d):=λd' e=>by cases e;exact h
theorem d2z(hd:WD d):Gt WO (vE aL bF aD l d):=by unfold vE;exact Gt.skip λ_=>Gt.bind (e4G hl hN) λe he=>Gt.bZ (WO.mk ⟨hd.params,he,hd.sig⟩)
omit hl hN in
theorem WD.typed{d:eL}(hd:WD d){s:zQ}(hs:WS s):WD {d with typed:=true,sig:=s}:=⟨hd.params,hd.body,hs⟩
theorem e4H:Gt WO (uH aL bF aD l):=λi=>by unfold uH;exact xA.ite (Gt.at (Gt.bind (c4E hl 0) λd hd=>Gt.skip λb=>Gt.bind (P:=WD) (Gt.ite (Gt.bind (d1b hl hN) λs hs=>Gt.bZ (hd.typed hs)) (Gt.bZ hd)) λd hd=>d2z hl hN hd) _) (xA.ite (Gt.at (Gt.bind (c4E hl 1) λd hd=>Gt.skip λ_=>Gt.bind (d1b hl hN) λs hs=>Gt.bZ (WO.mk (hd.typed hs))) _) (xA.ite (Gt.at (Gt.bind (c4E hl 2) λd hd=>Gt.skip λ_=>Gt.bind (d1b hl hN) λs hs=>d2z hl hN (hd.typed hs)) _) (xA.ok λd h=>by cases h)))
end
end
section
theorem a4V{num:List UInt8->Int×Bool}:∀(s:List UInt8)(k:Nat)(ln:Int)(cm:Bool)(l:List Tok),k<=s.length->jX num s k ln cm=.ok l->∃l0 ln',l=l0++[⟨0,[],0,ln'⟩]/\(∀t∈l0,t.kind≠0)/\jX num (s++[10,59]) k ln cm=.ok (l0++[⟨4,[59],0,ln'+1⟩,⟨0,[],0,ln'+1⟩])
 |[],k,ln,cm,l,hk,h=>by
  have:k=0:=by simpa using hk
  subst this;have h:(Except.ok [(⟨0,[],0,ln⟩:Tok)]:Except Int (List Tok))=.ok l:=h;cases h;exact⟨[],ln,rfl,(λt ht=>by cases ht),rfl⟩
 |c::r,k+1,ln,cm,l,hk,h=>by rw[jX]at h;rw[List.cons_append,jX];exact a4V r k ln cm l (by simpa using hk) h
 |c::r,0,ln,cm,l,_,h=>by
  have hf:firstT num (c::r++[10,59])=firstT num (c::r):=d3t (by simp) λb hb=>by simp at hb;subst hb;decide
  rw[List.cons_append]at hf|-;rw[jX]at h|-;by_cases h10:c=10
  .rw[if_pos h10]at h|-;exact a4V r 0 (ln+1) false l (by omega) h
  rw[if_neg h10]at h|-;by_cases hb:cm=true\/c=32\/c=9
  .rw[if_pos hb]at h|-;exact a4V r 0 ln cm l (by omega) h
  rw[if_neg hb]at h|-;by_cases h35:c=35
  .rw[if_pos h35]at h|-;exact a4V r 0 ln true l (by omega) h
  rw[if_neg h35]at h|-;rw[hf];by_cases oB:(firstT num (c::r)).2.2.2=true
  .rw[if_pos oB]at h|-;have hle:=(a4z oB).2.1.length_le;simp only[List.length_cons]at hle;cases hx:jX num r ((firstT num (c::r)).2.1.length-1) ln false with
   |error e=>rw[hx]at h;cases h
   |ok l1=>
    rw[hx]at h;obtain⟨l0,ln',rfl,e1,e2⟩:=a4V r _ ln false l1 (by omega) hx;rw[e2];cases h;refine⟨_::l0,ln',rfl,λt ht=>?_,rfl⟩;rcases g3w.1 ht with rfl|ht
    .have:=c9C (num:=num) (s:=c::r) oB;simp only;omega
    .exact e1 t ht
  .rw[if_neg oB]at h;cases h
theorem b3R{num:List UInt8->Int×Bool}:∀(s:List UInt8)(k:Nat)(ln:Int)(cm:Bool)(l:List Tok),jX num s k ln cm=.ok l->∀t∈l,∀b∈t.text,b∈s
 |[],k,ln,cm,l,h,t,ht,b,hb=>by
  have h:(Except.ok [(⟨0,[],0,ln⟩:Tok)]:Except Int (List Tok))=.ok l:=by cases k<;>(rw[jX]at h;exact h)
  cases h;simp at ht;subst ht;cases hb
 |c::r,k+1,ln,cm,l,h,t,ht,b,hb=>by rw[jX]at h;exact .tail _ (b3R r k ln cm l h t ht b hb)
 |c::r,0,ln,cm,l,h,t,ht,b,hb=>by
  rw[jX]at h;split at h
  .exact .tail _ (b3R r 0 _ _ l h t ht b hb)
  .split at h
   .exact .tail _ (b3R r 0 _ _ l h t ht b hb)
   .split at h
    .exact .tail _ (b3R r 0 _ _ l h t ht b hb)
    .split at h
     .rename_i oB;cases hx:jX num r ((firstT num (c::r)).2.1.length-1) ln false with
      |error e=>rw[hx]at h;cases h
      |ok l1=>
       rw[hx]at h;cases h;rcases g3w.1 ht with rfl|ht
       .exact(a4z oB).2.1.subset hb
       .exact .tail _ (b3R r _ _ _ l1 hx t ht b hb)
     .cases h
structure Ine (l l':List Tok) (N:Nat):Prop where
 a:Alk l l' N
 z:jP l N [41]=false
 z':jP l' N [41]=false
section
variable {kw:List UInt8->Bool} {l l':List Tok} {N:Nat} {rd rd':Nat->Nat->Option (Pr×Nat)}
theorem Ine.sg(h:Ine l l' N){i:Nat}(hi:i<=N){s:List UInt8}(hs:s≠[59]):jP l' i s=jP l i s:=by
 rcases Nat.lt_or_ge i N with h1|h1
 .exact h.a.sg hi (.inr h1)
 .have:i=N:=by omega
  subst this;by_cases h2:s=[41]
  .subst h2;rw[h.z,h.z']
  .exact h.a.sg hi (.inl ⟨h2,hs⟩)
theorem Ine.a4U(h:Ine l l' N){i:Nat}(hi:i<=N){s:List UInt8}(hs:s≠[59])(h1:jP l i s=true):i<N:=by
 rcases Nat.lt_or_ge i N with h2|h2
 .exact h2
 .have:i=N:=by omega
  subst this;by_cases h3:s=[41]
  .subst h3;rw[h.z]at h1;cases h1
  .exact h.a.a4U hi h3 hs h1
def f4E(N:Nat)(rd:Nat->Nat->Option (Pr×Nat)):Prop:=∀i k p n,rd i k=some (p,n)->i<n/\n<=N
variable (h:Ine l l' N) (hA:f4E N rd) {i:Nat} (hS:∀i' k',1<=k'->k'<=10->i<i'->i'<=N->rd' i' k'=rd i' k')
include h hA hS
theorem c2c{k:Nat}(hk:1<=k/\k<=8):∀(g g':Nat)(a:Pr)(n:Nat),i<=n->n<=N->l.length<=g+n->l'.length<=g'+n->dX rd' l' k g' a n=dX rd l k g a n
 |0,g',a,n,wJ,hn,hg,hg'=>by have:=h.a.len;omega
 |g+1,g',a,n,wJ,hn,hg,hg'=>by
  have e2:=h.a.a9f;obtain⟨g',rfl⟩:∃x,g'=x+1:=⟨g'-1,by omega⟩;rw[dX,dX,h.a.op hn];cases ho:a4e l n k with
  |none=>rfl
  |some op=>
   have aG:=h.a.f4z hn ho;simp only;rw[hS (n+1) (k+1) (by omega) (by omega) (by omega) (by omega)];cases hx:rd (n+1) (k+1)with
   |none=>rfl
   |some q=>obtain⟨b,j⟩:=q;have:=hA _ _ _ _ hx;exact c2c hk g g' _ j (by omega) (by omega) (by omega) (by omega)
theorem c8y:∀(g g' n:Nat)(acc:List Pr),i<=n->n<N->l.length<=g+n->l'.length<=g'+n->kZ rd' l' g' n acc=kZ rd l g n acc
 |0,g',n,acc,wJ,hn,hg,hg'=>by have:=h.a.len;omega
 |g+1,g',n,acc,wJ,hn,hg,hg'=>by
  have e2:=h.a.a9f;obtain⟨g',rfl⟩:∃x,g'=x+1:=⟨g'-1,by omega⟩;rw[kZ,kZ,hS (n+1) 1 (by omega) (by omega) (by omega) (by omega)];cases hx:rd (n+1) 1 with
  |none=>rfl
  |some q=>
   obtain⟨p,j⟩:=q;have:=hA _ _ _ _ hx;simp only;rw[h.sg this.2 (by decide),h.sg this.2 (by decide)];split
   .rfl
   .split
    .rename_i h2;exact c8y g g' j _ (by omega) (h.a4U this.2 (by decide) h2) (by omega) (by omega)
    .rfl
theorem c8z{n:Nat}(wJ:i<=n)(hn:n<=N):rF rd' l' n=rF rd l n:=by
 unfold rF;rw[h.sg hn (by decide)];split
 .rename_i h1;exact c8y h hA hS _ _ _ _ wJ (h.a4U hn (by decide) h1) (by omega) (by omega)
 .rfl
theorem d9r(hi:i<=N):uM kw rd' l' i=uM kw rd l i:=by
 by_cases hN:i=N
 .subst hN;obtain⟨t,h1,h2⟩:=h.a.stp;obtain⟨t',h1',h2'⟩:=h.a.d0X;rw[NoP.f4x ⟨t,h1,c2b h2⟩,NoP.f4x ⟨t',h1',c2b h2'⟩]
 have aG:i<N:=by omega
 obtain⟨t,t',ht,ht',hk,hx,hnn⟩:=h.a.same i aG;have d9f:∀j,i<=j->j<=N->((match pV kw l' j with
   |none=>none
   |some (s,n)=>(rF rd' l' n).map λq:List Pr×Nat=>((⟨5,s,0,q.1⟩:Pr),q.2)):Option (Pr×Nat))=(match pV kw l j with
   |none=>none
   |some (s,n)=>(rF rd l n).map λq:List Pr×Nat=>((⟨5,s,0,q.1⟩:Pr),q.2)):=λj hij hj=>by
  obtain⟨q1,q2⟩:=h.a.name (kw:=kw) hj;rw[q1];cases hnm:pV kw l j with
  |none=>rfl
  |some z=>obtain⟨s,m⟩:=z;have:=qJ hnm;simp only;rw[c8z h hA hS (by omega) (q2 s m hnm)]
 unfold uM;rw[ht,ht'];simp only;rw[hk,hx,hnn,h.sg hi (by decide),h.sg hi (by decide)];split
 .rfl
 split
 .rfl
 split
 .rfl
 split
 .exact d9f (i+1) (by omega) (by omega)
 split
 .rename_i h40;have e1:jP l' (i+1) [45]=jP l (i+1) [45]:=h.sg (by omega) (by decide);by_cases a2r:jP l (i+1) [45]=true/\kdB l (i+2) 3=true/\jP l (i+3) [41]=true
  .obtain⟨n1,n2,n3⟩:=a2r;have l1:=h.a4U (by omega:i+1<=N) (by decide) n1;have l2:=h.a.c8t (by omega:i+2<=N) (by decide) (by decide) n2;have l3:=h.a4U (by omega:i+3<=N) (by decide) n3;rw[if_pos ⟨by rw[e1];exact n1,by rw[h.a.kd (by omega) (.inl (by decide))];exact n2,by rw[h.sg (by omega) (by decide)];exact n3⟩,if_pos ⟨n1,n2,n3⟩,h.a.nm l2]
  .have f4F:¬(jP l' (i+1) [45]=true/\kdB l' (i+2) 3=true/\jP l' (i+3) [41]=true):=by rintro⟨c1,c2,c3⟩;rw[e1]at c1;have l1:=h.a4U (by omega:i+1<=N) (by decide) c1;rw[h.a.kd (by omega) (.inl (by decide))]at c2;have l2:=h.a.c8t (by omega:i+2<=N) (by decide) (by decide) c2;rw[h.sg (by omega) (by decide)]at c3;exact a2r ⟨c1,c2,c3⟩
   rw[if_neg f4F,if_neg a2r,hS (i+1) 1 (by omega) (by omega) (by omega) (by omega)];cases hr:rd (i+1) 1 with
   |none=>rfl
   |some q=>obtain⟨a,m⟩:=q;have:=hA _ _ _ _ hr;simp only;rw[h.sg this.2 (by decide)]
 .obtain⟨q1,q2⟩:=h.a.name (kw:=kw) hi;rw[q1];cases hnm:pV kw l i with
  |none=>rfl
  |some z=>obtain⟨s,m⟩:=z;have:=qJ hnm;simp only;rw[c8z h hA hS (by omega) (q2 s m hnm)]
theorem f0v{k:Nat}(hk:1<=k/\k<=10)(hi:i<=N)(h0:∀k',k<k'->k'<=10->rd' i k'=rd i k'):atG kw rd' l' i k=atG kw rd l i k:=by
 have zN:∀j,(j=1\/j=3\/j=4\/j=7\/j=8)->rd' i (j+1)=rd i (j+1)->((rd' i (j+1)).map λq=>dX rd' l' j l'.length q.1 q.2)=((rd i (j+1)).map λq=>dX rd l j l.length q.1 q.2):=by
  intro j hj hs;rw[hs];cases hx:rd i (j+1)with
  |none=>rfl
  |some q=>obtain⟨a,m⟩:=q;have:=hA _ _ _ _ hx;rw[Option.map_some,Option.map_some];simp only;rw[c2c h hA hS (by omega) l.length l'.length a m (by omega) (by omega) (by omega) (by omega)]
 obtain rfl|rfl|rfl|rfl|rfl|rfl|rfl|rfl|rfl|rfl:k=1\/k=2\/k=3\/k=4\/k=5\/k=6\/k=7\/k=8\/k=9\/k=10:=by omega
 .exact zN 1 (by omega) (h0 2 (by omega) (by omega))
 .show a8Z rd' l' i=a8Z rd l i
  unfold a8Z;rw[h0 3 (by omega) (by omega)];cases hx:rd i 3 with
  |none=>rfl
  |some q=>
   obtain⟨a,m⟩:=q;have:=hA _ _ _ _ hx;simp only;rw[h.sg this.2 (by decide)];split
   .rename_i hb;have aG:=h.a4U this.2 (by decide) hb;rw[hS (m+1) 2 (by omega) (by omega) (by omega) (by omega)]
   .rfl
 .exact zN 3 (by omega) (h0 4 (by omega) (by omega))
 .exact zN 4 (by omega) (h0 5 (by omega) (by omega))
 .show(if jP l' i [33]=true then _ else rd' i 6)=(if jP l i [33]=true then _ else rd i 6)
  rw[h.sg hi (by decide)];split
  .rename_i hb;have aG:=h.a4U hi (by decide) hb;rw[hS (i+1) 5 (by omega) (by omega) (by omega) (by omega)]
  .exact h0 6 (by omega) (by omega)
 .show a3T rd' l' i=a3T rd l i
  unfold a3T;rw[h0 7 (by omega) (by omega)];cases hx:rd i 7 with
  |none=>rfl
  |some q=>
   obtain⟨a,m⟩:=q;have:=hA _ _ _ _ hx;simp only;rw[h.a.cmp this.2];cases hc:wL l m with
   |none=>rfl
   |some c=>obtain⟨op,ex⟩:=c;have aG:=h.a.f0s this.2 hc;simp only;rw[hS (m+1) 7 (by omega) (by omega) (by omega) (by omega)]
 .exact zN 7 (by omega) (h0 8 (by omega) (by omega))
 .exact zN 8 (by omega) (h0 9 (by omega) (by omega))
 .show(if jP l' i [45]=true then _ else rd' i 10)=(if jP l i [45]=true then _ else rd i 10)
  rw[h.sg hi (by decide)];split
  .rename_i hb;have aG:=h.a4U hi (by decide) hb;rw[hS (i+1) 9 (by omega) (by omega) (by omega) (by omega)]
  .exact h0 10 (by omega) (by omega)
 .exact d9r h hA hS hi
omit hA hS in
theorem d1c(hA:f4E N (RR kw l)):∀(f i k:Nat),1<=k->k<=10->i<=N->mu l.length i k<=f->RR kw l' i k=RR kw l i k
 |0,i,k,_,h10,hi,hf=>by have:=h.a.len;unfold mu at hf;omega
 |f+1,i,k,h1,h10,hi,hf=>by
  have e1:=h.a.len;have e2:=h.a.a9f;rw[e6F h1 h10,e6F h1 h10];refine f0v h hA (λi' k' q1 q2 q3 q4=>d1c hA f i' k' q1 q2 q4 ?_) ⟨h1,h10⟩ hi (λk' q1 q2=>d1c hA f i k' (by omega) q2 hi ?_)
  .have:=rW (L:=l.length) (k:=k) q3 (by omega) q1 h10;omega
  .have:=a7Q (L:=l.length) (i:=i) q1 q2;omega
end
def cM{α:Type}(r r':jA α):Prop:=∀a j,r=.ok a j->r'=.ok a j
def aF{α:Type}(x y:bE α):Prop:=∀i,cM (x i) (y i)
structure a4W (l l':List Tok) (N:Nat):Prop where
 len:l.length=N+1
 a9f:l'.length=N+2
 tk:∀i,i<N->aH l' i=aH l i
 e:∀i,N<=i->(aH l i).kind=0
 e':∀i,N<=i->(aH l' i).kind=0\/((aH l' i).kind=4/\(aH l' i).text=[59])
section
variable {α β:Type}
theorem cM.refl(r:jA α):cM r r:=λ_ _ h=>h
theorem aF.refl(x:bE α):aF x x:=λ_ _ _ h=>h
theorem aF.dB{x y:bE α}{f g:α->bE β}(h:aF x y)(hf:∀a,aF (f a) (g a)):aF (x >>=f) (y >>=g):=λi a j hr=>by
 rw[bX]at hr|-;cases hx:x i with
 |bad n e=>rw[hx]at hr;cases hr
 |ok b k=>rw[hx]at hr;rw[h i b k hx];exact hf b k a j hr
variable{c c':Prop}
theorem aF.ite[Decidable c]{x y x' y':bE α}(h:aF x x')(h':aF y y'):aF (if c then x else y) (if c then x' else y'):=by
 split
 .exact h
 .exact h'
theorem cM.itp[Decidable c][Decidable c'](hc:c↔c'){x y x' y':jA α}(h:c->cM x x')(h':cM y y'):cM (if c then x else y) (if c' then x' else y'):=by
 by_cases h1:c
 .rw[if_pos h1,if_pos (hc.1 h1)];exact h h1
 .rw[if_neg h1,if_neg (λh2=>h1 (hc.2 h2))];exact h'
theorem cM.ite[Decidable c][Decidable c'](hc:c↔c'){x y x' y':jA α}(h:cM x x')(h':cM y y'):cM (if c then x else y) (if c' then x' else y'):=cM.itp hc (λ_=>h) h'
theorem aF.failed{l:List Tok}{y:bE α}:aF (dN l:bE α) y:=λi a j h=>by unfold dN at h;cases h
variable {kw:Nm->Bool} {andP:Pr->Pr->Pr} {aD:List Tok->Nat->Nat->jA Pr} {l l':List Tok} {N:Nat} (hS:a4W l l' N)
include hS
theorem a4W.fix(i:Nat){s:Nm}(hs:s≠[59]):cI (aH l' i) s=cI (aH l i) s:=by
 rcases Nat.lt_or_ge i N with h|h
 .rw[hS.tk i h]
 .have h1:=hS.e i h;have h4:decide ([59]=s)=false:=decide_eq_false λe=>hs e.symm;unfold cI;rcases hS.e' i h with h2|⟨h2,h3⟩
  .simp[h1,h2]
  .rw[h2,h3,h4];simp[h1]
theorem a4W.is(i:Nat){s:Nm}(hs:s≠[59]):aJ l' i s=aJ l i s:=hS.fix i hs
theorem a4W.ifi(i:Nat){s:Nm}(hs:s≠[59]):aJ l i s=true↔aJ l' i s=true:=by rw[hS.is i hs]
theorem a4W.wd(i:Nat):gU kw (aH l' i)=gU kw (aH l i):=by
 rcases Nat.lt_or_ge i N with h|h
 .rw[hS.tk i h]
 .unfold gU;rcases hS.e' i h with h2|⟨h2,h3⟩<;>simp[hS.e i h,h2]
theorem a4W.ti(i:Nat):pJ (aH l' i)=pJ (aH l i):=by
 rcases Nat.lt_or_ge i N with h|h
 .rw[hS.tk i h]
 .unfold pJ;rcases hS.e' i h with h2|⟨h2,h3⟩<;>simp[hS.e i h,h2]
theorem a4W.k3(i:Nat):(aH l i).kind=3↔(aH l' i).kind=3:=by
 rcases Nat.lt_or_ge i N with h|h
 .rw[hS.tk i h]
 .rcases hS.e' i h with h2|⟨h2,h3⟩<;>simp[hS.e i h,h2]
variable{i:Nat}
theorem a4W.lt(h:(aH l i).kind≠0):i<N:=Nat.lt_of_not_le λh1=>h (hS.e i h1)
theorem a4W.ltw(h:gU kw (aH l i)=true):i<N:=hS.lt (by unfold gU at h;simp only[g2Z,g3N]at h;omega)
theorem a4W.ltt(h:pJ (aH l i)=true):i<N:=hS.lt (by unfold pJ at h;simp only[g3N]at h;omega)
theorem a4W.lts{s:Nm}(h:aJ l i s=true):i<N:=hS.lt (a0g (l:=[⟨0,[],0,0⟩]) ⟨by simp,rfl⟩ h)
theorem aF.take{ok:Tok->Bool}(h0:∀t,t.kind=0->ok t=false):aF (mH l ok) (mH l' ok):=λi a j h=>by
 unfold mH at h|-;split at h
 .rename_i hk;have hi:i<N:=hS.lt λhe=>by rw[h0 _ he]at hk;cases hk
  rw[hS.tk i hi,if_pos hk];exact h
 .unfold dN at h;cases h
theorem aF.word:aF (bU kw l) (bU kw l'):=aF.take hS λt ht=>by unfold gU;simp[ht]
theorem aF.title:aF (jI l) (jI l'):=aF.take hS λt ht=>by unfold pJ;simp[ht]
theorem aF.sort:aF (yV kw l) (yV kw l'):=aF.take hS λt ht=>by unfold pJ gU;simp[ht]
theorem aF.exp:∀s:List Nm,[59] ∉ s->aF (aQ l s) (aQ l' s)
 |[],_=>aF.refl _
 |s::r,h=>λi=>by unfold aQ;exact cM.ite (hS.ifi i λe=>h (by rw[e];exact .head _)) (aF.exp r (λh1=>h (.tail _ h1)) (i+1)) (aF.failed i)
theorem aF.skip{s:Nm}(h:s≠[59]):aF (cD l s) (cD l' s):=λi=>by unfold cD;exact cM.ite (hS.ifi i h) (cM.refl _) (cM.refl _)
theorem aF.loop{c:Nm}(hc:c≠[59]){one one':α->bE α}(h:∀a,aF (one a) (one' a)):∀(g g':Nat),g<=g'->∀a:α,aF (eT l c one g a) (eT l' c one' g' a)
 |0,g',_,a=>λi b j hr=>by unfold eT at hr;cases hr
 |g+1,g',hg,a=>λi b j hr=>by
  obtain⟨g',rfl⟩:∃x,g'=x+1:=⟨g'-1,by omega⟩;unfold eT at hr|-;cases hx:one a i with
  |bad n e=>rw[hx]at hr;cases hr
  |ok y k=>rw[hx]at hr;rw[h a i y k hx];exact cM.ite (hS.ifi k hc) (aF.loop hc h g g' (by omega) y (k+1)) (cM.refl _) b j hr
theorem aF.list{c:Nm}(hc:c≠[59]){one one':α->bE α}(h:∀a,aF (one a) (one' a))(a:α):aF (dI l c one a) (dI l' c one' a):=by unfold dI;exact aF.loop hS hc h _ _ (by rw[hS.len,hS.a9f];omega) a
theorem c8A{one one':α->bE α}(h:∀a,aF (one a) (one' a)):∀(g g':Nat),g<=g'->∀(a:α)(i:Nat)(b:α)(j:Nat),eT l [59] one g a i=.ok b j->j<N->eT l' [59] one' g' a i=.ok b j
 |0,g',_,a,i,b,j,hr,_=>by unfold eT at hr;cases hr
 |g+1,g',hg,a,i,b,j,hr,hj=>by
  obtain⟨g',rfl⟩:∃x,g'=x+1:=⟨g'-1,by omega⟩;unfold eT at hr|-;cases hx:one a i with
  |bad n e=>rw[hx]at hr;cases hr
  |ok y k=>
   rw[hx]at hr;rw[h a i y k hx];simp only at hr|-;by_cases hk:aJ l k [59]=true
   .have hkN:=hS.lts hk;rw[if_pos hk]at hr;rw[if_pos (by unfold aJ;rw[hS.tk k hkN];exact hk)];exact c8A h g g' (by omega) y (k+1) b j hr hj
   .rw[if_neg hk]at hr;cases hr;rw[if_neg (by unfold aJ;rw[hS.tk _ hj];exact hk)]
theorem aF.b0o{c c':Nat->Bool}{one one':α->bE α}(hc:∀i,c' i=c i)(h:∀a,aF (one a) (one' a)):∀(g g':Nat),g<=g'->∀a:α,aF (eE c one g a) (eE c' one' g' a)
 |0,g',_,a=>λi b j hr=>by unfold eE at hr;cases hr
 |g+1,g',hg,a=>λi b j hr=>by
  obtain⟨g',rfl⟩:∃x,g'=x+1:=⟨g'-1,by omega⟩;unfold eE at hr|-;rw[hc];split at hr
  .rename_i h1;rw[if_pos h1];cases hx:one a i with
   |bad n e=>rw[hx]at hr;cases hr
   |ok y k=>rw[hx]at hr;rw[h a i y k hx];exact aF.b0o hc h g g' (by omega) y k b j hr
  .rename_i h1;rw[if_neg h1];exact hr
theorem aF.many{c c':Nat->Bool}{one one':α->bE α}(hc:∀i,c' i=c i)(h:∀a,aF (one a) (one' a))(a:α):aF (pK l c one a) (pK l' c' one' a):=by unfold pK;exact aF.b0o hS hc h _ _ (by rw[hS.len,hS.a9f];omega) a
theorem aF.words:aF (gD kw l) (gD kw l'):=by unfold gD;exact(aF.exp hS _ (by decide)).dB λ_=>(aF.list hS (by decide) (λa=>(aF.word hS).dB λ_=>aF.refl _) _).dB λ_=>(aF.exp hS _ (by decide)).dB λ_=>aF.refl _
theorem aF.vars(v:Bool):aF (qC kw l v) (qC kw l' v):=by unfold qC;exact aF.list hS (by decide) (λa=>(aF.ite (aF.skip hS (by decide)) (aF.refl _)).dB λb=>(aF.ite (aF.refl _) (aF.word hS)).dB λ_=>(aF.exp hS _ (by decide)).dB λ_=>(aF.sort hS).dB λ_=>aF.refl _) _
theorem aF.base:aF (gO kw l) (gO kw l'):=λi=>by unfold gO;exact cM.ite (hS.ifi i (by decide)) (cM.refl _) (cM.ite (hS.ifi i (by decide)) (cM.refl _) (cM.ite (hS.ifi i (by decide)) (cM.refl _) (cM.itp (by rw[hS.wd]) (λh=>by rw[hS.tk i (hS.ltw h)];exact cM.refl _) (cM.refl _))))
section
variable {ty ty':bE Ty} (mU:aF ty ty') (hP:aF (kY aD l) (kY aD l'))
include mU hP
theorem aF.b6Y:aF (vC andP aD l ty) (vC andP aD l' ty'):=by unfold vC;exact(aF.exp hS _ (by decide)).dB λ_=>mU.dB λt=>aF.ite aF.failed ((aF.exp hS _ (by decide)).dB λ_=>hP.dB λ_=>(aF.exp hS _ (by decide)).dB λ_=>aF.refl _)
theorem aF.a1e:aF (kO kw andP aD l ty) (kO kw andP aD l' ty'):=by
 unfold kO;refine(aF.base hS).dB λb=>?_;cases b with
 |some t=>exact aF.refl _
 |none=>intro i;exact cM.itp (by rw[hS.ti]) (λh=>by rw[hS.tk i (hS.ltt h)];exact cM.refl _) (cM.ite (hS.ifi i (by decide)) (aF.b6Y hS mU hP i) (((aF.exp hS _ (by decide)).dB λ_=>mU.dB λ_=>(aF.exp hS _ (by decide)).dB λ_=>aF.refl _) i))
theorem aF.c6j:aF (tB kw andP aD l ty) (tB kw andP aD l' ty'):=by unfold tB;refine(aF.title hS).dB λ_=>(aF.many hS (λi=>by unfold b1I;rw[hS.wd,hS.ti,hS.is i (s:=[123]) (by decide),hS.is i (s:=[40]) (by decide)]) (λa=>(aF.a1e hS mU hP).dB λ_=>aF.refl _) _).dB λ_=>(aF.skip hS (by decide)).dB λb=>aF.ite ?_ (aF.refl _);exact(aF.list hS (by decide) (λa=>(aF.exp hS _ (by decide)).dB λ_=>hP.dB λ_=>aF.refl _) _).dB λ_=>(aF.exp hS _ (by decide)).dB λ_=>aF.refl _
omit hP in
theorem aF.c6k:aF (vD kw l ty) (vD kw l' ty'):=by
 unfold vD;refine(aF.exp hS _ (by decide)).dB λ_=>aF.dB (λi=>?_) λp=>(aF.exp hS _ (by decide)).dB λ_=>λi=>?_
 .exact cM.ite (by rw[hS.wd,hS.fix (i+1) (s:=[58]) (by decide)]) (aF.list hS (by decide) (λa=>(aF.word hS).dB λ_=>(aF.exp hS _ (by decide)).dB λ_=>mU.dB λ_=>aF.refl _) _ i) (aF.list hS (by decide) (λa=>mU.dB λ_=>aF.refl _) _ i)
 .simp only[hS.is i (s:=[45,62]) (by decide)];exact cM.ite Iff.rfl (cM.refl _) (((aF.exp hS _ (by decide)).dB λ_=>mU.dB λ_=>aF.refl _) i)
theorem aF.c2O:aF (wO kw andP aD l ty) (wO kw andP aD l' ty'):=by
 unfold wO;refine(aF.base hS).dB λb=>?_;cases b with
 |some t=>exact aF.refl _
 |none=>intro i;exact cM.ite (by rw[hS.ti]) (aF.c6j hS mU hP i) (cM.ite (hS.ifi i (by decide)) (aF.b6Y hS mU hP i) (aF.c6k hS mU i))
end
section
variable (hP:aF (kY aD l) (kY aD l'))
include hP
theorem aF.a7n:∀n n',n<=n'->aF (xJ kw andP aD l n) (xJ kw andP aD l' n')
 |0,n',_=>λi a j h=>by unfold xJ at h;cases h
 |n+1,n',hn=>by obtain⟨n',rfl⟩:∃x,n'=x+1:=⟨n'-1,by omega⟩;exact aF.c2O hS (aF.a7n n n' (by omega)) hP
theorem aF.typ:aF (mP kw andP aD l) (mP kw andP aD l'):=by unfold mP;exact aF.a7n hS hP _ _ (by rw[hS.len,hS.a9f];omega)
theorem aF.types:aF (qW kw andP aD l) (qW kw andP aD l'):=by unfold qW;exact(aF.skip hS (by decide)).dB λb=>aF.ite ((aF.list hS (by decide) (λa=>(aF.typ hS hP).dB λ_=>aF.refl _) _).dB λ_=>(aF.exp hS _ (by decide)).dB λ_=>aF.refl _) (aF.refl _)
section
variable {ex ex':Nat->bE cP} (hx:∀k,aF (ex k) (ex' k))
include hx
omit hP in
theorem aF.kZ:aF (jB l ex) (jB l' ex'):=by unfold jB;exact(aF.exp hS _ (by decide)).dB λ_=>(aF.list hS (by decide) (λa=>(hx 0).dB λ_=>aF.refl _) _).dB λ_=>(aF.exp hS _ (by decide)).dB λ_=>aF.refl _
omit hP in
theorem aF.c6l(op:Int):aF (yW l ex op) (yW l' ex' op):=by unfold yW;exact(aF.exp hS _ (by decide)).dB λ_=>(hx 0).dB λ_=>(aF.exp hS _ (by decide)).dB λ_=>aF.refl _
omit hP in
theorem aF.b7a:aF (sD kw l ex) (sD kw l' ex'):=by
 unfold sD;refine(hx 0).dB λe=>(aF.exp hS _ (by decide)).dB λ_=>λi a j hr=>?_;rw[bX]at hr|-;split at hr
 .rename_i aa k hl;have hk:k<N:=by
   rw[bX]at hr;split at hr
   .rename_i u m he;unfold aQ at he;split at he
    .rename_i h1;exact hS.lts h1
    .unfold dN at he;cases he
   .cases hr
  unfold dI at hl|-;rw[c8A hS (one':=λout=>do
   let c <- jI l'
   let ns <- (λi=>if aJ l' i [40] then gD kw l' i else .ok [] i:bE (List Nm))
   aQ l' [[45,62]]
   let b <- ex' 0
   pure (out++[(c,ns,b)])) (λout=>(aF.title hS).dB λ_=>aF.dB (λi=>cM.ite (hS.ifi i (by decide)) (aF.words hS i) (cM.refl _)) λ_=>(aF.exp hS _ (by decide)).dB λ_=>(hx 0).dB λ_=>aF.refl _) _ (l'.length+2) (by rw[hS.len,hS.a9f];omega) _ _ _ _ hl hk]
  exact((aF.exp hS _ (by decide)).dB λ_=>aF.refl _) k a j hr
 .cases hr
theorem aF.d6U:aF (a0d kw andP aD l ex) (a0d kw andP aD l' ex'):=by unfold a0d;exact(aF.word hS).dB λ_=>(aF.skip hS (by decide)).dB λb=>(aF.ite ((aF.typ hS hP).dB λ_=>aF.refl _) (aF.refl _)).dB λ_=>(aF.exp hS _ (by decide)).dB λ_=>(hx 0).dB λ_=>(aF.exp hS _ (by decide)).dB λ_=>(hx 0).dB λ_=>aF.refl _
theorem aF.d6V:aF (a0e kw andP aD l ex) (a0e kw andP aD l' ex'):=by unfold a0e;refine(aF.exp hS _ (by decide)).dB λ_=>(aF.list hS (by decide) (λa=>?_) _).dB λ_=>(aF.exp hS _ (by decide)).dB λ_=>(hx 0).dB λ_=>aF.refl _;exact(aF.word hS).dB λ_=>(aF.skip hS (by decide)).dB λb=>(aF.ite (aF.typ hS hP) (aF.refl _)).dB λ_=>aF.refl _
theorem aF.c2P:aF (oN kw andP aD l ex) (oN kw andP aD l' ex'):=by unfold oN;refine(aF.exp hS _ (by decide)).dB λ_=>λi=>?_;refine cM.itp (by rw[hS.is i (s:=[45]) (by decide),hS.fix (i+2) (s:=[41]) (by decide),decide_eq_decide.2 (hS.k3 (i+1))]) (λh=>?_) (((hx 0).dB λe=>(aF.skip hS (by decide)).dB λb=>(aF.ite ((aF.typ hS hP).dB λ_=>aF.refl _) (aF.refl _)).dB λ_=>(aF.exp hS _ (by decide)).dB λ_=>aF.refl _) i);simp only[g2Z,g3N]at h;rw[hS.tk (i+1) (hS.lt (by omega))];exact cM.refl _
theorem aF.b1J:aF (uF kw andP aD l ex) (uF kw andP aD l' ex'):=λi=>by
 unfold uF;refine cM.itp (hS.k3 i) (λh=>by rw[hS.tk i (hS.lt (by omega))];exact cM.refl _) (cM.ite (hS.ifi i (by decide)) (cM.refl _) (cM.ite (hS.ifi i (by decide)) (cM.refl _) (cM.ite (hS.ifi i (by decide)) (aF.c6l hS hx _ _) (cM.ite (hS.ifi i (by decide)) (aF.c6l hS hx _ _) (cM.ite (hS.ifi i (by decide)) ?_ (cM.itp (by rw[hS.wd]) (λh=>?_) (cM.itp (by rw[hS.ti]) (λh=>?_) (aF.c2P hS hP hx i))))))))
 .exact((aF.exp hS _ (by decide)).dB λ_=>(hx 0).dB λ_=>(aF.exp hS _ (by decide)).dB λ_=>(hx 0).dB λ_=>(aF.exp hS _ (by decide)).dB λ_=>aF.refl _) (i+1)
 .rw[hS.tk i (hS.ltw h),hS.is (i+1) (s:=[91]) (by decide),hS.is (i+1) (s:=[40]) (by decide)];exact cM.ite Iff.rfl (cM.refl _) (((aF.types hS hP).dB λ_=>(aF.kZ hS hx).dB λ_=>aF.refl _) (i+1))
 .rw[hS.tk i (hS.ltt h)];refine((aF.types hS hP).dB λ_=>aF.dB (λj=>?_) λ_=>aF.refl _) (i+1);exact cM.ite (hS.ifi j (by decide)) (aF.kZ hS hx j) (cM.refl _)
theorem aF.unG:aF (a2t kw andP aD l ex) (a2t kw andP aD l' ex'):=λi=>by unfold a2t;exact cM.ite (hS.ifi i (by decide)) (((hx 7).dB λ_=>aF.refl _) (i+1)) (aF.b1J hS hP hx i)
omit hP hx in
theorem aF.chain{ops:List (Nm×Int)}(ho:∀p∈ops,p.1≠[59]){one one':bE cP}(h1:aF one one'):∀(g g':Nat),g<=g'->∀e:cP,aF (eU l ops one g e) (eU l' ops one' g' e)
 |0,g',_,e=>λi a j h=>by unfold eU at h;cases h
 |g+1,g',hg,e=>λi a j h=>by
  obtain⟨g',rfl⟩:∃x,g'=x+1:=⟨g'-1,by omega⟩;unfold eU at h|-;rw[find_congr λp hp=>hS.is i (ho p hp)];cases hf:ops.find? λp=>aJ l i p.1 with
  |none=>rw[hf]at h;exact h
  |some p=>
   rw[hf]at h;simp only at h|-;cases hx:one (i+1)with
   |bad n e=>rw[hx]at h;cases h
   |ok y k=>rw[hx]at h;rw[h1 (i+1) y k hx];exact aF.chain ho h1 g g' (by omega) _ k a j h
omit hP hx in
theorem aF.lvl{ops:List (Nm×Int)}(ho:∀p∈ops,p.1≠[59]){one one':bE cP}(h1:aF one one'):aF (yX l ops one) (yX l' ops one'):=by unfold yX;exact h1.dB λ_=>aF.chain hS ho h1 _ _ (by rw[hS.len,hS.a9f];omega) _
theorem aF.a6w:aF (pL kw andP aD l ex) (pL kw andP aD l' ex'):=aF.lvl hS (by decide) (aF.lvl hS (by decide) (aF.unG hS hP hx))
theorem aF.a3T:aF (a0f kw andP aD l ex) (a0f kw andP aD l' ex'):=by unfold a0f;refine(aF.a6w hS hP hx).dB λe=>λi=>?_;have h:=λf:cP->cP=>((aF.a6w (kw:=kw) (andP:=andP) hS hP hx).dB λx=>aF.refl (pure (f x):bE cP)) (i+1);exact cM.ite (hS.ifi i (by decide)) (h _) (cM.ite (hS.ifi i (by decide)) (h _) (cM.ite (hS.ifi i (by decide)) (h _) (cM.ite (hS.ifi i (by decide)) (h _) (cM.ite (hS.ifi i (by decide)) (h _) (cM.ite (hS.ifi i (by decide)) (h _) (cM.refl _))))))
theorem aF.a8X:aF (xK kw andP aD l ex) (xK kw andP aD l' ex'):=λi=>by unfold xK;exact cM.ite (hS.ifi i (by decide)) (((hx 3).dB λ_=>aF.refl _) (i+1)) (aF.a3T hS hP hx i)
theorem aF.exG:aF (a3n kw andP aD l ex) (a3n kw andP aD l' ex'):=λi=>by
 unfold a3n;refine cM.ite (hS.ifi i (by decide)) (aF.d6U hS hP hx _) (cM.ite (hS.ifi i (by decide)) ?_ (cM.ite (hS.ifi i (by decide)) (aF.b7a hS hx _) (cM.ite (hS.ifi i (by decide)) (aF.d6V hS hP hx _) (cM.ite (hS.ifi i (by decide)) ?_ ?_))))
 .exact((hx 0).dB λ_=>(aF.exp hS _ (by decide)).dB λ_=>(hx 0).dB λ_=>(aF.exp hS _ (by decide)).dB λ_=>(hx 0).dB λ_=>aF.refl _) (i+1)
 .exact((aF.word hS).dB λ_=>(aF.kZ hS hx).dB λ_=>(aF.exp hS _ (by decide)).dB λ_=>(hx 0).dB λ_=>aF.refl _) (i+1)
 .exact aF.lvl hS (by decide) (aF.lvl hS (by decide) (aF.a8X hS hP hx)) i
end
theorem aF.exF:∀n n',n<=n'->∀k,aF (uG kw andP aD l n k) (uG kw andP aD l' n' k)
 |0,n',_,k=>λi a j h=>by unfold uG at h;cases h
 |n+1,n',hn,k=>by obtain⟨n',rfl⟩:∃x,n'=x+1:=⟨n'-1,by omega⟩;have ih:=aF.exF n n' (by omega);unfold uG;exact aF.ite (aF.unG hS hP ih) (aF.ite (aF.a8X hS hP ih) (aF.exG hS hP ih))
theorem aF.expr:aF (qD kw andP aD l) (qD kw andP aD l'):=by unfold qD;exact aF.exF hS hP _ _ (by rw[hS.len,hS.a9f];omega) _
end
end
section
variable {kw:Nm->Bool} {andP:Pr->Pr->Pr} {aD:List Tok->Nat->Nat->jA Pr} {l l':List Tok} {N:Nat} (hS:a4W l l' N)
include hS
theorem aF.yU:aF (qX kw l) (qX kw l'):=by unfold qX;exact aF.list hS (by decide) (λa=>(aF.title hS).dB λ_=>(aF.word hS).dB λ_=>aF.refl _) _
omit hS in
theorem a8i{l:List Tok}{g:Nat}{d:Int}{i:Nat}(h:l.length<=i):gM l g d i=l.length:=by
 cases g with
 |zero=>rfl
 |succ g=>unfold gM;rw[if_neg (by omega)]
theorem b2U:∀(g g':Nat)(d:Int)(i:Nat),l.length<g+i->l'.length<g'+i->(gM l g d i=l.length/\gM l' g' d i=l'.length)\/(gM l' g' d i=gM l g d i/\gM l g d i<=N)
 |0,g',d,i,h,h'=>by have h1:=hS.len;have h2:=hS.a9f;exact .inl ⟨rfl,a8i (by omega)⟩
 |g+1,g',d,i,h,h'=>by
  have h1:=hS.len;have h2:=hS.a9f;by_cases hi:l'.length<=i
  .exact .inl ⟨a8i (by omega),a8i hi⟩
  obtain⟨g',rfl⟩:∃x,g'=x+1:=⟨g'-1,by omega⟩;by_cases hN:i<l.length
  .rw[gM,gM,if_pos hN,if_pos (show i<l'.length by omega),hS.fix i (s:=[40]) (by decide),hS.fix i (s:=[41]) (by decide),hS.fix i (s:=[61]) (by decide)];split
   .exact b2U g g' _ _ (by omega) (by omega)
   .split
    .exact b2U g g' _ _ (by omega) (by omega)
    .split
     .exact .inr ⟨rfl,by omega⟩
     .exact b2U g g' _ _ (by omega) (by omega)
  .have hz:∀s,s≠[59]->cI (aH l' i) s=false:=λs hs=>by rw[hS.fix i hs];unfold cI;simp[hS.e i (by omega)]
   refine .inl ⟨a8i (by omega),?_⟩;rw[gM,if_pos (show i<l'.length by omega),hz [40] (by decide),hz [41] (by decide),hz [61] (by decide)];exact a8i (by omega)
theorem aF.head(mode:Int):aF (tZ kw l mode) (tZ kw l' mode):=by unfold tZ;refine(aF.word hS).dB λ_=>aF.dB (λi=>?_) λ_=>aF.refl _;exact cM.ite (hS.ifi i (by decide)) (cM.ite (by rw[hS.fix (i+1) (s:=[41]) (by decide)]) (cM.refl _) (aF.words hS i)) (cM.refl _)
variable (hB:∀i e,e<=N->cM (aD l i e) (aD l' i e)) (hL:∀i,cM (aD l i l.length) (aD l' i l'.length))
include hL
theorem aF.bound:aF (qY kw aD l) (qY kw aD l'):=by unfold qY;exact(aF.word hS).dB λ_=>(aF.exp hS _ (by decide)).dB λ_=>(aF.vars hS _).dB λ_=>(aF.exp hS _ (by decide)).dB λ_=>aF.dB hL λ_=>(aF.exp hS _ (by decide)).dB λ_=>aF.dB hL λ_=>(aF.exp hS _ (by decide)).dB λ_=>aF.refl _
include hB
theorem aF.sig:aF (rN kw andP aD l) (rN kw andP aD l'):=by
 unfold rN;refine(aF.skip hS (by decide)).dB λb=>(aF.ite ((aF.word hS).dB λ_=>(aF.many hS (λi=>hS.wd i) (λa=>(aF.word hS).dB λ_=>aF.refl _) _).dB λ_=>(aF.exp hS _ (by decide)).dB λ_=>aF.refl _) (aF.refl _)).dB λ_=>?_;refine(aF.skip hS (by decide)).dB λb=>(aF.ite ((aF.yU hS).dB λ_=>(aF.exp hS _ (by decide)).dB λ_=>aF.refl _) (aF.refl _)).dB λ_=>?_;refine(aF.skip hS (by decide)).dB λb=>(aF.ite ((aF.vars hS _).dB λ_=>(aF.exp hS _ (by decide)).dB λ_=>aF.refl _) (aF.refl _)).dB λ_=>?_;refine(aF.many hS (λi=>hS.is i (by decide)) (λa=>(aF.exp hS _ (by decide)).dB λ_=>(aF.bound hS hL).dB λ_=>aF.refl _) _).dB λ_=>?_;refine(aF.typ hS hL).dB λ_=>(aF.skip hS (by decide)).dB λb=>(aF.ite (λi=>?_) (aF.refl _)).dB λ_=>aF.refl _;refine aF.list hS (by decide) (λa=>aF.dB (λj=>?_) λ_=>aF.refl _) _ i;have h1:=hS.len;have h2:=hS.a9f;rcases b2U hS (l.length+1) (l'.length+1) 0 i (by omega) (by omega)with⟨e1,e2⟩|⟨e1,e2⟩
 .rw[e1,e2];exact hL j
 .rw[e1];exact hB j _ e2
theorem aF.body(d:eL):aF (vE kw andP aD l d) (vE kw andP aD l' d):=by unfold vE;exact(aF.exp hS _ (by decide)).dB λ_=>(aF.expr hS hL).dB λ_=>aF.refl _
theorem aF.defn:aF (uH kw andP aD l) (uH kw andP aD l'):=λi=>by
 unfold uH;refine cM.ite (hS.ifi i (by decide)) ?_ (cM.ite (hS.ifi i (by decide)) ?_ (cM.ite (hS.ifi i (by decide)) ?_ (cM.refl _)))
 .exact((aF.head hS _).dB λ_=>(aF.skip hS (by decide)).dB λb=>(aF.ite ((aF.sig hS hB hL).dB λ_=>aF.refl _) (aF.refl _)).dB λ_=>aF.body hS hB hL _) (i+1)
 .exact((aF.head hS _).dB λ_=>(aF.exp hS _ (by decide)).dB λ_=>(aF.sig hS hB hL).dB λ_=>aF.refl _) (i+1)
 .exact((aF.head hS _).dB λ_=>(aF.exp hS _ (by decide)).dB λ_=>(aF.sig hS hB hL).dB λ_=>aF.body hS hB hL _) (i+1)
end
section
variable (A:List Tok) (n n':Int)
abbrev seE:Tok:=⟨0,[],0,n⟩
abbrev seS:Tok:=⟨4,[59],0,n'⟩
theorem f0x:Ine (A++[seE n]) (A++[seS n',seE n']) A.length:=by
 have g1:(A++[seE n])[A.length]? =some (seE n):=by simp
 have g2:(A++[seS n',seE n'])[A.length]? =some (seS n'):=by simp
 refine⟨⟨λi hi=>⟨A[i],A[i],by rw[g3k hi,g3d hi],by rw[g3k hi,g3d hi],rfl,rfl,rfl⟩,⟨_,g1,.inl rfl⟩,⟨_,g2,.inr ⟨rfl,.inr rfl⟩⟩⟩,?_,?_⟩
 .unfold jP;rw[g1]
  rfl
 .unfold jP;rw[g2]
  rfl
theorem f4H:RR aL (A++[seS n',seE n']) 0 1=RR aL (A++[seE n]) 0 1:=by
 refine d1c (f0x A n n') (λi k p m h=>?_) _ 0 1 (by omega) (by omega) (by omega) (g3p _);have hS:b0V (A++[seE n]):=λt ht=>by
  simp at ht;subst ht
  rfl
 have:=b8M aL _ hS _ _ _ _ _ h;simp only[g3K,List.length_singleton]at this;omega
theorem d9s(i:Nat)(h:A.length<=i)(t:Tok):aH (A++[t]) i=t:=by
 unfold aH;split
 .rename_i hi;simp only[g3K,List.length_singleton]at hi;have:i=A.length:=by omega
  subst this;simp
 .simp
theorem c8B(i:Nat)(h:i<A.length)(B:List Tok):aH (A++B) i=A[i]:=by
 unfold aH;rw[if_pos (by simp only[g3K];omega),g4b,g3k h,g3d h]
 rfl
theorem f4I:a4W (A++[seE n]) (A++[seS n',seE n']) A.length:=by
 refine⟨by simp,by simp,λi hi=>by rw[c8B A i hi,c8B A i hi],λi hi=>by rw[d9s A i hi],λi hi=>?_⟩;by_cases h:i=A.length
 .subst h;refine .inr ?_;have:aH (A++[seS n',seE n']) A.length=seS n':=by unfold aH;rw[if_pos (by simp)];simp
  rw[this];exact⟨rfl,rfl⟩
 .refine .inl ?_;have:=d9s (A++[seS n']) i (by simp only[g3K,List.length_singleton];omega) (seE n');rw[List.append_assoc]at this;rw[show(A++[seS n',seE n'])=A++([seS n']++[seE n']) from rfl,this]
theorem f8m(i e:Nat)(he:e<=A.length):cM (vP (A++[seE n]) i e) (vP (A++[seS n',seE n']) i e):=λp j h=>by
 unfold vP at h|-;rw[List.take_append_of_le_length he]at h|-;split at h
 .cases h
 .rename_i q m hr;split at h
  .rename_i hc;rw[if_pos hc];exact h
  .cases h
theorem f8n(i:Nat):cM (vP (A++[seE n]) i (A++[seE n]).length) (vP (A++[seS n',seE n']) i (A++[seS n',seE n']).length):=λp j h=>by
 unfold vP at h|-;rw[List.take_of_length_le (g3p _)]at h|-;rcases Nat.lt_or_ge A.length i with hi|hi
 .have e1:(A++[seE n]).drop (min i (A++[seE n]).length)=[]:=by rw[List.drop_eq_nil_iff];simp only[g3K,List.length_singleton];omega
  rw[e1]at h;have e2:a1p []=none:=by
   cases hx:a1p []with
   |none=>rfl
   |some q=>obtain⟨a,m⟩:=q;have:=e9U aL [] 0 1 a m hx;simp only[List.length_nil]at this;omega
  rw[e2]at h;cases h
 .have e1:(A++[seE n]).drop (min i (A++[seE n]).length)=A.drop i++[seE n]:=by rw[Nat.min_eq_left (by simp only[g3K,List.length_singleton];omega),List.drop_append_of_le_length hi]
  have e2:(A++[seS n',seE n']).drop (min i (A++[seS n',seE n']).length)=A.drop i++[seS n',seE n']:=by rw[Nat.min_eq_left (by simp only[g3K,List.length_cons];omega),List.drop_append_of_le_length hi]
  have e3:a1p (A.drop i++[seS n',seE n'])=a1p (A.drop i++[seE n]):=f4H (A.drop i) n n';rw[e1]at h;rw[e2,e3];split at h
  .cases h
  .rename_i q m hr;split at h
   .rename_i hc;rw[if_pos hc];exact h
   .cases h
end
theorem d9t{s:List UInt8}(hs:s.length<=30000){d:eL}{j:Nat}(h:dQ (eZ vP) s=.ok d j):(∃j',dQ (eZ vP) (s++[10,59])=.ok d j')\/(59∈s/\∃n,dQ (eZ vP) (s++[10,59])=.bad n 14):=by
 obtain⟨_,l,hl,hx,hk⟩:=c1U h;have wJ:=b3R s 0 1 false l hl;obtain⟨A,n,rfl,hA,hl'⟩:=a4V s 0 1 false l (by omega) hl;have hS:=f4I A n (n+1);have hlen:¬40000<(s++[10,59]).length:=by rw[g3K];simp only[List.length_cons,List.length_nil];omega
 have hge:A.length<=j:=g3I λh2=>by rw[c8B A _ h2]at hk;exact hA _ (g3y h2) hk
 have htN:aH (A++[seS (n+1),seE (n+1)]) A.length=seS (n+1):=by unfold aH;rw[if_pos (by simp)];simp
 have htE:∀k,A.length<k->aH (A++[seS (n+1),seE (n+1)]) k=seE (n+1):=λk hk=>by have:=d9s (A++[seS (n+1)]) k (by simp only[g3K,List.length_singleton];omega) (seE (n+1));rw[List.append_assoc]at this;exact this
 unfold eZ at hx;rw[bX]at hx;split at hx
 .rename_i o k ho;cases o with
  |none=>simp only at hx;unfold dN at hx;cases hx
  |some d1=>
   have hu:=aF.defn (kw:=aL) (andP:=bF) hS (λi e he=>f8m A n (n+1) i e he) (λi=>f8n A n (n+1) i) 0 (some d1) k ho;simp only at hx;rw[bX]at hx;unfold cD at hx;by_cases h1:aJ (A++[seE n]) k [59]=true
   .have hkN:=hS.lts h1;rw[if_pos h1]at hx;cases hx;have hm:aH (A++[seE n]) k∈A++[seE n]:=by rw[c8B A k hkN];exact List.mem_append_left _ (g3y hkN)
    have ht:(aH (A++[seE n]) k).text=[59]:=by unfold aJ cI at h1;simp only[g2Z,g3N]at h1;exact h1.2
    refine .inr ⟨wJ _ hm 59 (by rw[ht];exact .head _),(seS (n+1)).line,?_⟩;have hq:eZ vP (A++[seS (n+1),seE (n+1)]) 0=.ok d (k+1):=by
     unfold eZ;rw[bX,hu];simp only;rw[bX];unfold cD;rw[if_pos]
     .rfl
     .unfold aJ at h1|-;rw[c8B A k hkN]at h1|-;exact h1
    have f8p:k+1=A.length:=by omega
    unfold dQ;rw[if_neg hlen,hl'];simp only[hq];unfold a2v dN;rw[f8p,htN,if_neg (show ¬(4:Int)=0 by decide)]
   .rw[if_neg h1]at hx;cases hx;refine .inl ?_;rcases Nat.lt_or_ge A.length j with h2|h2
    .refine⟨j,c8a (l:=A++[seS (n+1),seE (n+1)]) hlen hl' ?_⟩;unfold eZ;rw[bX,hu];simp only;rw[bX];unfold cD;rw[if_neg]
     .rfl
     .unfold aJ;rw[htE j h2];simp[cI]
    .have h3:j=A.length:=by omega
     subst h3;refine⟨A.length+1,c8a (l:=A++[seS (n+1),seE (n+1)]) hlen hl' ?_ (by rw[htE _ (by omega)])⟩;unfold eZ;rw[bX,hu];simp only;rw[bX];unfold cD;rw[if_pos]
     .rfl
     .unfold aJ;rw[htN];simp[cI]
 .cases hx
end
section
open Go Go.VM
def d1d(s:List UInt8):Bool:=s.any λb=>decide (b=59)||decide (b=35)
theorem e4I{s:List UInt8}(h:∀b∈s,b≠59/\b≠35):d1d s=false:=by unfold d1d;rw[List.any_eq_false];intro b hb;have:=h b hb;simp[this.1,this.2]
theorem d2A{s:List UInt8}{i:Nat}(hi:i<s.length)(h:s[i]=59\/s[i]=35):d1d s=true:=by unfold d1d;rw[List.any_eq_true];exact⟨s[i],g3y hi,by simpa using h⟩
theorem c4F{G:GT}(s:List UInt8)(hl:s.length<=900000000:=by omega):CS prog G 12 [.str s] (.d (.bool (d1d s))) none:=by
 refine CS.aW func12 rfl ntmps12 rfl ?_;simp;refine SW.gA (ι:={i:Nat//i<=s.length/\∀b∈s.take i,b≠59/\b≠35}) (λi=>[(3,.d (.int .i64 i.1))]) (λ_=>[]) (λ_=>[]) (λi=>s.length-i.1) ⟨0,by simp⟩ (by simp) ?_;rintro⟨i,hi,hn⟩
 try simp only at hi hn
 by_cases aG:i<s.length
 .have hw:=bC (show i<9223372036854775807 by omega);have cc:=a3X s[i] 59;have cd:=a3X s[i] 35;simp at cc cd;by_cases hc:s[i]=59
  .have e:=cc.2 hc;simp[aG,e,d2A aG (.inl hc)]
  .have e:¬s[i].toNat=59:=λh=>hc (cc.1 h);by_cases hd:s[i]=35
   .have e2:=cd.2 hd;simp[aG,e2,d2A aG (.inr hd)]
   .have e2:¬s[i].toNat=35:=λh=>hd (cd.1 h);simp[aG,e,e2];refine bD.mk ⟨i+1,aG,λb hb=>?_⟩ (by simp[hw]) (by simp;omega);rw[g3o aG]at hb;rcases g3z.1 hb with hb|hb
    .exact hn b hb
    .simp at hb;rw[hb];exact⟨hc,hd⟩
 .have hie:i=s.length:=by omega
  subst hie;rw[g3S]at hn;simp[e4I hn]
theorem d9u{l:List Tok}(hV:vK G0 vP l){d:eL}{j:Nat}(h:eZ vP l 0=.ok d j):WD d:=by
 unfold eZ at h;rw[bX]at h;split at h
 .rename_i o k ho;have hw:=e4H hV.len hV.nod 0 o k ho;cases o with
  |none=>simp only at h;unfold dN at h;cases h
  |some d1=>
   simp only at h;rw[bX]at h;unfold cD at h;split at h
   .cases h;exact hw _ rfl
   .cases h
 .cases h
theorem f4J(s:List UInt8)(h19:s.length<=19000:=by omega):WD (a1N a2I (dQ (eZ vP) s)):=by
 cases h:dQ (eZ vP) s with
 |bad n e=>exact WD.zero
 |ok m j=>obtain⟨hs,l,hl,hx,_⟩:=c1U h;exact d9u (c1Z hl h19) hx
theorem b3S(s:List UInt8)(hs:s.length<=100000000:=by omega):CS prog G0 4 [.str s] (.d (.bool true)) none:=by
 by_cases b1:800<s.length
 .have e1:(800:Int)<s.length:=by omega
  refine CS.aW func4 rfl ntmps4 rfl ?_;simp[e1,b1];refine aC.mk a0D (b2R ) ?_;simp
 have e1:¬(800:Int)<s.length:=by omega
 have p1:=a5X (G:=G0) a3H a3I s (by omega);have p2:=d0W (G:=G0) s;have p3:=a5X (G:=G0) a3H a3I (s++[10,59]) (by simp;omega);have w1:=b3Q (G:=G0) (f4J s);have he:=c4F (G:=G0) s;have hA:=b2R;have hq:a1O (dQ (eZ vP) s)≠0\/(d1d s=true/\a1O (dQ (eZ vP) (s++[10,59]))≠0)\/(a1O (dQ (eZ vP) (s++[10,59]))=0/\a1N a2I (dQ (eZ vP) (s++[10,59]))=a1N a2I (dQ (eZ vP) s)):=by
  cases h:dQ (eZ vP) s with
  |bad n e=>exact .inl (a7Z (λl n e hE hB hp h=>d2i 0 n e h) h)
  |ok d j=>
   rcases d9t (by omega) h with⟨j',h'⟩|⟨hm,n,h'⟩
   .rw[h'];exact .inr (.inr ⟨rfl,rfl⟩)
   .rw[h'];refine .inr (.inl ⟨?_,show(14:Int)≠0 by decide⟩);unfold d1d;rw[List.any_eq_true];exact⟨59,hm,by decide⟩
 generalize a1O (dQ (eZ vP) (s++[10,59]))=x3 at p3 hq;generalize a1N a2I (dQ (eZ vP) (s++[10,59]))=d3 at p3 hq;generalize a1O (dQ (eZ vP) s)=x1 at p1 p2 hq;generalize a1N a2I (dQ (eZ vP) s)=d at p1 p2 w1 hq;refine CS.aW func4 rfl ntmps4 rfl ?_;simp[e1,b1];refine aC.mk (.mk func9 rfl) p1 ?_;simp;refine aC.mk (.mk func10 rfl) p2 ?_;simp;refine d0Z (by omega) ?_;simp;refine aC.mk (.mk func9 rfl) p3 ?_;simp;refine aC.mk (.mk func11 rfl) w1 ?_;simp;by_cases h1:x1=0
 .rcases hq with h2|⟨h2,h3⟩|⟨h2,h3⟩
  .exact absurd h1 h2
  .rw[h2]at he;simp[h1,h3];refine aC.mk (.mk func12 rfl) he ?_;simp;refine aC.mk a0D hA ?_;simp
  .subst h2 h3;simp[h1];refine aC.mk (.mk func11 rfl) w1 ?_;simp;refine aC.mk a0D hA ?_;simp
 .simp[h1];refine aC.mk a0D hA ?_;simp
theorem parseDefs_all(xs:List D)(h:b1B prog [9] xs)(mI:szL xs<=1048576):CS prog G0 4 xs (.d (.bool true)) none:=by
 match xs,h with
 |[a],⟨h1,_⟩=>obtain⟨s,rfl,_⟩:=d3r tu9 h1;simp only[szL,szD]at mI;exact b3S s
end
end Go.Proofs.YtmfbjecjccipfaaGreatDoor
