/- Lemmas. No condition. -/
import Derived.Test.YtmfbjecjccipfaaGreatDoorOvn
import Derived.OrdersHeld
set_option linter.unusedVariables false
set_option linter.unusedSimpArgs false
set_option linter.unusedSectionVars false
set_option maxRecDepth 100000
set_option maxHeartbeats 64000000
open Go.Proofs.Tryz
namespace Go.Proofs.YtmfbjecjccipfaaGreatDoor
section
open Go Go.VM
variable {G:GT}
variable{i:Nat}{cur r s:List UInt8}
theorem c4n(p:UInt8->Bool)(hi:i<=s.length)(h:∀b∈s.take i,p b=true):i<=(s.takeWhile p).length:=by have e:s=s.take i++s.drop i:=(g3M i s).symm;rw[e,List.takeWhile_append_of_pos h,g3K,g3L];omega
def a6n(c:UInt8):Int:=if smU c then 1 else if caU c then 2 else if dgU c then 3 else 4
def c4o(c:UInt8)(r:List UInt8):List D:=[.int .i64 (a6n c),.str (firstT jZ (c::r)).2.1,.int .i64 (firstT jZ (c::r)).2.2.1,.int .i64 0]
theorem c8h(c:UInt8)(r:List UInt8)(hl:(c::r).length<=900000000:=by simp;omega):CS prog G 103 [.str (c::r)] (.cY [.agg (c4o c r),.bool (firstT jZ (c::r)).2.2.2]) none:=by
 have hfr:c4o c r=[.int .i64 (a6n c),.str (firstT jZ (c::r)).2.1,.int .i64 (firstT jZ (c::r)).2.2.1,.int .i64 0]:=rfl;rw[hfr];obtain⟨s,hs⟩:∃s,c::r=s:=⟨_,rfl⟩;have h0:1<=s.length:=by rw[<-hs];simp
 have h0':0<s.length:=h0;have t01:s.take 1=[c]:=by rw[<-hs];rfl
 have zO:s[0]=c:=by subst hs;rfl
 have hf:firstT jZ s=if smU c then(1,s.takeWhile inU,0,true) else if caU c then(2,s.takeWhile inU,0,true)
  else if dgU c then(3,s.takeWhile dgU,(jZ (s.takeWhile dgU)).1,(jZ (s.takeWhile dgU)).2)
  else if sQ s=[] then(0,[],0,false) else(4,sQ s,0,true):=by subst hs;rfl
 rw[hs]at hl|-
 clear hs hfr
 refine CS.aW func103 rfl ntmps103 rfl ?_;simp[h0',zO];refine aC.mk wF (yC c) ?_;by_cases h1:smU c=true
 .have hp1:=e5Y h1;simp[h1];refine SW.gA (ι:={i:Nat//i<=s.length/\1<=i/\∀b∈s.take i,inU b=true}) (λi=>[(4,.d (.int .i64 i.1))]) (λ_=>[(2,.cells [.d (.int .i64 0),.d (.str []),.d (.int .i64 0),.d (.int .i64 0)])]) (λ_=>[]) (λi=>s.length-i.1) ⟨1,h0,g3p _,λb hb=>by rw[t01]at hb;simp at hb;rw[hb];exact hp1⟩ (by simp) ?_;rintro⟨i,hi,hi1,hn⟩
  try simp only at hi hi1 hn
  have hle:=c4n inU hi hn;by_cases aG:i<s.length
  .have hw:=bC (show i<9223372036854775807 by omega);simp[aG];refine aC.mk (.mk func150 rfl) (b2O s[i]) ?_;by_cases wJ:inU s[i]=true
   .simp[wJ];refine bD.mk ⟨i+1,aG,by omega,λb hb=>?_⟩ (by simp[hw]) (by simp;omega);rw[g3o aG]at hb;rcases g3z.1 hb with hb|hb
    .exact hn b hb
    .simp at hb;rw[hb];exact wJ
   .have pZ:=vF aG hn;have htk:s.take i=s.takeWhile inU:=by rw[<-b2b inU s,pZ]
    simp[wJ,h0',zO];refine aC.mk wF (yC c) ?_;simp[h1,hi,htk,hf,a6n]
  .have:i=s.length:=by omega
   subst this;rw[g3S]at hn;have htk:s.takeWhile inU=s:=tP hn;simp[h0',zO];refine aC.mk wF (yC c) ?_;simp[h1,htk,hf,a6n]
 simp[h1,h0',zO];refine aC.mk (.mk func149 rfl) (a9R c) ?_;by_cases h2:caU c=true
 .have hp1:=e5Z h2;simp[h2];refine SW.gA (ι:={i:Nat//i<=s.length/\1<=i/\∀b∈s.take i,inU b=true}) (λi=>[(4,.d (.int .i64 i.1))]) (λ_=>[(2,.cells [.d (.int .i64 0),.d (.str []),.d (.int .i64 0),.d (.int .i64 0)])]) (λ_=>[]) (λi=>s.length-i.1) ⟨1,h0,g3p _,λb hb=>by rw[t01]at hb;simp at hb;rw[hb];exact hp1⟩ (by simp) ?_;rintro⟨i,hi,hi1,hn⟩
  try simp only at hi hi1 hn
  have hle:=c4n inU hi hn;by_cases aG:i<s.length
  .have hw:=bC (show i<9223372036854775807 by omega);simp[aG];refine aC.mk (.mk func150 rfl) (b2O s[i]) ?_;by_cases wJ:inU s[i]=true
   .simp[wJ];refine bD.mk ⟨i+1,aG,by omega,λb hb=>?_⟩ (by simp[hw]) (by simp;omega);rw[g3o aG]at hb;rcases g3z.1 hb with hb|hb
    .exact hn b hb
    .simp at hb;rw[hb];exact wJ
   .have pZ:=vF aG hn;have htk:s.take i=s.takeWhile inU:=by rw[<-b2b inU s,pZ]
    simp[wJ,h0',zO];refine aC.mk wF (yC c) ?_;simp[h1,h2,hi,htk,hf,a6n]
  .have:i=s.length:=by omega
   subst this;rw[g3S]at hn;have htk:s.takeWhile inU=s:=tP hn;simp[h0',zO];refine aC.mk wF (yC c) ?_;simp[h1,h2,htk,hf,a6n]
 simp[h2,h0',zO];refine aC.mk (.mk func151 rfl) (a8c c) ?_;by_cases h3:dgU c=true
 .have hp1:=h3;simp[h3];refine SW.gA (ι:={i:Nat//i<=s.length/\1<=i/\∀b∈s.take i,dgU b=true}) (λi=>[(4,.d (.int .i64 i.1))]) (λ_=>[(2,.cells [.d (.int .i64 0),.d (.str []),.d (.int .i64 0),.d (.int .i64 0)])]) (λ_=>[]) (λi=>s.length-i.1) ⟨1,h0,g3p _,λb hb=>by rw[t01]at hb;simp at hb;rw[hb];exact hp1⟩ (by simp) ?_;rintro⟨i,hi,hi1,hn⟩
  try simp only at hi hi1 hn
  have hle:=c4n dgU hi hn;have f7X:∀b∈s.takeWhile dgU,yS b=true:=λb hb=>by rw[<-c3g];exact c9O hb
  have hdl:=d7t dgU s;by_cases aG:i<s.length
  .have hw:=bC (show i<9223372036854775807 by omega);simp[aG];refine aC.mk (.mk func151 rfl) (a8c s[i]) ?_;by_cases wJ:dgU s[i]=true
   .simp[wJ];refine bD.mk ⟨i+1,aG,by omega,λb hb=>?_⟩ (by simp[hw]) (by simp;omega);rw[g3o aG]at hb;rcases g3z.1 hb with hb|hb
    .exact hn b hb
    .simp at hb;rw[hb];exact wJ
   .have pZ:=vF aG hn;have htk:s.take i=s.takeWhile dgU:=by rw[<-b2b dgU s,pZ]
    simp[wJ,hi,htk];refine aC.mk (.mk func152 rfl) (b5d (s.takeWhile dgU) f7X) ?_;simp[h1,h2,h3,hi,htk,hf,a6n]
  .have:i=s.length:=by omega
   subst this;rw[g3S]at hn;have htk:s.takeWhile dgU=s:=tP hn;simp;refine aC.mk (.mk func152 rfl) (b5d s (λb hb=>by rw[<-c3g];exact hn b hb) hl) ?_;simp[h1,h2,h3,htk,hf,a6n]
 simp[h3];refine aC.mk (.mk func153 rfl) (d0L s hl) ?_;by_cases h4:sQ s=[]
 .simp[h1,h2,h3,h4,hf,a6n]
 .simp[h1,h2,h3,h4,hf,a6n]
theorem c4q(s:List UInt8)(hl:s.length<=900000000):CS prog G 52 [.str s] (.cY (if 40000<s.length then [.aE,.int .i64 0,.int .i64 7] else
  [c6K (jX jZ s 0 1 false),.int .i64 (c6L (jX jZ s 0 1 false)),.int .i64 (c6M (jX jZ s 0 1 false))])) none:=by
 obtain⟨res,kX⟩:∃x,jX jZ s 0 1 false=x:=⟨_,rfl⟩;rw[kX];refine CS.aW func52 rfl ntmps52 rfl ?_;by_cases b4G:40000<s.length
 .have h2:(40000:Int)<s.length:=by omega
  simp[b4G,h2]
 have h2:¬(40000:Int)<s.length:=by omega
 simp[b4G,h2];refine SW.gA (ι:={x:Nat×List Tok×Int×Bool//x.1<=s.length/\1<=x.2.2.1/\x.2.2.1<=x.1+1/\x.2.1.length<=x.1/\c6J x.2.1 (jX jZ (s.drop x.1) 0 x.2.2.1 x.2.2.2)=res})
  (λx=>[(5,.d (.sl (b5r x.1.2.1))),(6,.d (.int .i64 x.1.2.2.1)),(7,.d (.bool x.1.2.2.2)),(8,.d (.int .i64 x.1.1))]) (λ_=>[]) (λ_=>[(79,[.t 5])]) (λx=>s.length-x.1.1) ⟨(0,[],1,false),by refine⟨by simp,by simp,by simp,by simp,?_⟩;simp only[List.drop_zero];rw[kX];cases res<;>rfl⟩ (by simp) ?_
 rintro⟨⟨i,out,ln,cm⟩,hi,hln,hb,ho,hR⟩
 try simp only at hi hln hb ho hR
 by_cases aG:i<s.length
 .have hQ:c6J out (jX jZ (s.drop i) 0 ln cm)=res:=hR;have a4E:s.drop i=s[i]::s.drop (i+1):=g3m aG;have hw:=bC (show i<9223372036854775807 by omega);have hwl:IntKind.i64.wrap (ln+1)=ln+1:=wrap64 (by omega);have c10:=a3X s[i] 10;have c32:=a3X s[i] 32;have c9:=a3X s[i] 9;have c35:=a3X s[i] 35;simp at c10 c32 c9 c35;have hle:=Nat.le_of_lt aG;rw[a4E,jX]at hQ;by_cases h10:s[i]=10
  .have e:=c10.2 h10;rw[if_pos h10]at hQ;simp[aG,e];exact bD.mk ⟨(i+1,out,ln+1,false),aG,by simp only;omega,by simp only;omega,by simp only;omega,hQ⟩ (by simp[hw,hwl]) (by simp;omega)
  have e:¬s[i].toNat=10:=λh=>h10 (c10.1 h);rw[if_neg h10]at hQ;simp[aG,e];cases cm with
  |true=>
   rw[if_pos (.inl rfl)]at hQ
   try simp[aG]
   exact bD.mk ⟨(i+1,out,ln,true),aG,by simp only;omega,by simp only;omega,by simp only;omega,hQ⟩ (by simp[hw]) (by simp;omega)
  |false=>
   try simp[aG]
   by_cases h32:s[i]=32
   .have e2:=c32.2 h32;rw[if_pos (.inr (.inl h32))]at hQ;simp[e2];exact bD.mk ⟨(i+1,out,ln,false),aG,by simp only;omega,by simp only;omega,by simp only;omega,hQ⟩ (by simp[hw]) (by simp;omega)
   have e2:¬s[i].toNat=32:=λh=>h32 (c32.1 h);simp[e2,aG];by_cases h9:s[i]=9
   .have e3:=c9.2 h9;rw[if_pos (.inr (.inr h9))]at hQ;simp[e3];exact bD.mk ⟨(i+1,out,ln,false),aG,by simp only;omega,by simp only;omega,by simp only;omega,hQ⟩ (by simp[hw]) (by simp;omega)
   have e3:¬s[i].toNat=9:=λh=>h9 (c9.1 h);simp[e3,aG];rw[if_neg (by simp[h32,h9])]at hQ;by_cases h35:s[i]=35
   .have e4:=c35.2 h35;rw[if_pos h35]at hQ;simp[e4];exact bD.mk ⟨(i+1,out,ln,true),aG,by simp only;omega,by simp only;omega,by simp only;omega,hQ⟩ (by simp[hw]) (by simp;omega)
   have e4:¬s[i].toNat=35:=λh=>h35 (c35.1 h);have hQ2:c6J out (jX jZ (s[i]::s.drop (i+1)) 0 ln false)=res:=by rw[<-a4E];exact hR
   rw[b6N ln h10 h32 h9 h35]at hQ2;have hdl:(s.drop (i+1)).length=s.length-(i+1):=by simp
   obtain⟨r,hr⟩:∃r,s.drop (i+1)=r:=⟨_,rfl⟩;obtain⟨c,hc⟩:∃c,s[i]=c:=⟨_,rfl⟩;rw[hr,hc]at hQ2 a4E;rw[hr]at hdl;simp[e4,hle,a4E];refine aC.mk (.mk func103 rfl) (c8h c r) ?_;obtain⟨ff,hff⟩:∃ff,firstT jZ (c::r)=ff:=⟨_,rfl⟩;have oB:= @a4z jZ (c::r);rw[hff]at hQ2 oB;obtain⟨k,tx,m,ok⟩:=ff;simp only at hQ2 oB;cases ok with
   |false=>
    have er:res=.error ln:=by rw[<-hQ2];rfl
    simp[hff,c4o,er,c6K,c6L,c6M]
   |true=>
    obtain⟨p1,p2,_⟩:=oB rfl;have f7Y:=p2.length_le;have a2i:0<tx.length:=g3D.2 p1;simp only[List.length_cons]at f7Y;have hk:a6n c=k:=by
     have:=hff;unfold firstT at this;unfold a6n;by_cases q1:smU c=true
     .simp[q1]at this|-;exact this.1
     by_cases q2:caU c=true
     .simp[q1,q2]at this|-;exact this.1
     by_cases q3:dgU c=true
     .simp[q1,q2,q3]at this|-;exact this.1
     by_cases q4:sQ (c::r)=[]
     .simp[q1,q2,q3,q4]at this
     .simp[q1,q2,q3,q4]at this|-;exact this.1
    have mI:(out.length+1)*41<=140737488355328:=by omega
    have hwt:IntKind.i64.wrap ((i:Int)+tx.length)=((i+tx.length:Nat):Int):=by rw[wrap64 (by omega)];simp
    simp[hff,c4o,mI,hk];have hR2:c6J (out++[⟨k,tx,m,ln⟩]) (jX jZ (s.drop (i+tx.length)) 0 ln false)=res:=by
     rw[<-List.drop_drop,a4E, <- hQ2,if_pos rfl];generalize jX jZ ((c::r).drop tx.length) 0 ln false=y;cases y with
     |ok l=>simp[c6J]
     |error e=>rfl
    refine bD.mk ⟨(i+tx.length,out++[⟨k,tx,m,ln⟩],ln,false),?_⟩ (by simp[a8y,hwt]) (by simp;omega);refine⟨by simp only;omega,by simp only;omega,by simp only;omega,by simp only[g3K,List.length_cons,List.length_nil];omega,hR2⟩
 .have:i=s.length:=by omega
  subst this;rw[List.drop_length,jX]at hR;have e:res=.ok (out++[⟨0,[],0,ln⟩]):=by rw[<-hR];rfl
  have mI:(out.length+1)*41<=140737488355328:=by omega
  simp[e,c6K,c6L,c6M,a8y,mI]
def a4h(cur s:List UInt8):List (List UInt8):=match kF s with
 |p::ps=>(cur++p)::ps
 |[]=>[cur]
theorem b3N:∀s,kF s≠[]
 |[]=>by simp[kF]
 |c::r=>by
  unfold kF;split
  .simp
  .split<;>simp
theorem b8W(s:List UInt8):a4h [] s=kF s:=by
 unfold a4h;cases h:kF s with
 |nil=>exact absurd h (b3N s)
 |cons p ps=>simp
theorem d0M(cur:List UInt8):a4h cur []=[cur]:=by simp[a4h,kF]
variable{c:UInt8}
theorem d0N(h:c.toNat=46):a4h cur (c::r)=cur::kF r:=by simp[a4h,kF,h]
theorem c8i(h:c.toNat≠46):a4h cur (c::r)=a4h (cur++[c]) r:=by
 unfold a4h;simp only[kF,h,if_false];cases hp:kF r with
 |nil=>exact absurd hp (b3N r)
 |cons p ps=>simp
theorem b8X{b:Nat}(hb:b<=i)(h:i<s.length):(s.take (i+1)).drop b=(s.take i).drop b++[s[i]]:=by rw[g3o h,List.drop_append_of_le_length (by simp;omega)]
theorem b8Y:∀s,(kF s).length<=s.length+1
 |[]=>by simp[kF]
 |c::r=>by
  have:=b8Y r;unfold kF;split
  .simp;omega
  .split
   .rename_i p ps h;rw[h]at this;simp at this|-;omega
   .simp
theorem c8j(hs:s.length<=1000000:=by omega):CS prog G 260 [.str s] (.d (.sl (strs (kF s)))) none:=by
 refine CS.aW func260 rfl ntmps260 rfl ?_;simp;refine SW.gA (ι:={x:List (List UInt8)×Nat×Nat//x.2.1<=x.2.2/\x.2.2<=s.length/\x.1.length<=x.2.2/\kF s=x.1++a4h ((s.take x.2.2).drop x.2.1) (s.drop x.2.2)}) (λx=>[(3,.d (.sl (strs x.1.1))),(4,.d (.int .i64 x.1.2.1)),(8,.d (.int .i64 x.1.2.2))]) (λ_=>[]) (λ_=>[(9,[.t 3])]) (λx=>s.length-x.1.2.2) ⟨([],0,0),by simp[b8W]⟩ (by simp[strs]) ?_;rintro⟨⟨out,b,i⟩,hbi,hi,ho,he⟩;simp only at hbi hi ho he;by_cases aG:i<s.length
 .have hw:=bC (show i<9223372036854775807 by omega);rw[g3m aG]at he;by_cases h4:s[i].toNat=46
  .rw[d0N h4]at he;have mI:(out.length+1)*17<=140737488355328:=by omega
   simp[aG,h4,hi,hbi,hw,mI];exact bD.mk ⟨(out++[(s.take i).drop b],i+1,i+1),g3p _,aG,by simp;omega,by rw[he];simp[b8W]⟩ (by simp) (by simp;omega)
  .rw[c8i h4, <- b8X hbi aG]at he;simp[aG,h4];exact bD.mk ⟨(out,b,i+1),by simp;omega,aG,by simp;omega,he⟩ (by simp[hw]) (by simp;omega)
 .have:i=s.length:=by omega
  subst this;rw[List.drop_length,d0M,g3S]at he;have mI:(out.length+1)*17<=140737488355328:=by omega
  simp[aG,hbi,mI];rw[he];simp
theorem d4S(h:0<s.length):a7e s=(qR s[0].toNat&&rS wdB s):=by
 cases s with
 |nil=>simp at h
 |cons c s=>simp[a7e,Bool.and_comm]
theorem d0O:CS prog G 263 [.str s] (.d (.bool (wI s))) none:=by
 refine CS.aW func263 rfl ntmps263 rfl ?_;by_cases hl1:s.length<1
 .have:sizedB s=false:=by simp[sizedB];omega
  simp[hl1,wI,this]
 by_cases hl2:24<s.length
 .have:sizedB s=false:=by simp[sizedB];omega
  simp[hl1,hl2,wI,this]
 have hz:sizedB s=true:=by simp[sizedB];omega
 have h0:0<s.length:=by omega
 simp[hl1,hl2,h0];refine aC.mk sY (uZ) ?_;simp;have hb:wI s=(rS anB s||(qR s[0].toNat&&rS wdB s)):=by rw[wI,hz,d4S h0];rfl
 refine SW.gA (ι:={x:Nat×Bool×Bool//x.1<=s.length/\rS anB s=(x.2.1&&rS anB (s.drop x.1))/\(qR s[0].toNat&&rS wdB s)=(x.2.2&&rS wdB (s.drop x.1))}) (λx=>[(3,.d (.bool x.1.2.1)),(4,.d (.bool x.1.2.2)),(19,.d (.int .i64 x.1.1))]) (λ_=>[]) (λ_=>[]) (λx=>s.length-x.1.1) ⟨(0,true,qR s[0].toNat),by simp⟩ (by simp) ?_;rintro⟨⟨i,p,q⟩,hi,hp,hq⟩;simp only at hi hp hq;by_cases aG:i<s.length
 .have hw:=bC (show i<9223372036854775807 by omega);have pZ:∀f:Int->Bool,rS f (s.drop i)=(f s[i].toNat&&rS f (s.drop (i+1))):=λf=>by rw[g3m aG];rfl
  rw[pZ]at hp hq;cases p
  .cases q
   .simp[aG];exact bD.mk ⟨(i+1,false,false),aG,by simpa using hp,by simpa using hq⟩ (by simp[hw]) (by simp;omega)
   .simp[aG];refine aC.mk sY (uZ) ?_;cases h1:qR s[i].toNat
    .simp[aG];refine aC.mk yP (a0O) ?_;cases h3:b3j s[i].toNat
     .simp[aG];exact bD.mk ⟨(i+1,false,wdB s[i].toNat),aG,by simpa using hp,by simpa using hq⟩ (by simp[hw,wdB,h1,h3]) (by simp;omega)
     .simp[aG];exact bD.mk ⟨(i+1,false,wdB s[i].toNat),aG,by simpa using hp,by simpa using hq⟩ (by simp[hw,wdB,h1,h3]) (by simp;omega)
    .simp[aG];exact bD.mk ⟨(i+1,false,wdB s[i].toNat),aG,by simpa using hp,by simpa using hq⟩ (by simp[hw,wdB,h1]) (by simp;omega)
  .cases h1:qR s[i].toNat<;>cases h2:b6z s[i].toNat<;>cases h3:b3j s[i].toNat<;>cases q<;>simp[aG]<;>(refine aC.mk sY (uZ) ?_)<;>simp[aG,h1]<;>
    (try (refine aC.mk (.mk func272 rfl) (a3O) ?_;simp[aG,h2]))<;>(try (refine aC.mk yP (a0O) ?_;simp[aG,h3]))<;>(try (refine aC.mk sY (uZ) ?_;simp[aG,h1]))<;>(try (refine aC.mk yP (a0O) ?_;simp[aG,h3]))<;>
    first
    |exact bD.mk ⟨(i+1,anB s[i].toNat,false),aG,by simpa using hp,by simpa using hq⟩ (by simp[hw,anB,h1,h2,h3]) (by simp;omega)
    |exact bD.mk ⟨(i+1,anB s[i].toNat,wdB s[i].toNat),aG,by simpa using hp,by simpa using hq⟩ (by simp[hw,anB,wdB,h1,h2,h3]) (by simp;omega)
 .simp[aG];have he:s.drop i=[]:=List.drop_of_length_le (by omega);rw[he]at hp hq;rw[hb,hp,hq];cases p<;>simp[d6v]
theorem b0Z(s:List UInt8):CS prog G 254 [.str s] (.d (.int .i64 (gR (sO s)))) none:=by
 refine CS.aW func254 rfl ntmps254 rfl ?_;by_cases hl:120<s.length
 .have:¬s.length<=120:=by omega
  simp[hl,sO,this,gR]
 .have hl':s.length<=120:=by omega
  simp[hl];refine aC.mk (.mk func260 rfl) (c8j) ?_;have e6N:(kF s).length<=s.length+1:=b8Y s;cases hps:kF s with
  |nil=>exact absurd hps (b3N s)
  |cons p ps=>
   rw[hps]at e6N;have c0M:sO s=((wH p||mY p||(decide (p=[118])&& !ps.isEmpty))&&ps.all wI):=by simp[sO,hl',hps]
   have b6A:(wH p||mY p||(decide (p=[118])&& !ps.isEmpty))=false->sO s=false:=λh=>by rw[c0M,h];rfl
   have hgo:(wH p||mY p||(decide (p=[118])&& !ps.isEmpty))=true->sO s=ps.all wI:=λh=>by rw[c0M,h];rfl
   have hs2:strs (p::ps)=[.str p]::strs ps:=rfl;have g1W:ps.length<=121:=by simp at e6N;omega
   simp[hs2];refine aC.mk (.mk func261 rfl) (c5Q) ?_;cases h1:wH p;rotate_left;simp[gR]
   replace hgo:=hgo (by simp[h1])
   rotate_left;simp[gR];refine aC.mk (.mk func262 rfl) (c5R) ?_;cases h2:mY p;rotate_left;simp[gR]
   replace hgo:=hgo (by simp[h1,h2])
   rotate_left 2;by_cases h3:p=[118];rotate_left
   .simp[h3,gR];rw[b6A (by rw[h1,h2];simp[h3])]
   rotate_left 2;rcases Nat.eq_zero_or_pos ps.length with h4|h4
   .have h4':ps=[]:=g3J h4;simp[h3,h4',gR];rw[b6A (by rw[h1,h2];simp[h4'])]
   have h4':ps.isEmpty=false:=by cases ps<;>simp at*
   have h5:¬ps=[]:=by rintro rfl;simp at h4
   have h6:¬((ps.length:Int)+1=1):=by omega
   simp[h3,h5,h6,gR]
   replace hgo:=hgo (by rw[h1,h2];simp[h3,h4'])
   all_goals
    refine SW.gA (ι:={i:Nat//i<=ps.length/\sO s=(ps.drop i).all wI}) (λi=>[(37,.d (.int .i64 i.1))]) (λ_=>[]) (λ_=>[]) (λi=>ps.length-i.1) ⟨0,by simp,by simpa using hgo⟩ (by simp[*]) ?_;rintro⟨i,hi,he⟩;by_cases aG:i<ps.length
    .have hw:=bC (show i<9223372036854775807 by omega);simp[aG];refine aC.mk (.mk func263 rfl) (d0O) ?_;cases g1:wI ps[i]
     .simp;rw[d6z he aG g1]
     .simp;exact bD.mk ⟨i+1,aG,d6y he aG g1⟩ (by simp[hw]) (by simp;omega)
    .simp[aG];rw[e2N he aG]
theorem a5V{e:Pr->Int}:∀(a b:List Pr),qG e (a++b)=if qG e a=0 then qG e b else qG e a
 |[],b=>by simp[qG]
 |p::a,b=>by
  rw[List.cons_append,qG,qG,a5V a b];by_cases h:e p=0
  .simp only[h,if_true]
  .simp only[h,if_false]
theorem a8e(op:Int):CS prog G 241 [.int .i64 op] (.d (.bool (yG op))) none:=by
 refine CS.aW func241 rfl ntmps241 rfl ?_;by_cases h3:op=3
 .simp[h3,yG]
 .by_cases h4:op=4
  .simp[h4,yG]
  .simp[h3,h4,yG]
def zT(op len:Int):Bool:= !(decide (len<qS op)||decide (wZ op<len))
theorem yD:VM.Enters prog 242:=.mk func242 rfl
theorem d0P(op:Int)(len:Nat):CS prog G 242 [.int .i64 op,.int .i64 len] (.d (.bool (zT op len))) none:=by
 have one:∀k:Nat,(!(decide ((len:Int)<k)||decide ((k:Int)<len)))=decide (len=k):=λk=>by
  by_cases h:len=k
  .simp[h]
  .rcases Nat.lt_or_gt_of_ne h with h1|h1
   .have:(len:Int)<k:=by omega
    simp[h,this]
   .have:(k:Int)<len:=by omega
    simp[h,this]
 have z0:=one 0;have z1:=one 1;have z2:=one 2;refine CS.aW func242 rfl ntmps242 rfl ?_;by_cases h1:op=1
 .simp[zT,qS,wZ,h1];simpa using z0.symm
 by_cases h2:op=2
 .simp[zT,qS,wZ,h2];simpa using z0.symm
 by_cases h3:op=3
 .simp[zT,qS,wZ,h3];simpa using z0.symm
 by_cases h45:op=4\/op=5
 .have e:zT op len=(decide (1<=len)&&decide (len<=24)):=by simp only[zT,qS,wZ,h1,h2,h3,or_self,if_false,h45,if_true,Bool.not_or, <- decide_not];congr 1<;>(rw[decide_eq_decide];omega)
  rw[e];rcases h45 with h|h
  .by_cases c1:1<=len
   .simp[h,c1]
   .simp[h,c1]
  .by_cases c1:1<=len
   .simp[h,c1]
   .simp[h,c1]
 by_cases d8X:op=9\/op=14
 .have e:zT op len=decide (len=1):=by simp only[zT,qS,wZ,h1,h2,h3,or_self,if_false,h45,d8X,if_true];exact z1
  rw[e];have h4:¬op=4:=λe=>h45 (.inl e);have h5:¬op=5:=λe=>h45 (.inr e);rcases d8X with h|h<;>simp[h]
 .have e:zT op len=decide (len=2):=by simp only[zT,qS,wZ,h1,h2,h3,or_self,if_false,h45,d8X];exact z2
  rw[e];have h4:¬op=4:=λe=>h45 (.inl e);have h5:¬op=5:=λe=>h45 (.inr e);have h9:¬op=9:=λe=>d8X (.inl e);have h14:¬op=14:=λe=>d8X (.inr e);simp[h1,h2,h3,h4,h5,h9,h14]
def c0l(op:Int)(nm:Nm):Bool:= !(yG op&& !sO nm&& !a0T op nm)
theorem tW:VM.Enters prog 244:=.mk func244 rfl
theorem c4s(p:Pr):CS prog G 244 [.agg (prD p)] (.d (.bool (c0l p.op p.name))) none:=by
 refine CS.aW func244 rfl ntmps244 rfl ?_;by_cases h3:p.op=3
 .by_cases hv:p.name=[118]
  .simp[h3,hv,c0l,yG,a0T]
  .simp[h3,hv];refine aC.mk (.mk func254 rfl) (b0Z p.name) ?_;cases hc:sO p.name<;>simp[gR,c0l,yG,a0T,h3,hv,hc]
 by_cases h4:p.op=4
 .by_cases hv:p.name=[116,97,103]
  .simp[h4,hv,c0l,yG,a0T]
  .by_cases hv2:p.name=[118,97,108]
   .simp[h4,hv2,c0l,yG,a0T]
   .simp[h4,hv,hv2];refine aC.mk (.mk func254 rfl) (b0Z p.name) ?_;cases hc:sO p.name<;>simp[gR,c0l,yG,a0T,h4,hv,hv2,hc]
 by_cases h5:p.op=5
 .simp[h5];refine aC.mk (.mk func254 rfl) (b0Z p.name) ?_;cases hc:sO p.name<;>simp[gR,c0l,yG,a0T,h5,hc]
 .simp[h3,h4,h5,c0l,yG]
theorem d0Q(p:Pr)(hlen:p.kids.length<=900000000:=by have:=qT p;have:=jY p.kids;omega):CS prog G 228 [.agg (prD p)] (.d (.int .i64 (a3y p))) none:=by
 obtain⟨op,nm,n,l⟩:=p;simp only at hlen;have c8m:=c4s (G:=G) ⟨op,nm,n,l⟩;have hkd:=d0P (G:=G) op l.length;simp only at c8m;have hm:a3y ⟨op,nm,n,l⟩=if op<1\/18<op then 1 else if a6z op nm n l.length then 1 else if wP op n then 2 else if yG op&& !sO nm&& !a0T op nm then 3 else if op=8/\b2m l≠1 then 6 else 0:=rfl;have pD:a6z op nm n l.length=((!yG op&& !decide (nm=[]))||(!decide (op=1)&& !decide (op=2)&& !decide (n=0))|| !zT op l.length):=by simp only[a6z,zT,Bool.not_not,Bool.or_assoc]
 rw[pD]at hm;obtain⟨cb,hcb⟩:∃b,(yG op&& !sO nm&& !a0T op nm)=b:=⟨_,rfl⟩;have qM:c0l op nm= !cb:=by rw[c0l,hcb]
 rw[qM]at c8m;rw[hcb]at hm;refine CS.aW func228 rfl ntmps228 rfl ?_;by_cases a1:op<1
 .simp[a1]at hm;have o1:¬op=1:=by omega
  have o2:¬op=2:=by omega
  simp (maxSteps:=4000000) [o1,o2,a1,hm]
 by_cases a2:18<op
 .simp[a2]at hm;have o1:¬op=1:=by omega
  have o2:¬op=2:=by omega
  simp (maxSteps:=4000000) [o1,o2,a1,a2,hm]
 rw[if_neg (by omega)]at hm;by_cases o1:op=1
 .subst o1;have hn:yG 1=false:=rfl;rw[hn,Bool.false_and,Bool.false_and]at hcb;subst hcb;by_cases b1:nm=[];rotate_left
  .have b1':nm.isEmpty=false:=by cases nm<;>simp at b1|-
   simp[hn,b1]at hm;simp (maxSteps:=4000000) [b1,b1'];refine aC.mk (.mk func241 rfl) (a8e 1) ?_;simp (maxSteps:=4000000) [hn,hm]
  subst b1;by_cases c0:n=0
  .subst c0;simp (maxSteps:=4000000);refine aC.mk yD hkd ?_;cases hk:zT 1 l.length
   .simp[hn,hk]at hm;simp (maxSteps:=4000000) [hm]
   .simp[hn,hk,wP]at hm;have hi:inB 0=true:=rfl;simp (maxSteps:=4000000);refine aC.mk (.mk func243 rfl) (c6b 0) ?_;simp[hi]at hm;simp (maxSteps:=4000000) [hi];refine aC.mk tW c8m ?_;simp (maxSteps:=4000000) [hm]
  .simp (maxSteps:=4000000) [c0];refine aC.mk yD hkd ?_;cases hk:zT 1 l.length
   .simp[hn,hk]at hm;simp (maxSteps:=4000000) [hm]
   .simp[hn,hk,wP]at hm;simp (maxSteps:=4000000);refine aC.mk (.mk func243 rfl) (c6b n) ?_;cases hi:inB n
    .simp[hi]at hm;simp (maxSteps:=4000000) [hm]
    .simp[hi]at hm;simp (maxSteps:=4000000);refine aC.mk tW c8m ?_;simp (maxSteps:=4000000) [hm]
 by_cases o2:op=2
 .subst o2;have hn:yG 2=false:=rfl;rw[hn,Bool.false_and,Bool.false_and]at hcb;subst hcb;by_cases b1:nm=[];rotate_left
  .have b1':nm.isEmpty=false:=by cases nm<;>simp at b1|-
   simp[hn,b1]at hm;simp (maxSteps:=4000000) [b1,b1'];refine aC.mk (.mk func241 rfl) (a8e 2) ?_;simp (maxSteps:=4000000) [hn,hm]
  subst b1;by_cases c0:n=0
  .subst c0;simp (maxSteps:=4000000);refine aC.mk yD hkd ?_;cases hk:zT 2 l.length
   .simp[hn,hk]at hm;simp (maxSteps:=4000000) [hm]
   .simp[hn,hk,wP]at hm;simp (maxSteps:=4000000);refine aC.mk tW c8m ?_;simp (maxSteps:=4000000) [hm]
  .simp (maxSteps:=4000000) [c0];refine aC.mk yD hkd ?_;cases hk:zT 2 l.length
   .simp[hn,hk]at hm;simp (maxSteps:=4000000) [hm]
   .simp[hn,hk,wP,c0]at hm;by_cases c1:n=1
    .subst c1;simp at hm;simp (maxSteps:=4000000);refine aC.mk tW c8m ?_;simp (maxSteps:=4000000) [hm]
    .simp[c1]at hm;by_cases c2:n<0
     .simp (maxSteps:=4000000) [c2,hm]
     .have c3:1<n:=by omega
      simp (maxSteps:=4000000) [c2,c3,hm]
 by_cases b1:nm=[]
 .subst b1;by_cases c0:n=0;rotate_left
  .simp[o1,o2,c0]at hm;simp (maxSteps:=4000000) [a1,a2,o1,o2,c0,hm]
  subst c0;simp (maxSteps:=4000000) [a1,a2,o1,o2];refine aC.mk yD hkd ?_;cases hk:zT op l.length
  .simp[hk]at hm;simp (maxSteps:=4000000) [hm]
  .simp[o1,o2,hk,wP]at hm;simp (maxSteps:=4000000) [o1,o2];refine aC.mk tW c8m ?_;cases cb
   .by_cases o8:op=8
    .subst o8
     match l,hk with
     |[],hk=>exact absurd hk (by decide)
     |k::r,hk=>
      by_cases e1:k.op=1
      .simp[b2m,e1]at hm;simp (maxSteps:=4000000) [e1,hm]
      .simp[b2m,e1]at hm;simp (maxSteps:=4000000) [e1,hm]
    .simp[o8]at hm;simp (maxSteps:=4000000) [o8,hm]
   .simp at hm;simp (maxSteps:=4000000) [hm]
 .have b1':nm.isEmpty=false:=by cases nm<;>simp at b1|-
  simp (maxSteps:=4000000) [a1,a2,o1,o2,b1,b1'];refine aC.mk (.mk func241 rfl) (a8e op) ?_;cases hn:yG op
  .simp[hn,b1]at hm;simp (maxSteps:=4000000) [hm]
  .by_cases c0:n=0;rotate_left
   .simp[hn,o1,o2,c0]at hm;simp (maxSteps:=4000000) [c0,hm]
   subst c0;simp (maxSteps:=4000000);refine aC.mk yD hkd ?_;cases hk:zT op l.length
   .simp[hk]at hm;simp (maxSteps:=4000000) [hm]
   .simp[hn,o1,o2,hk,wP]at hm;simp (maxSteps:=4000000) [o1,o2];refine aC.mk tW c8m ?_;cases cb
    .by_cases o8:op=8
     .subst o8
      match l,hk with
      |[],hk=>exact absurd hk (by decide)
      |k::r,hk=>
       by_cases e1:k.op=1
       .simp[b2m,e1]at hm;simp (maxSteps:=4000000) [e1,hm]
       .simp[b2m,e1]at hm;simp (maxSteps:=4000000) [e1,hm]
     .simp[o8]at hm;simp (maxSteps:=4000000) [o8,hm]
    .simp at hm;simp (maxSteps:=4000000) [hm]
theorem d0R:∀p:Pr,bO p<=900000000->CS prog G 205 [.agg (prD p)] (.d (.int .i64 (qG a3y (a2S p)))) none:=by
 refine Pr.ind λp ih=>?_;intro hN;have hnd:=d0Q (G:=G) p;have hpe:=a8J p;obtain⟨op,nm,n,l⟩:=p;simp only at ih hpe;have hn:=qT ⟨op,nm,n,l⟩;simp only at hn;have hl:=jY l;rw[hpe,qG];refine CS.aW func205 rfl ntmps205 rfl ?_;simp;refine aC.mk (.mk func228 rfl) hnd ?_;by_cases h0:a3y ⟨op,nm,n,l⟩=0;rotate_left
 .simp[h0]
 simp[h0];refine SW.gA (ι:={i:Nat//i<=l.length/\qG a3y (qP (l.take i))=0}) (λi=>[(15,.d (.int .i64 i.1))]) (λ_=>[(1,prO op nm n (.sl (l.map qO)))]) (λ_=>[]) (λi=>l.length-i.1) ⟨0,by simp[qP,qG]⟩ (by simp) ?_;rintro⟨i,hi,hR⟩
 try simp only at hi hR
 by_cases aG:i<l.length
 .have hg:=xB aG;have hw:=bC (show i<9223372036854775807 by omega);have hb2:=tA aG;have hb3:=kW l (i+1);have ht:=b7G aG;have hsp:=a7B l (i+1);simp[aG,hg];refine aC.mk (.mk func205 rfl) (ih l[i] (g3y aG) (by omega)) ?_;by_cases hk:qG a3y (a2S l[i])=0
  .simp[hk];exact bD.mk ⟨i+1,aG,by rw[ht,a5V,if_pos hR,hk]⟩ (by simp[hw]) (by simp;omega)
  .have hf:qG a3y (qP l)=qG a3y (a2S l[i]):=by rw[hsp,a5V,ht,a5V,if_pos hR,if_neg hk]
   simp[hk,hf]
 .have:i=l.length:=by omega
  subst this;rw[g3S]at hR;simp[hR]
theorem c8n(p:Pr)(hN:bO p<=900000000:=by have:=hn p n rfl;omega):CS prog G 179 [.agg (prD p)] (.d (.int .i64 (a7E p))) none:=by
 refine CS.aW func179 rfl ntmps179 rfl ?_;simp;refine aC.mk (.mk func203 rfl) (c6h p hN) ?_;by_cases h1:400<bO p
 .simp[h1,a7E,b5t]
 simp[h1];refine aC.mk (.mk func204 rfl) (c6S p hN) ?_;by_cases h2:40<b5s p
 .simp[h1,h2,a7E,b5t]
 simp[h2];refine aC.mk (.mk func205 rfl) (d0R p hN) ?_;simp[h1,h2,a7E,b5t]
section
variable {l:List Tok} {f:Nat}
def b3O(rd:Nat->Nat->Option (Pr×Nat))(l:List Tok)(k:Nat):Nat->Pr->Nat->Pr×Nat
 |0,a,n=>(a,n)
 |g+1,a,n=>match opX l n k with
  |none=>(a,n)
  |some (op,ex)=>match rd (n+1) (if k=2 then 2 else k+1)with
   |none=>(a,n)
   |some (b,m)=>if k=6 then((if ex=true then tw op b a else tw op a b),m) else b3O rd l k g (if ex=true then tw op b a else tw op a b) m
variable{k n:Nat}
theorem d8Y{l:List Tok}{q:Int×Bool}(h:opX l n k=some q):n<l.length:=by
 unfold opX at h;split at h
 .exact b8s h
 split at h
 .split at h
  .rename_i hs;exact mZ hs
  .cases h
 .rw[g2Y]at h;obtain⟨op,h,_⟩:=h;exact(b3E h).1
theorem c1X(rd:Nat->Nat->Option (Pr×Nat))(l:List Tok){k:Nat}(h2:k≠2)(h6:k≠6):∀(g:Nat)(a:Pr)(n:Nat),b3O rd l k g a n=dX rd l k g a n
 |0,_,_=>rfl
 |g+1,a,n=>by
  rw[b3O,dX];have e:opX l n k=(a4e l n k).map λo=>(o,false):=by unfold opX;rw[if_neg h6,if_neg h2]
  rw[e];cases a4e l n k with
  |none=>rfl
  |some op=>
   simp only[Option.map_some,if_neg h2,if_neg h6,g3t,if_false];cases rd (n+1) (k+1)with
   |none=>rfl
   |some q=>obtain⟨b,m⟩:=q;exact c1X rd l h2 h6 g _ m
theorem a8f{rd:Nat->Nat->Option (Pr×Nat)}(h:opX l n k=none)(g:Nat)(a:Pr):b3O rd l k g a n=(a,n):=by
 cases g with
 |zero=>rfl
 |succ g=>rw[b3O,h]
theorem e4q{i:Nat}(h1:1<=k)(h9:k<=9)(h5:k=5->jP l i [33]=false)(hk9:k=9->jP l i [45]=false)(hi:i<=l.length)(hf:mu l.length i k<=f+1):
  gV aL l (f+1) i k=(gV aL l f i (k+1)).map λq=>b3O (gV aL l f) l k l.length q.1 q.2:=by
 have zN:∀k,k≠2->k≠6->(λq:Pr×Nat=>b3O (gV aL l f) l k l.length q.1 q.2)=λq=>dX (gV aL l f) l k l.length q.1 q.2:=λk h2 h6=>by funext q;exact c1X _ l h2 h6 _ _ _
 obtain rfl|rfl|rfl|rfl|rfl|rfl|rfl|rfl|rfl:k=1\/k=2\/k=3\/k=4\/k=5\/k=6\/k=7\/k=8\/k=9:=by omega
 .rw[zN 1 (by omega) (by omega)]
  rfl
 .have he:gV aL l (f+1) i 2=a8Z (gV aL l f) l i:=rfl;obtain⟨o,ho⟩:∃o,gV aL l (f+1) i 2=o:=⟨_,rfl⟩;rw[ho];rw[he]at ho;unfold a8Z at ho;cases hr:gV aL l f i 3 with
  |none=>rw[hr]at ho;exact ho.symm
  |some q=>
   obtain⟨a,n⟩:=q;have wC:=kS aL l f _ _ _ _ hr;rw[hr]at ho;simp only at ho;rw[Option.map_some];simp only;obtain⟨g,hg⟩:∃g,l.length=g+1:=⟨l.length-1,by omega⟩;cases hs:jP l n [61,62]with
   |false=>rw[if_neg (by simp[hs])]at ho;rw[a8f (by unfold opX;simp[hs]), <- ho]
   |true=>
    rw[if_pos hs]at ho;have hx:opX l n 2=some (17,false):=by unfold opX;simp[hs]
    rw[hg,b3O,hx];simp only[if_true];cases hr2:gV aL l f (n+1) 2 with
    |none=>rw[hr2]at ho;exact ho.symm
    |some z=>
     obtain⟨b,m⟩:=z;have b4Z:=kS aL l f _ _ _ _ hr2;rw[hr2]at ho;simp only at ho;simp only[g3t,if_false];rw[if_neg (by omega)];have f4m:gV aL l (f+1) i 2=some (tw 17 a b,m):=by rw[he];unfold a8Z;rw[hr];simp only;rw[if_pos hs,hr2]
     cases hs2:jP l m [61,62]with
     |false=>rw[a8f (by unfold opX;simp[hs2]), <- ho]
     |true=>
      have hml:=mZ hs2;have a2R:=d1Y aL l (f+1) f i _ m hi hf f4m hs2 (by have:=rW (L:=l.length) (i:=i) (i':=m+1) (k:=2) (k':=2) (by omega) hml;omega)
      cases g with
      |zero=>exact ho.symm
      |succ g=>
       have hx2:opX l m 2=some (17,false):=by unfold opX;simp[hs2]
       rw[b3O,hx2];simp only[if_true];rw[a2R, <- ho]
 .rw[zN 3 (by omega) (by omega)]
  rfl
 .rw[zN 4 (by omega) (by omega)]
  rfl
 .have he:gV aL l (f+1) i 5=gV aL l f i 6:=by
   show(if jP l i [33]=true then _ else gV aL l f i 6)=_
   rw[if_neg (by simp[h5 rfl])]
  rw[he];cases gV aL l f i 6 with
  |none=>rfl
  |some q=>rw[Option.map_some,a8f (by rfl)]
 .have he:gV aL l (f+1) i 6=a3T (gV aL l f) l i:=rfl;rw[he];unfold a3T;cases hr:gV aL l f i 7 with
  |none=>rfl
  |some q=>
   obtain⟨a,n⟩:=q;have wC:=kS aL l f _ _ _ _ hr;obtain⟨g,hg⟩:∃g,l.length=g+1:=⟨l.length-1,by omega⟩;have hx:opX l n 6=wL l n:=rfl;simp only[Option.map_some];rw[hg,b3O,hx];cases wL l n with
   |none=>rfl
   |some c=>
    obtain⟨op,ex⟩:=c;simp only[show ¬(6:Nat)=2 by omega,if_false];cases gV aL l f (n+1) 7 with
    |none=>rfl
    |some z=>rfl
 .rw[zN 7 (by omega) (by omega)]
  rfl
 .rw[zN 8 (by omega) (by omega)]
  rfl
 .have he:gV aL l (f+1) i 9=gV aL l f i 10:=by
   show(if jP l i [45]=true then _ else gV aL l f i 10)=_
   rw[if_neg (by simp[hk9 rfl])]
  rw[he];cases gV aL l f i 10 with
  |none=>rfl
  |some q=>rw[Option.map_some,a8f (by rfl)]
def d8Z(l:List Tok)(i k:Nat):St:=⟨([.d (tkD l),.d (.int .i64 i),.d (.int .i64 k),.undef,.undef,.undef,.ptr 6 0,.d (.int .i64 0),.d (.bool false)]:List DV)++List.replicate 105 .undef,[(6,.cells [.d (.int .i64 0),.d (.str []),.d (.int .i64 0),.d .aE])],[]⟩
theorem d0S(hl:a0r l)(hA:d4R G l f):d4R G l (f+1):=by
 have hll:=hl.1;intro i k h1 h10 hi hf;by_cases k10:k=10
 .subst k10;have hat:=d0K (G:=G) hl hA i hi hf;have he:gV aL l (f+1) i 10=uM aL (gV aL l f) l i:=rfl;rw[he];refine CS.aW func178 rfl ntmps178 rfl ?_;simp;refine aC.mk (hkl:=oE _ _) (.mk func199 rfl) hat ?_;cases uM aL (gV aL l f) l i with
  |none=>simp[tN]
  |some q=>obtain⟨p,n⟩:=q;simp[tN]
 by_cases f5:k=5/\jP l i [33]=true
 .obtain⟨rfl,hs⟩:=f5;have yJ:=mZ hs;have hsg:=sI (G:=G) l i [33];rw[hs]at hsg;have hfr:=b5c (G:=G) hl hA i 5 14 (by omega) yJ (by have:=rW (L:=l.length) (i:=i) (i':=i+1) (k:=5) (k':=5) (by omega) yJ;omega)
  have he:gV aL l (f+1) i 5=(gV aL l f (i+1) 5).map λq=>((⟨14,[],0,[q.1]⟩:Pr),q.2):=by
   show(if jP l i [33]=true then _ else _)=_
   rw[if_pos hs]
  rw[he];refine CS.aW func178 rfl ntmps178 rfl ?_;simp;refine aC.mk gG hsg ?_;simp;refine aC.mk (hkl:=oE _ _) (.mk func201 rfl) hfr ?_;cases (gV aL l f (i+1) 5).map λq=>((⟨14,[],0,[q.1]⟩:Pr),q.2)with
  |none=>simp[tN]
  |some q=>obtain⟨p,n⟩:=q;simp[tN]
 by_cases f9:k=9/\jP l i [45]=true
 .obtain⟨rfl,hs⟩:=f9;have yJ:=mZ hs;have hsg:=sI (G:=G) l i [45];rw[hs]at hsg;have hfr:=b5c (G:=G) hl hA i 9 9 (by omega) yJ (by have:=rW (L:=l.length) (i:=i) (i':=i+1) (k:=9) (k':=9) (by omega) yJ;omega)
  have he:gV aL l (f+1) i 9=(gV aL l f (i+1) 9).map λq=>((⟨9,[],0,[q.1]⟩:Pr),q.2):=by
   show(if jP l i [45]=true then _ else _)=_
   rw[if_pos hs]
  rw[he];refine CS.aW func178 rfl ntmps178 rfl ?_;simp;refine aC.mk gG hsg ?_;simp;refine aC.mk (hkl:=oE _ _) (.mk func201 rfl) hfr ?_;cases (gV aL l f (i+1) 9).map λq=>((⟨9,[],0,[q.1]⟩:Pr),q.2)with
  |none=>simp[tN]
  |some q=>obtain⟨p,n⟩:=q;simp[tN]
 have q5:k=5->jP l i [33]=false:=λe=>by
  cases hs:jP l i [33]with
  |false=>rfl
  |true=>exact absurd ⟨e,hs⟩ f5
 have q9:k=9->jP l i [45]=false:=λe=>by
  cases hs:jP l i [45]with
  |false=>rfl
  |true=>exact absurd ⟨e,hs⟩ f9
 obtain⟨o,ho⟩:∃o,gV aL l (f+1) i k=o:=⟨_,rfl⟩;have rZ:=e4q (f:=f) h1 (by omega) q5 q9 hi hf;rw[ho]at rZ|-;have f7Z:¬(k:Int)=10:=by omega
 have hk1:=bC (show k<9223372036854775807 by omega);have hat:=hA i (k+1) (by omega) (by omega) hi (by have:=a7Q (L:=l.length) (i:=i) (show k<k+1 by omega) (by omega);omega)
 refine CS.a3U func178 rfl ntmps178 rfl ?_;refine SW.jC (SW.vk ?_);simp;refine oA (d8Z l i k) (SW.vk ?_) ?_
 .by_cases k5:k=5
  .have hsg:=sI (G:=G) l i [33];rw[q5 k5]at hsg;subst k5;simp;refine aC.mk gG hsg ?_;simp[d8Z,List.replicate]
  by_cases k9:k=9
  .have hsg:=sI (G:=G) l i [45];rw[q9 k9]at hsg;subst k9;simp;refine aC.mk gG hsg ?_;simp[d8Z,List.replicate]
  have k5':¬(k:Int)=5:=by omega
  have k9':¬(k:Int)=9:=by omega
  simp[f7Z,k5',k9',d8Z,List.replicate]
 refine SW.vk ?_;simp[d8Z,List.replicate,hk1];refine aC.mk (hkl:=oE _ _) vQ hat ?_;cases hr:gV aL l f i (k+1)with
 |none=>rw[hr]at rZ;subst rZ;simp[tN]
 |some q=>
  obtain⟨a,n⟩:=q;have wC:=kS aL l f _ _ _ _ hr;rw[hr,Option.map_some]at rZ;obtain⟨⟨rp,rn⟩,kX⟩:∃r,b3O (gV aL l f) l k l.length a n=r:=⟨_,rfl⟩;simp only at rZ;rw[kX]at rZ;subst rZ;simp[tN];refine SW.gA (ι:={p:Pr×Nat//p.2<=l.length/\i<p.2/\∃g,l.length<=g+p.2/\b3O (gV aL l f) l k g p.1 p.2=(rp,rn)}) (λp=>[(10,.d (.int .i64 p.1.2))]) (λp=>[(6,.cells [.d (.int .i64 0),.d (.str []),.d (.int .i64 0),.d .aE]),(9,.cells ((prD p.1.1).map .d))]) (λ_=>[]) (λp=>l.length-p.1.2) ⟨(a,n),wC.2,wC.1,l.length,by omega,kX⟩ (by simp) ?_;rintro⟨⟨a,n⟩,hn,wJ,g,hg,hR⟩;simp only at hn wJ hg hR;have qA:=b8T (G:=G) l n k;have hn1:=bC (show n<9223372036854775807 by omega);simp;refine aC.mk (hkl:=c4l _) (.mk func202 rfl) qA ?_;cases hx:opX l n k with
  |none=>rw[a8f hx]at hR;cases hR;simp[a4Q]
  |some c=>
   obtain⟨op,ex⟩:=c;have hnl:=d8Y hx;obtain⟨g,rfl⟩:∃h,g=h+1:=⟨g-1,by omega⟩;rw[b3O,hx]at hR;simp only at hR;simp[a4Q];by_cases h2:k=2
   .rw[if_pos h2]at hR;have h26:¬k=6:=by omega
    simp only[if_neg h26]at hR;subst h2;have c4a:=hA (n+1) 2 (by omega) (by omega) hnl (by have:=rW (L:=l.length) (i:=i) (i':=n+1) (k:=2) (k':=2) (by omega) hnl;omega)
    simp[hn1,hk1];refine aC.mk (hkl:=oE _ _) vQ c4a ?_;cases hr2:gV aL l f (n+1) 2 with
    |none=>rw[hr2]at hR;cases hR;simp[tN]
    |some z=>
     obtain⟨b,m⟩:=z;have b4Z:=kS aL l f _ _ _ _ hr2;rw[hr2]at hR;simp only at hR;simp[tN];cases ex with
     |true=>simp[rg2];exact bD.mk ⟨(tw op b a,m),b4Z.2,by simp only;omega,g,by simp only;omega,by simpa using hR⟩ (by simp[tw,dH]) (by simp;omega)
     |false=>simp[rg2];exact bD.mk ⟨(tw op a b,m),b4Z.2,by simp only;omega,g,by simp only;omega,by simpa using hR⟩ (by simp[tw,dH]) (by simp;omega)
   .rw[if_neg h2]at hR;have h2':¬(k:Int)=2:=by omega
    have c4a:=hA (n+1) (k+1) (by omega) (by omega) hnl (by have:=rW (L:=l.length) (i:=i) (i':=n+1) (k:=k) (k':=k+1) (by omega) hnl;omega)
    simp[hn1,hk1,h2,h2'];refine aC.mk (hkl:=oE _ _) vQ c4a ?_;cases hr2:gV aL l f (n+1) (k+1)with
    |none=>rw[hr2]at hR;cases hR;simp[tN]
    |some z=>
     obtain⟨b,m⟩:=z;have b4Z:=kS aL l f _ _ _ _ hr2;rw[hr2]at hR;simp only at hR;simp[tN];by_cases h6:k=6
     .rw[if_pos h6]at hR;cases hR;have h6':(k:Int)=6:=by omega
      cases ex with
      |true=>simp[rg2,h6,h6',tw,dH]
      |false=>simp[rg2,h6,h6',tw,dH]
     .rw[if_neg h6]at hR;have h6':¬(k:Int)=6:=by omega
      cases ex with
      |true=>simp[rg2,h6,h6'];exact bD.mk ⟨(tw op b a,m),b4Z.2,by simp only;omega,g,by simp only;omega,by simpa using hR⟩ (by simp[tw,dH]) (by simp;omega)
      |false=>simp[rg2,h6,h6'];exact bD.mk ⟨(tw op a b,m),b4Z.2,by simp only;omega,g,by simp only;omega,by simpa using hR⟩ (by simp[tw,dH]) (by simp;omega)
theorem c1Y(hl:a0r l):∀f,d4R G l f
 |0=>λi k _ h10 _ h=>by unfold mu at h;omega
 |f+1=>d0S hl (c1Y hl f)
theorem d9a(hl:a0r l):CS prog G 178 [tkD l,.int .i64 0,.int .i64 1] (tN (a1p l) 0) none:=c1Y hl _ 0 1 (by omega) (by omega) (by omega) (g3p _)
end
theorem d0T(l:List Tok)(hl:a0r l)(hn:∀p n,a1p l=some (p,n)->bO p<=1000000):CS prog G 160 [.sl (l.map bL)] (b5a l) none:=by
 have hat:=d9a (G:=G) hl;obtain⟨o,ho⟩:∃o,a1p l=o:=⟨_,rfl⟩;rw[ho]at hat hn;unfold b5a;rw[ho];refine CS.aW func160 rfl ntmps160 rfl ?_;simp;refine aC.mk (hkl:=oE _ _) vQ hat ?_;cases o with
 |none=>simp[tN]
 |some q=>
  obtain⟨p,n⟩:=q;have hck:=c8n (G:=G) p;simp[tN];refine aC.mk (.mk func179 rfl) hck ?_;by_cases h0:a7E p=0
  .simp[h0]
  .simp[h0]
end
end Go.Proofs.YtmfbjecjccipfaaGreatDoor
section
namespace Go.VM
open Go Go.RowKit
def b8Z(k:Nat):DV->Bool
 |.d _=>true
 |.undef=>true
 |.cY _=>true
 |.rQ=>true
 |.ptr k' _=>decide (k'≠k)
 |_=>false
def b1a:bH->Bool
 |.cells cs=>cs.all λc=>match c with
  |.d _=>true
  |_=>false
 |_=>false
section
variable {P:Program} {G:GT} {st:St}
variable{μ μ':Nat->Nat}{w:World}{R:Nat->Nat->Prop}
theorem TV.other{v:Value}{d:DV}{k:Nat}(h:TV R μ w v d)(hk:b8Z k d=true)(hμ:∀j,j≠k->μ' j=μ j):TV R μ' w v d:=by
 cases h with
 |d v x h=>exact .d _ _ h
 |undef v=>exact .undef _
 |ptr j off=>simp only[b8Z,g3N]at hk;rw[<-hμ j hk];exact .ptr j off
 |cY vs ds h1 h2=>exact .cY vs ds h1 h2
 |rQ b=>exact .rQ b
 |_=>cases hk
variable{o:bH}
theorem mV.other{b:Nat}(h:mV R μ w b o)(ho:b1a o=true):mV R μ' w b o:=by
 cases o with
 |cells cs=>
  obtain⟨vs,T,h1,h2,h3,h4⟩:=h;refine⟨vs,T,h1,h2,λi d hd=>⟨(h3 i d hd).1,?_⟩,h4⟩;have hp:=g3c.1 ho d (g3e hd);have ht:=(h3 i d hd).2;generalize vs.getD i undef=u at ht|-;cases d with
  |d x=>cases ht with|d v x h=>exact .d _ _ h
  |_=>cases hp
 |_=>cases ho
variable{ds:List D}{f:FuncId}{t:Tmp}{ls:List (Option Loc)}{kc:Nat}
theorem oR.f0n(zN:CH P G f ⟨ds.map .d,[],[]⟩ ⟨[.ptr kc 0],[(kc,o)],[]⟩)(k:Nat){g2X:List DV}(pD:WkT g2X (ds.map .d))(oG:st.own=[])(hk:k<100000)(a0M:getKey k st.H=none)(ho:b1a o=true)(hT:st.tmps.all (b8Z k)=true)(hO:st.H.all (λp=>b1a p.2)=true):
  oR P G f g2X ls st (some t) ⟨st.tmps.set t (.ptr k 0),(k,o)::st.H,[]⟩:=by
 intro base R μ a w args hr hl hv a8V
 let mM:dU:=⟨λb=>w.heap.size<=b,μ⟩
 have sub:∀b,mM b->base b:=λb hb=>hr.base b hb;have a2q:Rel P G mM R μ ⟨ds.map .d,[],[]⟩ {tmps:=args,defers:=[]} w:=by
  obtain⟨g1,g2⟩:=a0N pD;refine⟨rfl,by show args.size=(ds.map DV.d).length;omega,λi v d hiv hid=>?_,λk o hk=>(by cases hk),λk k' o o' hk=>(by cases hk),λc hc=>(by cases hc),⟨[],rfl,λi c v h _=>by simp at h,.nil⟩,hr.wS.up sub,hr.rY,λb hb=>hb,λk hk=>rfl⟩;obtain⟨d0,hd0,b6J⟩:=g2 i d hid;have hva:=hv i d0 hd0;have hav:args.getD i undef=v:=by simp only at hiv;simp[g3b,hiv]
  rw[hav]at hva;rcases b6J with hc|hc|⟨hc1,hc2⟩
  .rw[hc];exact .undef _
  .rw[hc];exact hva
  .rw[hc2];rw[hc1]at hva;obtain⟨ao,rfl⟩:=hva.b1j.mN;exact .d _ _ (.emp _ _)
 refine(zN mM R μ args w a2q).mono λe w' hh=>?_;obtain⟨v,R',μ',he,jD,hs⟩:=hh;obtain⟨μ2,hμk,hμ⟩:∃μ2:Nat->Nat,μ2 k=μ' kc/\∀j,j≠k->μ2 j=μ j:=⟨λj=>if j=k then μ' kc else μ j,by simp,λj hj=>by simp[hj]⟩;refine⟨v,R',μ2,he,?_,⟨hs.below.mono sub,hs.mono,λb o h1 h2=>sub b (hs.new b o h1 h2),hs.cells⟩⟩;have hsb:Step base R w R' w':=⟨hs.below.mono sub,hs.mono,λb o h1 h2=>sub b (hs.new b o h1 h2),hs.cells⟩;have kept:∀b, ¬mM b->w'.heap[b]? =w.heap[b]? /\∀off,R' b off->R b off:=λb hb=>⟨hs.below.block b hb,λoff h=>by
  by_cases hx:R b off
  .exact hx
  .exact absurd (hs.new b off h hx) hb⟩
 obtain⟨n1,n2,n3⟩:=jD.mE kc o (by simp[getKey]);have old:∀j o',getKey j st.H=some o'-> ¬mM (μ j):=λj o' hj hb=>by have:=(hr.mE j o' hj).2.2.lt;exact absurd hb (Nat.not_le.2 this)
 have kX:TV R' μ' w' v (.ptr kc 0):=jD.tmps 0 v _ rfl rfl;refine⟨hr.defers,by simp[Act.put,hr.size],λi u d hu hd=>?_,λj o' hj=>?_,λj j' o1 o2 hj hj' he'=>?_,(λc hc=>by cases hc),⟨[],rfl,λi c v h _=>by simp at h,.nil⟩,hr.wS.cA hsb,jD.rY,λb hb=>hr.base b (Nat.le_trans hs.below.size hb),λj hj=>?_⟩
 .simp only[Act.put]at hu hd;by_cases hti:t=i
  .subst hti;have h1:t<st.tmps.length:=by
    by_cases aG:t<st.tmps.length
    .exact aG
    .have uV:(st.tmps.set t (.ptr k 0))[t]? =none:=g3G (by rw[List.length_set];exact g3I aG);rw[uV]at hd;cases hd
   have h2:t<a.tmps.size:=by rw[hr.size];exact h1
   simp[h1]at hd;simp[h2]at hu;subst hu hd;cases kX with
   |ptr _ _=>
    have:TV R' μ2 w' (.pointer (some ⟨μ2 k,0,none⟩)) (.ptr k 0):=.ptr k 0
    rwa[hμk]at this
  .rw[g3Z hti]at hu;rw[List.getElem?_set_ne hti]at hd;exact((hr.tmps i u d hu hd).cA hsb).other (g3c.1 hT d (g3e hd)) hμ
 .by_cases hjk:j=k
  .subst hjk;simp only[getKey,if_true,g3f]at hj;subst hj;rw[hμk];exact⟨sub _ n1,n2,n3.other ho⟩
  .have hj:getKey j st.H=some o':=by
    unfold getKey at hj
    rwa[if_neg (λh:k=j=>hjk h.symm)]at hj
   obtain⟨p1,p2,p3⟩:=hr.mE j o' hj;obtain⟨e1,e2⟩:=kept _ (old j o' hj);rw[hμ j hjk];exact⟨p1,λoff h=>p2 off (e2 off h),(p3.cA hsb e1).other (g3c.1 hO (j,o') (kH hj))⟩
 .have main:∀j o',j≠k->getKey j ((k,o)::st.H)=some o'->getKey j st.H=some o':=λj o' hjk hj=>by
   unfold getKey at hj
   rwa[if_neg (λh:k=j=>hjk h.symm)]at hj
  by_cases h1:j=k
  .by_cases h2:j'=k
   .rw[h1,h2]
   .rw[h1,hμk,hμ j' h2]at he';exact absurd (he'▸n1) (old j' o2 (main j' o2 h2 hj'))
  .by_cases h2:j'=k
   .rw[h2,hμk,hμ j h1]at he';exact absurd (he'▸n1) (old j o1 (main j o1 h1 hj))
   .rw[hμ j h1,hμ j' h2]at he';exact hr.inj j j' o1 o2 (main j o1 h1 hj) (main j' o2 h2 hj') he'
 .rw[hμ j (by omega)];exact hr.pass j hj
theorem jT.new(he:Enters P f)(zN:CH P G f ⟨ds.map .d,[],[]⟩ ⟨[.ptr kc 0],[(kc,o)],[]⟩)(k:Nat){g2X:List D}{all:Array Oper}{rest:List Oper}{X:List XI}{Q:Exit->St->Prop}(pD:WkT (g2X.map .d) (ds.map .d))(oG:st.own=[])(hk:k<100000)(a0M:getKey k st.H=none)(ho:b1a o=true)(hT:st.tmps.all (b8Z k)=true)(hO:st.H.all (λp=>b1a p.2)=true)(h:XK P G (.ops all rest::X) .normal ⟨st.tmps.set t (.ptr k 0),(k,o)::st.H,[]⟩ Q):jT P G f g2X ls (some t) all rest X st Q:=by unfold jT;exact .inr ⟨_,⟨he,oR.f0n zN k pD oG hk a0M ho hT hO⟩,h⟩
end
end Go.VM
end
namespace Go.Proofs.YtmfbjecjccipfaaGreatDoor
section
open Go Go.VM
variable {G:GT}
variable{l:List Tok}
theorem c4u(oB:a0r l)(s:dR)(e:Nat)(hv:cO l s)(hse:s.er=0->s.pl<=e)(he:e<=l.length):eG G 119 [.int .i64 e] l s (pF vP l e s) d3H:=by
 have hl:=oB.1;by_cases h0:s.er=0;rotate_left
 .obtain⟨i,er,ln⟩:=s;refine eG.bP func119 rfl ntmps119 rfl ?_;intro Q Q0;unfold pF at Q0;have Q0:=Q0.sK h0;simp[h0];exact Q0.ok _ _ (.inr rfl) (by simp[eI])
 have hpk:eG G 21 [.int .i64 0] l s _ _:=oW hl 0 s hv (by omega);obtain⟨i,er,ln⟩:=s;simp only at h0;subst h0;have hi:i<l.length:=hv rfl;have hke:i<=e:=hse rfl;obtain⟨L,hL⟩:∃L,(l.take e).drop i=L:=⟨_,rfl⟩;have d8P:a0r L:=by rw[<-hL];exact c7Z oB e i
 have hrd:=d0T (G:=G) L d8P (λp n h=>Nat.le_trans (b3I h) (by have:=d8P.1;omega));have hLm:((l.map bL).take e).drop i=L.map bL:=by rw[<-hL,List.map_drop,List.map_take]
 rw[<-hLm]at hrd;refine eG.xV func119 rfl ntmps119 rfl ?_;intro Q Q0;unfold pF vP at Q0;have Q0:=Q0.uK rfl;simp only[show min i e=i by omega,hL]at Q0;rw[a1i hi]at hpk;refine SW.jC (SW.xk ?_);simp;refine SW.jC (SW.xk ?_);simp;refine SW.jC (SW.vk ?_);simp[hke,he,a2G];refine⟨.mk,?_⟩;refine aC.mk (hkl:=a9M L) (.mk func160 rfl) hrd ?_;unfold b5a;cases hR:a1p L with
 |none=>simp only[hR]at Q0;simp;refine SW.xk ?_;simp;refine cT jJ hpk (λT s1 h1=>?_);cases h1;generalize aH l i=T at Q0|-;obtain⟨a,b,c,d⟩:=T;simp[bL];exact Q0.ok _ _ (.inr rfl) (by simp[eI])
 |some q=>
  obtain⟨p,n⟩:=q;have hn:=a4O hR;have hLl:L.length<=e-i:=by rw[<-hL];simp;omega
  simp only[hR]at Q0;by_cases hc:a7E p=0
  .simp only[if_pos hc]at Q0;have hw:IntKind.i64.wrap ((i:Int)+(n:Int))=((i+n:Nat):Int):=by rw[wrap64 (by omega)];omega
   simp only[if_pos hc];simp;refine SW.xk ?_;simp[hw];exact Q0.ok _ _ (.inr rfl) (by simp)
  .simp only[if_neg hc]at Q0;simp only[if_neg hc];simp;refine SW.xk ?_;simp[hc];refine cT jJ hpk (λT s1 h1=>?_);cases h1;generalize aH l i=T at Q0|-;obtain⟨a,b,c,d⟩:=T;simp[bL];exact Q0.ok _ _ (.inr rfl) (by simp[eI])
theorem c1Z{s:List UInt8}(h:jX jZ s 0 1 false=.ok l)(hs:s.length<=19000):vK G vP l:=by
 have oB:=(c7Q h (by omega)).1;have hO:=a1z s 0 1 false l h;have hE:=b5U hO;have hlen:l.length<=20000:=by have:=(xQ jZ s 0 1 false l h).2.1;omega
 have hW:WfD l:=λi t ht hk=>((d2c hO) t (g3e ht)).2 hk;have a0Q:pE l:=by
  have a2i:0<l.length:=g3D.2 hE.1;have aG:l.length-1<l.length:=by omega
  refine⟨hE.1,hE.2 _ ?_⟩;unfold aH;rw[if_pos aG,g4b,g3d aG]
  rfl
 have wC:a5s vP l:=λe i p j hi hx=>c4h hE.2 e i p j hi hx;refine⟨⟨a0Q,λi=>((d2c hO) _ (c8b hE.1 i)).1,wC,λi e n x hi hx=>f0h l i e n x hi hx,λi p k hi hx hs=>?_⟩,hlen,λi e p j hx=>?_,λs e hv hse he=>c4u oB s e hv hse he⟩
 .exact e4f hW i p k hi hx (wC _ _ _ _ hi hx).2 hs
 .unfold vP at hx;split at hx
  .cases hx
  .rename_i q n hr;split at hx
   .cases hx;have h1:=b3I hr;simp only[g3Y,g3L]at h1;omega
   .cases hx
theorem d4T(hl:l.length<=50000)(s:dR)(hv:cO l s):eG G 36 [] l s (b4J l s) (λ_=>.cY []):=by
 have hp:eG G 21 [.int .i64 0] l s _ _:=oW hl 0 s hv (by omega);have hf:=xM (G:=G) hl s hv;unfold b4J;obtain⟨i,e,ln⟩:=s;refine eG.bP func36 rfl ntmps36 rfl ?_;intro Q Q0;by_cases he:e=0
 .subst he;simp;refine cT jJ hp (λT s1 h1=>?_);cases h1;by_cases hk:(gN l 0 ⟨i,0,ln⟩).kind=0
  .have Q0:=Q0.eq (congrArg (Prod.mk ()) (if_neg (λh=>h.2 hk)));generalize gN l 0 ⟨i,0,ln⟩=T at Q0 hk|-;obtain⟨a,x,c,d⟩:=T;simp only at hk;simp[bL,hk];exact Q0.ok _ _ (.inl rfl) (by simp)
  .have Q0:=Q0.eq (congrArg (Prod.mk ()) (if_pos ⟨rfl,hk⟩));generalize gN l 0 ⟨i,0,ln⟩=T at hk|-;obtain⟨a,x,c,d⟩:=T;simp only at hk;simp[bL,hk];refine cT sR hf (λu s1 h1=>?_);cases h1;simp;exact Q0.ok _ _ (.inl rfl) (by simp)
 .have Q0:=Q0.eq (congrArg (Prod.mk ()) (if_neg (λh=>he h.1)));simp[he];exact Q0.ok _ _ (.inl rfl) (by simp)
def zJ(s:List UInt8):List Tok×dR:=if 40000<s.length then([],⟨0,7,0⟩) else match jX jZ s 0 1 false with
 |.error n=>([],⟨0,14,n⟩)
 |.ok l=>(l,⟨0,0,0⟩)
theorem c4v(s:List UInt8)(hs:s.length<=900000000:=by omega):CH prog G 20 ⟨[D.str s].map .d,[],[]⟩ ⟨[.ptr 16 0],[(16,rfO (zJ s).1 (zJ s).2)],[]⟩:=by
 have hlx:=c4q (G:=G) s hs;unfold zJ;by_cases b4G:40000<s.length
 .rw[if_pos b4G]at hlx|-;refine CH.aW func20 rfl ntmps20 rfl (by simp) ?_;simp;refine aC.mk (.mk func52 rfl) hlx ?_;simp
 rw[if_neg b4G]at hlx|-;cases hx:jX jZ s 0 1 false with
 |error e=>rw[hx]at hlx;simp only[c6K,c6L,c6M]at hlx;refine CH.aW func20 rfl ntmps20 rfl (by simp) ?_;simp;refine aC.mk (.mk func52 rfl) hlx ?_;simp
 |ok l=>rw[hx]at hlx;simp only[c6K,c6L,c6M,b5r]at hlx;refine CH.aW func20 rfl ntmps20 rfl (by simp) ?_;simp;refine aC.mk (.mk func52 rfl) hlx ?_;simp
section
variable {β:Type} {Q:Exit->St->Prop} {l:List Tok} {s:dR} {enc:β->DV}
variable{ds:List D}{f:FuncId}{av:List DV}{dst:Option Tmp}{st:St}{ls:List (Option VM.Loc)}
theorem f8b(k:Nat){y:β×dR}{KK:St->Prop}(he:VM.Enters prog f)(hc:eG G f ds l s y enc)(oB:∀a s1,y=(a,s1)->KK ⟨kG dst (enc a) st.tmps,cE k (rfO l s1) st.H,hZ dst (dropKey k st.own)⟩)(hk:∀a,aY [(100000,k)] (enc a)=true/\bI [(100000,k)] (enc a)=enc a:=by intro a;exact⟨rfl,rfl⟩)(hw:WkT av (.ptr k 0::ds.map .d):=by simp)(hH:getKey k st.H=some (rfO l s):=by simp):uI prog G f av ls dst st KK Q true:=by
 refine uI.mk (x:=.inl (enc y.1,rfH l y.2,[])) he hc [(100000,k)] (λd H1 own1 hx=>?_) (λv hx=>by cases hx) ?_ ?_ rfl rfl (λd H1 own1 hx=>?_) (λv hx=>by cases hx) (rest:=st.own)
 .cases hx;simp[aR,aY,bB,bA,eX,bM,getKey,(hk y.1).1]
 .simpa[aZ,bI,rk,kI]using hw
 .simp only[dE,rfO,List.map_cons,List.map_nil,rk,if_true,dM,aZ,bI,WkH,and_true];exact⟨_,hH,by simp[WkO]⟩
 .cases hx;have:=oB y.1 y.2 rfl;simpa[bJ,bW,dM,aZ,bI,rk,eN,(hk y.1).2]using this
theorem f0o(k:Nat){y:β×dR}{all:Array Oper}{ops:List Oper}{X:List XI}(he:VM.Enters prog f)(hc:eG G f ds l s y enc)(oB:∀a s1,y=(a,s1)->XK prog G (.ops all ops::X) .normal ⟨kG dst (enc a) st.tmps,cE k (rfO l s1) st.H,hZ dst (dropKey k st.own)⟩ Q)(hk:∀a,aY [(100000,k)] (enc a)=true/\bI [(100000,k)] (enc a)=enc a:=by intro a;exact⟨rfl,rfl⟩)(hw:WkT av (.ptr k 0::ds.map .d):=by simp)(hH:getKey k st.H=some (rfO l s):=by simp):eB prog G f av ls dst all ops X st Q:=eB.mk (f8b (hw:=hw) (hH:=hH) k he hc oB hk)
end
def e6Q{α:Type}(r:jA α)(t:α)(s2:dR):Prop:=match r with
 |.ok a _=>t=a/\s2.er=0
 |.bad n e=>e≠0/\s2.er=e/\s2.ln=n
variable{s:dR}
theorem b9a(h:s.er≠0:=by rw[k2];exact k1):(b4J l s).2=s:=by unfold b4J;rw[if_neg (λh'=>h h'.1)]
theorem f0p{α:Type}(C:List Tok->dR->α×dR->Prop){x:List Tok->bE α}{y:List Tok->RM α}(z:α)(s:List UInt8)(hs:s.length<=19000)(hW:∀l,vK G vP l->(∀i, -9223372036854775807<=(aH l i).n/\(aH l i).n<=9223372036854775807)->∀s,cO l s->C l s (y l s))(hE:∀s:dR,s.er≠0->C [] s (z,s))(hM:∀l,vK G vP l->aK l 0 (x l) (y l)):
  ∃t s1,C (zJ s).1 (zJ s).2 (t,s1)/\cO (zJ s).1 s1/\(zJ s).1.length<=50000/\e6Q (dQ x s) t (b4J (zJ s).1 s1).2:=by
 unfold zJ dQ;have hng:∀(e n:Int),e≠0->∃t s1,C [] ⟨0,e,n⟩ (t,s1)/\cO [] s1/\([]:List Tok).length<=50000/\e6Q (.bad n e:jA α) t (b4J [] s1).2:=λe n he=>by refine⟨z,⟨0,e,n⟩,hE ⟨0,e,n⟩ he,λh=>absurd h he,by simp,he,?_⟩;rw[b9a (s:=⟨0,e,n⟩) he];exact⟨rfl,rfl⟩
 by_cases hl:40000<s.length
 .omega
 rw[if_neg hl,if_neg hl];cases hx:jX jZ s 0 1 false with
 |error n=>exact hng 14 n (by decide)
 |ok l=>
  have hV:vK G vP l:=c1Z hx hs;have h0:0<l.length:=g3D.2 hV.fin.1;have d4U:=(hM l hV).sim 0 0 (g3p _) h0;refine⟨(y l ⟨0,0,0⟩).1,(y l ⟨0,0,0⟩).2,hW l hV (c1V hx) ⟨0,0,0⟩ λ_=>h0,(hM l hV).next (s:=⟨0,0,0⟩) (λ_=>h0) rfl,by have:=hV.len;simp only;omega,?_⟩;simp only;cases hr:x l 0 with
  |bad n e=>rw[hr]at d4U;obtain⟨k1,k2,k3⟩:e≠0/\_:=d4U;simp only;exact⟨k1,by rw[b9a];exact k2,by rw[b9a];exact k3⟩
  |ok a j=>
   rw[hr]at d4U;have d4U:y l ⟨0,0,0⟩=(a,⟨j,0,0⟩):=d4U;have hj:=((hM l hV).av 0 a j h0 hr).2;rw[d4U];simp only;unfold a2v b4J;rw[a1i hj];by_cases hk:(aH l j).kind=0
   .rw[if_pos hk,if_neg (λh=>h.2 hk)];exact⟨rfl,rfl⟩
   .rw[if_neg hk,if_pos ⟨rfl,hk⟩,wB hj];exact⟨by decide,rfl,rfl⟩
theorem jE.mkd{P:Program}{q ro:Bool}{ls:List (Option VM.Loc)}{f:FuncId}{s0:St}{r:DV}{st:St}{«g2X» :List DV}{dst:Option Tmp}{all:Array Oper}{ops:List Oper}{k:List KI}{Q:Exit->St->Prop}{rest:List (TypeId×List VM.Loc)}(he:VM.Enters P f)(zN:CHd P G f s0 r)(K:List (Nat×Nat))(H':List (Nat×bH))(mO:aR K s0 .undef s0.H=true)(pD:WkT «g2X» (aZ K s0.tmps))(hH:WkH st.H (dE K s0.H))(oG:xW st st.own (s0.own.map (sB K ls))=some rest)(b9A:a1d st.tmps.length ls s0.own=true)(hK:∀k o,getKey k H'=some o->getKey k st.H=some o/\∀p∈s0.H,k≠rk K p.1)(h:VK P G (.ops q all ops::k) .normal ⟨kG dst r st.tmps,H',[]⟩ Q)(hro:ro=false:=by kernel_rfl):jE P G q ro f «g2X» ls dst all ops k st Q:=jE.mk' ⟨_,⟨he,oR.f0d zN K H' mO pD hH oG b9A hK⟩,h⟩ hro
theorem a9S(hG:G 1=some gC)(hS:G 0=some a0A)(s:List UInt8)(hs:s.length<=900000000:=by decide):CS prog G 14 [.str s] (.cY [.agg (tyD (a1N jK (dQ tyM s))),.int .i64 (a1O (dQ tyM s))]) none:=by
 have hrd:=a4w hG hS (C:=tyD) jK (.mk func42 rfl) tyM s hs (λl hV hN hp=>c7W hV jK 0 hp) (λl a j hE hB hx=>((aB.typ hE hB.pred) 0 a j (g3D.2 hE.1) hx).2);have hnz:∀n e,dQ tyM s=.bad n e->e≠0:=λn e h=>a7Z (λl n e hE hB hp h=>bG.typ (b8R l) 0 n e h) h;cases hr:dQ tyM s with
 |ok t j=>
  rw[hr]at hrd;refine CS.aW func14 rfl ntmps14 rfl ?_;simp;refine jE.mk oJ hrd [(100001,4)] ?_ ?_ ?_ rfl rfl ?_ (rest:=[])
  .simp[aR,aY,bB,bA,bM,getKey]
  .simp[aZ,bI,rk]
  .simp[aZ,bI,rk,dE,dM,jK,eI,strs]
  .simp[bJ,aZ,bI,rk,dE,dM,bW,kU,jF,eN,a1N,a1O]
 |bad n e=>
  rw[hr]at hrd;have he:=hnz n e hr;refine CS.aW func14 rfl ntmps14 rfl ?_;simp;refine jE.mkd oJ hrd [(100001,4)] [(2,.cells [.d (.int .i64 0),.d (.str []),.d .aE,.d .aE,.d (.int .i64 0),.d (.str []),.d (.int .i64 0),.d .aE,.d .aE])] ?_ ?_ ?_ rfl rfl ?_ ?_ (rest:=[])
  .simp[aR,aY,bB,bA,bM,getKey]
  .simp[aZ,bI,rk]
  .simp[aZ,bI,rk,dE,dM,jK,eI,strs]
  .intro k o hk;simp only[getKey]at hk;split at hk
   .rename_i h2;subst h2;exact⟨by simpa[getKey]using hk,by simp[rk]⟩
   .cases hk
  .simp[a1N,a1O,he,jK,eI,strs]
theorem sJ:VM.Enters prog 13:=.mk func13 rfl
theorem tX(hG:G 1=some gC)(hS:G 0=some a0A)(s:List UInt8)(hs:s.length<=900000000:=by decide):CS prog G 13 [.str s] (.cY [.agg (zP (a1N pW (dQ exM s))),.int .i64 (a1O (dQ exM s))]) none:=by
 have hrd:=a4w hG hS (C:=zP) pW (.mk func40 rfl) exM s hs (λl hV hN hp=>c7X hV hN pW 0 hp) (λl a j hE hB hx=>((aB.exF hE hB.pred _ 0) 0 a j (g3D.2 hE.1) hx).2);have hnz:∀n e,dQ exM s=.bad n e->e≠0:=λn e h=>a7Z (λl n e hE hB hp h=>bG.expr (b8R l) 0 n e h) h;cases hr:dQ exM s with
 |ok t j=>
  rw[hr]at hrd;refine CS.aW func13 rfl ntmps13 rfl ?_;simp;refine jE.mk oJ hrd [(100001,4)] ?_ ?_ ?_ rfl rfl ?_ (rest:=[])
  .simp[aR,aY,bB,bA,bM,getKey]
  .simp[aZ,bI,rk]
  .simp[aZ,bI,rk,dE,dM,pW,zP,strs]
  .simp[bJ,aZ,bI,rk,dE,dM,bW,kU,jF,eN,a1N,a1O]
 |bad n e=>
  rw[hr]at hrd;have he:=hnz n e hr;refine CS.aW func13 rfl ntmps13 rfl ?_;simp;refine jE.mkd oJ hrd [(100001,4)] [(2,.cells [.d (.int .i64 0),.d (.str []),.d (.int .i64 0),.d .aE,.d .aE,.d .aE,.d .aE])] ?_ ?_ ?_ rfl rfl ?_ ?_ (rest:=[])
  .simp[aR,aY,bB,bA,bM,getKey]
  .simp[aZ,bI,rk]
  .simp[aZ,bI,rk,dE,dM,pW,zP,strs]
  .intro k o hk;simp only[getKey]at hk;split at hk
   .rename_i h2;subst h2;exact⟨by simpa[getKey]using hk,by simp[rk]⟩
   .cases hk
  .simp[a1N,a1O,he,pW,zP,strs]
theorem d9b(hE:pE l)(hB:a5s vP l):aB l 0 (eZ vP l):=aB.bl (aB.c2Q hE hB) λd=>by
 cases d with
 |none=>exact aB.failed
 |some d=>exact(aB.skip hE _).bl λ_=>aB.bZ _
theorem d2i:bG (eZ vP l):=bG.dB (bG.defn (b8R l)) λd=>by
 cases d with
 |none=>exact bG.failed
 |some d=>exact bG.dB (bG.skip _) λ_=>bG.bZ _
theorem a5X(hG:G 1=some gC)(hS:G 0=some a0A)(s:List UInt8)(hs:s.length<=900000000:=by decide):CS prog G 9 [.str s] (.cY [.agg (a4M (a1N a2I (dQ (eZ vP) s))),.int .i64 (a1O (dQ (eZ vP) s))]) none:=by
 have hrd:=a4w hG hS (C:=a4M) a2I (.mk func30 rfl) (eZ vP) s hs (λl hV hN hp=>d0J hV hN a2I 0 hp) (λl a j hE hB hx=>((d9b hE hB) 0 a j (g3D.2 hE.1) hx).2);have hnz:∀n e,dQ (eZ vP) s=.bad n e->e≠0:=λn e h=>a7Z (λl n e hE hB hp h=>d2i 0 n e h) h;cases hr:dQ (eZ vP) s with
 |ok t j=>
  rw[hr]at hrd;refine CS.aW func9 rfl ntmps9 rfl ?_;simp;refine jE.mk oJ hrd [(100001,4)] ?_ ?_ ?_ rfl rfl ?_ (rest:=[])
  .simp[aR,aY,bB,bA,bM,getKey]
  .simp[aZ,bI,rk]
  .simp[aZ,bI,rk,dE,dM,a2I,a4M,a8Y,uP,jK,eI,pW,bY,strs]
  .simp[bJ,aZ,bI,rk,dE,dM,bW,kU,jF,eN,a1N,a1O]
 |bad n e=>
  rw[hr]at hrd;have he:=hnz n e hr;refine CS.aW func9 rfl ntmps9 rfl ?_;simp;refine jE.mkd oJ hrd [(100001,4)] [(2,.cells [.d (.str []),.d .aE,.d (.int .i64 0),.d (.str []),.d (.int .i64 0),.d .aE,.d .aE,.d .aE,.d .aE,.d (.int .i64 0),.d (.bool false),.d .aE,.d .aE,.d .aE,.d .aE,.d (.int .i64 0),.d (.str []),.d .aE,.d .aE,.d (.int .i64 0),.d (.str []),.d (.int .i64 0),.d .aE,.d .aE,.d .aE])] ?_ ?_ ?_ rfl rfl ?_ ?_ (rest:=[])
  .simp[aR,aY,bB,bA,bM,getKey]
  .simp[aZ,bI,rk]
  .simp[aZ,bI,rk,dE,dM,a2I,a4M,a8Y,uP,jK,eI,pW,bY,strs]
  .intro k o hk;simp only[getKey]at hk;split at hk
   .rename_i h2;subst h2;exact⟨by simpa[getKey]using hk,by simp[rk]⟩
   .cases hk
  .simp[a1N,a1O,he,a2I,a4M,a8Y,uP,jK,eI,pW,bY,strs]
abbrev f8c:sC:=⟨[],[],[],[],[],[]⟩
theorem d0V{α:Type}(x:List Tok->bE α)(s:List UInt8):dQ (λl=>(λi=>b0X (x l i):bE (Option α))) s=b0X (dQ x s):=by
 unfold dQ;split
 .rfl
 .split
  .rfl
  .rename_i l hl;simp only;cases x l 0 with
   |bad n e=>rfl
   |ok a j=>simp only[b0X];cases a2v l j<;>rfl
theorem a1n(hG:G 1=some gC)(hS:G 0=some a0A)(s:List UInt8)(hs:s.length<=900000000:=by decide):CS prog G 6 [.str s] (.cY [.agg (a9v (a1N f8c (dQ moQ s))),.int .i64 (d4K (dQ moQ s)),.int .i64 (a1O (dQ moQ s))]) none:=by
 have hrd:=a4w hG hS (C:=moC) none (.mk func16 rfl) (λl=>(λi=>b0X (moQ l i):bE (Option sC))) s hs (λl hV hN hp=>b8S hV hN 0 hp) (λl a j hE hB hx=>by
  cases hm:moQ l 0 with
  |bad n e=>simp[hm,b0X]at hx
  |ok m k=>simp only[hm,b0X]at hx;cases hx;have oY:aB l 0 (moQ l):=aB.many (λm=>(aB.decl hE hB m).le (by omega) |>.bl λ_=>(aB.exp hE _ _).bz λ_=>aB.bZ _) _;exact(oY 0 _ _ (g3D.2 hE.1) hm).2)
 rw[d0V]at hrd;have hnz:∀n e,dQ moQ s=.bad n e->e≠0:=λn e h=>a7Z (λl n e hE hB hp h=>bG.mod (b8R l) 0 n e h) h;cases hr:dQ moQ s with
 |ok t j=>
  rw[hr]at hrd;refine CS.aW func6 rfl ntmps6 rfl ?_;simp;refine jE.mk oJ hrd [(100001,5)] ?_ ?_ ?_ rfl rfl ?_ (rest:=[])
  .simp[aR,aY,bB,bA,bM,getKey,moC,a9v]
  .simp[aZ,bI,rk]
  .simp[aZ,bI,rk,dE,dM,moC]
  .simp[bJ,aZ,bI,rk,dE,dM,bW,kU,jF,eN,a1N,a1O,d4K,moC,a9v]
 |bad n e=>
  rw[hr]at hrd;have he:=hnz n e hr;refine CS.aW func6 rfl ntmps6 rfl ?_;simp;refine jE.mkd oJ hrd [(100001,5)] [(2,.cells [.d .aE,.d .aE,.d .aE,.d .aE,.d .aE,.d .aE])] ?_ ?_ ?_ rfl rfl ?_ ?_ (rest:=[])
  .simp[aR,aY,bB,bA,bM,getKey,moC]
  .simp[aZ,bI,rk]
  .simp[aZ,bI,rk,dE,dM,moC]
  .intro k o hk;simp only[getKey]at hk;split at hk
   .rename_i h2;subst h2;exact⟨by simpa[getKey]using hk,by simp[rk]⟩
   .cases hk
  .simp[a1N,a1O,d4K,he,a9v]
theorem b9b(h:s.er≠0)(t:Nm):wV l t s=(false,s):=by
 unfold wV;rw[a3w h]
 rfl
theorem c2a(h:s.er≠0){b:Bool}:oT l b s=([],s):=by unfold oT;rw[if_neg (λh'=>h h'.2),a4H h]
theorem d4V(hl:l.length<=50000)(s:dR)(hs:s.er≠0):eG G 34 [] l s (a2I,s) (λd=>.d (.agg (a4M d))):=by have v0:cO l s:=λh=>absurd h hs;have g1:eG G 60 [.int .i64 0,.str [40]] l s _ _:=qF hl 0 [40] s v0 (by omega);have g2:eG G 60 [.int .i64 0,.str [58]] l s _ _:=qF hl 0 [58] s v0 (by omega);rw[rD hs]at g1 g2;refine eG.xV func34 rfl ntmps34 rfl ?_;intro Q Q0;refine SW.xk ?_;simp;refine cT cQ (dJ hl [100,101,102] s v0) (λb x hx=>?_);rw[b9b hs]at hx;cases hx;simp;refine cT cQ (dJ hl [97,115,115,117,109,101] s v0) (λb x hx=>?_);rw[b9b hs]at hx;cases hx;simp;refine cT cQ (dJ hl [114,101,102,108,101,99,116] s v0) (λb x hx=>?_);rw[b9b hs]at hx;cases hx;simp;refine cT sR (xM hl s v0) (λb x hx=>?_);rw[a4H hs]at hx;cases hx;simp;refine cT mG (oX hl s v0) (λb x hx=>?_);cases (show oT l (mR aL l 0 s) s=(b,x) from hx).symm.trans (c2a hs);simp;refine cT bT g1 (λb x hx=>?_);cases hx;simp;refine cT bT g1 (λb x hx=>?_);cases hx;simp;refine cT bT g2 (λb x hx=>?_);cases hx;simp;refine cT pU (rJ hl [61] s v0) (λb x hx=>?_);have hx2:((),(oT l (cF l 0 [61] s) s).2)=(b,x):=hx;rw[c2a hs]at hx2;cases hx2;simp;refine cT gS (b0I (l:=l) s hs) (λb x hx=>?_);cases hx;simp;exact Q0.ok _ _ (.inr rfl) (by simp[a4M,a8Y,a2I,pW,uP,jK,eI,strs])
abbrev f4o(l:List Tok):RM eL:=do
 let d <- a2z aL bF vP l
 let _ <- gJ l [59]
 pure d
theorem e4r(hV:vK G vP l):aK l 0 (eZ vP l) (f4o l):=by
 have e:eZ vP l=(uH aL bF vP l >>=λo=>match o with|some d=>(cD l [59] >>=λ_=>pure d)|none=>dN l:bE eL):=by unfold eZ;congr 1;funext o;cases o<;>rfl
 rw[e];exact aK.f3M hV.toRfH λd=>aK.b0 (aK.b2h (by decide) hV.toRfH) λ_=>aK.bZ _
theorem e4s(hV:vK G vP l){s1:dR}{d:eL}(hv:cO l s)(h:a2z aL bF vP l s=(d,s1)):cO l s1:=cO.next (d4s hV hv h)
theorem d0W(s:List UInt8)(hs:s.length<=19000:=by omega):CS prog G 10 [.str s] (.cY [.agg (a4M (a1N a2I (dQ (eZ vP) s))),.int .i64 (a1O (dQ (eZ vP) s))]) none:=by
 have pZ:=c4v (G:=G) s;obtain⟨t,s1,⟨d0,sd,h1,vd,hy⟩,v1,hl,ht⟩:=f0p (G:=G) (x:=eZ vP) (y:=f4o) (λl s y=>∃d sd,eG G 34 [] l s (d,sd) (λd=>.d (.agg (a4M d)))/\cO l sd/\y=(d,(gJ l [59] sd).2)) a2I s hs (λl hV hn s hv=>⟨_,_,d4r hV hn s hv,e4s hV hv rfl,rfl⟩) (λs hs=>⟨a2I,s,d4V (by simp) s hs,λh=>absurd h hs,by unfold gJ;rw[rD hs];rfl⟩) (λl hV=>e4r hV);have hh:=dO (G:=G) hl [59] sd vd;have hen:=d4T (G:=G) hl s1 v1;generalize (zJ s).1=l at pZ h1 v1 hl hen ht vd hy hh;generalize (zJ s).2=s0 at pZ h1;obtain⟨bh,sh,hhv⟩:∃b sh,gJ l [59] sd=(b,sh):=⟨_,_,rfl⟩;rw[hhv]at hy hh;cases hy;obtain⟨s2,hs2⟩:∃s2,(b4J l sh).2=s2:=⟨_,rfl⟩;rw[hs2]at ht;refine CS.a3U func10 rfl ntmps10 rfl (SW.xk ?_);simp;refine jT.new (.mk func20 rfl) pZ 50000 (by simp) rfl (by decide) (by simp[getKey]) (by simp[b1a]) (by simp[b8Z]) (by simp[b1a]) ?_;simp;refine f0o (hH:=by simp[getKey]) 50000 (.mk func34 rfl) h1 (λt s' hx=>?_);cases hx;simp;refine f0o (hH:=by simp[getKey]) 50000 cG hh (λt s' hx=>?_);cases hx;simp;refine f0o (hH:=by simp[getKey]) 50000 (.mk func36 rfl) hen (λt s' hx=>?_);have e2:s'=s2:=by rw[<-hs2,hx]
 subst e2;cases hr:dQ (eZ vP) s with
 |ok a j=>rw[hr]at ht;obtain⟨rfl,h0⟩:=ht;simp[h0,a1N,a1O]
 |bad n e=>rw[hr]at ht;obtain⟨k1,k2,k3⟩:=ht;subst k2;simp[k1,a1N,a1O];refine d7d 5 [0] (.op 1 (.op 2 (.op 3 (.op 4 (.call [6] .none) (.call [4,6] .none)) (.call [3,4,6] .none)) (.call [2,3,4,6] .none)) (.call [1,2,3,4,6] .none)) (by kernel_rfl) (by kernel_rfl) ?_;simp[a4M,a8Y,a2I,pW,uP,jK,eI,strs]
end
end Go.Proofs.YtmfbjecjccipfaaGreatDoor
section
namespace Go.VM
open Go Go.RowKit
section
variable {P:Program} {G:GT} {st:St} {base:dU} {R:Nat->Nat->Prop} {μ:Nat->Nat} {a:Act} {w w':World}
variable{T t:TypeId}{v:Value}{c:Array Value}{fr:Nat×Nat}{w1:World}
theorem c8q{ad:Addr}(h1:w.heap[ad.block]? =some (.cells c T fr))(h2:w'.heap[ad.block]? =some (.cells c T fr))(h:(load ad).run P w=.ok v w1):(load ad).run P w'=.ok v w':=by
 rw[run_load]at h|-;have e:w'.cell? ad=w.cell? ad:=by unfold World.cell?;rw[h1,h2]
 rw[e];cases hc:w.cell? ad with
 |some u=>rw[hc]at h;cases h;rfl
 |none=>
  rw[hc]at h;have:∃x,w.farLoad P ad (Mode.plain==Mode.atomic)=.error x:=by unfold World.farLoad;rw[h1];exact⟨_,rfl⟩
  obtain⟨x,hx⟩:=this;rw[hx]at h;cases h
theorem a9T{c:Array Value}{T:TypeId}{fr:Nat×Nat}{b off:Nat}(h1:w.heap[b]? =some (.cells c T fr))(h2:w'.heap[b]? =some (.cells c T fr)):∀(n i:Nat)(acc vs:Array Value)(w1:World),(loadCellsFrom ⟨b,off,none⟩ i n acc).run P w=.ok vs w1->(loadCellsFrom ⟨b,off,none⟩ i n acc).run P w'=.ok vs w'
 |0,i,acc,vs,w1,h=>by
  simp only[loadCellsFrom,Sem.run_pure]at h|-;cases h
  rfl
 |n+1,i,acc,vs,w1,h=>by
  simp only[loadCellsFrom,g3O]at h|-;have hb:(Addr.add ⟨b,off,none⟩ i).block=b:=by rw[pC]
  cases hl:(load (Addr.add ⟨b,off,none⟩ i)).run P w with
  |halt x w2=>rw[hl]at h;cases h
  |ok v w2=>
   have hw2:w2=w:=by
    rw[run_load]at hl;split at hl
    .cases hl;rfl
    .split at hl
     .cases hl;rfl
     .cases hl
   rw[hw2]at hl;rw[hl]at h;rw[c8q (by rw[hb];exact h1) (by rw[hb];exact h2) hl];simp only[g3Q]at h|-;exact a9T h1 h2 n (i+1) _ vs w1 h
theorem c8r{b off:Nat}(h1:w.heap[b]? =some (.cells c T fr))(h2:w'.heap[b]? =some (.cells c T fr))(h:(loadVar t ⟨b,off,none⟩).run P w=.ok v w1):(loadVar t ⟨b,off,none⟩).run P w'=.ok v w':=by
 unfold loadVar at h|-;cases hu:P.underlying t with
 |none=>
  have:∀w:World,∃x,(isAgg t).run P w=.halt x w:=λw=>by unfold isAgg;simp[underlying,hu]
  obtain⟨x,hx⟩:=this w;rw[g3O,hx]at h;cases h
 |some d=>
  simp only[g3O,tO hu,g3Q]at h|-;cases hd:qU d with
  |false=>simp only[hd,g3t,if_false]at h|-;exact c8q h1 h2 h
  |true=>
   simp only[hd,if_true,g3O]at h|-;cases hi:P.info? t with
   |none=>
    have:∃x,(sizeOf t).run P w=.halt x w:=by simp[sizeOf,typeInfo,hi]
    obtain⟨x,hx⟩:=this;rw[hx]at h;cases h
   |some i=>
    have hs:∀w,(sizeOf t).run P w=.ok (P.cellsOf t) w:=rU (by rw[hi];rfl);simp only[hs,g3Q]at h|-;cases hl:(loadCells ⟨b,off,none⟩ (P.cellsOf t)).run P w with
    |halt x w2=>rw[hl]at h;cases h
    |ok vs w2=>
     rw[hl]at h;rw[show(loadCells ⟨b,off,none⟩ (P.cellsOf t)).run P w'=.ok vs w' from a9T h1 h2 _ _ _ _ _ hl];simp only[g3Q,Sem.run_pure]at h|-;cases h
     rfl
def a9d(w w':World):Prop:=∀b,b<w.heap.size->w'.heap[b]? =w.heap[b]?
def d2j:Op->Bool
 |.load _ _=>true
 |.indexAddr _ _ _=>true
 |o=>a8w o
variable{K:St->Prop}{all:Array Oper}{o:Oper}
theorem d9c(hg:o.guard=none)(hk:d2j o.op=true)(h:qN P G true all o K st)(hr:Rel P G base R μ st a w):∃v,∀w',a9d w w'->(execOp a.eval o).run P w'=.ok (.value v) w':=by
 by_cases pZ:a8w o.op=true
 .obtain⟨v,hv⟩:=b7l hg pZ h hr;exact⟨v,λw' _=>hv w'⟩
 unfold qN at h;rw[show gB o all st.tmps=some true from by unfold gB;rw[hg]]at h;cases qA:o.op with
 |load t x=>
  simp only[kT,dY,qA,pB]at h;split at h;rotate_left
  .exact h.elim
  rename_i out ho;obtain⟨v,w1,_,_,dD,_⟩:=c4V qA ho base R μ a w hr;have key:∀{b off:Nat}{c:Array Value}{T:TypeId}{fr:Nat×Nat},a.eval x=.pointer (some ⟨b,off,none⟩)->w.heap[b]? =some (.cells c T fr)->∃v,∀w',a9d w w'->(execOp a.eval o).run P w'=.ok (.value v) w':=λ{b off c T fr} hx hb=>by
   have aG:b<w.heap.size:=(g3i.1 hb).1;have e:∀w,(execOp a.eval o).run P w=((loadVar t ⟨b,off,none⟩).run P w).andThen λv w=>.ok (.value v) w:=λw=>by simp[execOp,qA,hx,Instr.loadAt,Instr.sureAddr]
   cases hl:(loadVar t ⟨b,off,none⟩).run P w with
   |halt y w2=>rw[e,hl]at dD;rcases dD with dD|⟨dD,_⟩<;>cases dD
   |ok u w2=>
    refine⟨u,λw' hw'=>?_⟩;rw[e,c8r hb ((hw' b aG).trans hb) hl]
    rfl
  unfold b3V at ho;split at ho
  .rename_i k off hx;split at ho
   .rename_i cs yK;obtain⟨_,_,vs,T,hh,_⟩:=hr.mE k _ yK;exact key (hr.eJ hx) hh
   .cases ho
  .rename_i cs hx;obtain⟨b,off,he,f4p⟩:=(hr.qQ hx).a6I;simp only[g2Y]at ho;obtain⟨y,hy,_⟩:=ho;cases cs with
   |nil=>
    unfold takeD at hy;split at hy
    .rename_i d hd;split at hy
     .rename_i b0a;split at hy
      .rename_i hle;have h0:P.cellsOf t=0:=by simpa using hle
       have hv0:∀w',(loadVar t ⟨b,off,none⟩).run P w'=.ok (.agg #[]) w':=λw'=>by
        unfold loadVar;simp only[g3O,tO hd,g3Q,b0a,if_true,run_sizeOf hd,h0]
        rfl
       exact⟨.agg #[],λw' _=>by simp[execOp,qA,he,Instr.loadAt,Instr.sureAddr,hv0]⟩
      .cases hy
     .cases hy
    .cases hy
   |cons d r=>
    obtain⟨_,_,u,hu,_⟩:=f4p 0 d rfl;unfold World.cell? at hu;split at hu
    .rename_i c T fr hb;exact key he hb
    .cases hu
  .cases ho
 |indexAddr t x i=>
  simp only[kT,dY,qA,pB]at h;split at h;rotate_left
  .exact h.elim
  rename_i out ho;unfold uS at ho;split at ho
  .rename_i e es n hu hx hi;simp only[g3n]at ho;obtain⟨j,hj,cs,sN,ho⟩:=ho;split at ho<;>simp at ho;rename_i hlen;obtain⟨k,hk,hjl⟩:=b3e hr hi hj;obtain⟨ao,cap,hv,b6f,gK⟩:=(hr.pQ hx).a1a;obtain⟨b,off,size,rfl,hs0,hs1,dD⟩:=gK (by rintro rfl;simp at sN);have mI:size=P.cellsOf e:=by rw[<-hlen,hs1 cs (g3e sN)]
   refine⟨.pointer (some ⟨b,off+j*size,none⟩),λw' _=>?_⟩;have hso:=rU (gE (P:=P) (t:=e) (by omega)) w';simp[execOp,qA,hv,hk,Instr.indexAt,g3P hu,asIntOf,hjl,hso,pC,mI]
  .rename_i len e k off n hu hx hi;split at ho
   .cases ho
   .rename_i gK;simp only[g2Y]at ho;obtain⟨j,hj,_⟩:=ho;obtain⟨q,hq,hjl⟩:=b3e hr hi hj;exact⟨.pointer (some ⟨μ k,off+j*P.cellsOf e,none⟩),λw' _=>by simp[execOp,qA,hr.eJ hx,hq,Instr.indexAt,g3P hu,asIntOf,Instr.sureAddr,hjl,rU (gE gK) w',pC]⟩
  .rename_i len e cs n hu hx hi;split at ho
   .cases ho
   .rename_i gK;simp only[g2Y]at ho;obtain⟨j,hj,_⟩:=ho;obtain⟨q,hq,hjl⟩:=b3e hr hi hj;obtain⟨b,off,he,dD⟩:=(hr.qQ hx).a6I;exact⟨.pointer (some ⟨b,off+j*P.cellsOf e,none⟩),λw' _=>by simp[execOp,qA,he,hq,Instr.indexAt,g3P hu,asIntOf,Instr.sureAddr,hjl,rU (gE gK) w',pC]⟩
  .cases ho
 |_=>simp[d2j,qA]at hk<;>simp[qA,hk]at pZ
theorem a9d.refl(w:World):a9d w w:=λ_ _=>rfl
theorem d4W(hg:o.guard=none)(hk:d2j o.op=true)(h:qN P G true all o K st)(hr:Rel P G base R μ st a w):
  ∃v s R' μ',(∀w',a9d w w'->(execOp a.eval o).run P w'=.ok (.value v) w')/\K s/\Rel P G base R' μ' s (a.put o.dst v) w/\Step base R w R' w:=by
 obtain⟨v,hv⟩:=d9c hg hk h hr;have h1:=uE (Q:=λ_ _ _=>False) (KK:=λa' w'=>∃s R' μ',K s/\Rel P G base R' μ' s a' w'/\Step base R w R' w') h hr (λs v w' R' μ' q1 q2 q3=>⟨s,R',μ',q1,q2,q3⟩);rw[if_pos (by unfold Region.wanted;rw[hg])]at h1;rcases h1 with h1|⟨_,_,_,h2⟩
 .unfold Oper.wp at h1;rw[hv w (a9d.refl w)]at h1;obtain⟨s,R',μ',q1,q2,q3⟩:=h1;exact⟨v,s,R',μ',hv,q1,q2,q3⟩
 .exact h2.elim
def d2k(ops:Array Oper):List Nat->Array Bool->Bool
 |[],_=>true
 |i::r,listed=>(match ops[i]? with
  |some o=>d2j o.op&&(o.guard==none)&&o.dst.isSome
  |none=>false)&&Region.noSelect ops&&Region.free .any ops listed i&&(Region.ready .any ops listed).contains i&&d2k ops r (listed.setIfInBounds i true)
theorem d2l{ops:Array Oper}{K:St->Prop}{QQ:Exit->Act->World->Prop}(hQ:∀c a a' w,a.defers=a'.defers->a.tmps.size=a'.tmps.size->QQ (.panic c) a w->QQ (.panic c) a' w):∀(l:List Nat)(listed:Array Bool)(fuel:Nat)(st:St),d2k ops l listed=true->wN P G true ops (sel ops l) st K->
  ∀(base:dU)(R:Nat->Nat->Prop)(μ:Nat->Nat)(a:Act)(w:World),Rel P G base R μ st a w->(∀s a' R' μ',K s->a'.tmps.size=a.tmps.size->Rel P G base R' μ' s a' w->Step base R w R' w->wpAnyH P .any ops QQ (a9d w) fuel (cW l listed) a' w)->wpAnyH P .any ops QQ (a9d w) (l.length+fuel) listed a w
 |[],listed,fuel,st,_,h,base,R,μ,a,w,hr,hk=>by simpa[cW]using hk st a R μ h rfl hr (.refl _ _ _)
 |i::l,listed,fuel,st,hB,h,base,R,μ,a,w,hr,hk=>by
  simp only[d2k,g2Z]at hB;obtain⟨⟨⟨⟨ho,d7j⟩,hf⟩,hrd⟩,hB'⟩:=hB;split at ho;rotate_left
  .cases ho
  rename_i o hoi;simp only[g2Z,beq_iff_eq]at ho;obtain⟨⟨hsk,hg⟩,hd⟩:=ho;simp only[sel,hoi,wN]at h;obtain⟨v,s,R',μ',hv,hK,jD,uO⟩:=d4W hg hsk h hr;rw[show(i::l).length+fuel=(l.length+fuel)+1 by simp only[List.length_cons];omega];refine wpAnyH_take (v:=v) hoi d7j hf hrd (λc a w h=>hQ c _ _ w ?_ ?_ h) (.inl ⟨by unfold Region.wanted;rw[hg],hv⟩) (a9d.refl w) ?_
  .cases o.dst<;>rfl
  .cases o.dst<;>simp[Act.put]
  .exact d2l hQ l _ fuel s hB' hK base R' μ' _ w jD λs2 a2 R2 μ2 q1 q0 q2 q3=>hk s2 a2 R2 μ2 q1 (q0.trans (size_put)) q2 (uO.trans q3)
theorem c4w{e:TypeId}{ev:Operand->Value}(ho:o.op=.alloc e)(h:(execOp ev o).run P w=.ok (.value v) w1):v=.pointer (some ⟨w.heap.size,0,none⟩)/\∀b,b<w.heap.size->w1.heap[b]? =w.heap[b]? :=by
 cases hz:(P.info? e).bind (·.zero)with
 |none=>
  exfalso;cases hi:P.info? e with
  |none=>simp[execOp,ho,Instr.alloc,zeroValue,typeInfo,hi]at h
  |some i=>rw[hi]at hz;simp at hz;simp[execOp,ho,Instr.alloc,zeroValue,typeInfo,hi,hz]at h
 |some z=>
  obtain⟨i,hi,hz⟩:=g3n.1 hz;have hr:(execOp ev o).run P w=.ok (.value (.pointer (some ⟨w.heap.size,0,none⟩))) (w.alloc (.cells z.cells e)):=by simp[execOp,ho,Instr.alloc,zeroValue,typeInfo,hi,hz,newVar,newRow]
  rw[hr]at h;cases h;refine⟨rfl,λb hb=>?_⟩
  show(w.heap.push _)[b]? =w.heap[b]?
  rw[Array.getElem?_push,if_neg (Nat.ne_of_lt hb)]
theorem c4x{ad x:Operand}{out:Out}(ho:o.op=.store t ad x)(h:tY P G t ad x st=some out)(hr:Rel P G base R μ st a w):∃w1 b off,a.eval ad=.pointer (some ⟨b,off,none⟩)/\(execOp a.eval o).run P w=.ok .skip w1/\∀j,j≠b->w1.heap[j]? =w.heap[j]? :=by
 unfold tY at h;split at h
 .rename_i k off ys ha hx;split at h
  .rename_i cs hk;split at h
   .rename_i hc;obtain⟨hlen,gK,hle⟩:=hc;obtain⟨hbk,hnR,cur,T,hh,mI,d5D,b5g⟩:=hr.mE k _ hk;have hv:=hr.eval x;obtain⟨sU,hvc⟩:=a4s hv hx;have kK:∀u∈(a.eval x).cells.toList,u.oneCell'=true:=λu hu=>by
     obtain⟨i,hi⟩:=g3q hu;have yJ:i<ys.length:=by rw[<-sU];simpa using (g3a.1 hi).1
     obtain⟨_,_,h2⟩:=hvc i ys[i] (by simp[yJ]);have:(a.eval x).cells.getD i undef=u:=by
      have:(a.eval x).cells[i]? =some u:=by simpa using hi
      simp[g3b,this]
     rw[this]at h2;exact h2
    exact⟨_,μ k,off,hr.eJ ha,vX ho (hr.eJ ha) hh (by rw[sU,hlen]) gK kK (by rw[sU,mI];omega),λj hj=>setRow_other w (μ k) j _ hj⟩
   .cases h
  .cases h
 .cases h
def b2Q(ops:Array Oper)(m:Nat):OT->List Tmp->Bool
 |.stop,_=>true
 |.none,_=>true
 |.op i next more,D=>(match ops[i]? with
  |some o=>(o.guard==none)&&(match o.op,o.dst with
   |.alloc _,some k=> !D.contains k&&decide (k<m)&&b2Q ops m next (k::D)
   |.store _ (.tmp k) _,none=>D.contains k&&b2Q ops m next D
   |_,_=>false)
  |none=>false)&&b2Q ops m more D
def f4q(w0:World)(a:Act)(D:List Tmp):Prop:=∀k∈D,∃b,a.eval (.tmp k)=.pointer (some ⟨b,0,none⟩)/\w0.heap.size<=b
theorem c8s{ops:Array Oper}{Q:Exit->St->Prop}{i n m:Nat}{listed:Array Bool}{D:List Tmp}:∀(T:OT),a3F ops T (n+1) listed=true->b2Q ops m T D=true->b2L i T=true->VT P G ops Q T st->∃next more,okT ops next (listed.setIfInBounds i true)=true/\a3F ops next n (listed.setIfInBounds i true)=true/\b2Q ops m (.op i next more) D=true/\∃o,ops[i]? =some o/\a7W P G ops o st (VT P G ops Q next) Q
 |.stop,_,_,h,_=>by simp[b2L]at h
 |.none,_,_,h,_=>by simp[b2L]at h
 |.op j next more,ht,hf,ha,hv=>by
  simp only[a3F,g2Z]at ht;simp only[b2L,g3l,beq_iff_eq]at ha;simp only[VT]at hv;rcases ha with rfl|ha
  .refine⟨next,more,ht.1.1,ht.1.2,hf,?_⟩;have:=hv.1;split at this
   .rename_i o ho;exact⟨o,ho,this⟩
   .exact this.elim
  .simp only[b2Q,g2Z]at hf;exact c8s more ht.2 hf.2 ha hv.2
theorem b9c{ops:Array Oper}{Q:Exit->St->Prop}{m:Nat}(w0:World):∀(n:Nat)(T:OT)(D:List Tmp)(listed:Array Bool)(st:St),okT ops T listed=true->a3F ops T n listed=true->b2Q ops m T D=true->VT P G ops Q T st->∀(base:dU)(R:Nat->Nat->Prop)(μ:Nat->Nat)(a:Act)(w:World),Rel P G base R μ st a w->a9d w0 w->w0.heap.size<=w.heap.size->f4q w0 a D->m<=a.tmps.size->
  ∀QQ:Exit->Act->World->Prop,(∀e s a' w' R' μ',Q e s->Rel P G base R' μ' s a' w'->Step base R w R' w'->QQ e a' w')->wpAnyH P .any ops QQ (a9d w0) n listed a w
 |0,T,D,listed,st,ho,ht,hf,hv,base,R,μ,a,w,hr,hH,mI,hF,hD,QQ,hk=>by
  cases T with
  |stop=>exact⟨by simpa[okT]using ho,hk _ st a w R μ hv hr (.refl _ _ _)⟩
  |none=>simp only[okT,g2Z,g3v,g3C,g3c]at ho;obtain⟨h1,h2⟩:=ho;obtain⟨x,hx⟩:=List.exists_mem_of_ne_nil _ h1;have:=h2 x hx;simp[b2L]at this
  |op i next more=>simp[a3F]at ht
 |n+1,T,D,listed,st,ho,ht,hf,hv,base,R,μ,a,w,hr,hH,mI,hF,hD,QQ,hk=>by
  cases T with
  |stop=>
   have hrd:Region.ready .any ops listed=[]:=by simpa[okT]using ho
   refine⟨λ_=>hk _ st a w R μ hv hr (.refl _ _ _),λi hi=>?_⟩;rw[hrd]at hi;cases hi
  |none=>simp only[okT,g2Z,g3v,g3C,g3c]at ho;obtain⟨h1,h2⟩:=ho;obtain⟨x,hx⟩:=List.exists_mem_of_ne_nil _ h1;have:=h2 x hx;simp[b2L]at this
  |op i0 f4a f4b=>
   simp only[okT,g2Z,g3v,g3C,g3c]at ho;refine⟨λh=>(ho.1 h).elim,λi hi=>?_⟩;obtain⟨next,more,q1,q2,q0,o,q3,q4⟩:=c8s _ ht hf (ho.2 i hi) hv;simp only[b2Q,q3,g2Z,beq_iff_eq]at q0;obtain⟨⟨hg,q0⟩,_⟩:=q0;have hw:Region.wanted o (yielded ops a.tmps)=true:=by unfold Region.wanted;rw[hg]
   have hgD:gB o ops st.tmps=some true:=by unfold gB;rw[hg]
   unfold wpOp;rw[q3];simp only;rw[if_pos hw];left;have kK:∀out,kT G o st=none->dY G o st=none->pB P G o st=some out->o.wp P a w (λa' w'=>∃s R' μ',VT P G ops Q next s/\Rel P G base R' μ' s a' w'/\Step base R w R' w') λ_ _ _=>False:=λout c1 c2 c3=>by
    have h1:qN P G false ops o (VT P G ops Q next) st:=by unfold a7W at q4;unfold qN;rw[hgD,c1,c2,c3]at q4;rw[hgD,c1,c2,c3];exact q4
    have h2:=uE (Q:=λ_ _ _=>False) (KK:=λa' w'=>∃s R' μ',VT P G ops Q next s/\Rel P G base R' μ' s a' w'/\Step base R w R' w') h1 hr (λs v w' R' μ' p1 p2 p3=>⟨s,R',μ',p1,p2,p3⟩);rw[if_pos hw]at h2;rcases h2 with h2|⟨_,_,_,h2⟩
    .exact h2
    .exact h2.elim
   split at q0
   ·
    rename_i e k qA d9d;simp only[g2Z,g3v]at q0;have c1:kT G o st=none:=by simp only[kT,qA]
    have c2:dY G o st=none:=by simp only[dY,qA]
    have vT:∃out,pB P G o st=some out:=by
     unfold a7W at q4;rw[hgD,c1,c2]at q4;simp only at q4;split at q4
     .rename_i out ho2;exact⟨out,ho2⟩
     .exact q4.elim
    obtain⟨out,vT⟩:=vT;have hx:=kK out c1 c2 vT;unfold Oper.wp at hx|-;have dD:∃v w1,(execOp a.eval o).run P w=.ok (.value v) w1:=by
     cases hz:(P.info? e).bind (·.zero)with
     |none=>
      exfalso;cases hi:P.info? e with
      |none=>simp[execOp,qA,Instr.alloc,zeroValue,typeInfo,hi,Oper.upon]at hx
      |some i=>rw[hi]at hz;simp at hz;simp[execOp,qA,Instr.alloc,zeroValue,typeInfo,hi,hz,Oper.upon]at hx
     |some z=>exact⟨_,_,c2T qA hz⟩
    obtain⟨v,w1,dD⟩:=dD;obtain⟨e1,e2⟩:=c4w qA dD;rw[dD]at hx|-;obtain⟨s,R',μ',p1,p2,p3⟩:=hx;have hH1:a9d w0 w1:=λb hb=>(e2 b (by omega)).trans (hH b hb);have f8d:w.heap.size<=w1.heap.size:=p3.below.size;refine⟨hH1,b9c w0 n next (k::D) _ s q1 q2 q0.2 p1 base R' μ' _ w1 p2 hH1 (by omega) (λk' hk'=>?_) (by rw[d9d,size_put];exact hD) QQ λe s a' w2 R2 μ2 k1 k2 k3=>hk e s a' w2 R2 μ2 k1 k2 (p3.trans k3)⟩;obtain⟨⟨q5,q6⟩,_⟩:=q0;simp only[g3N]at q6;rw[d9d];by_cases yK:k'=k
    .subst yK;refine⟨w.heap.size,?_,mI⟩;have aG:k'<a.tmps.size:=Nat.lt_of_lt_of_le q6 hD;rw[eM aG,e1]
    .have hk2:k'∈D:=by
      rcases g3w.1 hk' with h|h
      .exact absurd h yK
      .exact h
     obtain⟨b,g1,g2⟩:=hF k' hk2;exact⟨b,by rw[cK yK];exact g1,g2⟩
   ·
    rename_i t k x qA d9d;simp only[g2Z]at q0;have c1:kT G o st=none:=by simp only[kT,qA]
    have c2:dY G o st=none:=by simp only[dY,qA]
    have vT:∃out,pB P G o st=some out:=by
     unfold a7W at q4;rw[hgD,c1,c2]at q4;simp only at q4;split at q4
     .rename_i out ho2;exact⟨out,ho2⟩
     .exact q4.elim
    obtain⟨out,vT⟩:=vT;have hx:=kK out c1 c2 vT;have pZ:tY P G t (.tmp k) x st=some out:=by unfold pB at vT;rw[qA]at vT;exact vT
    obtain⟨w1,b,off,r1,r2,r3⟩:=c4x qA pZ hr;obtain⟨b',g1,g2⟩:=hF k (by simpa using q0.1);rw[g1]at r1;cases r1;unfold Oper.wp at hx|-;rw[r2]at hx|-;obtain⟨s,R',μ',p1,p2,p3⟩:=hx;have hH1:a9d w0 w1:=λj hj=>(r3 j (by omega)).trans (hH j hj);have f8d:w.heap.size<=w1.heap.size:=p3.below.size;refine⟨hH1,b9c w0 n next D _ s q1 q2 q0.2 p1 base R' μ' _ w1 p2 hH1 (by omega) (λk' hk'=>?_) (by rw[d9d];exact hD) QQ λe s a' w2 R2 μ2 k1 k2 k3=>hk e s a' w2 R2 μ2 k1 k2 (p3.trans k3)⟩;rw[d9d];exact hF k' hk'
   .cases q0
theorem d2m{id:Nat}{ops:Array Oper}{Q:Exit->St->Prop}(L:List Nat)(T:OT)(m:Nat)(hm:P.follows .mixedOrders=true)(hB:(d2k ops L (Array.replicate ops.size false)&&decide (L.length<=ops.size)&&okT ops T (cW L (Array.replicate ops.size false))&&a3F ops T (ops.size-L.length) (cW L (Array.replicate ops.size false))&&b2Q ops m T [])=true)(hl:m<=st.tmps.length)(h:VK P G [.ops true ops (sel ops L)] .normal st λ_ s=>VT P G ops (a0R Q) T s):SW P G (.region id ops true) st Q:=by
 simp only[g2Z,g3N]at hB;obtain⟨⟨⟨⟨h1,h2⟩,h3⟩,h4⟩,h5⟩:=hB;obtain⟨k,hk⟩:=Nat.exists_eq_add_of_le h2;have e:ops.size-L.length=k:=by omega
 rw[e]at h4;refine SW.mono (λe s=>b7n) ?_;intro base R μ a w hr;obtain⟨jD,uO⟩:=hr.drew;simp only[VK]at h;refine wp_region_held (S:=a9d w.drew) hm ?_;have key:wpAnyH P .any ops (λe a' w'=>∃st' R' μ',a0R Q e st'/\Rel P G base R' μ' st' a' w'/\Step base R w R' w') (a9d w.drew) (L.length+k) (Array.replicate ops.size false) a w.drew:=by
  refine d2l (λc a a' w' e1 e2 hq=>?_) L _ k st h1 h base R μ a w.drew jD λs a' R' μ' q1 q0 q2 q3=>?_
  .obtain⟨s,R',μ',q1,q2,q3⟩:=hq;have hd:a'.defers=[]:=by rw[<-e1];exact q2.defers
   rw[a7u]at q1;exact⟨_,R',μ',by rw[a7u];exact q1,q2.b7o a' hd,q3⟩
  .exact b9c w.drew k T [] _ s h3 h4 h5 q1 base R' μ' a' w.drew q2 (a9d.refl _) (g3p _) (λk hk=>by cases hk) (by rw[q0,hr.size];exact hl) _ λe s a' w' R2 μ2 k1 k2 k3=>⟨s,R2,μ2,k1,k2,(uO.trans q3).trans k3⟩
 rw[<-hk]at key;exact key
end
end Go.VM
end
namespace Go.Proofs.YtmfbjecjccipfaaGreatDoor
section
open Go Go.VM
variable {G:GT}
mutual
theorem a4S:∀p:Pr,a1F p p=true
 |⟨op,nm,n,l⟩=>by simp[a1F,b9d l]
theorem b9d:∀l:List Pr,yB l l=true
 |[]=>by simp[yB]
 |a::r=>by simp[yB,a4S a,b9d r]
end
inductive WB (B:Nat):Ty->Prop
 |mk (op:Int) (nm:Nm) (l:List Ty) (ns:List Nm) (p:Pr) (ps:List Pr):l.length<=B->ns.length<=B->bO p<=B->ps.length<=B->(∀q∈ps,bO q<=B)->(∀k∈l,WB B k)->WB B ⟨op,nm,l,ns,p,ps⟩
inductive WE (B:Nat):cP->Prop
 |mk (e:cP):e.kids.length<=B->e.params.length<=B->e.alts.length<=B->e.types.length<=B->(∀k∈e.kids,WE B k)->(∀p∈e.params,WB B p.2)->(∀a∈e.alts,a.2.1.length<=B)->(∀a∈e.alts,WE B a.2.2)->(∀t∈e.types,WB B t)->WE B e
theorem uN:VM.Enters prog 37:=.mk func37 rfl
theorem tF(l:List Nm)(hl:l.length<=900000000):CS prog G 37 [.sl (strs l),.sl (strs l)] (.d (.bool true)) none:=by
 refine CS.aW func37 rfl ntmps37 rfl ?_;simp;refine SW.gA (ι:={i:Nat//i<=l.length}) (λi=>[(5,.d (.int .i64 i.1))]) (λ_=>[]) (λ_=>[]) (λi=>l.length-i.1) ⟨0,by simp⟩ (by simp) ?_;rintro⟨i,hi⟩;by_cases aG:i<l.length
 .have hg:=b6B aG;have hw:=bC (show i<9223372036854775807 by omega);simp[aG,hg];refine⟨.mk,?_⟩;exact bD.mk ⟨i+1,aG⟩ (by simp[hw]) (by simp;omega)
 .have hie:i=l.length:=by omega
  subst hie;simp
theorem a4T(l:List Ty)(hl:l.length<=900000000)(ih:∀k∈l,CS prog G 63 [.agg (tyD k),.agg (tyD k)] (.d (.bool true)) none):CS prog G 62 [.sl (l.map tyC),.sl (l.map tyC)] (.d (.bool true)) none:=by
 refine CS.aW func62 rfl ntmps62 rfl ?_;simp;refine SW.gA (ι:={i:Nat//i<=l.length}) (λi=>[(5,.d (.int .i64 i.1))]) (λ_=>[]) (λ_=>[]) (λi=>l.length-i.1) ⟨0,by simp⟩ (by simp) ?_;rintro⟨i,hi⟩;by_cases aG:i<l.length
 .have hg:=e2W aG;have hw:=bC (show i<9223372036854775807 by omega);simp[aG,hg];refine⟨.mk,?_⟩;refine aC.mk (.mk func63 rfl) (ih l[i] (g3y aG)) ?_;simp;exact bD.mk ⟨i+1,aG⟩ (by simp[hw]) (by simp;omega)
 .have hie:i=l.length:=by omega
  subst hie;simp
theorem zK:∀t:Ty,WB 900000000 t->CS prog G 63 [.agg (tyD t),.agg (tyD t)] (.d (.bool true)) none:=by
 refine Ty.ind λt ih=>?_;obtain⟨op,nm,l,ns,p,ps⟩:=t;simp only at ih;intro hw;cases hw with
 |mk _ _ _ _ _ _ w1 w2 w3 w4 w5 w6=>
 have hts:=a4T (G:=G) l w1 λk hk=>ih k hk (w6 k hk);have hns:=tF (G:=G) ns w2;have hsp:=vI (G:=G) p p w3;rw[a4S]at hsp;refine CS.aW func63 rfl ntmps63 rfl ?_;simp;refine aC.mk uN hns ?_;simp;refine aC.mk rE hsp ?_;simp;refine SW.gA (ι:={i:Nat//i<=ps.length}) (λi=>[(5,.d (.int .i64 i.1))]) (λ_=>[(2,.cells [.d (.int .i64 op),.d (.str nm),.d (.sl (l.map tyC)),.d (.sl (strs ns)),.d (.int .i64 p.op),.d (.str p.name),.d (.int .i64 p.n),.d (.sl (p.kids.map qO)),.d (.sl (ps.map qO))]),(3,.cells [.d (.int .i64 op),.d (.str nm),.d (.sl (l.map tyC)),.d (.sl (strs ns)),.d (.int .i64 p.op),.d (.str p.name),.d (.int .i64 p.n),.d (.sl (p.kids.map qO)),.d (.sl (ps.map qO))])]) (λ_=>[]) (λi=>ps.length-i.1) ⟨0,by simp⟩ (by simp) ?_;rintro⟨i,hi⟩;by_cases aG:i<ps.length
 .have hg:=xB aG;have hw:=bC (show i<9223372036854775807 by omega);have hsi:=vI (G:=G) ps[i] ps[i] (w5 _ (g3y aG));rw[a4S]at hsi;simp[aG,hg];refine⟨.mk,?_⟩;refine aC.mk rE hsi ?_;simp;exact bD.mk ⟨i+1,aG⟩ (by simp[hw]) (by simp;omega)
 .have hie:i=ps.length:=by omega
  subst hie;simp;refine aC.mk (.mk func62 rfl) hts ?_;simp
theorem a9e(l:List (Nm×Ty))(hl:l.length<=900000000)(ht:∀p∈l,WB 900000000 p.2):CS prog G 75 [.sl (l.map a5t),.sl (l.map a5t)] (.d (.bool true)) none:=by
 refine CS.aW func75 rfl ntmps75 rfl ?_;simp;refine SW.gA (ι:={i:Nat//i<=l.length}) (λi=>[(5,.d (.int .i64 i.1))]) (λ_=>[]) (λ_=>[]) (λi=>l.length-i.1) ⟨0,by simp⟩ (by simp) ?_;rintro⟨i,hi⟩;by_cases aG:i<l.length
 .have hg:=a3B l[i];have hw:=bC (show i<9223372036854775807 by omega);have hsi:=zK (G:=G) l[i].2 (ht _ (g3y aG));simp[aG,hg];refine⟨.mk,?_⟩;refine aC.mk (.mk func63 rfl) hsi ?_;simp;exact bD.mk ⟨i+1,aG⟩ (by simp[hw]) (by simp;omega)
 .have hie:i=l.length:=by omega
  subst hie;simp
abbrev e4u(a b x y:Nat):OT:=.op a (.op b (.op x (.op y .stop .none) (.op y (.op x .stop .none) .none)) (.op x (.op b (.op y .stop .none) .none) .none)) (.op b (.op a (.op x (.op y .stop .none) (.op y (.op x .stop .none) .none)) (.op y (.op a (.op x .stop .none) .none) .none)) .none)
theorem c0n{e:cP}(h:WE 900000000 e):CS prog G 38 [.agg (zP e),.agg (zP e)] (.d (.bool true)) none:=by
 induction h with
 |mk e h1 h2 h3 h4 h5 h6 h7 h8 h9 ih1 ih2=>
  obtain⟨op,nm,n,ks,ps,al,ts⟩:=e;simp only at h1 h2 h3 h4 h5 h6 h7 h8 h9 ih1 ih2;have hpa:=a9e (G:=G) ps h2 h6;have mU:=a4T (G:=G) ts h4 λt ht=>zK t (h9 t ht);refine CS.a3U func38 rfl ntmps38 rfl (SW.xk ?_);simp;refine jT.mk (.mk func75 rfl) hpa ?_;simp;refine jT.mk (.mk func62 rfl) mU ?_;simp;refine SW.tK (ι:={i:Nat//i<=ks.length}) (λi=>[(5,.d (.int .i64 i.1))]) (λ_=>[(2,.cells [.d (.int .i64 op),.d (.str nm),.d (.int .i64 n),.d (.sl (ks.map a1B)),.d (.sl (ps.map a5t)),.d (.sl (al.map b1K)),.d (.sl (ts.map tyC))]),(3,.cells [.d (.int .i64 op),.d (.str nm),.d (.int .i64 n),.d (.sl (ks.map a1B)),.d (.sl (ps.map a5t)),.d (.sl (al.map b1K)),.d (.sl (ts.map tyC))])]) (λ_=>[]) (λi=>ks.length-i.1) ⟨0,by simp⟩ (by simp) ?_;rintro⟨i,hi⟩;by_cases aG:i<ks.length
  .have hg:=bY ks[i];have hw:=bC (show i<9223372036854775807 by omega);simp[aG];refine SW.vk ?_;simp[aG,hg];refine⟨.mk,?_⟩;refine aC.mk (.mk func38 rfl) (ih1 _ (g3y aG)) ?_;simp;exact bD.mk ⟨i+1,aG⟩ (by simp[hw]) (by simp;omega)
  .have hie:i=ks.length:=by omega
   subst hie;simp;refine SW.tK (ι:={i:Nat//i<=al.length}) (λi=>[(6,.d (.int .i64 i.1))]) (λ_=>[(2,.cells [.d (.int .i64 op),.d (.str nm),.d (.int .i64 n),.d (.sl (ks.map a1B)),.d (.sl (ps.map a5t)),.d (.sl (al.map b1K)),.d (.sl (ts.map tyC))]),(3,.cells [.d (.int .i64 op),.d (.str nm),.d (.int .i64 n),.d (.sl (ks.map a1B)),.d (.sl (ps.map a5t)),.d (.sl (al.map b1K)),.d (.sl (ts.map tyC))])]) (λ_=>[]) (λi=>al.length-i.1) ⟨0,by simp⟩ (by simp) ?_;rintro⟨i,hi⟩;by_cases aG:i<al.length
   .have hg:=a8M al[i];have hw:=bC (show i<9223372036854775807 by omega);have hns:=tF (G:=G) al[i].2.1 (h7 _ (g3y aG));simp[aG];refine d2m [0,1,2,3,4,5,6,7,8,9] (e4u 10 11 12 13) 117 (by kernel_rfl) (by kernel_rfl) (by simp) ?_;simp[aG,hg,e4u];refine jT.mk uN hns ?_;simp;refine jT.mk (.mk func38 rfl) (ih2 _ (g3y aG)) ?_;simp;exact bD.mk ⟨i+1,aG⟩ (by simp[hw]) (by simp;omega)
   .have hie:i=al.length:=by omega
    subst hie;simp
end
section
open Go Go.VM
def G0:GT:=λg=>if g=1 then some gC else if g=0 then some a0A else none
theorem a3H:G0 1=some gC:=rfl
theorem a3I:G0 0=some a0A:=rfl
abbrev num(n:Int):cP:=⟨1,[],n,[],[],[],[]⟩
abbrev var(c:UInt8):cP:=⟨3,[c],0,[],[],[],[]⟩
theorem ex1:dQ exM [49,32,45,32,50,32,45,32,51]=.ok (eA 11 [eA 11 [num 1,num 2],num 3]) 5:=by kernel_rfl
theorem ex2:dQ exM [40,45,51,41]=.ok (num (-3)) 4:=by kernel_rfl
theorem ex3:dQ exM [45,32,51]=.ok (eA 15 [num 3]) 2:=by kernel_rfl
theorem ex4:dQ exM [102,32,40,40,45,51,41,41]=.ok ({eA 5 [num (-3)]with name:=[102]}) 7:=by kernel_rfl
theorem ex5:dQ exM [40,97,32,60,32,98,41,32,61,61,32,99]=.ok (eA 16 [eA 17 [var 97,var 98],var 99]) 7:=by kernel_rfl
theorem ex6:dQ exM [97,32,60,32,98,32,60,32,99]=.bad 1 14:=by kernel_rfl
abbrev exT:Ty:=⟨6,[],[wQ 1 [],⟨1,[],[],[],⟨12,[],0,[⟨3,[120],0,[]⟩,⟨3,[118],0,[]⟩]⟩,[]⟩,⟨4,[76,105,115,116],[wQ 1 []],[],eI,[⟨12,[],0,[⟨1,[],0,[]⟩,⟨3,[118],0,[]⟩]⟩]⟩],[[120],[121]],eI,[]⟩
theorem ex8:dQ tyM [40,73,110,116,44,32,73,110,116,41]=.bad 1 14:=by kernel_rfl
theorem ex9:dQ moQ [100,101,102,32,102,32,40,120,41,32,61,32,120,32,43,10,59]=.bad 2 14:=by kernel_rfl
theorem f8e:dQ moQ [100,101,102,32,102,32,40,120,41,32,61,32,63]=.bad 1 14:=by kernel_rfl
def f4s:jA sC->Bool
 |.ok m _=>match m.b6U,m.b6V,m.defs with
  |[d],[me],[df]=>decide (d.cons.length=2)&&decide (me.cases.length=2)&&decide (df.sig.a5q.length=1)&&decide (df.body.op=8)
  |_,_,_=>false
 |.bad _ _=>false
def f4t:jA eL->Bool
 |.ok d _=>decide (d.mode=1)&&d.typed
 |.bad _ _=>false
abbrev txM:List UInt8:=[100,97,116,97,32,76,105,115,116,32,61,32,78,105,108,32,124,32,67,111,110,115,32,40,120,32,58,32,73,110,116,44,32,114,101,115,116,32,58,32,76,105,115,116,41,59,32,109,101,97,115,117,114,101,32,108,101,110,32,58,32,76,105,115,116,32,45,62,32,73,110,116,32,123,32,78,105,108,32,61,32,48,59,32,67,111,110,115,32,40,120,44,32,114,101,115,116,41,32,61,32,49,32,43,32,108,101,110,40,114,101,115,116,41,32,125,32,105,110,118,97,114,105,97,110,116,32,48,32,60,61,32,118,59,32,100,101,102,32,100,111,119,110,32,40,110,41,32,58,32,40,110,32,58,32,123,118,32,58,32,73,110,116,32,124,32,48,32,60,61,32,118,125,41,32,45,62,32,73,110,116,32,109,101,116,114,105,99,32,110,32,61,32,105,102,32,110,32,61,61,32,48,32,116,104,101,110,32,48,32,101,108,115,101,32,100,111,119,110,32,40,110,32,45,32,49,41,59]
abbrev txD:List UInt8:=[97,115,115,117,109,101,32,114,101,97,100,32,40,120,41,32,58,32,40,120,32,58,32,73,110,116,41,32,45,62,32,123,118,32,58,32,73,110,116,32,124,32,120,32,60,61,32,118,125]
abbrev txT:List UInt8:=[40,120,32,58,32,73,110,116,44,32,121,32,58,32,123,118,32,58,32,73,110,116,32,124,32,120,32,60,32,118,125,41,32,45,62,32,76,105,115,116,32,73,110,116,32,60,118,46,32,48,32,60,32,118,62]
theorem ex7:dQ tyM txT=.ok exT 27:=by kernel_rfl
theorem f8h:f4s (dQ moQ txM)=true:=by kernel_rfl
theorem f8i:f4t (dQ (eZ vP) txD)=true:=by kernel_rfl
theorem f4u:∃m j d me df,dQ moQ txM=.ok m j/\m.b6U=[d]/\m.b6V=[me]/\m.defs=[df]/\d.cons.length=2/\me.cases.length=2/\df.sig.a5q.length=1/\df.body.op=8:=by
 have h:=f8h;unfold f4s at h;split at h
 .rename_i m j hm;split at h
  .rename_i d me df h1 h2 h3;simp only[g2Z,g3N]at h;exact⟨m,j,d,me,df,hm,h1,h2,h3,h.1.1.1,h.1.1.2,h.1.2,h.2⟩
  .cases h
 .cases h
theorem f4v:∃d j,dQ (eZ vP) txD=.ok d j/\d.mode=1/\d.typed=true:=by
 have h:=f8i;unfold f4t at h;split at h
 .rename_i d j hd;simp only[g2Z,g3N]at h;exact⟨d,j,hd,h.1,h.2⟩
 .cases h
theorem a0D:VM.Enters prog 5:=.mk func5 rfl
theorem b2R:CS prog G0 5 [] (.d (.bool true)) none:=by have h1:=tX (G:=G0) a3H a3I [49,32,45,32,50,32,45,32,51];have h2:=tX (G:=G0) a3H a3I [40,45,51,41];have h3:=tX (G:=G0) a3H a3I [45,32,51];have h4:=tX (G:=G0) a3H a3I [102,32,40,40,45,51,41,41];have h5:=a9S (G:=G0) a3H a3I txT;have h6:=a9S (G:=G0) a3H a3I [40,73,110,116,44,32,73,110,116,41];have h7:=a1n (G:=G0) a3H a3I [100,101,102,32,102,32,40,120,41,32,61,32,120,32,43,10,59];have h8:=a1n (G:=G0) a3H a3I [100,101,102,32,102,32,40,120,41,32,61,32,63];have h9:=tX (G:=G0) a3H a3I [97,32,60,32,98,32,60,32,99];have h10:=tX (G:=G0) a3H a3I [40,97,32,60,32,98,41,32,61,61,32,99];have h11:=a1n (G:=G0) a3H a3I txM;have h12:=a5X (G:=G0) a3H a3I txD;obtain⟨m,jm,d,me,df,e11,m1,m2,m3,m4,m5,m6,m7⟩:=f4u;obtain⟨dd,jd,e12,d1,d2⟩:=f4v;rw[ex1]at h1;rw[ex2]at h2;rw[ex3]at h3;rw[ex4]at h4;rw[ex7]at h5;rw[ex8]at h6;rw[ex9]at h7;rw[f8e]at h8;rw[ex6]at h9;rw[ex5]at h10;rw[e11]at h11;rw[e12]at h12;obtain⟨md,mc,mi,mm,mq,mf⟩:=m;simp only at m1 m2 m3;subst m1 m2 m3;simp[a1N,a1O,d4K,eA,bY]at h1 h2 h3 h4 h9 h10;simp[a1N,a1O,d4K,wQ,cB,dH,jK,eI,strs]at h5 h6;simp[a1N,a1O,d4K,a9v]at h7 h8 h11;simp[a1N,a1O,d1,d2]at h12;have k1:=bY ⟨11,[],0,[num 1,num 2],[],[],[]⟩;have k2:=bY (num (-3));have k3:=λt=>cB t;refine CS.aW func5 rfl ntmps5 rfl ?_;simp;refine aC.mk sJ h1 ?_;simp;refine aC.mk sJ h2 ?_;simp;refine aC.mk sJ h3 ?_;simp;refine aC.mk sJ h4 ?_;simp;refine aC.mk (.mk func14 rfl) h5 ?_;simp;refine aC.mk (.mk func14 rfl) h6 ?_;simp;refine aC.mk (.mk func6 rfl) h7 ?_;simp;refine aC.mk (.mk func6 rfl) h8 ?_;simp;refine aC.mk sJ h9 ?_;simp;refine aC.mk sJ h10 ?_;simp (maxSteps:=1000000) [k1,k2];refine aC.mk (.mk func6 rfl) h11 ?_;simp;refine aC.mk (.mk func9 rfl) h12 ?_;simp (maxSteps:=1000000) [b7b,c6o,c2R,e3a,bY,m4,m5,m6,m7,d1,d2]
end
section
def d9e(t:Tok):Prop:=t.kind=0\/(t.kind=4/\(t.text=[41]\/t.text=[59]))
structure Alk (l l':List Tok) (N:Nat):Prop where
 same:∀i,i<N->∃t t',l[i]? =some t/\l'[i]? =some t'/\t'.kind=t.kind/\t'.text=t.text/\t'.n=t.n
 stp:∃t,l[N]? =some t/\d9e t
 d0X:∃t,l'[N]? =some t/\d9e t
def f4w(kw:List UInt8->Bool)(t:Tok):Prop:=t.kind=0\/(t.kind=4/\t.text≠[63]/\t.text≠[40]/\t.text≠[45]/\t.text≠[33])\/(t.kind=1/\kw t.text=true/\t.text≠[118]/\t.text≠[116,97,103]/\t.text≠[118,97,108]/\t.text≠[116,114,117,101]/\t.text≠[102,97,108,115,101])
def NoP(kw:List UInt8->Bool)(l:List Tok)(i:Nat):Prop:=∃t,l[i]? =some t/\f4w kw t
theorem c2b{kw:List UInt8->Bool}{t:Tok}(h:d9e t):f4w kw t:=by
 rcases h with h|⟨h,h1⟩
 .exact .inl h
 .refine .inr (.inl ⟨h,?_⟩);rcases h1 with h1|h1<;>rw[h1]<;>simp
section
variable {kw:List UInt8->Bool} {l l':List Tok} {N:Nat}
theorem Alk.len(h:Alk l l' N):N<l.length:=by obtain⟨t,h1,_⟩:=h.stp;exact(g3a.1 h1).1
theorem Alk.a9f(h:Alk l l' N):N<l'.length:=by obtain⟨t,h1,_⟩:=h.d0X;exact(g3a.1 h1).1
variable{i n:Nat}{s:List UInt8}
theorem c4y{l:List Tok}(h:∃t,l[n]? =some t/\d9e t)(h1:s≠[41])(h2:s≠[59]):jP l n s=false:=by
 obtain⟨t,ht,hk⟩:=h;unfold jP;rw[ht];simp only[Bool.and_eq_false_iff,decide_eq_false_iff_not];rcases hk with hk|⟨hk,h3⟩
 .left;omega
 .right;intro e;rcases h3 with h3|h3
  .exact h1 (e.symm.trans h3)
  .exact h2 (e.symm.trans h3)
variable{k:Int}
theorem c4z{l:List Tok}(h:∃t,l[n]? =some t/\d9e t)(h0:k≠0)(h4:k≠4):kdB l n k=false:=by obtain⟨t,ht,hk⟩:=h;unfold kdB;rw[ht];simp only[decide_eq_false_iff_not];rcases hk with hk|⟨hk,h3⟩<;>omega
theorem Alk.sg(h:Alk l l' N)(hi:i<=N)(hs:(s≠[41]/\s≠[59])\/i<N):jP l' i s=jP l i s:=by
 by_cases aG:i<N
 .obtain⟨t,t',h1,h2,h3,h4,h5⟩:=h.same i aG;unfold jP;rw[h1,h2];simp only[h3,h4]
 .have:i=N:=by omega
  subst this;have hs:=hs.resolve_right (by omega);rw[c4y h.stp hs.1 hs.2,c4y h.d0X hs.1 hs.2]
theorem Alk.kd(h:Alk l l' N)(hi:i<=N)(h0:(k≠0/\k≠4)\/i<N):kdB l' i k=kdB l i k:=by
 by_cases aG:i<N
 .obtain⟨t,t',h1,h2,h3,h4,h5⟩:=h.same i aG;unfold kdB;rw[h1,h2];simp only[h3]
 .have:i=N:=by omega
  subst this;have h0:=h0.resolve_right (by omega);rw[c4z h.stp h0.1 h0.2,c4z h.d0X h0.1 h0.2]
theorem Alk.wt(h:Alk l l' N)(hi:i<=N):wtB l' i=wtB l i:=by unfold wtB;rw[h.kd hi (.inl (by decide)),h.kd hi (.inl (by decide))]
theorem Alk.tx(h:Alk l l' N)(hi:i<N):txA l' i=txA l i:=by obtain⟨t,t',h1,h2,h3,h4,h5⟩:=h.same i hi;unfold txA;rw[h1,h2];simp only[Option.map_some,Option.getD_some,h4]
theorem Alk.nm(h:Alk l l' N)(hi:i<N):nmA l' i=nmA l i:=by obtain⟨t,t',h1,h2,h3,h4,h5⟩:=h.same i hi;unfold nmA;rw[h1,h2];simp only[Option.map_some,Option.getD_some,h5]
theorem Alk.a4U(h:Alk l l' N)(hi:i<=N)(h1:s≠[41])(h2:s≠[59])(hs:jP l i s=true):i<N:=by
 refine Nat.lt_of_not_le λhle=>?_;have:i=N:=by omega
 subst this;rw[c4y h.stp h1 h2]at hs;cases hs
theorem Alk.c8t(h:Alk l l' N)(hi:i<=N)(h0:k≠0)(h4:k≠4)(hs:kdB l i k=true):i<N:=by
 refine Nat.lt_of_not_le λhle=>?_;have:i=N:=by omega
 subst this;rw[c4z h.stp h0 h4]at hs;cases hs
theorem Alk.d2n(h:Alk l l' N)(hi:i<=N)(hs:wtB l i=true):i<N:=by
 unfold wtB at hs;rw[g3l]at hs;rcases hs with hs|hs
 .exact h.c8t hi (by decide) (by decide) hs
 .exact h.c8t hi (by decide) (by decide) hs
theorem NoP.f4x{rd:Nat->Nat->Option (Pr×Nat)}(h:NoP kw l i):uM kw rd l i=none:=by
 obtain⟨t,ht,hn⟩:=h;have sg0:∀s,(s=[63]\/s=[40])->jP l i s=false:=λs hs=>by
  unfold jP;rw[ht];simp only[Bool.and_eq_false_iff,decide_eq_false_iff_not];rcases hn with hn|⟨hn,h1,h2,h3,h4⟩|⟨hn,_⟩
  .left;omega
  .right;rcases hs with rfl|rfl
   .exact h1
   .exact h2
  .left;omega
 have d9f:pV kw l i=none:=by
  unfold pV;rw[if_neg];unfold a7P wtB kdB txA;rw[ht];rcases hn with hn|⟨hn,_⟩|⟨hn,h1,h2,h3,h4,_⟩
  .simp[hn]
  .simp[hn]
  .simp[hn,h1,h2,h3,h4]
 unfold uM;rw[ht];simp only;rw[if_neg (by rcases hn with hn|⟨hn,_⟩|⟨hn,_⟩<;>omega),if_neg,if_neg,if_neg (by rw[sg0 _ (.inl rfl)];decide),if_neg (by rw[sg0 _ (.inr rfl)];decide),d9f]
 .rintro⟨h1,h2⟩;rcases hn with hn|⟨hn,_⟩|⟨hn,_,_,_,_,_,h3⟩
  .omega
  .omega
  .exact h3 h2
 .rintro⟨h1,h2⟩;rcases hn with hn|⟨hn,_⟩|⟨hn,_,_,_,_,h3,_⟩
  .omega
  .omega
  .exact h3 h2
theorem d9g(k:Nat):∀p∈opL k,p.2≠[40]/\p.2≠[41]/\p.2≠[59]:=by unfold opL;split<;>simp
theorem d2o:∀p∈cmpL,p.1≠[40]/\p.1≠[41]/\p.1≠[59]:=by simp[cmpL]
theorem f4y{k:Nat}{op:Int}(h:a4e l n k=some op):∃s,jP l n s=true/\lvS s=k/\s≠[41]/\s≠[59]:=by unfold a4e at h;rw[g2Y]at h;obtain⟨p,hp,_⟩:=h;have hs:jP l n p.2=true:=List.find?_some (p:=λp:Int×List UInt8=>jP l n p.2) hp;have hm:=List.mem_of_find?_eq_some hp;exact⟨p.2,hs,e9V k p hm,(d9g k p hm).2⟩
variable{q:Int×Bool}
theorem f0r(h:wL l n=some q):∃s,jP l n s=true/\lvS s=6/\s≠[41]/\s≠[59]:=by unfold wL at h;rw[g2Y]at h;obtain⟨p,hp,_⟩:=h;have hs:jP l n p.1=true:=List.find?_some (p:=λp:List UInt8×Int×Bool=>jP l n p.1) hp;have hm:=List.mem_of_find?_eq_some hp;exact⟨p.1,hs,e3U p hm,(d2o p hm).2⟩
theorem Alk.op(h:Alk l l' N)(hn:n<=N)(k:Nat):a4e l' n k=a4e l n k:=by unfold a4e;rw[find_congr λp hp=>h.sg hn (.inl (d9g k p hp).2)]
theorem Alk.cmp(h:Alk l l' N)(hn:n<=N):wL l' n=wL l n:=by unfold wL;rw[find_congr λp hp=>h.sg hn (.inl (d2o p hp).2)]
theorem Alk.f4z(h:Alk l l' N){k:Nat}(hn:n<=N){op:Int}(ho:a4e l n k=some op):n<N:=by obtain⟨s,hs,_,h1,h2⟩:=f4y ho;exact h.a4U hn h1 h2 hs
theorem Alk.f0s(h:Alk l l' N)(hn:n<=N)(ho:wL l n=some q):n<N:=by obtain⟨s,hs,_,h1,h2⟩:=f0r ho;exact h.a4U hn h1 h2 hs
theorem Alk.parts(h:Alk l l' N):∀(g g' i:Nat)(s:List UInt8),i<=N->l.length<=g+i->l'.length<=g'+i->(pA l g i s).2<=N/\pA l' g' i s=pA l g i s
 |0,g',i,s,hi,hg,_=>by have:=h.len;omega
 |g+1,g',i,s,hi,hg,hg'=>by
  have e1:=h.len;have e2:=h.a9f;obtain⟨g',rfl⟩:∃x,g'=x+1:=⟨g'-1,by omega⟩;rw[pA,pA,h.sg hi (.inl ⟨by decide,by decide⟩)];split
  .rename_i h1;have l1:=h.a4U hi (by decide) (by decide) h1;rw[h.wt (by omega:i+1<=N),h.kd (by omega:i+1<=N) (.inl (by decide))];split
   .rename_i h2;have l2:=h.d2n (by omega:i+1<=N) h2;rw[h.tx l2];exact h.parts g g' (i+2) _ (by omega) (by omega) (by omega)
   .split
    .rename_i h3;have l3:=h.c8t (by omega:i+1<=N) (by decide) (by decide) h3;rw[h.wt (by omega:i+2<=N),h.tx l3];split
     .rename_i h4;have l4:=h.d2n (by omega:i+2<=N) h4;rw[h.tx l4];exact h.parts g g' (i+3) _ (by omega) (by omega) (by omega)
     .exact h.parts g g' (i+2) _ (by omega) (by omega) (by omega)
    .exact⟨hi,rfl⟩
  .exact⟨hi,rfl⟩
theorem Alk.nok(h:Alk l l' N)(hi:i<=N):a7P kw l' i=a7P kw l i:=by
 unfold a7P;rw[h.wt hi];cases hw:wtB l i with
 |false=>rfl
 |true=>rw[h.tx (h.d2n hi hw)]
theorem Alk.name(h:Alk l l' N)(hi:i<=N):pV kw l' i=pV kw l i/\∀s n,pV kw l i=some (s,n)->n<=N:=by
 unfold pV;rw[h.nok hi];by_cases hb:a7P kw l i=true
 .rw[if_pos hb,if_pos hb];have hw:wtB l i=true:=by unfold a7P at hb;rw[g2Z]at hb;exact hb.1
  have aG:=h.d2n hi hw;have e1:=h.len;have e2:=h.a9f;obtain⟨q1,q2⟩:=h.parts l.length l'.length (i+1) (txA l i) (by omega) (by omega) (by omega);refine⟨by rw[h.tx aG,q2],λs n he=>?_⟩;rw[g3f]at he;rw[he]at q1;exact q1
 .rw[if_neg hb,if_neg hb];exact⟨rfl,λs n he=>by cases he⟩
end
end
end Go.Proofs.YtmfbjecjccipfaaGreatDoor
