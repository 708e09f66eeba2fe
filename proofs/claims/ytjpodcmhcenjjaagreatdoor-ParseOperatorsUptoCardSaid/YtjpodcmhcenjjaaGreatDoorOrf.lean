/- Lemmas that the law of this claim needs (PuG PvF PvC PuB PuC PuF PuH PuI PuJ Fit PvG). No condition. -/
import Derived.Test.YtjpodcmhcenjjaaGreatDoorOre
set_option linter.unusedVariables false
set_option linter.unusedSimpArgs false
set_option linter.unusedSectionVars false
set_option maxRecDepth 100000
set_option maxHeartbeats 64000000
namespace Go.Proofs.YtjpodcmhcenjjaaGreatDoor
section
abbrev vJ (ln:Int):Tok:=⟨0,[],0,ln⟩
section
variable {num:List UInt8→Int×Bool}
theorem d5f {l:List Tok}{ln:Int}(h:OkT num l ln):∀t∈l,(t.kind=0∧t.text=[])∨firstT num t.text=(t.kind,t.text,t.n,true):=by
 induction h with
 |fin ln l hl=>intro t ht;simp at ht;subst ht;exact .inl ⟨rfl,rfl⟩
 |cons t r ln h1 h2 h3 ih=>
  intro u hu;rcases List.mem_cons.1 hu with rfl|hu
  ·exact .inr h2
  ·exact ih u hu
theorem b8f {l:List Tok}{ln:Int}(h:OkT num l ln):∃l0 ln',l=l0++[vJ ln']∧∀t∈l0,t.kind≠0:=by
 induction h with
 |fin ln l hl=>exact ⟨[],l,rfl,fun t ht=>by cases ht⟩
 |cons t r ln h1 h2 h3 ih=>
  obtain ⟨l0,ln',e,h0⟩:=ih;refine ⟨t::l0,ln',by rw [e];rfl,fun u hu=>?_⟩;rcases List.mem_cons.1 hu with rfl|hu
  ·have:=b9m (num:=num) (s:=u.text) (by rw [h2]);rw [h2] at this;simp only at this;omega
  ·exact h0 u hu
theorem yB {l:List Tok}{i:Nat}{t:Tok}(h:l[i]? =some t):aK l i=t:=by
 have hi:=(d8E.1 h).1;unfold aK;rw [if_pos hi,List.getD_eq_getElem?_getD,h]
 rfl
theorem d7h {l:List Tok}(h:l≠[])(i:Nat):aK l i∈l:=by
 unfold aK;split
 ·rename_i hi;rw [List.getD_eq_getElem?_getD,d8H hi];exact List.getElem_mem hi
 ·rw [List.getLastD_eq_getLast?,List.getLast?_eq_some_getLast h];exact List.getLast_mem h
end
theorem lex_wf {s:List UInt8}{k:Nat}{ln:Int}{cm:Bool}{l:List Tok}(h:dL gN s k ln cm= .ok l):c3C l∧WfD l:=by
 have hw:=d5f (sX s k ln cm l h);obtain ⟨l0,ln',e,_⟩:=b8f (sX s k ln cm l h);refine ⟨fun i hk=>?_,fun i t ht hk=>?_⟩
 ·rcases hw _ (d7h (by rw [e];simp) i) with h1|h1
  ·exact absurd h1.1 hk
  ·exact h1
 ·rcases hw t (d8I ht) with h1|h1
  ·unfold a4O;rw [h1.2]
   rfl
  ·unfold a4O;split
   ·rename_i he;rw [he] at h1;have:(4:Int)=t.kind:=congrArg (fun x=>x.1) h1;omega
   ·split
    ·rename_i he;rw [he] at h1;have:(4:Int)=t.kind:=congrArg (fun x=>x.1) h1;omega
    ·rfl
section
variable (num:List UInt8→Int×Bool)
theorem c1A (rest:List UInt8):∀(t s:List UInt8),(∀b∈t,b≠41)→t.isPrefixOf (s++41::rest)=t.isPrefixOf s
 |[],s,_=>by simp [List.isPrefixOf]
 |x::t,[],ht=>by
  have:(x==41)=false:=by rw [beq_eq_false_iff_ne];exact ht x (.head _)
  simp [List.isPrefixOf,this]
 |x::t,c::s,ht=>by simp only [List.cons_append,List.isPrefixOf,c1A rest t s fun b hb=>ht b (.tail _ hb)]
theorem c6J:∀t∈dY,∀b∈t.tail,b≠41:=by decide
theorem c3D (rest:List UInt8)(c:UInt8)(r:List UInt8):firstT num (c::r++41::rest)=firstT num (c::r):=by
 have h1:=zK (p:=inU) (rest:=41::rest) (fun b hb=>by cases hb;decide) (c::r);have h2:=zK (p:=dgU) (rest:=41::rest) (fun b hb=>by cases hb;decide) (c::r);have h3:kQ (c::r++41::rest)=kQ (c::r):=by
  unfold kQ;rw [find_congr fun t ht=>?_];cases t with
  |nil=>rfl
  |cons x t=>have:=c1A rest t r (c6J _ ht);simp only [List.cons_append,List.isPrefixOf,this]
 rw [List.cons_append] at h1 h2 h3 ⊢;simp only [firstT,h1,h2,h3]
theorem c0p (c:UInt8)(r:List UInt8):(firstT num (c::r)).2.1.length≤(c::r).length:=by
 by_cases h:(firstT num (c::r)).2.2.2=true
 ·exact (a0c h).2.1.length_le
 ·unfold firstT at h ⊢;split
  ·simp_all
  ·rename_i c' r' he;cases he;split
   ·rename_i h1;simp [h1] at h
   ·rename_i h1;split
    ·rename_i h2;simp [h1,h2] at h
    ·rename_i h2;split
     ·exact (uN _ _).length_le
     ·split
      ·simp
      ·rename_i h3 h4;exact (a9w h4).2.length_le
theorem a3m (rest:List UInt8):∀(s:List UInt8) (k:Nat) (ln:Int),(∀b∈s,b≠35)→k≤s.length→(∃l0 ln',dL num s k ln false= .ok (l0++[vJ ln'])∧dL num (s++41::rest) k ln false=a6O (l0++[kZ ln' [41]]) (dL num rest 0 ln' false))∨(∃e,dL num s k ln false= .error e∧dL num (s++41::rest) k ln false= .error e)
 |[],k,ln,_,hk=>by
  have:k=0:=by simpa using hk
  subst this;have:=c6e (num:=num) (ln:=ln) (r:=rest);unfold Lx at this;exact .inl ⟨[],ln,rfl,this⟩
 |c::r,k+1,ln,hs,hk=>by rw [List.cons_append,dL,dL];exact a3m rest r k ln (fun b hb=>hs b (.tail _ hb)) (by simpa using hk)
 |c::r,0,ln,hs,_=>by
  have hr:∀b∈r,b≠35:=fun b hb=>hs b (.tail _ hb)
  have hf:=c3D num rest c r;rw [List.cons_append] at hf ⊢;rw [dL,dL];by_cases h10:c=10
  ·rw [if_pos h10,if_pos h10];exact a3m rest r 0 (ln+1) hr (by omega)
  rw [if_neg h10,if_neg h10];by_cases hb:false=true∨c=32∨c=9
  ·rw [if_pos hb,if_pos hb];exact a3m rest r 0 ln hr (by omega)
  rw [if_neg hb,if_neg hb,if_neg (hs c (.head _)),if_neg (hs c (.head _)),hf];split
  ·rename_i hok;have hle:=c0p num c r;simp only [List.length_cons] at hle;rcases a3m rest r ((firstT num (c::r)).2.1.length-1) ln hr (by omega) with ⟨l0,ln',e1,e2⟩|⟨e,e1,e2⟩
   ·rw [e1,e2];refine .inl ⟨_::l0,ln',rfl,?_⟩;cases dL num rest 0 ln' false<;>rfl
   ·rw [e1,e2];exact .inr ⟨e,rfl,rfl⟩
  ·exact .inr ⟨ln,rfl,rfl⟩
end
def b2i (s:List UInt8):Int:=(s.map fun b=>if b=40 then (1:Int) else if b=41 then -1 else 0).sum
def b8g (l:List Tok):Int:=(l.map a4O).sum
theorem c3E:∀t∈dY,∀b∈t.tail,b≠40∧b≠41:=by decide
theorem c3F:∀t∈dY,t.head? =some 40→t=[40]:=by decide
theorem c3G:∀t∈dY,t.head? =some 41→t=[41]:=by decide
theorem c6K {b:UInt8}(h:inU b=true):b≠40∧b≠41:=⟨fun e=>by subst e;revert h;decide,fun e=>by subst e;revert h;decide⟩
theorem c6L {p:UInt8→Bool}:∀(s:List UInt8),∀b∈s.takeWhile p,p b=true
 |[],b,h=>by cases h
 |c::s,b,h=>by
  rw [List.takeWhile_cons] at h;split at h
  ·rename_i hc;rcases List.mem_cons.1 h with rfl|h
   ·exact hc
   ·exact c6L s b h
  ·cases h
theorem c3H {num:List UInt8→Int×Bool}{c:UInt8}{r:List UInt8}(h:(firstT num (c::r)).2.2.2=true):(∀b∈(firstT num (c::r)).2.1.tail,b≠40∧b≠41)∧(c=40→(firstT num (c::r)).2.1=[40])∧(c=41→(firstT num (c::r)).2.1=[41]):=by
 obtain ⟨h1,h2,h3⟩:=a0c h;unfold firstT at h h1 h2 ⊢;simp only at h h1 h2 ⊢;have hin:∀p:UInt8→Bool,(∀b,p b=true→inU b=true)→∀b∈((c::r).takeWhile p).tail,b≠40∧b≠41:=fun p hp b hb=>c6K (hp b (c6L _ b (List.mem_of_mem_tail hb)))
 split
 ·rename_i q1;refine ⟨hin _ (fun b hb=>hb),fun e=>?_,fun e=>?_⟩<;>subst e<;>exact absurd q1 (by decide)
 ·rename_i q1;split
  ·rename_i q2;refine ⟨hin _ (fun b hb=>hb),fun e=>?_,fun e=>?_⟩<;>subst e<;>exact absurd q2 (by decide)
  ·rename_i q2;split
   ·rename_i q3;refine ⟨hin _ (fun b hb=>d6i hb),fun e=>?_,fun e=>?_⟩<;>subst e<;>exact absurd q3 (by decide)
   ·rename_i q3;split
    ·rename_i q4;simp [q1,q2,q3,q4] at h
    ·rename_i q4;obtain ⟨m1,m2⟩:=a9w q4;have hh:(kQ (c::r)).head? =some c:=by
      obtain ⟨t,ht⟩:=m2;cases hsg:kQ (c::r) with
      |nil=>exact absurd hsg q4
      |cons x y=>rw [hsg] at ht;cases ht;rfl
     exact ⟨c3E _ m1,fun e=>c3F _ m1 (by rw [hh,e]),fun e=>c3G _ m1 (by rw [hh,e])⟩
theorem a3n (c:UInt8)(s:List UInt8):b2i (c::s)=(if c=40 then (1:Int) else if c=41 then -1 else 0)+b2i s:=by unfold b2i;simp
theorem a6V (t:Tok)(l:List Tok):b8g (t::l)=a4O t+b8g l:=by unfold b8g;simp
theorem a8E {num:List UInt8→Int×Bool}:∀(s:List UInt8) (k:Nat) (ln:Int) (l:List Tok),(∀b∈s,b≠35)→(∀b∈s.take k,b≠40∧b≠41)→dL num s k ln false= .ok l→∀m,m≤l.length→∃q,q≤s.length∧b8g (l.take m)=b2i (s.take q)
 |[],k,ln,l,_,_,h=>fun m hm=>by
  have h:(Except.ok [(⟨0,[],0,ln⟩:Tok)]:Except Int (List Tok))= .ok l:=by cases k<;>(rw [dL] at h;exact h)
  cases h;refine ⟨0,d8T _,?_⟩
  match m with
  |0=>rfl
  |m+1=>simp [b8g,b2i,a4O]
 |c::r,k+1,ln,l,hs,hk,h=>fun m hm=>by rw [dL] at h;obtain ⟨q,h1,h2⟩:=a8E r k ln l (fun b hb=>hs b (.tail _ hb)) (fun b hb=>hk b (.tail _ hb)) h m hm;have hc:=hk c (.head _);refine ⟨q+1,by simp only [List.length_cons];omega,?_⟩;rw [List.take_succ_cons,a3n,if_neg hc.1,if_neg hc.2,h2];omega
 |c::r,0,ln,l,hs,_,h=>fun m hm=>by
  have hr:∀b∈r,b≠35:=fun b hb=>hs b (.tail _ hb)
  have skip:∀ln',c≠40→c≠41→dL num r 0 ln' false= .ok l→∃q,q≤(c::r).length∧b8g (l.take m)=b2i ((c::r).take q):=fun ln' c1 c2 h=>by obtain ⟨q,h1,h2⟩:=a8E r 0 ln' l hr (fun b hb=>by simp at hb) h m hm;refine ⟨q+1,by simp only [List.length_cons];omega,?_⟩;rw [List.take_succ_cons,a3n,if_neg c1,if_neg c2,h2];omega
  rw [dL] at h;split at h
  ·rename_i h10;exact skip _ (by rw [h10];decide) (by rw [h10];decide) h
  split at h
  ·rename_i h10 hb;refine skip _ ?_ ?_ h
   ·rcases hb with hb|hb|hb
    ·cases hb
    ·rw [hb];decide
    ·rw [hb];decide
   ·rcases hb with hb|hb|hb
    ·cases hb
    ·rw [hb];decide
    ·rw [hb];decide
  rw [if_neg (hs c (.head _))] at h;split at h
  ·rename_i hok;split at h
   ·rename_i l2 hl2;cases h
    match m with
    |0=>exact ⟨0,Nat.zero_le _,rfl⟩
    |m+1=>
     obtain ⟨p1,p2,p3⟩:=c3H hok;obtain ⟨f1,f2,_⟩:=a0c hok;obtain ⟨tx,htx⟩:∃tx,(firstT num (c::r)).2.1=tx:=⟨_,rfl⟩;rw [htx] at p1 p2 p3 f1 f2 hl2 ⊢;obtain ⟨x,y,rfl⟩:∃x y,tx=x::y:=by
      cases tx with
      |nil=>exact absurd rfl f1
      |cons x y=>exact ⟨x,y,rfl⟩
     obtain ⟨z,hz⟩:=f2;rw [List.cons_append,List.cons.injEq] at hz;obtain ⟨rfl,hz⟩:=hz;have ht:∀b∈r.take y.length,b≠40∧b≠41:=fun b hb=>by rw [← hz,List.take_left] at hb;exact p1 b hb
     obtain ⟨q,h1,h2⟩:=a8E r y.length ln l2 hr ht (by simpa using hl2) m (by simp at hm;omega);refine ⟨q+1,by simp only [List.length_cons];omega,?_⟩;rw [List.take_succ_cons,List.take_succ_cons,a3n,a6V,h2];congr 1;unfold a4O;simp only;by_cases c1:x=40
     ·rw [if_pos c1,p2 c1]
      rfl
     ·rw [if_neg c1];by_cases c2:x=41
      ·rw [if_pos c2,p3 c2]
       rfl
      ·rw [if_neg c2,if_neg (fun e=>by cases e;exact c1 rfl),if_neg (fun e=>by cases e;exact c2 rfl)]
   ·cases h
  ·cases h
theorem b8h (l:List Tok):∀(m i:Nat),i+m≤l.length→a1B l i m=b8g ((l.drop i).take m)
 |0,i,_=>rfl
 |m+1,i,h=>by
  have hi:i<l.length:=by omega
  rw [a1B,b8h l m (i+1) (by omega),d8Q hi,List.take_succ_cons,a6V];congr 1;unfold yA;rw [d8H hi]
end
section
open Go Go.VM
variable {G:GT}
def hasB (c:UInt8)(s:List UInt8):Bool:=s.any fun b=>decide (b=c)
theorem d1d {c:UInt8}{s:List UInt8}(h:∀b∈s,b≠c):hasB c s=false:=by unfold hasB;rw [List.any_eq_false];intro b hb;simpa using h b hb
theorem d1e {c:UInt8}{s:List UInt8}{i:Nat}(hi:i<s.length)(h:s[i]=c):hasB c s=true:=by unfold hasB;rw [List.any_eq_true];exact ⟨s[i],List.getElem_mem hi,by simpa using h⟩
theorem c0q {c:UInt8}{s:List UInt8}(h:hasB c s=false):∀b∈s,b≠c:=fun b hb e=>by unfold hasB at h;rw [List.any_eq_false] at h;exact h b hb (by simpa using e)
theorem b1i (s:List UInt8)(hl:s.length≤900000000):CS Tryz.prog G 11 [.str s] (.d (.bool (hasB 35 s))) none:=by
 refine CS.bH (Tryz.func11) rfl (Tryz.ntmps11) rfl ?_
 simp;refine SW.kJ (ι:={ i:Nat // i≤s.length∧∀b∈s.take i,b≠35 }) (fun i=>[(3,.d (.int .i64 i.1))]) (fun _=>[]) (fun _=>[]) (fun i=>s.length-i.1) ⟨0,by simp⟩ (by simp) ?_
 rintro ⟨i,hi,hn⟩
 try simp only at hi hn
 by_cases hlt:i<s.length
 ·have hw:=bP (show i<9223372036854775807 by omega);have cc:=a4w s[i] 35 (by omega);simp at cc;by_cases hc:s[i]=35
  ·have e:=cc.2 hc;simp [hlt,e,d1e hlt hc]
  ·have e: ¬s[i].toNat=35:=fun h=>hc (cc.1 h)
   simp [hlt,e];refine bR.mk ⟨i+1,hlt,fun b hb=>?_⟩ (by simp [hw]) (by simp;omega);rw [d8S hlt] at hb;rcases List.mem_append.1 hb with hb|hb
   ·exact hn b hb
   ·simp at hb;rw [hb];exact hc
 ·have hie:i=s.length:=by omega
  subst hie;rw [List.take_length] at hn;simp [d1d hn]
theorem a8p:VM.Enters Tryz.prog 11:=VM.Enters.mk Tryz.func11 rfl
theorem uI:VM.Enters Tryz.prog 12:=VM.Enters.mk Tryz.func12 rfl
theorem qI:VM.Enters Tryz.prog 16:=VM.Enters.mk Tryz.func16 rfl
def b1j:Int→List UInt8→Bool
 |d,[]=>decide (d=0)
 |d,c::r=>if d+(if c=40 then 1 else if c=41 then -1 else 0)<0 then false else b1j (d+(if c=40 then 1 else if c=41 then -1 else 0)) r
theorem a3o:∀(s:List UInt8) (d:Int),0≤d→b1j d s=true→∀q,q≤s.length→0≤d+b2i (s.take q)
 |[],d,hd,_,q,hq=>by simp [b2i];exact hd
 |c::r,d,hd,h,q,hq=>by
  rw [b1j] at h;by_cases hn:d+(if c=40 then 1 else if c=41 then -1 else 0)<0
  ·rw [if_pos hn] at h;cases h
  ·rw [if_neg hn] at h;cases q with
   |zero=>simp [b2i];exact hd
   |succ q=>have:=a3o r _ (by omega) h q (by simpa using hq);rw [List.take_succ_cons,a3n];omega
theorem vX (s:List UInt8)(hl:s.length≤900000000):CS Tryz.prog G 12 [.str s] (.d (.bool (b1j 0 s))) none:=by
 refine CS.bH Tryz.func12 rfl Tryz.ntmps12 rfl ?_
 simp;refine SW.kJ (ι:={ x:Nat×Int // x.1≤s.length∧0≤x.2∧x.2≤x.1∧b1j x.2 (s.drop x.1)=b1j 0 s }) (fun x=>[(3,.d (.int .i64 x.1.2)),(4,.d (.int .i64 x.1.1))]) (fun _=>[]) (fun _=>[]) (fun x=>s.length-x.1.1) ⟨(0,0),by simp⟩ (by simp) ?_
 rintro ⟨⟨i,d⟩,hi,h0,hd,hb⟩;simp only at hi h0 hd hb;by_cases hlt:i<s.length
 ·have hw:=bP (show i<9223372036854775807 by omega);have c40:=a4w s[i] 40 (by omega);have c41:=a4w s[i] 41 (by omega);simp at c40 c41;have hdr:s.drop i=s[i]::s.drop (i+1):=d8Q hlt;rw [hdr,b1j] at hb;by_cases h40:s[i]=40
  ·have e:=c40.2 h40;rw [if_pos h40,if_neg (by omega)] at hb;have hw2:IntKind.i64.wrap (d+1)=d+1:=wrap64 (by omega);have hnn: ¬(d+1<0):=by omega
   simp [hlt,e,hw2,hnn];exact bR.mk ⟨(i+1,d+1),hlt,by simp only;omega,by simp only;omega,hb⟩ (by simp [hw]) (by simp;omega)
  ·have e: ¬s[i].toNat=40:=fun h=>h40 (c40.1 h)
   rw [if_neg h40] at hb;by_cases h41:s[i]=41
   ·have e2:=c41.2 h41;rw [if_pos h41] at hb;have hw2:IntKind.i64.wrap (d-1)=d-1:=wrap64 (by omega);rw [show d+ -1=d-1 by omega] at hb;by_cases hneg:d-1<0
    ·rw [if_pos hneg] at hb;simp [hlt,e2,hw2,hneg,hb.symm]
    ·rw [if_neg hneg] at hb;simp [hlt,e2,hw2,hneg];exact bR.mk ⟨(i+1,d-1),hlt,by simp only;omega,by simp only;omega,hb⟩ (by simp [hw]) (by simp;omega)
   ·have e2: ¬s[i].toNat=41:=fun h=>h41 (c41.1 h)
    have hnn: ¬(d<0):=by omega
    rw [if_neg h41,Int.add_zero,if_neg hnn] at hb;simp [hlt,e,e2,hnn];exact bR.mk ⟨(i+1,d),hlt,h0,by simp only;omega,hb⟩ (by simp [hw]) (by simp;omega)
 ·have hie:i=s.length:=by omega
  subst hie;rw [List.drop_length,b1j] at hb;simp [← hb]
theorem sC (op:Int)(a b:bW):CS Tryz.prog G 16 [.int .i64 op,.agg (tK a),.agg (tK b)] (.d (.agg (tK (bJ op [a,b])))) none:=by
 refine CS.bH Tryz.func16 rfl Tryz.ntmps16 rfl ?_
 simp [bJ,dW,d2y]
end
section
open Go Go.VM
variable {G:GT}
def cK {α:Type}(l:List Tok)(P:α→Prop)(x:aR α):Prop:=∀i a j,i<l.length→x i= .ok a j→P a
section
variable {α β:Type} {l:List Tok} {P:α→Prop} {Q:β→Prop}
theorem cK.aO {a:α}(h:P a):cK l P (pure a:aR α):=fun i b j hi hx=>by rw [gI] at hx;cases hx;exact h
theorem cK.any (x:aR α):cK l (fun _=>True) x:=fun _ _ _ _ _=>trivial
theorem cK.ite {c:Prop}[Decidable c]{x y:aR α}(hx:cK l P x)(hy:cK l P y):cK l P (if c then x else y):=by
 split
 ·exact hx
 ·exact hy
theorem cK.bind {x:aR α}{f:α→aR β}(hx:cK l P x)(ax:aA l 0 x)(hf:∀a,P a→cK l Q (f a)):cK l Q (x >>=f):=fun i b j hi h=>by
 rw [eC] at h;cases h1:x i with
 |bad n e=>rw [h1] at h;cases h
 |ok a k=>rw [h1] at h;exact hf a (hx i a k hi h1) k b j (ax i a k hi h1).2 h
theorem cK.skip {x:aR α}{f:α→aR β}(ax:aA l 0 x)(hf:∀a,cK l Q (f a)):cK l Q (x >>=f):=cK.bind (cK.any x) ax fun a _=>hf a
variable (hE:oK l)
include hE
def Snc (l:List Tok)(P:β→Prop)(one:List β→aR (List β)):Prop:=∀out,cK l (fun b=>∃y,b=out++[y]∧P y) (one out)
theorem b8i {P:β→Prop}{c:Nm}{one:List β→aR (List β)}(h1:Snc l P one)(a1:∀out,aA l 1 (one out)):∀(g:Nat) (out:List β) (i:Nat) (b:List β) (j:Nat),i<l.length→out.length≤i→(∀y∈out,P y)→gR l c one g out i= .ok b j→b.length≤l.length∧∀y∈b,P y
 |0,out,i,b,j,_,_,_,h=>by unfold gR at h;cases h
 |g+1,out,i,b,j,hi,hl,hp,h=>by
  unfold gR at h;split at h
  ·cases h
  ·rename_i b' j' ho;have k1:=a1 out i b' j' hi ho;obtain ⟨y,rfl,hy⟩:=h1 out i b' j' hi ho;have hall:∀z∈out++[y],P z:=fun z hz=>by
    rcases List.mem_append.1 hz with hz|hz
    ·exact hp z hz
    ·rw [d8K] at hz;rw [hz];exact hy
   split at h
   ·rename_i hs;exact b8i h1 a1 g _ (j'+1) b j (aF hE k1.2 hs) (by simp;omega) hall h
   ·cases h;exact ⟨by simp;omega,hall⟩
theorem a0p {P:β→Prop}{c:Nm}{one:List β→aR (List β)}(h1:Snc l P one)(a1:∀out,aA l 1 (one out)):cK l (fun b=>b.length≤l.length∧∀y∈b,P y) (eO l c one []):=fun i b j hi h=>b8i hE h1 a1 _ [] i b j hi (Nat.zero_le _) (fun y hy=>by cases hy) h
omit hE in
theorem b8j {P:β→Prop}{c:Nat→Bool}{one:List β→aR (List β)}(h1:Snc l P one)(a1:∀out,aA l 1 (one out)):∀(g:Nat) (out:List β) (i:Nat) (b:List β) (j:Nat),i<l.length→out.length≤i→(∀y∈out,P y)→dF c one g out i= .ok b j→b.length≤l.length∧∀y∈b,P y
 |0,out,i,b,j,_,_,_,h=>by unfold dF at h;cases h
 |g+1,out,i,b,j,hi,hl,hp,h=>by
  unfold dF at h;split at h
  ·split at h
   ·cases h
   ·rename_i b' j' ho;have k1:=a1 out i b' j' hi ho;obtain ⟨y,rfl,hy⟩:=h1 out i b' j' hi ho;exact b8j h1 a1 g _ j' b j k1.2 (by simp;omega) (fun z hz=>by
     rcases List.mem_append.1 hz with hz|hz
     ·exact hp z hz
     ·rw [d8K] at hz;rw [hz];exact hy) h
  ·cases h;exact ⟨by omega,hp⟩
omit hE in
theorem c6M {P:β→Prop}{c:Nat→Bool}{one:List β→aR (List β)}(h1:Snc l P one)(a1:∀out,aA l 1 (one out)):cK l (fun b=>b.length≤l.length∧∀y∈b,P y) (oW l c one []):=fun i b j hi h=>b8j h1 a1 _ [] i b j hi (Nat.zero_le _) (fun y hy=>by cases hy) h
theorem b3A {P:β→Prop}{c:Nm}{one:List Nm×List β→aR (List Nm×List β)}(h1:∀out,cK l (fun b=>∃y,b.1.length≤out.1.length+1∧b.2=out.2++[y]∧P y) (one out))(a1:∀out,aA l 1 (one out)):∀(g:Nat) (out:List Nm×List β) (i:Nat) (b:List Nm×List β) (j:Nat),i<l.length→out.1.length≤i→out.2.length≤i→(∀y∈out.2,P y)→gR l c one g out i= .ok b j→b.1.length≤l.length∧b.2.length≤l.length∧∀y∈b.2,P y
 |0,out,i,b,j,_,_,_,_,h=>by unfold gR at h;cases h
 |g+1,out,i,b,j,hi,hl,hl2,hp,h=>by
  unfold gR at h;split at h
  ·cases h
  ·rename_i b' j' ho;have k1:=a1 out i b' j' hi ho;obtain ⟨y,e1,e2,hy⟩:=h1 out i b' j' hi ho;have hall:∀z∈b'.2,P z:=fun z hz=>by
    rw [e2] at hz;rcases List.mem_append.1 hz with hz|hz
    ·exact hp z hz
    ·rw [d8K] at hz;rw [hz];exact hy
   have hlen:b'.2.length=out.2.length+1:=by rw [e2];simp
   split at h
   ·rename_i hs;exact b3A h1 a1 g _ (j'+1) b j (aF hE k1.2 hs) (by omega) (by omega) hall h
   ·cases h;exact ⟨by omega,by omega,hall⟩
theorem b3B {P:β→Prop}{c:Nm}{one:List Nm×List β→aR (List Nm×List β)}(h1:∀out,cK l (fun b=>∃y,b.1.length≤out.1.length+1∧b.2=out.2++[y]∧P y) (one out))(a1:∀out,aA l 1 (one out)):cK l (fun b=>b.1.length≤l.length∧b.2.length≤l.length∧∀y∈b.2,P y) (eO l c one ([],[])):=fun i b j hi h=>b3A hE h1 a1 _ ([],[]) i b j hi (Nat.zero_le _) (Nat.zero_le _) (fun y hy=>by cases hy) h
theorem c3I {kw:Nm→Bool}:cK l (fun b:List Nm=>b.length≤l.length) (cV kw l):=by unfold cV;refine cK.skip ((aA.exp hE _ _).le (by omega)) fun _=>cK.bind (a0p hE (P:=fun _=>True) (fun out=>cK.skip ((aA.word hE).le (by omega)) fun w=>cK.aO ⟨w,rfl,trivial⟩) fun out=>(aA.word hE).bl fun _=>aA.aO _) (aA.list hE (m:=0) (fun out=>((aA.word hE).le (by omega)).bl fun _=>aA.aO _) _) fun b hb=>cK.skip ((aA.exp hE _ _).le (by omega)) fun _=>cK.aO hb.1
end
theorem WB.zero:WB 900000000 pC:= .mk _ _ _ _ _ _ (by simp) (by simp) (by simp [mD,dM,eM]) (by simp) (fun q hq=>by cases hq) (fun k hk=>by cases hk)
theorem WB.small (op:Int)(nm:Nm){l:List Ty}{ns:List Nm}{ps:List Pr}(h1:l.length≤900000000)(h2:ns.length≤900000000)(h3:ps.length≤900000000)(h4:∀q∈ps,dM q≤900000000)(h5:∀k∈l,WB 900000000 k):WB 900000000 ⟨op,nm,l,ns,mD,ps⟩:= .mk _ _ _ _ _ _ h1 h2 (by simp [mD,dM,eM]) h3 h4 h5
theorem WB.psT (op:Int)(nm:Nm):WB 900000000 (psT op nm):=WB.small op nm (by simp) (by simp) (by simp) (fun q hq=>by cases hq) (fun k hk=>by cases hk)
theorem WB.pred {t:Ty}(h:WB 900000000 t){p:Pr}(hp:dM p≤900000000):WB 900000000 { t with pred:=p }:=by
 cases h with
 |mk _ _ _ _ _ _ h1 h2 h3 h4 h5 h6=>exact .mk _ _ _ _ _ _ h1 h2 hp h4 h5 h6
section
variable {rdP:List Tok→Nat→Nat→mH Pr} {l:List Tok} (hV:mO G rdP l)
include hV
theorem c6N:cK l (fun p=>dM p≤900000000) (cQ rdP l):=fun i p j hi h=>by have h1:=(hV.nod i _ p j hi h).1;have h2:=hV.pU _ i p j hi h;have h3:=hV.len;omega
theorem b8k:cK l (fun o:Option Ty=>∀t,o=some t→WB 900000000 t) (jK bA l):=fun i o j hi h=>by
 intro t ht;subst ht;unfold jK at h
 repeat' split at h
 all_goals first|(cases h;exact WB.psT _ _)|cases h
section
variable {ty:aR Ty} (hty:cK l (WB 900000000) ty) (aty:aA l 1 ty) (ity:∀i t j,i<l.length→ty i= .ok t j→TyI t i j)
include hty aty ity
theorem b8l:cK l (WB 900000000) (oB bF rdP l ty):=fun i t j hi h=>by
 have inv:=b7p hV aty ity i t j hi h;have ha:=aA.a5r (andP:=bF) hV.fin (aty.le (by omega)) hV.pU.pred i t j hi h;have hl:=hV.len;have hn:dM t.pred≤900000000:=by have:=inv.2;omega
 unfold oB at h;obtain ⟨_,k1,h1,h⟩:=bZ h;have q1:=aA.exp hV.fin _ _ i _ k1 hi h1;obtain ⟨t0,k2,h2,h⟩:=bZ h;have w:=hty k1 t0 k2 q1.2 h2;split at h
 ·unfold cH at h;cases h
 ·obtain ⟨_,k3,h3,h⟩:=bZ h;obtain ⟨p,k4,h4,h⟩:=bZ h;obtain ⟨_,k5,h5,h⟩:=bZ h;cases h;exact w.pred hn
theorem c3J:cK l (WB 900000000) (do aL l [[40]];let t ← ty;aL l [[41]];pure t:aR Ty):=cK.skip ((aA.exp hV.fin _ _).le (by omega)) fun _=>cK.bind hty (aty.le (by omega)) fun t ht=>cK.skip ((aA.exp hV.fin _ _).le (by omega)) fun _=>cK.aO ht
theorem c0r:cK l (WB 900000000) (dZ bA bF rdP l ty):=by
 unfold dZ;refine cK.bind (b8k hV) (aA.base hV.fin) fun o ho=>?_
 cases o with
 |some t=>exact cK.aO (ho t rfl)
 |none=>
  intro i t j hi h;simp only at h;split at h
  ·cases h;exact WB.psT _ _
  ·split at h
   ·exact b8l hV hty aty ity i t j hi h
   ·exact c3J hV hty aty ity i t j hi h
theorem c3K:cK l (WB 900000000) (mL bA bF rdP l ty):=by
 have hl:=hV.len;unfold mL;have ash:aA l 1 (dZ bA bF rdP l ty):=aA.rX hV.fin (aty.le (by omega)) hV.pU.pred;refine cK.skip ((aA.title hV.fin).le (by omega)) fun nm=>cK.bind (c6M (P:=WB 900000000) (fun out=>cK.bind (c0r hV hty aty ity) (ash.le (by omega)) fun t ht=>cK.aO ⟨t,rfl,ht⟩) fun out=>ash.bl fun _=>aA.aO _) (aA.many (fun out=>(ash.le (by omega)).bl fun _=>aA.aO _) _) fun args hargs=>cK.skip (aA.skip hV.fin _) fun b=>cK.ite ?_ (cK.aO ?_)
 ·refine cK.bind (a0p hV.fin (P:=fun p=>dM p≤900000000) (fun out=>cK.skip ((aA.exp hV.fin _ _).le (by omega)) fun _=>cK.bind (c6N hV) hV.pU.pred fun p hp=>cK.aO ⟨p,rfl,hp⟩) fun out=>(aA.exp hV.fin _ _).bl fun _=>hV.pU.pred.bl fun _=>aA.aO _) (aA.list hV.fin (fun out=>((aA.exp hV.fin _ _).le (by omega)).bl fun _=>hV.pU.pred.bl fun _=>aA.aO _) _) fun ps hps=>cK.skip ((aA.exp hV.fin _ _).le (by omega)) fun _=>cK.aO ?_
  exact WB.small (ns:=[]) 4 nm (by have:=hargs.1;omega) (by simp) (by have:=hps.1;omega) hps.2 hargs.2
 ·exact WB.small (ns:=[]) (ps:=[]) 4 nm (by have:=hargs.1;omega) (by simp) (by simp) (fun q hq=>by cases hq) hargs.2
theorem c6O:cK l (WB 900000000) (qE bA l ty):=by
 have hl:=hV.len;have hE:=hV.fin;have a1:∀out:List Nm×List Ty,aA l 1 (do let w ← bN bA l;aL l [[58]];let t ← ty;pure (out.1++[w],out.2++[t]):aR (List Nm×List Ty)):=fun out=>(aA.word hE).bl fun _=>((aA.exp hE _ _).le (by omega)).bl fun _=>(aty.le (by omega)).bl fun _=>aA.aO _
 have a2:∀out:List Nm×List Ty,aA l 1 (do let t ← ty;pure (out.1,out.2++[t]):aR (List Nm×List Ty)):=fun out=>aty.bl fun _=>aA.aO _
 have g1:∀out:List Nm×List Ty,cK l (fun b=>∃y,b.1.length≤out.1.length+1∧b.2=out.2++[y]∧WB 900000000 y) (do let w ← bN bA l;aL l [[58]];let t ← ty;pure (out.1++[w],out.2++[t]):aR (List Nm×List Ty)):=fun out=>cK.skip ((aA.word hE).le (by omega)) fun w=>cK.skip ((aA.exp hE _ _).le (by omega)) fun _=>cK.bind hty (aty.le (by omega)) fun t ht=>cK.aO ⟨t,by simp,rfl,ht⟩
 have g2:∀out:List Nm×List Ty,cK l (fun b=>∃y,b.1.length≤out.1.length+1∧b.2=out.2++[y]∧WB 900000000 y) (do let t ← ty;pure (out.1,out.2++[t]):aR (List Nm×List Ty)):=fun out=>cK.bind hty (aty.le (by omega)) fun t ht=>cK.aO ⟨t,by simp,rfl,ht⟩
 unfold qE;refine cK.skip ((aA.exp hE _ _).le (by omega)) fun _=>cK.bind (P:=fun b:List Nm×List Ty=>b.1.length≤l.length∧b.2.length≤l.length∧∀y∈b.2,WB 900000000 y) (fun i b j hi h=>?_) (fun i b j hi h=>?_) fun q hq=>?_
 ·split at h
  ·exact b3B hE g1 a1 i b j hi h
  ·exact b3B hE g2 a2 i b j hi h
 ·split at h
  ·exact aA.list hE (fun out=>(a1 out).le (by omega)) _ i b j hi h
  ·exact aA.list hE (fun out=>(a2 out).le (by omega)) _ i b j hi h
 ·obtain ⟨ns,ts⟩:=q;obtain ⟨q1,q2,q3⟩:=hq;simp only at q1 q2 q3;refine cK.skip ((aA.exp hE _ _).le (by omega)) fun _=>fun i t j hi h=>?_
  split at h
  ·rename_i hc;simp only [d8D,decide_eq_true_eq] at hc;cases h
   match ts,hc.1.2,q3 with
   |[t],_,q3=>exact q3 t (.head _)
  ·refine (cK.skip ((aA.exp hE _ _).le (by omega)) (fun _=>cK.bind hty (aty.le (by omega)) fun t ht=>cK.aO ?_):cK l (WB 900000000) _) i t j hi h;refine WB.small (ps:=[]) 6 [] (by simp;omega) (by omega) (by simp) (fun q hq=>by cases hq) fun k hk=>?_
   rcases List.mem_append.1 hk with hk|hk
   ·exact q3 k hk
   ·rw [d8K] at hk;rw [hk];exact ht
theorem c6P:cK l (WB 900000000) (rI bA bF rdP l ty):=by
 unfold rI;refine cK.bind (b8k hV) (aA.base hV.fin) fun o ho=>?_
 cases o with
 |some t=>exact cK.aO (ho t rfl)
 |none=>
  intro i t j hi h;simp only at h;split at h
  ·exact c3K hV hty aty ity i t j hi h
  ·split at h
   ·exact b8l hV hty aty ity i t j hi h
   ·exact c6O hV hty aty ity i t j hi h
end
theorem b8m:∀n,cK l (WB 900000000) (rJ bA bF rdP l n)
 |0=>fun i a j hi h=>by unfold rJ at h;cases h
 |n+1=>c6P hV (b8m n) (aA.a3s hV.fin hV.pU.pred n) fun i t j hi h=>a5M hV n i t j hi h
theorem a8F:cK l (WB 900000000) (cB bA bF rdP l):=b8m hV _
theorem b3C:cK l (fun ts:List Ty=>ts.length≤l.length∧∀t∈ts,WB 900000000 t) (mM bA bF rdP l):=by have hE:=hV.fin;have at1:aA l 1 (cB bA bF rdP l):=aA.uQ hE hV.pU.pred;unfold mM;refine cK.skip (aA.skip hE _) fun b=>cK.ite (cK.bind (a0p hE (P:=WB 900000000) (fun out=>cK.bind (a8F hV) (at1.le (by omega)) fun t ht=>cK.aO ⟨t,rfl,ht⟩) fun out=>at1.bl fun _=>aA.aO _) (aA.list hE (fun out=>(at1.le (by omega)).bl fun _=>aA.aO _) _) fun ts h=>cK.skip ((aA.exp hE _ _).le (by omega)) fun _=>cK.aO h) (cK.aO ⟨by simp,fun t ht=>by cases ht⟩)
omit hV in
theorem WE.op (op:Int){ks:List bW}(h:ks.length≤900000000)(hk:∀k∈ks,WE 900000000 k):WE 900000000 (bJ op ks):= .mk _ h (by simp [bJ]) (by simp [bJ]) (by simp [bJ]) hk (fun p hp=>by cases hp) (fun a ha=>by cases ha) (fun a ha=>by cases ha) (fun t ht=>by cases ht)
omit hV in
theorem WE.one (op:Int){a:bW}(h:WE 900000000 a):WE 900000000 (bJ op [a]):=WE.op op (by simp) fun k hk=>by rw [d8K] at hk;rw [hk];exact h
omit hV in
theorem WE.two (op:Int){a b:bW}(h1:WE 900000000 a)(h2:WE 900000000 b):WE 900000000 (bJ op [a,b]):=WE.op op (by simp) fun k hk=>by simp at hk;rcases hk with rfl|rfl<;>assumption
omit hV in
theorem WE.leaf (op:Int)(nm:Nm)(n:Int):WE 900000000 ⟨op,nm,n,[],[],[],[]⟩:= .mk _ (by simp) (by simp) (by simp) (by simp) (fun k hk=>by cases hk) (fun p hp=>by cases hp) (fun a ha=>by cases ha) (fun a ha=>by cases ha) (fun t ht=>by cases ht)
section
variable {ex:Nat→aR bW} (hx:∀k,cK l (WE 900000000) (ex k)) (ax:∀k,aA l 1 (ex k))
include hx ax
theorem a6W:cK l (fun ks:List bW=>ks.length≤l.length∧∀k∈ks,WE 900000000 k) (eN l ex):=by have hE:=hV.fin;unfold eN;exact cK.skip ((aA.exp hE _ _).le (by omega)) fun _=>cK.bind (a0p hE (P:=WE 900000000) (fun out=>cK.bind (hx 0) ((ax 0).le (by omega)) fun e he=>cK.aO ⟨e,rfl,he⟩) fun out=>(ax 0).bl fun _=>aA.aO _) (aA.list hE (fun out=>((ax 0).le (by omega)).bl fun _=>aA.aO _) _) fun ks h=>cK.skip ((aA.exp hE _ _).le (by omega)) fun _=>cK.aO h
theorem b8n (op:Int):cK l (WE 900000000) (rV l ex op):=by have hE:=hV.fin;unfold rV;exact cK.skip ((aA.exp hE _ _).le (by omega)) fun _=>cK.bind (hx 0) ((ax 0).le (by omega)) fun e he=>cK.skip ((aA.exp hE _ _).le (by omega)) fun _=>cK.aO (WE.one op he)
theorem c6Q:cK l (WE 900000000) (sY bA bF rdP l ex):=by
 have hE:=hV.fin;have at0:aA l 0 (cB bA bF rdP l):=(aA.uQ hE hV.pU.pred).le (by omega);unfold sY;refine cK.skip ((aA.word hE).le (by omega)) fun nm=>cK.skip (aA.skip hE _) fun b=>cK.bind (P:=fun ts:List Ty=>ts.length≤1∧∀t∈ts,WB 900000000 t) (cK.ite (cK.bind (a8F hV) at0 fun t ht=>cK.aO ⟨by simp,fun t' ht'=>by rw [d8K] at ht';rw [ht'];exact ht⟩) (cK.aO ⟨by simp,fun t ht=>by cases ht⟩)) (aA.ite (at0.bl fun _=>aA.aO _) (aA.aO _)) fun ts hts=>?_
 refine cK.skip ((aA.exp hE _ _).le (by omega)) fun _=>cK.bind (hx 0) ((ax 0).le (by omega)) fun a ha=>cK.skip ((aA.exp hE _ _).le (by omega)) fun _=>cK.bind (hx 0) ((ax 0).le (by omega)) fun c hc=>cK.aO ?_
 exact .mk _ (by simp [bJ]) (by simp [bJ]) (by simp [bJ]) (by have:=hts.1;simp only;omega) (fun k hk=>by simp [bJ] at hk;rcases hk with rfl|rfl<;>assumption) (fun p hp=>by cases hp) (fun a ha=>by cases ha) (fun a ha=>by cases ha) hts.2
theorem c0s:cK l (WE 900000000) (mN bA l ex):=by
 have hE:=hV.fin;have hl:=hV.len;have aw:aA l 0 (fun i=>if aJ l i [40] then cV bA l i else .ok [] i:aR (List Nm)):=fun i b j hi h=>by
  simp only at h;split at h
  ·exact ((aA.words hE).le (by omega)) _ _ _ hi h
  ·cases h;omega
 have gw:cK l (fun ns:List Nm=>ns.length≤l.length) (fun i=>if aJ l i [40] then cV bA l i else .ok [] i:aR (List Nm)):=fun i b j hi h=>by
  simp only at h;split at h
  ·exact c3I hE i b j hi h
  ·cases h;simp
 unfold mN;have a1:∀out:List (Nm×List Nm×bW),aA l 1 (do
  let c ← eV l
  let ns ← (fun i=>if aJ l i [40] then cV bA l i else .ok [] i:aR (List Nm))
  aL l [[45,62]]
  let b ← ex 0
  pure (out++[(c,ns,b)]):aR (List (Nm×List Nm×bW))):=fun out=>(aA.title hE).bl fun _=>aw.bl fun _=>((aA.exp hE _ _).le (by omega)).bl fun _=>((ax 0).le (by omega)).bl fun _=>aA.aO _
 refine cK.bind (hx 0) ((ax 0).le (by omega)) fun e he=>cK.skip ((aA.exp hE _ _).le (by omega)) fun _=>cK.bind (a0p hE (P:=fun a:Nm×List Nm×bW=>a.2.1.length≤900000000∧WE 900000000 a.2.2) (fun out=>?_) a1) (aA.list hE (fun out=>(a1 out).le (by omega)) _) fun alts h=>cK.skip ((aA.exp hE _ _).le (by omega)) fun _=>cK.aO ?_
 ·exact cK.skip ((aA.title hE).le (by omega)) fun c=>cK.bind gw aw fun ns hns=>cK.skip ((aA.exp hE _ _).le (by omega)) fun _=>cK.bind (hx 0) ((ax 0).le (by omega)) fun b hb=>cK.aO ⟨_,rfl,by simp only;omega,hb⟩
 ·exact .mk _ (by simp [bJ]) (by simp [bJ]) (by have:=h.1;simp only;omega) (by simp [bJ]) (fun k hk=>by simp [bJ] at hk;rw [hk];exact he) (fun p hp=>by cases hp) (fun a ha=>(h.2 a ha).1) (fun a ha=>(h.2 a ha).2) (fun t ht=>by cases ht)
theorem c6R:cK l (WE 900000000) (sZ bA bF rdP l ex):=by
 have hE:=hV.fin;have hl:=hV.len;have at0:aA l 0 (cB bA bF rdP l):=(aA.uQ hE hV.pU.pred).le (by omega);have at1:∀b:Bool,aA l 0 (if b then cB bA bF rdP l else pure pC):=fun b=>aA.ite at0 (aA.aO _)
 have a1:∀out:List (Nm×Ty),aA l 1 (do
  let w ← bN bA l
  let b ← cM l [58]
  let t ← (if b then cB bA bF rdP l else pure pC)
  pure (out++[(w,t)]):aR (List (Nm×Ty))):=fun out=>(aA.word hE).bl fun _=>(aA.skip hE _).bl fun b=>(at1 b).bl fun _=>aA.aO _
 unfold sZ;refine cK.skip ((aA.exp hE _ _).le (by omega)) fun _=>cK.bind (a0p hE (P:=fun p:Nm×Ty=>WB 900000000 p.2) (fun out=>?_) a1) (aA.list hE (fun out=>(a1 out).le (by omega)) _) fun ps h=>cK.skip ((aA.exp hE _ _).le (by omega)) fun _=>cK.bind (hx 0) ((ax 0).le (by omega)) fun e he=>cK.aO ?_
 ·exact cK.skip ((aA.word hE).le (by omega)) fun w=>cK.skip (aA.skip hE _) fun b=>cK.bind (cK.ite (a8F hV) (cK.aO WB.zero)) (at1 b) fun t ht=>cK.aO ⟨_,rfl,ht⟩
 ·exact .mk _ (by simp [bJ]) (by have:=h.1;simp only;omega) (by simp [bJ]) (by simp [bJ]) (fun k hk=>by simp [bJ] at hk;rw [hk];exact he) h.2 (fun a ha=>by cases ha) (fun a ha=>by cases ha) (fun t ht=>by cases ht)
theorem b8o:cK l (WE 900000000) (dI bA bF rdP l ex):=by
 have hE:=hV.fin;have at0:aA l 0 (cB bA bF rdP l):=(aA.uQ hE hV.pU.pred).le (by omega);unfold dI;refine cK.skip ((aA.exp hE _ _).le (by omega)) fun _=>fun i e j hi h=>?_
 split at h
 ·cases h;exact WE.leaf _ _ _
 ·refine (cK.bind (hx 0) ((ax 0).le (by omega)) fun e he=>cK.skip (aA.skip hE _) fun b=>cK.bind (P:=WE 900000000) (cK.ite (cK.bind (a8F hV) at0 fun t ht=>cK.aO ?_) (cK.aO he)) (aA.ite (at0.bl fun _=>aA.aO _) (aA.aO _)) fun e he=>cK.skip ((aA.exp hE _ _).le (by omega)) fun _=>cK.aO he:cK l (WE 900000000) _) i e j hi h;exact .mk _ (by simp [bJ]) (by simp [bJ]) (by simp [bJ]) (by simp) (fun k hk=>by simp [bJ] at hk;rw [hk];exact he) (fun p hp=>by cases hp) (fun a ha=>by cases ha) (fun a ha=>by cases ha) (fun t' ht'=>by rw [d8K] at ht';rw [ht'];exact ht)
omit hx ax in
theorem c1B (op:Int)(nm:Nm){ts:List Ty}{ks:List bW}(ht:ts.length≤l.length∧∀t∈ts,WB 900000000 t)(hk:ks.length≤l.length∧∀k∈ks,WE 900000000 k):WE 900000000 { bJ op ks with name:=nm,types:=ts }:=by have hl:=hV.len;exact .mk _ (by have:=hk.1;simp only [bJ];omega) (by simp [bJ]) (by simp [bJ]) (by have:=ht.1;simp only;omega) hk.2 (fun p hp=>by cases hp) (fun a ha=>by cases ha) (fun a ha=>by cases ha) ht.2
theorem c3L:cK l (WE 900000000) (mV bA bF rdP l ex):=fun i e j hi h=>by
 have hE:=hV.fin;have atys:aA l 0 (mM bA bF rdP l):=aA.types hE hV.pU.pred;have aargs:aA l 0 (eN l ex):=(aA.eP hE ax).le (by omega);unfold mV at h;split at h
 ·cases h;exact WE.leaf _ _ _
 split at h
 ·cases h;exact WE.leaf _ _ _
 split at h
 ·cases h;exact WE.leaf _ _ _
 split at h
 ·rename_i hs;exact b8n hV hx ax 22 (i+1) e j (aF hE hi hs) h
 split at h
 ·rename_i hs;exact b8n hV hx ax 23 (i+1) e j (aF hE hi hs) h
 split at h
 ·rename_i hs;exact (cK.skip ((aA.exp hE _ _).le (by omega)) (fun _=>cK.bind (hx 0) ((ax 0).le (by omega)) fun a ha=>cK.skip ((aA.exp hE _ _).le (by omega)) fun _=>cK.bind (hx 0) ((ax 0).le (by omega)) fun b hb=>cK.skip ((aA.exp hE _ _).le (by omega)) fun _=>cK.aO (WE.two 24 ha hb)):cK l (WE 900000000) _) (i+1) e j (aF hE hi hs) h
 split at h
 ·rename_i hs;have hn:=a0e hE hi hs;split at h
  ·cases h;exact WE.leaf _ _ _
  ·exact (cK.bind (b3C hV) atys fun ts ht=>cK.bind (a6W hV hx ax) aargs fun ks hk=>cK.aO (c1B hV 5 _ ht hk):cK l (WE 900000000) _) (i+1) e j hn h
 split at h
 ·rename_i hs;have hn:=wS hE hi hs;refine (cK.bind (b3C hV) atys fun ts ht=>cK.bind (P:=fun ks:List bW=>ks.length≤l.length∧∀k∈ks,WE 900000000 k) (fun i b j hi h=>?_) (fun i b j hi h=>?_) fun ks hk=>cK.aO (c1B hV 4 _ ht hk):cK l (WE 900000000) _) (i+1) e j hn h
  ·split at h
   ·exact a6W hV hx ax i b j hi h
   ·cases h;exact ⟨by simp,fun k hk=>by cases hk⟩
  ·split at h
   ·exact aargs i b j hi h
   ·cases h;omega
 ·exact b8o hV hx ax i e j hi h
theorem c1C:cK l (WE 900000000) (mA bA bF rdP l ex):=fun i e j hi h=>by
 have hE:=hV.fin;unfold mA at h;split at h
 ·rename_i hs;exact (cK.bind (hx 7) ((ax 7).le (by omega)) fun e he=>cK.aO (WE.one 15 he):cK l (WE 900000000) _) (i+1) e j (aF hE hi hs) h
 ·exact c3L hV hx ax i e j hi h
omit hx ax in
theorem b3D {ops:List (Nm×Int)}{one:aR bW}(h0:cK l (WE 900000000) one)(a0:aA l 0 one):∀(g:Nat) (e:bW),WE 900000000 e→cK l (WE 900000000) (cN l ops one g e)
 |0,e,_=>fun i a j hi h=>by unfold cN at h;cases h
 |g+1,e,he=>fun i a j hi h=>by
  unfold cN at h;split at h
  ·cases h;exact he
  ·rename_i p hp;have hs:aJ l i p.1=true:=by simpa using List.find?_some hp
   have hn:=aF hV.fin hi hs;split at h
   ·cases h
   ·rename_i x k hk;exact b3D h0 a0 g _ (WE.two p.2 he (h0 (i+1) x k hn hk)) k a j (a0 (i+1) x k hn hk).2 h
omit hx ax in
theorem a8H {ops:List (Nm×Int)}{one:aR bW}(h0:cK l (WE 900000000) one)(a0:aA l 0 one):cK l (WE 900000000) (pR l ops one):=by unfold pR;exact cK.bind h0 a0 fun e he=>b3D hV h0 a0 _ e he
theorem c6S:cK l (WE 900000000) (bX bA bF rdP l ex):=a8H hV (a8H hV (c1C hV hx ax) ((aA.unG hV.fin ax hV.pU.pred).le (by omega))) ((aA.b6N hV.fin ax hV.pU.pred).le (by omega))
theorem c6T:cK l (WE 900000000) (kU bA bF rdP l ex):=by
 have hE:=hV.fin;unfold kU;have hs:cK l (WE 900000000) (bX bA bF rdP l ex):=c6S hV hx ax;have ha:aA l 0 (bX bA bF rdP l ex):=(aA.a1w hE ax hV.pU.pred).le (by omega);refine cK.bind hs ha fun e he=>fun i a j hi h=>?_
 have one:∀(f:bW→bW) (w:Nm),(∀x,WE 900000000 x→WE 900000000 (f x))→aJ l i w=true→(bX bA bF rdP l ex >>=fun x=>pure (f x)) (i+1)= .ok a j→WE 900000000 a:=fun f w hf hw h=>(cK.bind hs ha fun x hx=>cK.aO (hf x hx):cK l (WE 900000000) _) (i+1) a j (aF hE hi hw) h
 split at h
 ·rename_i hw;exact one _ _ (fun x hx=>WE.two _ he hx) hw h
 split at h
 ·rename_i hw;exact one _ _ (fun x hx=>WE.one _ (WE.two _ he hx)) hw h
 split at h
 ·rename_i hw;exact one _ _ (fun x hx=>WE.two _ he hx) hw h
 split at h
 ·rename_i hw;exact one _ _ (fun x hx=>WE.two _ he hx) hw h
 split at h
 ·rename_i hw;exact one _ _ (fun x hx=>WE.two _ hx he) hw h
 split at h
 ·rename_i hw;exact one _ _ (fun x hx=>WE.two _ hx he) hw h
 cases h;exact he
theorem b8p:cK l (WE 900000000) (mP bA bF rdP l ex):=fun i e j hi h=>by
 have hE:=hV.fin;unfold mP at h;split at h
 ·rename_i hs;exact (cK.bind (hx 3) ((ax 3).le (by omega)) fun e he=>cK.aO (WE.one 21 he):cK l (WE 900000000) _) (i+1) e j (aF hE hi hs) h
 ·exact c6T hV hx ax i e j hi h
theorem d1f:cK l (WE 900000000) (xO bA bF rdP l ex):=a8H hV (a8H hV (b8p hV hx ax) ((aA.a0L hV.fin ax hV.pU.pred).le (by omega))) ((aA.lvl hV.fin (aA.a0L hV.fin ax hV.pU.pred)).le (by omega))
theorem d1g:cK l (WE 900000000) (sH bA bF rdP l ex):=fun i e j hi h=>by
 have hE:=hV.fin;have hl:=hV.len;have ax0:aA l 0 (ex 0):=(ax 0).le (by omega);unfold sH at h;split at h
 ·rename_i hs;exact c6Q hV hx ax (i+1) e j (aF hE hi hs) h
 split at h
 ·rename_i hs;exact (cK.bind (hx 0) ax0 fun a ha=>cK.skip ((aA.exp hE _ _).le (by omega)) fun _=>cK.bind (hx 0) ax0 fun b hb=>cK.skip ((aA.exp hE _ _).le (by omega)) fun _=>cK.bind (hx 0) ax0 fun c hc=>cK.aO (WE.op 8 (by simp) fun k hk=>by simp at hk;rcases hk with rfl|rfl|rfl<;>assumption):cK l (WE 900000000) _) (i+1) e j (aF hE hi hs) h
 split at h
 ·rename_i hs;exact c0s hV hx ax (i+1) e j (aF hE hi hs) h
 split at h
 ·rename_i hs;exact c6R hV hx ax (i+1) e j (aF hE hi hs) h
 split at h
 ·rename_i hs;refine (cK.skip ((aA.word hE).le (by omega)) fun nm=>cK.bind (a6W hV hx ax) ((aA.eP hE ax).le (by omega)) fun ks hk=>cK.skip ((aA.exp hE _ _).le (by omega)) fun _=>cK.bind (hx 0) ax0 fun b hb=>cK.aO ?_:cK l (WE 900000000) _) (i+1) e j (aF hE hi hs) h;exact .mk _ (by have:=hk.1;simp [bJ];omega) (by simp [bJ]) (by simp [bJ]) (by simp [bJ]) (fun k hk2=>by
   simp [bJ] at hk2;rcases hk2 with hk2|rfl
   ·exact hk.2 k hk2
   ·exact hb) (fun p hp=>by cases hp) (fun a ha=>by cases ha) (fun a ha=>by cases ha) (fun t ht=>by cases ht)
 ·exact d1f hV hx ax i e j hi h
end
theorem c1D:∀n k,cK l (WE 900000000) (jG bA bF rdP l n k)
 |0,k=>fun i a j hi h=>by unfold jG at h;cases h
 |n+1,k=>by
  have hx:=c1D n;have ax:=aA.exF (kw:=bA) (andP:=bF) hV.fin hV.pU.pred n;unfold jG;split
  ·exact c1C hV hx ax
  ·split
   ·exact b8p hV hx ax
   ·exact d1g hV hx ax
theorem c6U:cK l (WE 900000000) (a2b bA bF rdP l):=c1D hV _ 0
end
end
section
section
variable {α β:Type} {kw:Nm→Bool} {andP:Pr→Pr→Pr} {rdP:List Tok→Nat→Nat→mH Pr} {l l':List Tok} {N d:Nat} {W W':Nat→Prop} {u:Nm}
variable (hE:oK l) (hN:a2K l l' N d u)
include hE hN
theorem aC.words:aC N d W (cV kw l) (cV kw l'):=by
 unfold cV;have a1:∀a:List Nm,aA l 0 (do let w ← bN kw l;pure (a++[w]):aR (List Nm)):=fun a=>((aA.word hE).le (by omega)).bl fun _=>aA.aO _
 have n1:∀a:List Nm,aC N d wT (do let w ← bN kw l;pure (a++[w]):aR (List Nm)) (do let w ← bN kw l';pure (a++[w]):aR (List Nm)):=fun a=>aC.bT hN (aC.word hN) (fun _=>aC.aO _) ((aA.word hE).le (by omega)) fun _=>aA.aO _
 have a2:∀out:List Nm,aA l 0 (do aL l [[41]];pure out:aR (List Nm)):=fun out=>((aA.exp hE _ _).le (by omega)).bl fun _=>aA.aO _
 refine aC.bT hN (aC.exp hE hN _) (fun _=>?_) ((aA.exp hE _ _).le (by omega)) fun _=>(aA.list hE a1 _).bl a2
 exact aC.bT hN (aC.list hE hN (by decide) (by decide) (fun _ _ _=>trivial) n1 a1 _) (fun _=>aC.bT hN (aC.exp hE hN _) (fun _=>aC.aO _) ((aA.exp hE _ _).le (by omega)) fun _=>aA.aO _) (aA.list hE a1 _) a2
omit hE in
theorem aC.base:aC N d W (jK kw l) (jK kw l'):=fun i a j hi h hj hw=>by
 have e1:=hZ hN (s:=[73,110,116]) (by decide) (by decide) hi;have e2:=hZ hN (s:=[66,111,111,108]) (by decide) (by decide) hi;have e3:=hZ hN (s:=[67,101,108,108]) (by decide) (by decide) hi;have e4:=a6d (kw:=kw) hN hi;unfold jK at h ⊢;rw [e1,e2,e3,e4];split at h
 ·rename_i h1;rw [if_pos h1];cases h;rw [show i+1+d=i+d+1 by omega]
 rename_i h1;rw [if_neg h1];split at h
 ·rename_i h2;rw [if_pos h2];cases h;rw [show i+1+d=i+d+1 by omega]
 rename_i h2;rw [if_neg h2];split at h
 ·rename_i h3;rw [if_pos h3];cases h;rw [show i+1+d=i+d+1 by omega]
 rename_i h3;rw [if_neg h3];split at h
 ·rename_i h4;rw [if_pos h4,hN.text i (by cases h;omega)];cases h;rw [show i+1+d=i+d+1 by omega]
 rename_i h4;rw [if_neg h4];cases h
 rfl
variable (hwf:c3C l)
section
variable {ty ty':aR Ty} (hty:aC N d (Fol kw l) ty ty') (aty:aA l 0 ty) (hP:aC N d (b8b kw l) (cQ rdP l) (cQ rdP l')) (aP:aA l 0 (cQ rdP l))
include hty aty hP aP hwf
theorem aC.a5r:aC N d W (oB andP rdP l ty) (oB andP rdP l' ty'):=by
 unfold oB;have a3:∀(t:Ty) (p:Pr),aA l 0 (do aL l [[125]];pure { t with pred:=if t.pred.op=0 then p else andP t.pred p }:aR Ty):=fun t p=>((aA.exp hE _ _).le (by omega)).bl fun _=>aA.aO _
 have a2:∀t:Ty,aA l 0 (do aL l [[124]];let p ← cQ rdP l;aL l [[125]];pure { t with pred:=if t.pred.op=0 then p else andP t.pred p }:aR Ty):=fun t=>((aA.exp hE _ _).le (by omega)).bl fun _=>aP.bl fun p=>a3 t p
 refine aC.bT hN (aC.exp hE hN _) (fun _=>?_) ((aA.exp hE _ _).le (by omega)) fun _=>aty.bl fun t=>aA.ite aA.failed (a2 t)
 refine aC.sF hN hty (fun t=>aC.ite aC.failed ?_) aty (fun t=>aA.ite aA.failed (a2 t)) fun t k b j hk h hj hw=>?_
 ·refine aC.bT hN (aC.exp hE hN _) (fun _=>?_) ((aA.exp hE _ _).le (by omega)) fun _=>aP.bl fun p=>a3 t p
  refine aC.sF hN hP (fun p=>aC.bT hN (aC.exp hE hN _) (fun _=>aC.aO _) ((aA.exp hE _ _).le (by omega)) fun _=>aA.aO _) aP (a3 t) fun p k b j hk h hj hw=>?_
  rw [eC] at h;split at h
  ·rename_i u k2 he;exact c1x (a1d he) (by decide) (by decide)
  ·cases h
 ·split at h
  ·unfold cH at h;cases h
  ·rw [eC] at h;split at h
   ·rename_i u k2 he;exact xZ hwf (a1d he) rfl (by decide)
   ·cases h
theorem aC.rX:aC N d W (dZ kw andP rdP l ty) (dZ kw andP rdP l' ty'):=by
 unfold dZ;have ap:∀t:Ty,aA l 0 (do aL l [[41]];pure t:aR Ty):=fun t=>((aA.exp hE _ _).le (by omega)).bl fun _=>aA.aO _
 have ar:aA l 0 (oB andP rdP l ty):=(aA.a5r hE aty aP).le (by omega);have a2:∀b:Option Ty,aA l 0 (match b with
  |some t=>pure t
  |none=>fun i=>
   if kT (aK l i) then .ok (psT 4 (aK l i).text) (i+1)
   else if aJ l i [123] then oB andP rdP l ty i
   else (do aL l [[40]];let t ← ty;aL l [[41]];pure t:aR Ty) i:aR Ty):=fun b=>by
  cases b with
  |some t=>exact aA.aO _
  |none=>
   intro i a j hi h;simp only at h;split at h
   ·rename_i hs;have:=wS hE hi hs;cases h;omega
   ·split at h
    ·exact ar i a j hi h
    ·exact (((aA.exp hE _ _).le (by omega:0≤1)).bl fun _=>aty.bl ap) i a j hi h
 refine aC.bT hN (aC.base hN) (fun b=>?_) (aA.base hE) a2;cases b with
 |some t=>exact aC.aO _
 |none=>
  intro i a j hi h hj hw;simp only at h ⊢;rw [a6e hN hi,hZ hN (by decide) (by decide) hi];split at h
  ·rename_i h1;rw [if_pos h1,hN.text i (by cases h;omega)];cases h;rw [show i+1+d=i+d+1 by omega]
  ·rename_i h1;rw [if_neg h1];split at h
   ·rename_i h2;rw [if_pos h2];exact aC.a5r hE hN hwf hty aty hP aP i a j hi h hj hw
   ·rename_i h2;rw [if_neg h2];refine (aC.bT hN (aC.exp hE hN _) (fun _=>?_) ((aA.exp hE _ _).le (by omega)) (fun _=>aty.bl ap):aC N d W _ _) i a j hi h hj hw;refine aC.sF hN hty (fun t=>aC.bT hN (aC.exp hE hN _) (fun _=>aC.aO _) ((aA.exp hE _ _).le (by omega)) fun _=>aA.aO _) aty ap fun t k b j hk h hj hw=>?_
    rw [eC] at h;split at h
    ·rename_i u k2 he;exact xZ hwf (a1d he) rfl (by decide)
    ·cases h
theorem aC.a7E:aC N d (Fol kw l) (mL kw andP rdP l ty) (mL kw andP rdP l' ty'):=by
 have a1:∀out:List Pr,aA l 0 (do aL l [[118],[46]];let p ← cQ rdP l;pure (out++[p]):aR (List Pr)):=fun out=>((aA.exp hE _ _).le (by omega)).bl fun _=>aP.bl fun _=>aA.aO _
 have n1:∀out:List Pr,aC N d (b8b kw l) (do aL l [[118],[46]];let p ← cQ rdP l;pure (out++[p]):aR (List Pr)) (do aL l' [[118],[46]];let p ← cQ rdP l';pure (out++[p]):aR (List Pr)):=fun out=>aC.bT hN (aC.exp hE hN _) (fun _=>aC.sF hN hP (fun _=>aC.aO _) aP (fun _=>aA.aO _) fun p k b j hk h hj hw=>by cases h;exact hw) ((aA.exp hE _ _).le (by omega)) fun _=>aP.bl fun _=>aA.aO _
 have ash:aA l 0 (dZ kw andP rdP l ty):=(aA.rX hE aty aP).le (by omega);have a2:∀out:List Ty,aA l 0 (do let t ← dZ kw andP rdP l ty;pure (out++[t]):aR (List Ty)):=fun out=>ash.bl fun _=>aA.aO _
 have n2:∀out:List Ty,aC N d wT (do let t ← dZ kw andP rdP l ty;pure (out++[t]):aR (List Ty)) (do let t ← dZ kw andP rdP l' ty';pure (out++[t]):aR (List Ty)):=fun out=>aC.bT hN (aC.rX hE hN hwf hty aty hP aP) (fun _=>aC.aO _) ash fun _=>aA.aO _
 have a3:∀(nm:Nm) (args:List Ty) (ps:List Pr),aA l 0 (do aL l [[62]];pure { psT 4 nm with args:=args,a5o:=ps }:aR Ty):=fun nm args ps=>((aA.exp hE _ _).le (by omega)).bl fun _=>aA.aO _
 have a4:∀(nm:Nm) (args:List Ty) (b:Bool),aA l 0 (if b then do
   let ps ← eO l [44] (fun out=>do
    aL l [[118],[46]]
    let p ← cQ rdP l
    pure (out++[p])) []
   aL l [[62]]
   pure { psT 4 nm with args:=args,a5o:=ps }
  else pure { psT 4 nm with args:=args }:aR Ty):=fun nm args b=>aA.ite ((aA.list hE a1 _).bl fun ps=>a3 nm args ps) (aA.aO _)
 unfold mL;refine aC.bT hN (aC.title hN) (fun nm=>?_) ((aA.title hE).le (by omega)) fun nm=>(aA.many a2 _).bl fun args=>(aA.skip hE _).bl fun b=>a4 nm args b
 refine aC.bT hN (aC.many hN (fun i hi=>?_) n2 a2 _) (fun args=>?_) (aA.many a2 _) fun args=>(aA.skip hE _).bl fun b=>a4 nm args b
 ·unfold a9F;rw [a6d hN hi,a6e hN hi,hZ hN (by decide) (by decide) hi,hZ hN (by decide) (by decide) hi]
 refine aC.bT hN (aC.skip hN (by decide) (by decide)) (fun b=>aC.ite ?_ (aC.aO _)) (aA.skip hE _) fun b=>a4 nm args b
 refine aC.sF hN (aC.list hE hN (by decide) (by decide) (fun j _ hs=>c1x hs (by decide) (by decide)) n1 a1 _) (fun ps=>aC.bT hN (aC.exp hE hN _) (fun _=>aC.aO _) ((aA.exp hE _ _).le (by omega)) fun _=>aA.aO _) (aA.list hE a1 _) (a3 nm args) fun ps k b j hk h hj hw=>?_
 rw [eC] at h;split at h
 ·rename_i u k2 he;have hk2:=c1w hE (by have:=hN.len;omega) he;simp only [List.length_cons,List.length_nil] at hk2;cases h;rw [hk2] at hw;exact d1a (a1d he) hw
 ·cases h
omit hP aP in
theorem aC.b4f:aC N d (Fol kw l) (qE kw l ty) (qE kw l' ty'):=by
 have a1:∀out:List Nm×List Ty,aA l 0 (do let w ← bN kw l;aL l [[58]];let t ← ty;pure (out.1++[w],out.2++[t]):aR (List Nm×List Ty)):=fun out=>((aA.word hE).le (by omega)).bl fun _=>((aA.exp hE _ _).le (by omega)).bl fun _=>aty.bl fun _=>aA.aO _
 have a2:∀out:List Nm×List Ty,aA l 0 (do let t ← ty;pure (out.1,out.2++[t]):aR (List Nm×List Ty)):=fun out=>aty.bl fun _=>aA.aO _
 have n2:∀out:List Nm×List Ty,aC N d (Fol kw l) (do let t ← ty;pure (out.1,out.2++[t]):aR (List Nm×List Ty)) (do let t ← ty';pure (out.1,out.2++[t]):aR (List Nm×List Ty)):=fun out=>aC.sF hN hty (fun _=>aC.aO _) aty (fun _=>aA.aO _) fun t k b j hk h hj hw=>by cases h;exact hw
 have n1:∀out:List Nm×List Ty,aC N d (Fol kw l) (do let w ← bN kw l;aL l [[58]];let t ← ty;pure (out.1++[w],out.2++[t]):aR (List Nm×List Ty)) (do let w ← bN kw l';aL l' [[58]];let t ← ty';pure (out.1++[w],out.2++[t]):aR (List Nm×List Ty)):=fun out=>aC.bT hN (aC.word hN) (fun w=>aC.bT hN (aC.exp hE hN _) (fun _=>aC.sF hN hty (fun _=>aC.aO _) aty (fun _=>aA.aO _) fun t k b j hk h hj hw=>by cases h;exact hw) ((aA.exp hE _ _).le (by omega)) fun _=>aty.bl fun _=>aA.aO _) ((aA.word hE).le (by omega)) fun _=>((aA.exp hE _ _).le (by omega)).bl fun _=>aty.bl fun _=>aA.aO _
 have hsep:∀j,j<N→aJ l j [44]=true→Fol kw l j:=fun j _ hs=>xZ hwf hs rfl (by decide)
 have aend:∀(ns:List Nm) (ts:List Ty),aA l 0 (fun i=>if decide (ns.length=0)&&decide (ts.length=1)&& !aJ l i [45,62] then .ok (ts.headD pC) i else (do aL l [[45,62]];let t ← ty;pure { psT 6 [] with names:=ns,args:=ts++[t] }:aR Ty) i:aR Ty):=fun ns ts i a j hi h=>by
  simp only at h;split at h
  ·cases h;omega
  ·exact (((aA.exp hE _ _).le (by omega:0≤1)).bl fun _=>aty.bl fun _=>aA.aO _) i a j hi h
 have amid:aA l 0 (fun i=>if jJ kw (aK l i)&&dN (aK l (i+1)) [58] then
   eO l [44] (fun (out:List Nm×List Ty)=>do
    let w ← bN kw l
    aL l [[58]]
    let t ← ty
    pure (out.1++[w],out.2++[t])) ([],[]) i
  else eO l [44] (fun (out:List Nm×List Ty)=>do
    let t ← ty
    pure (out.1,out.2++[t])) ([],[]) i:aR (List Nm×List Ty)):=fun i a j hi h=>by
  simp only at h;split at h
  ·exact aA.list hE a1 _ i a j hi h
  ·exact aA.list hE a2 _ i a j hi h
 have atail:∀q:List Nm×List Ty,aA l 0 (do
   aL l [[41]]
   fun i=>if decide (q.1.length=0)&&decide (q.2.length=1)&& !aJ l i [45,62] then .ok (q.2.headD pC) i else (do aL l [[45,62]];let t ← ty;pure { psT 6 [] with names:=q.1,args:=q.2++[t] }:aR Ty) i:aR Ty):=fun q=>((aA.exp hE _ _).le (by omega)).bl fun _=>aend q.1 q.2
 unfold qE;refine aC.bT hN (aC.exp hE hN _) (fun _=>?_) ((aA.exp hE _ _).le (by omega)) fun _=>amid.bl atail
 refine aC.sF (W':=Fol kw l) hN (fun i a j hi h hj hw=>?_) (fun q=>?_) amid atail fun q k b j hk h hj hw=>?_
 ·have e2:dN (aK l' (i+d+1)) [58]=dN (aK l (i+1)) [58]∨jJ kw (aK l i)=false:=by
   cases hwd:jJ kw (aK l i) with
   |false=>exact .inr rfl
   |true=>have:=d2N hN hi hwd;left;have:=hZ hN (s:=[58]) (by decide) (by decide) (i:=i+1) (by omega);rw [show i+1+d=i+d+1 by omega] at this;exact this
  have e:(jJ kw (aK l' (i+d))&&dN (aK l' (i+d+1)) [58])=(jJ kw (aK l i)&&dN (aK l (i+1)) [58]):=by
   rw [a6d hN hi];rcases e2 with e2|e2
   ·rw [e2]
   ·rw [e2];rfl
  split at h
  ·rename_i h1;exact (if_pos (by rw [e];exact h1)).trans (aC.list hE hN (by decide) (by decide) hsep n1 a1 _ i a j hi h hj hw)
  ·rename_i h1;exact (if_neg (by rw [e];exact h1)).trans (aC.list hE hN (by decide) (by decide) hsep n2 a2 _ i a j hi h hj hw)
 ·obtain ⟨ns,ts⟩:=q;refine aC.bT hN (aC.exp hE hN _) (fun _=>fun i a j hi h hj hw=>?_) ((aA.exp hE _ _).le (by omega)) fun _=>aend ns ts
  simp only at h ⊢;rw [hZ hN (by decide) (by decide) hi];split at h
  ·rename_i h1;rw [if_pos h1];cases h
   rfl
  ·rename_i h1;rw [if_neg h1];exact (aC.bT hN (aC.exp hE hN _) (fun _=>aC.sF hN hty (fun _=>aC.aO _) aty (fun _=>aA.aO _) fun t k b j hk h hj hw=>by cases h;exact hw) ((aA.exp hE _ _).le (by omega)) (fun _=>aty.bl fun _=>aA.aO _):aC N d (Fol kw l) _ _) i a j hi h hj hw
 ·obtain ⟨ns,ts⟩:=q;exact xZ hwf (a2L h) rfl (by decide)
theorem aC.b6M:aC N d (Fol kw l) (rI kw andP rdP l ty) (rI kw andP rdP l' ty'):=by
 unfold rI;have a2:∀b:Option Ty,aA l 0 (match b with
  |some t=>pure t
  |none=>fun i=>
   if kT (aK l i) then mL kw andP rdP l ty i
   else if aJ l i [123] then oB andP rdP l ty i
   else qE kw l ty i:aR Ty):=fun b=>by
  cases b with
  |some t=>exact aA.aO _
  |none=>
   intro i a j hi h;simp only at h;split at h
   ·exact ((aA.a7E hE aty aP).le (by omega:0≤1)) i a j hi h
   ·split at h
    ·exact ((aA.a5r hE aty aP).le (by omega:0≤1)) i a j hi h
    ·exact ((aA.b4f hE aty aP).le (by omega:0≤1)) i a j hi h
 refine aC.bT hN (aC.base hN) (fun b=>?_) (aA.base hE) a2;cases b with
 |some t=>exact aC.aO _
 |none=>
  intro i a j hi h hj hw;simp only at h ⊢;rw [a6e hN hi,hZ hN (by decide) (by decide) hi];split at h
  ·rename_i h1;rw [if_pos h1];exact aC.a7E hE hN hwf hty aty hP aP i a j hi h hj hw
  ·rename_i h1;rw [if_neg h1];split at h
   ·rename_i h2;rw [if_pos h2];exact aC.a5r hE hN hwf hty aty hP aP i a j hi h hj hw
   ·rename_i h2;rw [if_neg h2];exact aC.b4f hE hN hwf hty aty i a j hi h hj hw
end
section
variable (hP:aC N d (b8b kw l) (cQ rdP l) (cQ rdP l')) (aP:aA l 0 (cQ rdP l))
include hP aP hwf
theorem aC.a3s:∀n n',n≤n'→aC N d (Fol kw l) (rJ kw andP rdP l n) (rJ kw andP rdP l' n')
 |0,n',_=>fun i a j hi h hj hw=>by unfold rJ at h;cases h
 |n+1,n',hn=>by obtain ⟨n',rfl⟩:∃k,n'=k+1:=⟨n'-1,by omega⟩;exact aC.b6M hE hN hwf (aC.a3s n n' (by omega)) ((aA.a3s hE aP n).le (by omega)) hP aP
theorem aC.uQ:aC N d (Fol kw l) (cB kw andP rdP l) (cB kw andP rdP l'):=aC.a3s hE hN hwf hP aP _ _ (by have:=hN.le;omega)
theorem aC.types:aC N d W (mM kw andP rdP l) (mM kw andP rdP l'):=by
 have at0:aA l 0 (cB kw andP rdP l):=(aA.uQ hE aP).le (by omega);have a1:∀out:List Ty,aA l 0 (do let t ← cB kw andP rdP l;pure (out++[t]):aR (List Ty)):=fun out=>at0.bl fun _=>aA.aO _
 have n1:∀out:List Ty,aC N d (Fol kw l) (do let t ← cB kw andP rdP l;pure (out++[t]):aR (List Ty)) (do let t ← cB kw andP rdP l';pure (out++[t]):aR (List Ty)):=fun out=>aC.sF hN (aC.uQ hE hN hwf hP aP) (fun _=>aC.aO _) at0 (fun _=>aA.aO _) fun t k b j hk h hj hw=>by cases h;exact hw
 have a2:∀out:List Ty,aA l 0 (do aL l [[93]];pure out:aR (List Ty)):=fun out=>((aA.exp hE _ _).le (by omega)).bl fun _=>aA.aO _
 unfold mM;refine aC.bT hN (aC.skip hN (by decide) (by decide)) (fun b=>aC.ite ?_ (aC.aO _)) (aA.skip hE _) fun b=>aA.ite ((aA.list hE a1 _).bl a2) (aA.aO _)
 refine aC.sF hN (aC.list hE hN (by decide) (by decide) (fun j _ hs=>xZ hwf hs rfl (by decide)) n1 a1 _) (fun out=>aC.bT hN (aC.exp hE hN _) (fun _=>aC.aO _) ((aA.exp hE _ _).le (by omega)) fun _=>aA.aO _) (aA.list hE a1 _) a2 fun out k b j hk h hj hw=>?_
 rw [eC] at h;split at h
 ·rename_i u k2 he;exact xZ hwf (a1d he) rfl (by decide)
 ·cases h
end
end
end
section
section
variable {α β:Type} {kw:Nm→Bool} {andP:Pr→Pr→Pr} {rdP:List Tok→Nat→Nat→mH Pr} {l l':List Tok} {N d:Nat} {W W':Nat→Prop} {u:Nm}
variable (hE:oK l) (hN:a2K l l' N d u) (hwf:c3C l) (hP:aC N d (b8b kw l) (cQ rdP l) (cQ rdP l')) (aP:aA l 0 (cQ rdP l))
include hE hN
section
variable {ex ex':Nat→aR bW} (hx:∀k,aC N d wT (ex k) (ex' k)) (ax:∀k,aA l 1 (ex k))
include hx ax
theorem aC.eP:aC N d W (eN l ex) (eN l' ex'):=by
 unfold eN;have a1:∀out:List bW,aA l 0 (do let e ← ex 0;pure (out++[e]):aR (List bW)):=fun out=>((ax 0).le (by omega)).bl fun _=>aA.aO _
 have n1:∀out:List bW,aC N d wT (do let e ← ex 0;pure (out++[e]):aR (List bW)) (do let e ← ex' 0;pure (out++[e]):aR (List bW)):=fun out=>aC.bT hN (hx 0) (fun _=>aC.aO _) ((ax 0).le (by omega)) fun _=>aA.aO _
 have a2:∀out:List bW,aA l 0 (do aL l [[41]];pure out:aR (List bW)):=fun out=>((aA.exp hE _ _).le (by omega)).bl fun _=>aA.aO _
 refine aC.bT hN (aC.exp hE hN _) (fun _=>?_) ((aA.exp hE _ _).le (by omega)) fun _=>(aA.list hE a1 _).bl a2
 exact aC.bT hN (aC.list hE hN (by decide) (by decide) (fun _ _ _=>trivial) n1 a1 _) (fun _=>aC.bT hN (aC.exp hE hN _) (fun _=>aC.aO _) ((aA.exp hE _ _).le (by omega)) fun _=>aA.aO _) (aA.list hE a1 _) a2
theorem aC.a6y (op:Int):aC N d W (rV l ex op) (rV l' ex' op):=by
 unfold rV;have a2:∀e:bW,aA l 0 (do aL l [[41]];pure (bJ op [e]):aR bW):=fun e=>((aA.exp hE _ _).le (by omega)).bl fun _=>aA.aO _
 refine aC.bT hN (aC.exp hE hN _) (fun _=>?_) ((aA.exp hE _ _).le (by omega)) fun _=>((ax 0).le (by omega)).bl a2
 exact aC.bT hN (hx 0) (fun e=>aC.bT hN (aC.exp hE hN _) (fun _=>aC.aO _) ((aA.exp hE _ _).le (by omega)) fun _=>aA.aO _) ((ax 0).le (by omega)) a2
omit hE hN hx ax in
theorem c0t (hE:oK l):aA l 0 (fun i=>if aJ l i [40] then cV kw l i else .ok [] i:aR (List Nm)):=fun i b j hi h=>by
 simp only at h;split at h
 ·exact ((aA.words hE).le (by omega)) _ _ _ hi h
 ·cases h;omega
omit hx ax in
theorem d1h:aC N d W (fun i=>if aJ l i [40] then cV kw l i else .ok [] i:aR (List Nm)) (fun i=>if aJ l' i [40] then cV kw l' i else .ok [] i:aR (List Nm)):=fun i b j hi h hj hw=>by
 simp only at h ⊢;rw [hZ hN (by decide) (by decide) hi];split at h
 ·rename_i h1;rw [if_pos h1];exact aC.words hE hN i b j hi h hj hw
 ·rename_i h1;rw [if_neg h1];cases h
  rfl
theorem aC.a4r:aC N d W (mN kw l ex) (mN kw l' ex'):=by
 unfold mN;have a1:∀out:List (Nm×List Nm×bW),aA l 0 (do
  let c ← eV l
  let ns ← (fun i=>if aJ l i [40] then cV kw l i else .ok [] i:aR (List Nm))
  aL l [[45,62]]
  let b ← ex 0
  pure (out++[(c,ns,b)]):aR (List (Nm×List Nm×bW))):=fun out=>((aA.title hE).le (by omega)).bl fun _=>(c0t hE).bl fun _=>((aA.exp hE _ _).le (by omega)).bl fun _=>((ax 0).le (by omega)).bl fun _=>aA.aO _
 have n1:∀out:List (Nm×List Nm×bW),aC N d (fun j=>j<N) (do
  let c ← eV l
  let ns ← (fun i=>if aJ l i [40] then cV kw l i else .ok [] i:aR (List Nm))
  aL l [[45,62]]
  let b ← ex 0
  pure (out++[(c,ns,b)]):aR (List (Nm×List Nm×bW))) (do
  let c ← eV l'
  let ns ← (fun i=>if aJ l' i [40] then cV kw l' i else .ok [] i:aR (List Nm))
  aL l' [[45,62]]
  let b ← ex' 0
  pure (out++[(c,ns,b)]):aR (List (Nm×List Nm×bW))):=fun out=>aC.bT hN (aC.title hN) (fun c=>aC.bT hN (d1h hE hN) (fun ns=>aC.bT hN (aC.exp hE hN _) (fun _=>aC.bT hN (hx 0) (fun _=>aC.aO _) ((ax 0).le (by omega)) fun _=>aA.aO _) ((aA.exp hE _ _).le (by omega)) fun _=>((ax 0).le (by omega)).bl fun _=>aA.aO _) (c0t hE) fun _=>((aA.exp hE _ _).le (by omega)).bl fun _=>((ax 0).le (by omega)).bl fun _=>aA.aO _) ((aA.title hE).le (by omega)) fun _=>(c0t hE).bl fun _=>((aA.exp hE _ _).le (by omega)).bl fun _=>((ax 0).le (by omega)).bl fun _=>aA.aO _
 have a3:∀(e:bW) (alts:List (Nm×List Nm×bW)),aA l 0 (do aL l [[125]];pure { bJ 9 [e] with alts:=alts }:aR bW):=fun e alts=>((aA.exp hE _ _).le (by omega)).bl fun _=>aA.aO _
 refine aC.bT hN (hx 0) (fun e=>?_) ((ax 0).le (by omega)) fun e=>((aA.exp hE _ _).le (by omega)).bl fun _=>(aA.list hE a1 _).bl (a3 e)
 refine aC.bT hN (aC.exp hE hN _) (fun _=>?_) ((aA.exp hE _ _).le (by omega)) fun _=>(aA.list hE a1 _).bl (a3 e)
 refine aC.sF hN (aC.d7g hE hN n1 a1 _) (fun alts=>aC.bT hN (aC.exp hE hN _) (fun _=>aC.aO _) ((aA.exp hE _ _).le (by omega)) fun _=>aA.aO _) (aA.list hE a1 _) (a3 e) fun alts k b j hk h hj hw=>?_
 have:=((aA.exp hE _ _).bl fun _=>aA.aO _:aA l 1 (do aL l [[125]];pure { bJ 9 [e] with alts:=alts }:aR bW)) k b j (by have:=hN.len;omega) h;omega
include hwf hP aP
theorem aC.b9n:aC N d W (sY kw andP rdP l ex) (sY kw andP rdP l' ex'):=by
 unfold sY;have at0:aA l 0 (cB kw andP rdP l):=(aA.uQ hE aP).le (by omega);have a5:∀(nm:Nm) (ts:List Ty) (a:bW),aA l 0 (do aL l [[105,110]];let c ← ex 0;pure { bJ 7 [a,c] with name:=nm,types:=ts }:aR bW):=fun nm ts a=>((aA.exp hE _ _).le (by omega)).bl fun _=>((ax 0).le (by omega)).bl fun _=>aA.aO _
 have a4:∀(nm:Nm) (ts:List Ty),aA l 0 (do aL l [[61]];let a ← ex 0;aL l [[105,110]];let c ← ex 0;pure { bJ 7 [a,c] with name:=nm,types:=ts }:aR bW):=fun nm ts=>((aA.exp hE _ _).le (by omega)).bl fun _=>((ax 0).le (by omega)).bl fun a=>a5 nm ts a
 have a3:∀b:Bool,aA l 0 (if b then do let t ← cB kw andP rdP l;pure [t] else pure []:aR (List Ty)):=fun b=>aA.ite (at0.bl fun _=>aA.aO _) (aA.aO _)
 have n3:∀b:Bool,aC N d (Fol kw l) (if b then do let t ← cB kw andP rdP l;pure [t] else pure []:aR (List Ty)) (if b then do let t ← cB kw andP rdP l';pure [t] else pure []:aR (List Ty)):=fun b=>aC.ite (aC.sF hN (aC.uQ hE hN hwf hP aP) (fun _=>aC.aO _) at0 (fun _=>aA.aO _) fun t k b j hk h hj hw=>by cases h;exact hw) (aC.aO _)
 refine aC.bT hN (aC.word hN) (fun nm=>?_) ((aA.word hE).le (by omega)) fun nm=>(aA.skip hE _).bl fun b=>(a3 b).bl fun ts=>a4 nm ts
 refine aC.bT hN (aC.skip hN (by decide) (by decide)) (fun b=>?_) (aA.skip hE _) fun b=>(a3 b).bl fun ts=>a4 nm ts
 refine aC.sF hN (n3 b) (fun ts=>?_) (a3 b) (fun ts=>a4 nm ts) fun ts k b j hk h hj hw=>xZ hwf (a2L h) rfl (by decide)
 refine aC.bT hN (aC.exp hE hN _) (fun _=>?_) ((aA.exp hE _ _).le (by omega)) fun _=>((ax 0).le (by omega)).bl fun a=>a5 nm ts a
 refine aC.bT hN (hx 0) (fun a=>?_) ((ax 0).le (by omega)) fun a=>a5 nm ts a
 exact aC.bT hN (aC.exp hE hN _) (fun _=>aC.bT hN ((hx 0).mono fun _ _ _=>trivial) (fun _=>aC.aO _) ((ax 0).le (by omega)) fun _=>aA.aO _) ((aA.exp hE _ _).le (by omega)) fun _=>((ax 0).le (by omega)).bl fun _=>aA.aO _
theorem aC.b9o:aC N d W (sZ kw andP rdP l ex) (sZ kw andP rdP l' ex'):=by
 unfold sZ;have at0:aA l 0 (cB kw andP rdP l):=(aA.uQ hE aP).le (by omega);have at1:∀b:Bool,aA l 0 (if b then cB kw andP rdP l else pure pC):=fun b=>aA.ite at0 (aA.aO _)
 have nt1:∀b:Bool,aC N d (Fol kw l) (if b then cB kw andP rdP l else pure pC) (if b then cB kw andP rdP l' else pure pC):=fun b=>aC.ite (aC.uQ hE hN hwf hP aP) (aC.aO _)
 have a1:∀out:List (Nm×Ty),aA l 0 (do
  let w ← bN kw l
  let b ← cM l [58]
  let t ← (if b then cB kw andP rdP l else pure pC)
  pure (out++[(w,t)]):aR (List (Nm×Ty))):=fun out=>((aA.word hE).le (by omega)).bl fun _=>(aA.skip hE _).bl fun b=>(at1 b).bl fun _=>aA.aO _
 have n1:∀out:List (Nm×Ty),aC N d (Fol kw l) (do
  let w ← bN kw l
  let b ← cM l [58]
  let t ← (if b then cB kw andP rdP l else pure pC)
  pure (out++[(w,t)]):aR (List (Nm×Ty))) (do
  let w ← bN kw l'
  let b ← cM l' [58]
  let t ← (if b then cB kw andP rdP l' else pure pC)
  pure (out++[(w,t)]):aR (List (Nm×Ty))):=fun out=>aC.bT hN (aC.word hN) (fun w=>aC.bT hN (aC.skip hN (by decide) (by decide)) (fun b=>aC.sF hN (nt1 b) (fun _=>aC.aO _) (at1 b) (fun _=>aA.aO _) fun t k b j hk h hj hw=>by cases h;exact hw) (aA.skip hE _) fun b=>(at1 b).bl fun _=>aA.aO _) ((aA.word hE).le (by omega)) fun _=>(aA.skip hE _).bl fun b=>(at1 b).bl fun _=>aA.aO _
 have a2:∀ps:List (Nm×Ty),aA l 0 (do aL l [[41],[45,62]];let e ← ex 0;pure { bJ 6 [e] with params:=ps }:aR bW):=fun ps=>((aA.exp hE _ _).le (by omega)).bl fun _=>((ax 0).le (by omega)).bl fun _=>aA.aO _
 refine aC.bT hN (aC.exp hE hN _) (fun _=>?_) ((aA.exp hE _ _).le (by omega)) fun _=>(aA.list hE a1 _).bl a2
 refine aC.sF hN (aC.list hE hN (by decide) (by decide) (fun j _ hs=>xZ hwf hs rfl (by decide)) n1 a1 _) (fun ps=>?_) (aA.list hE a1 _) a2 fun ps k b j hk h hj hw=>xZ hwf (a2L h) rfl (by decide)
 exact aC.bT hN (aC.exp hE hN _) (fun _=>aC.bT hN ((hx 0).mono fun _ _ _=>trivial) (fun _=>aC.aO _) ((ax 0).le (by omega)) fun _=>aA.aO _) ((aA.exp hE _ _).le (by omega)) fun _=>((ax 0).le (by omega)).bl fun _=>aA.aO _
theorem aC.wH:aC N d W (dI kw andP rdP l ex) (dI kw andP rdP l' ex'):=by
 unfold dI;have hlen:=hN.len;have at0:aA l 0 (cB kw andP rdP l):=(aA.uQ hE aP).le (by omega);have a3:∀e:bW,aA l 0 (do aL l [[41]];pure e:aR bW):=fun e=>((aA.exp hE _ _).le (by omega)).bl fun _=>aA.aO _
 have a2:∀(e:bW) (b:Bool),aA l 0 (if b then do let t ← cB kw andP rdP l;pure { bJ 26 [e] with types:=[t] } else pure e:aR bW):=fun e b=>aA.ite (at0.bl fun _=>aA.aO _) (aA.aO _)
 have n2:∀(e:bW) (b:Bool),aC N d (Fol kw l) (if b then do let t ← cB kw andP rdP l;pure { bJ 26 [e] with types:=[t] } else pure e:aR bW) (if b then do let t ← cB kw andP rdP l';pure { bJ 26 [e] with types:=[t] } else pure e:aR bW):=fun e b=>aC.ite (aC.sF hN (aC.uQ hE hN hwf hP aP) (fun _=>aC.aO _) at0 (fun _=>aA.aO _) fun t k b j hk h hj hw=>by cases h;exact hw) (aC.aO _)
 have arest:∀e:bW,aA l 0 (do
   let b ← cM l [58]
   let e ← (if b then do let t ← cB kw andP rdP l;pure { bJ 26 [e] with types:=[t] } else pure e:aR bW)
   aL l [[41]]
   pure e:aR bW):=fun e=>(aA.skip hE _).bl fun b=>(a2 e b).bl a3
 have ainner:aA l 0 (fun i=>
  if aJ l i [45]&&decide ((aK l (i+1)).kind=3)&&dN (aK l (i+2)) [41] then .ok ⟨1,[], -(aK l (i+1)).n,[],[],[],[]⟩ (i+3)
  else (do
   let e ← ex 0
   let b ← cM l [58]
   let e ← (if b then do let t ← cB kw andP rdP l;pure { bJ 26 [e] with types:=[t] } else pure e:aR bW)
   aL l [[41]]
   pure e:aR bW) i:aR bW):=fun i a j hi h=>by
  simp only at h;split at h
  ·rename_i hc;simp only [d8D,decide_eq_true_eq] at hc;have n1:=aF hE hi hc.1.1;have n2:=kF hE n1 (by omega);have n3:=kF hE n2 (rW hE hc.2);cases h;omega
  ·exact (((ax 0).le (by omega:0≤1)).bl arest) i a j hi h
 refine aC.bT hN (aC.exp hE hN _) (fun _=>fun i a j hi h hj hw=>?_) ((aA.exp hE _ _).le (by omega)) fun _=>ainner
 simp only at h ⊢;by_cases hc:(aJ l i [45]&&decide ((aK l (i+1)).kind=3)&&dN (aK l (i+2)) [41])=true
 ·rw [if_pos hc] at h;cases h;have e1:aJ l' (i+d) [45]=aJ l i [45]:=a1c hN (by omega) _;have e2:(aK l' (i+d+1)).kind=(aK l (i+1)).kind:=by
   have:=hN.kind (i+1) (by omega)
   rwa [show i+1+d=i+d+1 by omega] at this
  have e3:dN (aK l' (i+d+2)) [41]=dN (aK l (i+2)) [41]:=by
   have:=b1g hN (i:=i+2) (by omega) [41]
   rwa [show i+2+d=i+d+2 by omega] at this
  have e4:(aK l' (i+d+1)).n=(aK l (i+1)).n:=by
   have:=hN.n (i+1) (by omega)
   rwa [show i+1+d=i+d+1 by omega] at this
  rw [e1,e2,e3,e4,if_pos hc,show i+3+d=i+d+3 by omega]
 ·rw [if_neg hc] at h;rw [eC] at h;cases hxi:ex 0 i with
  |bad n e=>rw [hxi] at h;cases h
  |ok e k=>
   rw [hxi] at h;have k1:=(ax 0) i e k (by omega) hxi;have k3:k<j:=by
    have hb:aA l 1 (do
     let b ← cM l [58]
     let e ← (if b then do let t ← cB kw andP rdP l;pure { bJ 26 [e] with types:=[t] } else pure e:aR bW)
     aL l [[41]]
     pure e:aR bW):=aA.br (aA.skip hE _) fun b=>aA.br (a2 e b) fun x=>(aA.exp hE _ _).bl fun _=>aA.aO x
    have:=hb k a j k1.2 h;omega
   have hc': ¬(aJ l' (i+d) [45]&&decide ((aK l' (i+d+1)).kind=3)&&dN (aK l' (i+d+2)) [41])=true:=by
    intro hcc;simp only [d8D,decide_eq_true_eq] at hcc;obtain ⟨⟨c1,c2⟩,c3⟩:=hcc;rw [hZ hN (by decide) (by decide) hi] at c1;have l1:=is_lt hN (by decide) (by decide) hi c1;have e2:(aK l (i+1)).kind=3:=by
     by_cases h1:i+1<N
     ·have:=hN.kind (i+1) h1;rw [show i+1+d=i+d+1 by omega] at this;rw [← this];exact c2
     ·have h1:i+1=N:=by omega
      have:=hN.a6c.1;rw [← h1,show i+1+d=i+d+1 by omega] at this;omega
    have h1:i+1<N:=by
     by_cases h1:i+1<N
     ·exact h1
     ·have h1:i+1=N:=by omega
      rw [h1] at e2;rcases hN.stp with q|⟨q,_⟩<;>omega
    by_cases h2:i+2<N
    ·have e3:=b1g hN h2 [41];rw [show i+2+d=i+d+2 by omega] at e3;rw [e3] at c3;exact hc (by simp [c1,e2,c3])
    ·have hk:k=i+1:=by omega
     subst hk;have nos:∀s:Nm,aJ l (i+1) s=false:=fun s=>by unfold aJ dN;simp [e2]
     simp only at h;have hsk:cM l [58] (i+1)= .ok false (i+1):=by
      unfold cM;rw [nos]
      rfl
     rw [aY hsk] at h;have:=a2L h;rw [nos] at this;cases this
   rw [if_neg hc'];have hk:=hx 0 i e k hi hxi (by omega) trivial;rw [aY hk];refine (aC.bT hN (aC.skip hN (by decide) (by decide)) (fun b=>?_) (aA.skip hE _) (fun b=>(a2 e b).bl a3):aC N d W _ _) k a j (by omega) h hj hw;exact aC.sF hN (n2 e b) (fun x=>aC.bT hN (aC.exp hE hN _) (fun _=>aC.aO _) ((aA.exp hE _ _).le (by omega)) fun _=>aA.aO _) (a2 e b) a3 fun x k b j hk h hj hw=>xZ hwf (a2L h) rfl (by decide)
theorem aC.a9H:aC N d W (mV kw andP rdP l ex) (mV kw andP rdP l' ex'):=fun i a j hi h hj hw=>by
 have hlen:=hN.len;have anext:∀ {m:Nat} {x:aR bW} {s:Nm},aJ l i s=true→aA l m x→x (i+1)= .ok a j→i+1≤j:=fun hs hx h=>by have:=hx (i+1) a j (aF hE (by omega) hs) h;omega
 have at0:aA l 0 (mM kw andP rdP l):=aA.types hE aP;have aargs:aA l 0 (eN l ex):=(aA.eP hE ax).le (by omega);have shift:∀ {y:aR bW},y (i+1+d)= .ok a (j+d)→y (i+d+1)= .ok a (j+d):=fun h=>by rwa [show i+d+1=i+1+d by omega]
 unfold mV at h ⊢;have ek:(aK l' (i+d)).kind=3↔(aK l i).kind=3:=by
  by_cases h1:i=N
  ·subst h1;have:=hN.a6c.1;rcases hN.stp with q|⟨q,_⟩<;>omega
  ·rw [hN.kind i (by omega)]
 by_cases c0:(aK l i).kind=3
 ·rw [if_pos c0] at h;rw [if_pos (ek.2 c0),hN.n i (by cases h;omega)];cases h;rw [show i+1+d=i+d+1 by omega]
 rw [if_neg c0] at h;rw [if_neg (fun e=>c0 (ek.1 e))];have eis:∀s:Nm,s≠[41]→s≠[59]→aJ l' (i+d) s=aJ l i s:=fun s h1 h2=>hZ hN h1 h2 hi
 rw [eis _ (by decide) (by decide),eis _ (by decide) (by decide),eis _ (by decide) (by decide),eis _ (by decide) (by decide),eis _ (by decide) (by decide),a6d hN hi,a6e hN hi];split at h
 ·rename_i h1;rw [if_pos h1];cases h;rw [show i+1+d=i+d+1 by omega]
 rename_i h1;rw [if_neg h1];split at h
 ·rename_i h2;rw [if_pos h2];cases h;rw [show i+1+d=i+d+1 by omega]
 rename_i h2;rw [if_neg h2];split at h
 ·rename_i h3;rw [if_pos h3];have:=anext h3 (aA.a6y hE ax 22) h;exact shift (aC.a6y hE hN hx ax 22 (i+1) a j (by omega) h hj hw)
 rename_i h3;rw [if_neg h3];split at h
 ·rename_i h4;rw [if_pos h4];have:=anext h4 (aA.a6y hE ax 23) h;exact shift (aC.a6y hE hN hx ax 23 (i+1) a j (by omega) h hj hw)
 rename_i h4;rw [if_neg h4];split at h
 ·rename_i h5;rw [if_pos h5];have a5:∀x y:bW,aA l 0 (do aL l [[41]];pure (bJ 24 [x,y]):aR bW):=fun x y=>((aA.exp hE _ _).le (by omega)).bl fun _=>aA.aO _
  have a4:∀x:bW,aA l 0 (do aL l [[44]];let y ← ex 0;aL l [[41]];pure (bJ 24 [x,y]):aR bW):=fun x=>((aA.exp hE _ _).le (by omega)).bl fun _=>((ax 0).le (by omega)).bl (a5 x)
  have a3:aA l 0 (do aL l [[40]];let x ← ex 0;aL l [[44]];let y ← ex 0;aL l [[41]];pure (bJ 24 [x,y]):aR bW):=((aA.exp hE _ _).le (by omega)).bl fun _=>((ax 0).le (by omega)).bl a4
  have:=anext h5 a3 h;refine shift ((aC.bT hN (aC.exp hE hN _) (fun _=>aC.bT hN (hx 0) (fun x=>aC.bT hN (aC.exp hE hN _) (fun _=>aC.bT hN (hx 0) (fun y=>aC.bT hN (aC.exp hE hN _) (fun _=>aC.aO _) ((aA.exp hE _ _).le (by omega)) fun _=>aA.aO _) ((ax 0).le (by omega)) (a5 x)) ((aA.exp hE _ _).le (by omega)) fun _=>((ax 0).le (by omega)).bl (a5 x)) ((ax 0).le (by omega)) a4) ((aA.exp hE _ _).le (by omega)) (fun _=>((ax 0).le (by omega)).bl a4):aC N d W _ _) (i+1) a j (by omega) h hj hw)
 rename_i h5;rw [if_neg h5];split at h
 ·rename_i h6;rw [if_pos h6];have hlt:=d2N hN hi h6;have e1:∀s:Nm,s≠[41]→s≠[59]→aJ l' (i+d+1) s=aJ l (i+1) s:=fun s q1 q2=>by
   have:=hZ hN q1 q2 (i:=i+1) (by omega)
   rwa [show i+1+d=i+d+1 by omega] at this
  rw [e1 _ (by decide) (by decide),e1 _ (by decide) (by decide),hN.text i hlt];split at h
  ·rename_i h7;rw [if_pos h7];cases h;rw [show i+1+d=i+d+1 by omega]
  ·rename_i h7;rw [if_neg h7];refine shift ((aC.bT hN (aC.types hE hN hwf hP aP) (fun ts=>aC.bT hN (aC.eP hE hN hx ax) (fun _=>aC.aO _) aargs fun _=>aA.aO _) at0 (fun ts=>aargs.bl fun _=>aA.aO _):aC N d W _ _) (i+1) a j (by omega) h hj hw)
 rename_i h6;rw [if_neg h6];split at h
 ·rename_i h7;rw [if_pos h7];have hlt:=d7f hN hi h7;rw [hN.text i hlt];have aa:aA l 0 (fun j=>if aJ l j [40] then eN l ex j else .ok [] j:aR (List bW)):=fun i b j hi h=>by
   simp only at h;split at h
   ·exact aargs _ _ _ hi h
   ·cases h;omega
  have na:aC N d wT (fun j=>if aJ l j [40] then eN l ex j else .ok [] j:aR (List bW)) (fun j=>if aJ l' j [40] then eN l' ex' j else .ok [] j:aR (List bW)):=fun i b j hi h hj hw=>by
   simp only at h ⊢;rw [hZ hN (by decide) (by decide) hi];split at h
   ·rename_i h1;rw [if_pos h1];exact aC.eP hE hN hx ax i b j hi h hj hw
   ·rename_i h1;rw [if_neg h1];cases h
    rfl
  refine shift ((aC.bT hN (aC.types hE hN hwf hP aP) (fun ts=>aC.bT hN na (fun _=>aC.aO _) aa fun _=>aA.aO _) at0 (fun ts=>aa.bl fun _=>aA.aO _):aC N d W _ _) (i+1) a j (by omega) h hj hw)
 rename_i h7;rw [if_neg h7];exact aC.wH hE hN hwf hP aP hx ax i a j hi h hj hw
theorem aC.unG:aC N d W (mA kw andP rdP l ex) (mA kw andP rdP l' ex'):=fun i a j hi h hj hw=>by
 have hlen:=hN.len;unfold mA at h ⊢;rw [hZ hN (by decide) (by decide) hi];split at h
 ·rename_i h1;rw [if_pos h1];have hlt:=is_lt hN (by decide) (by decide) hi h1;have:=(aC.bT hN (hx 7) (fun _=>aC.aO _) ((ax 7).le (by omega)) (fun _=>aA.aO _):aC N d W _ _) (i+1) a j (by omega) h hj hw
  rwa [show i+1+d=i+d+1 by omega] at this
 ·rename_i h1;rw [if_neg h1];exact aC.a9H hE hN hwf hP aP hx ax i a j hi h hj hw
omit hwf hP aP hx ax in
theorem c3M {ops:List (Nm×Int)}(ho:∀p∈ops,p.1≠[41]∧p.1≠[59]){i:Nat}(hi:i≤N):(ops.find? fun p=>aJ l' (i+d) p.1)=ops.find? fun p=>aJ l i p.1:=find_congr fun p hp=>hZ hN (ho p hp).1 (ho p hp).2 hi
omit hwf hP aP hx ax in
theorem aC.chain {ops:List (Nm×Int)}{one one':aR bW}(ho:∀p∈ops,p.1≠[41]∧p.1≠[59])(h0:aC N d wT one one')(a0:aA l 0 one):∀(g g':Nat) (e0:bW),g≤g'→aC N d W (cN l ops one g e0) (cN l' ops one' g' e0)
 |0,g',e0,hg=>fun i b j hi h hj _=>by unfold cN at h;cases h
 |g+1,g',e0,hg=>fun i b j hi h hj hw=>by
  obtain ⟨g',rfl⟩:∃k,g'=k+1:=⟨g'-1,by omega⟩;have hlen:=hN.len;unfold cN at h ⊢;rw [c3M hE hN ho hi];split at h
  ·rename_i hf;cases h
   rfl
  ·rename_i p hp;have hs:aJ l i p.1=true:=by simpa using List.find?_some hp
   have hn:=aF hE (by omega) hs;have hlt:=is_lt hN (ho p (List.mem_of_find?_eq_some hp)).1 (ho p (List.mem_of_find?_eq_some hp)).2 hi hs;split at h
   ·cases h
   ·rename_i x k hk;have k1:=a0 (i+1) x k hn hk;have k2:=aA.chain hE a0 g (bJ p.2 [e0,x]) k b j k1.2 h;have:=h0 (i+1) x k (by omega) hk (by omega) trivial;rw [show i+1+d=i+d+1 by omega] at this;rw [this];exact aC.chain ho h0 a0 g g' _ (by omega) k b j (by omega) h hj hw
omit hwf hP aP hx ax in
theorem aC.lvl {ops:List (Nm×Int)}{one one':aR bW}(ho:∀p∈ops,p.1≠[41]∧p.1≠[59])(h0:aC N d wT one one')(a0:aA l 0 one):aC N d W (pR l ops one) (pR l' ops one'):=by unfold pR;exact aC.bT hN h0 (fun e=>aC.chain hE hN ho h0 a0 _ _ e (by have:=hN.le;omega)) a0 fun e=>aA.chain hE a0 _ e
theorem aC.a1w:aC N d W (bX kw andP rdP l ex) (bX kw andP rdP l' ex'):=
 aC.lvl hE hN (by decide) (aC.lvl hE hN (by decide) (aC.unG hE hN hwf hP aP hx ax) ((aA.unG hE ax aP).le (by omega))) ((aA.b6N hE ax aP).le (by omega))
theorem aC.yC:aC N d W (kU kw andP rdP l ex) (kU kw andP rdP l' ex'):=by
 unfold kU;have hlen:=hN.len;have hs:aC N d wT (bX kw andP rdP l ex) (bX kw andP rdP l' ex'):=aC.a1w hE hN hwf hP aP hx ax;have ha:aA l 0 (bX kw andP rdP l ex):=(aA.a1w hE ax aP).le (by omega);have a1:∀f:bW→bW,aA l 0 (bX kw andP rdP l ex >>=fun x=>pure (f x)):=fun f=>ha.bl fun _=>aA.aO _
 have n1:∀f:bW→bW,aC N d W (bX kw andP rdP l ex >>=fun x=>pure (f x)) (bX kw andP rdP l' ex' >>=fun x=>pure (f x)):=fun f=>aC.bT hN hs (fun _=>aC.aO _) ha fun _=>aA.aO _
 have one:∀(f:bW→bW) (i:Nat) (w:Nm) (a:bW) (j:Nat),w≠[41]→w≠[59]→i≤N→aJ l i w=true→(bX kw andP rdP l ex >>=fun x=>pure (f x)) (i+1)= .ok a j→j≤N→W j→(bX kw andP rdP l' ex' >>=fun x=>pure (f x)) (i+d+1)= .ok a (j+d):=fun f i w a j w1 w2 hi hw h hj hW=>by
  have hlt:=is_lt hN w1 w2 hi hw;have:=n1 f (i+1) a j (by omega) h hj hW
  rwa [show i+1+d=i+d+1 by omega] at this
 have arest:∀e:bW,aA l 0 (fun i=>
  if aJ l i [61,61] then (do let x ← bX kw andP rdP l ex;pure (bJ 16 [e,x]):aR bW) (i+1)
  else if aJ l i [33,61] then (do let x ← bX kw andP rdP l ex;pure (bJ 21 [bJ 16 [e,x]]):aR bW) (i+1)
  else if aJ l i [60] then (do let x ← bX kw andP rdP l ex;pure (bJ 17 [e,x]):aR bW) (i+1)
  else if aJ l i [60,61] then (do let x ← bX kw andP rdP l ex;pure (bJ 18 [e,x]):aR bW) (i+1)
  else if aJ l i [62] then (do let x ← bX kw andP rdP l ex;pure (bJ 17 [x,e]):aR bW) (i+1)
  else if aJ l i [62,61] then (do let x ← bX kw andP rdP l ex;pure (bJ 18 [x,e]):aR bW) (i+1)
  else .ok e i:aR bW):=fun e i a j hi h=>by
  have nx:∀(f:bW→bW) (w:Nm),aJ l i w=true→(bX kw andP rdP l ex >>=fun x=>pure (f x)) (i+1)= .ok a j→i+0≤j∧j<l.length:=fun f w hw h=>by have:=a1 f (i+1) a j (aF hE hi hw) h;omega
  simp only at h;split at h
  ·rename_i hw;exact nx _ _ hw h
  split at h
  ·rename_i hw;exact nx _ _ hw h
  split at h
  ·rename_i hw;exact nx _ _ hw h
  split at h
  ·rename_i hw;exact nx _ _ hw h
  split at h
  ·rename_i hw;exact nx _ _ hw h
  split at h
  ·rename_i hw;exact nx _ _ hw h
  cases h;omega
 refine aC.bT hN hs (fun e=>fun i a j hi h hj hW=>?_) ha arest;have eis:∀s:Nm,s≠[41]→s≠[59]→aJ l' (i+d) s=aJ l i s:=fun s h1 h2=>hZ hN h1 h2 hi
 split at h
 ·rename_i hw;exact (if_pos ((eis _ (by decide) (by decide)).trans hw)).trans (one _ i _ a j (by decide) (by decide) hi hw h hj hW)
 rename_i hw;refine (if_neg (fun q=>hw ((eis _ (by decide) (by decide)).symm.trans q))).trans ?_
 split at h
 ·rename_i hw;exact (if_pos ((eis _ (by decide) (by decide)).trans hw)).trans (one _ i _ a j (by decide) (by decide) hi hw h hj hW)
 rename_i hw;refine (if_neg (fun q=>hw ((eis _ (by decide) (by decide)).symm.trans q))).trans ?_
 split at h
 ·rename_i hw;exact (if_pos ((eis _ (by decide) (by decide)).trans hw)).trans (one _ i _ a j (by decide) (by decide) hi hw h hj hW)
 rename_i hw;refine (if_neg (fun q=>hw ((eis _ (by decide) (by decide)).symm.trans q))).trans ?_
 split at h
 ·rename_i hw;exact (if_pos ((eis _ (by decide) (by decide)).trans hw)).trans (one _ i _ a j (by decide) (by decide) hi hw h hj hW)
 rename_i hw;refine (if_neg (fun q=>hw ((eis _ (by decide) (by decide)).symm.trans q))).trans ?_
 split at h
 ·rename_i hw;exact (if_pos ((eis _ (by decide) (by decide)).trans hw)).trans (one _ i _ a j (by decide) (by decide) hi hw h hj hW)
 rename_i hw;refine (if_neg (fun q=>hw ((eis _ (by decide) (by decide)).symm.trans q))).trans ?_
 split at h
 ·rename_i hw;exact (if_pos ((eis _ (by decide) (by decide)).trans hw)).trans (one _ i _ a j (by decide) (by decide) hi hw h hj hW)
 rename_i hw;refine (if_neg (fun q=>hw ((eis _ (by decide) (by decide)).symm.trans q))).trans ?_
 cases h
 rfl
theorem aC.a0L:aC N d W (mP kw andP rdP l ex) (mP kw andP rdP l' ex'):=fun i a j hi h hj hw=>by
 have hlen:=hN.len;unfold mP at h ⊢;rw [hZ hN (by decide) (by decide) hi];split at h
 ·rename_i h1;rw [if_pos h1];have hlt:=is_lt hN (by decide) (by decide) hi h1;have:=(aC.bT hN (hx 3) (fun _=>aC.aO _) ((ax 3).le (by omega)) (fun _=>aA.aO _):aC N d W _ _) (i+1) a j (by omega) h hj hw
  rwa [show i+1+d=i+d+1 by omega] at this
 ·rename_i h1;rw [if_neg h1];exact aC.yC hE hN hwf hP aP hx ax i a j hi h hj hw
theorem aC.orG:aC N d W (xO kw andP rdP l ex) (xO kw andP rdP l' ex'):=
 aC.lvl hE hN (by decide) (aC.lvl hE hN (by decide) (aC.a0L hE hN hwf hP aP hx ax) ((aA.a0L hE ax aP).le (by omega))) ((aA.lvl hE (aA.a0L hE ax aP)).le (by omega))
theorem aC.exG:aC N d W (sH kw andP rdP l ex) (sH kw andP rdP l' ex'):=fun i a j hi h hj hw=>by
 have hlen:=hN.len;have ax0:aA l 0 (ex 0):=(ax 0).le (by omega);have aargs:aA l 0 (eN l ex):=(aA.eP hE ax).le (by omega);have shift:∀ {y:aR bW},y (i+1+d)= .ok a (j+d)→y (i+d+1)= .ok a (j+d):=fun h=>by rwa [show i+d+1=i+1+d by omega]
 have ilt:∀ {s:Nm},s≠[41]→s≠[59]→aJ l i s=true→i+1≤N:=fun h1 h2 hs=>is_lt hN h1 h2 hi hs
 unfold sH at h ⊢;have eis:∀s:Nm,s≠[41]→s≠[59]→aJ l' (i+d) s=aJ l i s:=fun s h1 h2=>hZ hN h1 h2 hi
 rw [eis _ (by decide) (by decide),eis _ (by decide) (by decide),eis _ (by decide) (by decide),eis _ (by decide) (by decide),eis _ (by decide) (by decide)];split at h
 ·rename_i h1;rw [if_pos h1];exact shift (aC.b9n hE hN hwf hP aP hx ax (i+1) a j (ilt (by decide) (by decide) h1) h hj hw)
 rename_i h1;rw [if_neg h1];split at h
 ·rename_i h2;rw [if_pos h2];have a5:∀x y:bW,aA l 0 (do aL l [[101,108,115,101]];let z ← ex 0;pure (bJ 8 [x,y,z]):aR bW):=fun x y=>((aA.exp hE _ _).le (by omega)).bl fun _=>ax0.bl fun _=>aA.aO _
  have a4:∀x:bW,aA l 0 (do aL l [[116,104,101,110]];let y ← ex 0;aL l [[101,108,115,101]];let z ← ex 0;pure (bJ 8 [x,y,z]):aR bW):=fun x=>((aA.exp hE _ _).le (by omega)).bl fun _=>ax0.bl (a5 x)
  exact shift ((aC.bT hN (hx 0) (fun x=>aC.bT hN (aC.exp hE hN _) (fun _=>aC.bT hN (hx 0) (fun y=>aC.bT hN (aC.exp hE hN _) (fun _=>aC.bT hN (hx 0) (fun _=>aC.aO _) ax0 fun _=>aA.aO _) ((aA.exp hE _ _).le (by omega)) fun _=>ax0.bl fun _=>aA.aO _) ax0 (a5 x)) ((aA.exp hE _ _).le (by omega)) fun _=>ax0.bl (a5 x)) ax0 a4:aC N d W _ _) (i+1) a j (ilt (by decide) (by decide) h2) h hj hw)
 rename_i h2;rw [if_neg h2];split at h
 ·rename_i h3;rw [if_pos h3];exact shift (aC.a4r hE hN hx ax (i+1) a j (ilt (by decide) (by decide) h3) h hj hw)
 rename_i h3;rw [if_neg h3];split at h
 ·rename_i h4;rw [if_pos h4];exact shift (aC.b9o hE hN hwf hP aP hx ax (i+1) a j (ilt (by decide) (by decide) h4) h hj hw)
 rename_i h4;rw [if_neg h4];split at h
 ·rename_i h5;rw [if_pos h5];have a5:∀(nm:Nm) (ks:List bW),aA l 0 (do aL l [[105,110]];let b ← ex 0;pure { bJ 25 (ks++[b]) with name:=nm }:aR bW):=fun nm ks=>((aA.exp hE _ _).le (by omega)).bl fun _=>ax0.bl fun _=>aA.aO _
  exact shift ((aC.bT hN (aC.word hN) (fun nm=>aC.bT hN (aC.eP hE hN hx ax) (fun ks=>aC.bT hN (aC.exp hE hN _) (fun _=>aC.bT hN (hx 0) (fun _=>aC.aO _) ax0 fun _=>aA.aO _) ((aA.exp hE _ _).le (by omega)) fun _=>ax0.bl fun _=>aA.aO _) aargs (a5 nm)) ((aA.word hE).le (by omega)) (fun nm=>aargs.bl (a5 nm)):aC N d W _ _) (i+1) a j (ilt (by decide) (by decide) h5) h hj hw)
 rename_i h5;rw [if_neg h5];exact aC.orG hE hN hwf hP aP hx ax i a j hi h hj hw
end
include hwf hP aP
theorem aC.exF:∀n n',n≤n'→∀k,aC N d wT (jG kw andP rdP l n k) (jG kw andP rdP l' n' k)
 |0,n',_,k=>fun i a j hi h hj hw=>by unfold jG at h;cases h
 |n+1,n',hn,k=>by
  obtain ⟨n',rfl⟩:∃k,n'=k+1:=⟨n'-1,by omega⟩;have hx:=aC.exF n n' (by omega);have ax:=aA.exF (kw:=kw) (andP:=andP) hE aP n;unfold jG;split
  ·exact aC.unG hE hN hwf hP aP hx ax
  ·split
   ·exact aC.a0L hE hN hwf hP aP hx ax
   ·exact aC.exG hE hN hwf hP aP hx ax
end
end
section
theorem b5u (l:List Tok){i:Nat}(hi:i≤l.length):tL l i l.length=match RR bA (l.drop i) 0 1 with
 |none=> .bad (aK l i).line 14
 |some (p,n)=>if a6C p=0 then .ok p (i+n) else .bad (aK l i).line (a6C p):=by
 unfold tL;rw [List.take_of_length_le (d8T _),Nat.min_eq_left hi]
 rfl
theorem a6X {l:List Tok}{i:Nat}(hi:i<l.length):l[i]? =some (aK l i):=by
 unfold aK;rw [if_pos hi,List.getD_eq_getElem?_getD,d8H hi]
 rfl
section
variable {l l':List Tok} {N d:Nat} {u:Nm}
theorem c6V (hN:a2K l l' N d u){i:Nat}(hi:i≤N):zS (l.drop i) (l'.drop (i+d)) (N-i):=by
 have h1:=hN.len;have h2:=hN.b2g;have hu:u=[41]∨u=[59]:=hN.uu;refine ⟨fun m hm=>?_,?_,?_⟩
 ·refine ⟨aK l (i+m),aK l' (i+m+d),?_,?_,hN.kind _ (by omega),hN.text _ (by omega),hN.n _ (by omega)⟩
  ·rw [d8W,a6X (by omega)]
  ·rw [d8W,show i+d+m=i+m+d by omega,a6X (by omega)]
 ·refine ⟨aK l N,?_,?_⟩
  ·rw [d8W,show i+(N-i)=N by omega,a6X h1]
  ·rcases hN.stp with h|⟨h,h3⟩
   ·exact .inl h
   ·exact .inr ⟨h,by rw [h3];exact hu⟩
 ·refine ⟨aK l' (N+d),?_,?_⟩
  ·rw [d8W,show i+d+(N-i)=N+d by omega,a6X h2]
  ·exact .inr ⟨hN.a6c.1,by rw [hN.a6c.2];exact hu⟩
theorem aC.c6W (hE:oK l)(hN:a2K l l' N d u):aC N d (b8b bA l) (cQ tL l) (cQ tL l'):=fun i p j hi h hj hw=>by
 have h1:=hN.len;have h2:=hN.b2g;unfold cQ at h ⊢;rw [b5u l (by omega)] at h;rw [b5u l' (by omega)];split at h
 ·cases h
 ·rename_i q n hr;split at h
  ·rename_i hc;cases h;have hx:=d5b (c6V hN hi) hr (by omega) ?_
   ·rw [hx];simp only;rw [if_pos hc,show i+d+n=i+n+d by omega]
   ·rintro ⟨s,hs,hd⟩;have hkt:(aK l (i+n)).kind=4∧(aK l (i+n)).text=s:=by unfold hU at hs;rw [d8W,a6X (by omega)] at hs;simpa using hs
    have hf:=hw hkt.1;rw [hkt.2] at hf;rcases hd with hd|⟨hd,hno⟩
    ·exact hf.1 hd
    ·rcases hf.2 with hf|hf
     ·omega
     ·refine hno ⟨aK l (i+n+1),?_,hf⟩;have:=kF hE (i:=i+n) (by omega) (by omega);rw [d8W,show i+(n+1)=i+n+1 by omega,a6X this]
  ·cases h
theorem aD.c6W (hW:WfD l)(aP:aA l 0 (cQ tL l)):aD l 0 (cQ tL l):=fun i p j hi h=>by
 have ha:=aP i p j hi h;refine ⟨by omega,ha.2,?_⟩;unfold cQ at h;rw [b5u l (by omega)] at h;split at h
 ·cases h
 ·rename_i q n hr;split at h
  ·cases h;have hL:l.drop i=(l.take l.length).drop i:=by rw [List.take_of_length_le (d8T _)]
   have hb:=c1z bA (hW.part l.length i) _ _ _ _ _ (by rw [← hL];exact hr);have had:=c6b bA _ _ _ _ _ hr;rw [List.length_drop] at had;rw [c6H l l.length i n (by omega)] at hb;exact hb
  ·cases h
end
end
section
def mQ (l:List Tok)(i:Nat)(w:Nm):Prop:=(aK l i).kind=4∧(aK l i).text=w
def a8q (l:List Tok)(i:Nat):Prop:=(aK l i).kind=0
section
variable {kw:Nm→Bool} {andP:Pr→Pr→Pr} {rdP:List Tok→Nat→Nat→mH Pr} {l:List Tok} {ex:Nat→aR bW} {i j k k1 k2 k3:Nat} {a b c e:bW}
theorem mQ.is {w:Nm}(h:mQ l i w)(s:Nm):aJ l i s=decide (w=s):=by unfold aJ dN;rw [h.1,h.2];simp
theorem mQ.no {w s:Nm}(h:mQ l i w)(hs:w≠s):aJ l i s=false:=by rw [h.is];simp [hs]
theorem a8q.no (h:a8q l i)(s:Nm):aJ l i s=false:=by unfold aJ dN;rw [h];simp
def b1k (l:List Tok)(k:Nat)(ops:List (Nm×Int)):Prop:=∀p∈ops,aJ l k p.1=false
theorem a8q.sD (h:a8q l k)(ops:List (Nm×Int)):b1k l k ops:=fun p _=>h.no _
theorem mQ.sD {w:Nm}(h:mQ l k w){ops:List (Nm×Int)}(hw:∀p∈ops,w≠p.1):b1k l k ops:=fun p hp=>h.no (hw p hp)
theorem d1i {ops:List (Nm×Int)}(h:b1k l k ops):(ops.find? fun p=>aJ l k p.1)=none:=List.find?_eq_none.2 fun p hp=>by rw [h p hp];decide
theorem b8q {ops:List (Nm×Int)}{one:aR bW}(g:Nat):cN l ops one (g+1) e k=match ops.find? fun p=>aJ l k p.1 with
  |none=> .ok e k
  |some p=>match one (k+1) with
   | .bad n e=> .bad n e
   | .ok x j=>cN l ops one g (bJ p.2 [e,x]) j:=by
 rw [cN]
 rfl
theorem a2M {ops:List (Nm×Int)}{one:aR bW}(h:b1k l k ops)(g:Nat):cN l ops one (g+1) e k= .ok e k:=by rw [b8q,d1i h]
theorem a0q {ops:List (Nm×Int)}{one:aR bW}{w:Nm}{op:Int}(hs:mQ l k w)(hf:(ops.find? fun p=>decide (w=p.1))=some (w,op))(h1:one (k+1)= .ok b j)(g:Nat):cN l ops one (g+1) e k=cN l ops one g (bJ op [e,b]) j:=by
 have hf2:(ops.find? fun p=>aJ l k p.1)=some (w,op):=by rw [← hf];congr 1;funext p;exact hs.is p.1
 rw [b8q,hf2];simp only [h1]
theorem b1l {ops:List (Nm×Int)}{one:aR bW}(h1:one i= .ok e k):pR l ops one i=cN l ops one (l.length+2) e k:=by unfold pR;rw [aY h1]
theorem a1e {ops:List (Nm×Int)}{one:aR bW}(h1:one i= .ok e k)(h:b1k l k ops):pR l ops one i= .ok e k:=by rw [b1l h1,a2M h]
theorem a8I {ops:List (Nm×Int)}{one:aR bW}(h:pR l ops one i= .ok a j):∃e k,one i= .ok e k:=by
 unfold pR at h;rw [eC] at h;cases h1:one i with
 |bad n e=>rw [h1] at h;cases h
 |ok e k=>exact ⟨e,k,rfl⟩
abbrev c1E:List (Nm×Int):=[([42],12),([100,105,118],13),([109,111,100],14)]
abbrev c0u:List (Nm×Int):=[([43],10),([45],11)]
abbrev d5g:List (Nm×Int):=[([38,38],19)]
abbrev d7i:List (Nm×Int):=[([124,124],20)]
def a8r (l:List Tok)(k:Nat):Prop:=a8q l k∨mQ l k [41]
theorem a8r.sD (h:a8r l k){ops:List (Nm×Int)}(ho:∀p∈ops,[41]≠p.1):b1k l k ops:=by
 rcases h with h|h
 ·exact h.sD _
 ·exact h.sD ho
theorem a8r.no (h:a8r l k){s:Nm}(hs:[41]≠s):aJ l k s=false:=by
 rcases h with h|h
 ·exact h.no _
 ·exact h.no hs
theorem c0v (h1:bX kw andP rdP l ex i= .ok e k)(h:∀s∈([[61,61],[33,61],[60],[60,61],[62],[62,61]]:List Nm),aJ l k s=false):kU kw andP rdP l ex i= .ok e k:=by
 unfold kU;refine (aY h1).trans ?_
 refine (if_neg (by rw [h _ (by simp)];decide)).trans ?_
 refine (if_neg (by rw [h _ (by simp)];decide)).trans ?_
 refine (if_neg (by rw [h _ (by simp)];decide)).trans ?_
 refine (if_neg (by rw [h _ (by simp)];decide)).trans ?_
 refine (if_neg (by rw [h _ (by simp)];decide)).trans ?_
 exact if_neg (by rw [h _ (by simp)];decide)
theorem c0l (h1:bX kw andP rdP l ex i= .ok a k)(hs:mQ l k [60])(h2:bX kw andP rdP l ex (k+1)= .ok b j):kU kw andP rdP l ex i= .ok (bJ 17 [a,b]) j:=by
 unfold kU;refine (aY h1).trans ?_
 refine (if_neg (by rw [hs.is];decide)).trans ?_
 refine (if_neg (by rw [hs.is];decide)).trans ?_
 refine (if_pos (by rw [hs.is];decide)).trans ?_
 exact (aY h2).trans rfl
theorem d5h (h1:bX kw andP rdP l ex i= .ok a k)(hs:mQ l k [62])(h2:bX kw andP rdP l ex (k+1)= .ok b j):kU kw andP rdP l ex i= .ok (bJ 17 [b,a]) j:=by
 unfold kU;refine (aY h1).trans ?_
 refine (if_neg (by rw [hs.is];decide)).trans ?_
 refine (if_neg (by rw [hs.is];decide)).trans ?_
 refine (if_neg (by rw [hs.is];decide)).trans ?_
 refine (if_neg (by rw [hs.is];decide)).trans ?_
 refine (if_pos (by rw [hs.is];decide)).trans ?_
 exact (aY h2).trans rfl
theorem d1j (h:kU kw andP rdP l ex i= .ok a j):∃e k,bX kw andP rdP l ex i= .ok e k:=by
 unfold kU at h;cases h1:bX kw andP rdP l ex i with
 |bad n e=>have:=(cW h1).symm.trans h;cases this
 |ok e k=>exact ⟨e,k,rfl⟩
theorem a6Y (h:aJ l i [33]=false):mP kw andP rdP l ex i=kU kw andP rdP l ex i:=by unfold mP;exact if_neg (by rw [h];decide)
theorem d7j (h:aJ l i [45]=false):mA kw andP rdP l ex i=mV kw andP rdP l ex i:=by unfold mA;exact if_neg (by rw [h];decide)
theorem a6Z (h:mA kw andP rdP l ex i= .ok e k)(h1:b1k l k c1E)(h2:b1k l k c0u):bX kw andP rdP l ex i= .ok e k:=a1e (a1e h h1) h2
theorem c6X (h:mP kw andP rdP l ex i= .ok e k)(h1:b1k l k d5g)(h2:b1k l k d7i):xO kw andP rdP l ex i= .ok e k:=a1e (a1e h h1) h2
theorem a8r.cmp (h:a8r l k):∀s∈([[61,61],[33,61],[60],[60,61],[62],[62,61]]:List Nm),aJ l k s=false:=fun s hs=>h.no (by simp at hs;rcases hs with rfl|rfl|rfl|rfl|rfl|rfl<;>decide)
theorem b1m (h:mQ l i [40]):sH kw andP rdP l ex i=xO kw andP rdP l ex i:=by
 unfold sH;refine (if_neg (by rw [h.is];decide)).trans ?_
 refine (if_neg (by rw [h.is];decide)).trans ?_
 refine (if_neg (by rw [h.is];decide)).trans ?_
 refine (if_neg (by rw [h.is];decide)).trans ?_
 exact if_neg (by rw [h.is];decide)
theorem b1n (h:mQ l i [40]):mA kw andP rdP l ex i=dI kw andP rdP l ex i:=by
 rw [d7j (h.no (by decide))];have hk:(aK l i).kind=4:=h.1;have hwd:jJ kw (aK l i)=false:=by unfold jJ;rw [hk];simp
 have hti:kT (aK l i)=false:=by unfold kT;rw [hk];simp
 unfold mV;refine (if_neg (by omega)).trans ?_
 refine (if_neg (by rw [h.is];decide)).trans ?_
 refine (if_neg (by rw [h.is];decide)).trans ?_
 refine (if_neg (by rw [h.is];decide)).trans ?_
 refine (if_neg (by rw [h.is];decide)).trans ?_
 refine (if_neg (by rw [h.is];decide)).trans ?_
 refine (if_neg (by rw [hwd];decide)).trans ?_
 exact if_neg (by rw [hti];decide)
theorem d7k (hs:mQ l i [40])(h:dI kw andP rdP l ex i= .ok e k)(hk:a8r l k):sH kw andP rdP l ex i= .ok e k:=by
 rw [b1m hs];refine c6X ?_ (hk.sD (by decide)) (hk.sD (by decide))
 rw [a6Y (hs.no (by decide))];refine c0v (a6Z ?_ (hk.sD (by decide)) (hk.sD (by decide))) hk.cmp;rw [b1n hs];exact h
theorem d1k (hs:mQ l i [40])(h:sH kw andP rdP l ex i= .ok a j):∃e k,dI kw andP rdP l ex i= .ok e k:=by rw [b1m hs] at h;obtain ⟨e1,k1,h⟩:=a8I h;obtain ⟨e2,k2,h⟩:=a8I h;rw [a6Y (hs.no (by decide))] at h;obtain ⟨e3,k3,h⟩:=d1j h;obtain ⟨e4,k4,h⟩:=a8I h;obtain ⟨e5,k5,h⟩:=a8I h;rw [b1n hs] at h;exact ⟨e5,k5,h⟩
variable (u1:mA kw andP rdP l ex i= .ok a k1) (u2:mA kw andP rdP l ex (k1+1)= .ok b k2) (u3:mA kw andP rdP l ex (k2+1)= .ok c k3)
theorem d1l {w:Nm}{op:Int}(h1:mQ l k1 w)(h2:(c0u.find? fun p=>decide (w=p.1))=some (w,op))(hw:∀p∈c1E,w≠p.1)(u2:tA kw andP rdP l ex (k1+1)= .ok b k2)(u1:mA kw andP rdP l ex i= .ok a k1)(hk:b1k l k2 c0u):bX kw andP rdP l ex i= .ok (bJ op [a,b]) k2:=by have p1:tA kw andP rdP l ex i= .ok a k1:=a1e u1 (h1.sD hw);unfold bX;rw [b1l p1,show l.length+2=(l.length+1)+1 from rfl,a0q h1 h2 u2,a2M hk]
include u1 u2 u3
theorem d5i (s1:mQ l k1 [45])(s2:mQ l k2 [43])(hk:a8r l k3)(hl:0<l.length):bX kw andP rdP l ex i= .ok (bJ 10 [bJ 11 [a,b],c]) k3:=by have p1:tA kw andP rdP l ex i= .ok a k1:=a1e u1 (s1.sD (by decide));have p2:tA kw andP rdP l ex (k1+1)= .ok b k2:=a1e u2 (s2.sD (by decide));have p3:tA kw andP rdP l ex (k2+1)= .ok c k3:=a1e u3 (hk.sD (by decide));obtain ⟨m,hm⟩:∃m,l.length=m+1:=⟨l.length-1,by omega⟩;unfold bX;rw [b1l p1,hm,show m+1+2=(m+2)+1 from rfl,a0q s1 (op:=11) (by decide) p2,show m+2=(m+1)+1 from rfl,a0q s2 (op:=10) (by decide) p3,a2M (hk.sD (by decide))]
theorem d5j (s1:mQ l k1 [43])(s2:mQ l k2 [42])(hk:a8r l k3):bX kw andP rdP l ex i= .ok (bJ 10 [a,bJ 12 [b,c]]) k3:=by
 refine d1l s1 (by decide) (by decide) ?_ u1 (hk.sD (by decide))
 unfold tA;rw [b1l u2,show l.length+2=(l.length+1)+1 from rfl,a0q s2 (op:=12) (by decide) u3,a2M (hk.sD (by decide))]
theorem d7l (hs:mQ l i [40])(s1:mQ l k1 [60])(s2:mQ l k2 [38,38])(s3:mQ l (k2+1) [40])(hk:a8r l k3):xO kw andP rdP l ex i= .ok (bJ 19 [bJ 17 [a,b],c]) k3:=by
 have q1:mP kw andP rdP l ex i= .ok (bJ 17 [a,b]) k2:=by rw [a6Y (hs.no (by decide))];exact c0l (a6Z u1 (s1.sD (by decide)) (s1.sD (by decide))) s1 (a6Z u2 (s2.sD (by decide)) (s2.sD (by decide)))
 have q2:mP kw andP rdP l ex (k2+1)= .ok c k3:=by rw [a6Y (s3.no (by decide))];exact c0v (a6Z u3 (hk.sD (by decide)) (hk.sD (by decide))) hk.cmp
 have q3:a4q kw andP rdP l ex i= .ok (bJ 19 [bJ 17 [a,b],c]) k3:=by unfold a4q;rw [b1l q1,show l.length+2=(l.length+1)+1 from rfl,a0q s2 (op:=19) (by decide) q2,a2M (hk.sD (by decide))]
 exact a1e q3 (hk.sD (by decide))
omit u3 in
theorem d7m (hs:mQ l i [40])(s1:mQ l k1 [62])(hk:a8r l k2):xO kw andP rdP l ex i= .ok (bJ 17 [b,a]) k2:=by
 refine c6X ?_ (hk.sD (by decide)) (hk.sD (by decide))
 rw [a6Y (hs.no (by decide))];exact d5h (a6Z u1 (s1.sD (by decide)) (s1.sD (by decide))) s1 (a6Z u2 (hk.sD (by decide)) (hk.sD (by decide)))
omit u1 u2 u3 in
theorem b3E (hs:mQ l i [40])(h:bX kw andP rdP l ex i= .ok e k)(hk:a8r l k):xO kw andP rdP l ex i= .ok e k:=by
 refine c6X ?_ (hk.sD (by decide)) (hk.sD (by decide))
 rw [a6Y (hs.no (by decide))];exact c0v h hk.cmp
end
end
section
structure d7n (l:List Tok):Prop where
 fin:oK l
 wf:c3C l
 wd:WfD l
 pU:vP tL l
theorem c1F {s:List UInt8}{k:Nat}{ln:Int}{cm:Bool}{l:List Tok}(h:dL gN s k ln cm= .ok l):d7n l:=by
 obtain ⟨l0,ln',e,hk⟩:=b8f (sX s k ln cm l h);have hend:l[l.length-1]? =some (vJ ln'):=by rw [e];simp
 refine ⟨⟨by rw [e];simp,by rw [yB hend]⟩,(lex_wf h).1,(lex_wf h).2,fun e i p j hi hx=>b5j (fun t ht=>?_) e i p j hi hx⟩;rw [hend] at ht;cases ht
 rfl
section
variable {kw:Nm→Bool} {andP:Pr→Pr→Pr} {rdP:List Tok→Nat→Nat→mH Pr} {l l':List Tok} {N d:Nat} {u:Nm}
variable {ex ex':Nat→aR bW} {i j k:Nat} {a e:bW}
def b1o (kw:Nm→Bool)(andP:Pr→Pr→Pr)(rdP:List Tok→Nat→Nat→mH Pr)(l:List Tok)(ex:Nat→aR bW):aR bW:=do
 let e ← ex 0
 let b ← cM l [58]
 if b then do let t ← cB kw andP rdP l;pure { bJ 26 [e] with types:=[t] } else pure e
def b8r (l:List Tok)(i:Nat):Prop:=aJ l i [45]=true∧(aK l (i+1)).kind=3∧dN (aK l (i+2)) [41]=true
theorem b5v {s:Nm}(h:aJ l i s=true):aL l [s] i= .ok () (i+1):=by
 show (if aJ l i s=true then aL l [] (i+1) else cH l i)=_
 rw [if_pos h]
 rfl
theorem b8s {s:Nm}{v:Unit}(h:aL l [s] i= .ok v j):aJ l i s=true∧j=i+1:=by
 have h:(if aJ l i s=true then aL l [] (i+1) else cH l i)= .ok v j:=h;split at h
 ·cases h;exact ⟨by assumption,rfl⟩
 ·unfold cH at h;cases h
theorem c0w (h:dI kw andP rdP l ex i= .ok a j):(b8r l (i+1)∧a=⟨1,[], -(aK l (i+2)).n,[],[],[],[]⟩∧j=i+4)∨(¬b8r l (i+1)∧∃k,b1o kw andP rdP l ex (i+1)= .ok a k∧aJ l k [41]=true∧j=k+1):=by
 unfold dI at h;cases he:aL l [[40]] i with
 |bad n e=>have:=(cW he).symm.trans h;cases this
 |ok v m=>
  obtain ⟨_,rfl⟩:=b8s he;have h:=(aY he).symm.trans h;by_cases hn:b8r l (i+1)
  ·have h:=(if_pos (by simp only [d8D,decide_eq_true_eq];exact ⟨⟨hn.1,hn.2.1⟩,hn.2.2⟩)).symm.trans h;cases h;exact .inl ⟨hn,rfl,rfl⟩
  ·have h:=(if_neg (by simp only [d8D,decide_eq_true_eq];exact fun q=>hn ⟨q.1.1,q.1.2,q.2⟩)).symm.trans h;refine .inr ⟨hn,?_⟩;cases h1:ex 0 (i+1) with
   |bad n e=>have:=(cW h1).symm.trans h;cases this
   |ok e1 k1=>
    have h:=(aY h1).symm.trans h;cases h2:cM l [58] k1 with
    |bad n e=>have:=(cW h2).symm.trans h;cases this
    |ok b k2=>
     have h:=(aY h2).symm.trans h;cases h3:(if b then do let t ← cB kw andP rdP l;pure { bJ 26 [e1] with types:=[t] } else pure e1:aR bW) k2 with
     |bad n e=>have:=(cW h3).symm.trans h;cases this
     |ok e2 k3=>
      have h:=(aY h3).symm.trans h;cases h4:aL l [[41]] k3 with
      |bad n e=>have:=(cW h4).symm.trans h;cases this
      |ok v2 k4=>obtain ⟨q1,rfl⟩:=b8s h4;have h:=(aY h4).symm.trans h;cases h;refine ⟨k3,?_,q1,rfl⟩;unfold b1o;exact (aY h1).trans ((aY h2).trans h3)
theorem c3N (h0:aJ l i [40]=true)(hn: ¬b8r l (i+1))(h:b1o kw andP rdP l ex (i+1)= .ok a k)(hk:aJ l k [41]=true):dI kw andP rdP l ex i= .ok a (k+1):=by
 unfold b1o at h;unfold dI;refine (aY (b5v h0)).trans ?_
 refine (if_neg (by simp only [d8D,decide_eq_true_eq];exact fun q=>hn ⟨q.1.1,q.1.2,q.2⟩)).trans ?_
 cases h1:ex 0 (i+1) with
 |bad n e=>have:=(cW h1).symm.trans h;cases this
 |ok e1 k1=>
  have h:=(aY h1).symm.trans h;refine (aY h1).trans ?_
  cases h2:cM l [58] k1 with
  |bad n e=>have:=(cW h2).symm.trans h;cases this
  |ok b k2=>
   have h:=(aY h2).symm.trans h;refine (aY h2).trans ?_
   refine (aY h).trans ?_
   exact (aY (b5v hk)).trans rfl
theorem c0x (h0:aJ l i [40]=true)(hn:b8r l (i+1)):dI kw andP rdP l ex i= .ok ⟨1,[], -(aK l (i+2)).n,[],[],[],[]⟩ (i+4):=by
 unfold dI;refine (aY (b5v h0)).trans ?_
 exact (if_pos (by simp only [d8D,decide_eq_true_eq];exact ⟨⟨hn.1,hn.2.1⟩,hn.2.2⟩)).trans rfl
theorem aC.inG (hE:oK l)(hN:a2K l l' N d u)(hwf:c3C l)(hP:aC N d (b8b kw l) (cQ rdP l) (cQ rdP l'))(aP:aA l 0 (cQ rdP l))(hx:∀k,aC N d wT (ex k) (ex' k))(ax:∀k,aA l 1 (ex k)):aC N d (Fol kw l) (b1o kw andP rdP l ex) (b1o kw andP rdP l' ex'):=by
 have at0:aA l 0 (cB kw andP rdP l):=(aA.uQ hE aP).le (by omega);have a2:∀(e:bW) (b:Bool),aA l 0 (if b then do let t ← cB kw andP rdP l;pure { bJ 26 [e] with types:=[t] } else pure e:aR bW):=fun e b=>aA.ite (at0.bl fun _=>aA.aO _) (aA.aO _)
 have n2:∀(e:bW) (b:Bool),aC N d (Fol kw l) (if b then do let t ← cB kw andP rdP l;pure { bJ 26 [e] with types:=[t] } else pure e:aR bW) (if b then do let t ← cB kw andP rdP l';pure { bJ 26 [e] with types:=[t] } else pure e:aR bW):=fun e b=>aC.ite (aC.sF hN (aC.uQ hE hN hwf hP aP) (fun _=>aC.aO _) at0 (fun _=>aA.aO _) fun t k b j hk h hj hw=>by cases h;exact hw) (aC.aO _)
 unfold b1o;exact aC.bT hN (hx 0) (fun e=>aC.bT hN (aC.skip hN (by decide) (by decide)) (fun b=>n2 e b) (aA.skip hE _) fun b=>a2 e b) ((ax 0).le (by omega)) fun e=>(aA.skip hE _).bl fun b=>a2 e b
end
section
variable {l0:List Tok} {ln ln1 ln2 ln3:Int}
theorem c6Y (l:List Tok):exM l=sH bA bF tL l (jG bA bF tL l (l.length+1)):=rfl
end
end
section
def eG (ln1:Int)(l0:List Tok)(ln2:Int):List Tok:=kZ ln1 [40]::(l0++[kZ ln2 [41]])
theorem pE (ln1:Int)(l0:List Tok)(ln2:Int):(eG ln1 l0 ln2).length=l0.length+2:=by simp [eG]
theorem c1G {P R l0:List Tok}{a b:Int}(i:Nat)(hi:i<l0.length):(P++(eG a l0 b++R))[P.length+(i+1)]? =some l0[i]:=by rw [d8L (by omega),show P.length+(i+1)-P.length=i+1 by omega,eG,List.cons_append,List.getElem?_cons_succ,List.append_assoc,d8O hi,d8H hi]
theorem c1H {P R l0:List Tok}{a b:Int}:(P++(eG a l0 b++R))[P.length]? =some (kZ a [40]):=by
 rw [d8L (by omega),Nat.sub_self]
 rfl
theorem c1I {P R l0:List Tok}{a b:Int}:(P++(eG a l0 b++R))[P.length+(l0.length+1)]? =some (kZ b [41]):=by
 rw [d8L (by omega),show P.length+(l0.length+1)-P.length=l0.length+1 by omega,eG,List.cons_append,List.getElem?_cons_succ,List.append_assoc,d8L (by omega),Nat.sub_self]
 rfl
theorem a3p {P R l0:List Tok}{a b:Int}{t:Tok}:(P++(eG a l0 b++t::R))[P.length+(l0.length+2)]? =some t:=by
 rw [d8L (by omega),show P.length+(l0.length+2)-P.length=l0.length+2 by omega,d8L (by rw [pE];omega),pE,Nat.sub_self]
 rfl
theorem c6Z {l0 P R:List Tok}{c m a b:Int}(hR:R≠[]):a2K (eG 1 l0 m++[vJ m]) (P++(eG a (l0.map (cP c)) b++R)) (l0.length+1) P.length [41]:=by
 have hRl:0<R.length:=List.length_pos_iff.2 hR;have hl:∀i,(hi:i<l0.length)→aK (eG 1 l0 m++[vJ m]) (i+1)=l0[i]:=fun i hi=>yB (by have:=c1G (P:=[]) (R:=[vJ m]) (a:=1) (b:=m) i hi;simpa using this)
 have hl':∀i,(hi:i<l0.length)→aK (P++(eG a (l0.map (cP c)) b++R)) (i+1+P.length)=cP c l0[i]:=fun i hi=>yB (by have:=c1G (P:=P) (R:=R) (a:=a) (b:=b) (l0:=l0.map (cP c)) i (by simpa using hi);rw [show i+1+P.length=P.length+(i+1) by omega,this];simp)
 have h0:aK (eG 1 l0 m++[vJ m]) 0=kZ 1 [40]:=yB rfl;have h0':aK (P++(eG a (l0.map (cP c)) b++R)) (0+P.length)=kZ a [40]:=yB (by rw [Nat.zero_add];exact c1H);have hN:aK (eG 1 l0 m++[vJ m]) (l0.length+1)=kZ m [41]:=yB (by have:=c1I (P:=[]) (R:=[vJ m]) (a:=1) (b:=m) (l0:=l0);simpa using this)
 have hN':aK (P++(eG a (l0.map (cP c)) b++R)) (l0.length+1+P.length)=kZ b [41]:=yB (by have:=c1I (P:=P) (R:=R) (a:=a) (b:=b) (l0:=l0.map (cP c));rw [List.length_map] at this;rw [show l0.length+1+P.length=P.length+(l0.length+1) by omega,this])
 have all:∀i,i<l0.length+1→(aK (P++(eG a (l0.map (cP c)) b++R)) (i+P.length)).kind=(aK (eG 1 l0 m++[vJ m]) i).kind∧(aK (P++(eG a (l0.map (cP c)) b++R)) (i+P.length)).text=(aK (eG 1 l0 m++[vJ m]) i).text∧(aK (P++(eG a (l0.map (cP c)) b++R)) (i+P.length)).n=(aK (eG 1 l0 m++[vJ m]) i).n:=fun i hi=>by
  cases i with
  |zero=>rw [h0,h0'];exact ⟨rfl,rfl,rfl⟩
  |succ i=>rw [hl i (by omega),hl' i (by omega)];exact ⟨rfl,rfl,rfl⟩
 refine ⟨by simp [pE],by simp [pE];omega,by simp [pE];omega,fun i hi=>(all i hi).1,fun i hi=>(all i hi).2.1,fun i hi=>(all i hi).2.2,.inr ?_,?_,.inl rfl⟩
 ·rw [hN];exact ⟨rfl,rfl⟩
 ·rw [hN'];exact ⟨rfl,rfl⟩
structure Pc (x:List UInt8) (a:bW) (l0:List Tok) (m:Int):Prop where
 no:∀b∈x,b≠35
 lex:dL gN x 0 1 false= .ok (l0++[vJ m])
 d7T:dL gN (40::(x++[41])) 0 1 false= .ok (eG 1 l0 m++[vJ m])
 cl:dI bA bF tL (eG 1 l0 m++[vJ m]) (jG bA bF tL (eG 1 l0 m++[vJ m]) (l0.length+4)) 0= .ok a (l0.length+2)
def d7U (x:List UInt8):Prop:=∀q,q≤x.length→0≤b2i (x.take q)
theorem c7a {x:List UInt8}(no:∀b∈x,b≠35)(hb:d7U x){a:bW}{j:Nat}(h:dU exM (40::(x++[41]))= .ok a j):∃l0 m,Pc x a l0 m:=by
 obtain ⟨_,l,hl,hx,hk⟩:=b3r h;rcases a3m gN [] x 0 1 no (Nat.zero_le _) with ⟨l0,m,e1,e2⟩|⟨e,e1,e2⟩
 ·have hopen:=b5a (num:=gN) (ln:=1) (r:=x++[41]);unfold Lx at hopen;have hl2:dL gN (40::(x++[41])) 0 1 false= .ok (eG 1 l0 m++[vJ m]):=by rw [show 40::(x++[41])=[40]++(x++[41]) from rfl,hopen,e2];simp [a6O,dL,eG]
  rw [hl] at hl2;cases hl2;refine ⟨l0,m,no,e1,hl,?_⟩;have ht:=c1F hl;have hlen:(eG 1 l0 m++[vJ m]).length=l0.length+3:=by simp [pE]
  have hs0:mQ (eG 1 l0 m++[vJ m]) 0 [40]:=by unfold mQ;rw [yB (t:=kZ 1 [40]) rfl];exact ⟨rfl,rfl⟩
  have hx1:sH bA bF tL (eG 1 l0 m++[vJ m]) (jG bA bF tL (eG 1 l0 m++[vJ m]) (l0.length+4)) 0= .ok a j:=by have:exM (eG 1 l0 m++[vJ m]) 0= .ok a j:=hx;rw [c6Y,hlen] at this;exact this
  obtain ⟨e,k,hc⟩:=d1k hs0 hx1;have hbal:aD (eG 1 l0 m++[vJ m]) 0 (cQ tL (eG 1 l0 m++[vJ m])):=aD.c6W ht.wd ht.pU.pred;obtain ⟨q1,q2,q3⟩:=aD.wH ht.fin ht.wd hbal (aD.exF ht.fin ht.wd hbal (l0.length+4)) 0 e k (by rw [hlen];omega) hc;have hadv:=aA.wH ht.fin (aA.exF (kw:=bA) (andP:=bF) ht.fin ht.pU.pred (l0.length+4)) ht.pU.pred 0 e k (by rw [hlen];omega) hc;rw [hlen] at q2;have hkk:k=l0.length+2:=by
   by_cases hlt:k≤l0.length+1
   ·have h1:par (eG 1 l0 m++[vJ m]) 0 k=b8g ((eG 1 l0 m++[vJ m]).take k):=by
     unfold par;rw [b8h _ _ _ (by rw [hlen];omega)]
     rfl
    obtain ⟨k',rfl⟩:∃k',k=k'+1:=⟨k-1,by omega⟩;have h2:(eG 1 l0 m++[vJ m]).take (k'+1)=kZ 1 [40]::(l0++[vJ m]).take k':=by rw [eG,List.cons_append,List.take_succ_cons,List.append_assoc,List.take_append_of_le_length (by omega),List.take_append_of_le_length (by omega)]
    obtain ⟨q,r1,r2⟩:=a8E x 0 1 _ no (fun b hb=>by simp at hb) e1 k' (by simp;omega);have h3:=hb q r1;rw [h1,h2,a6V,r2] at q3;have:a4O (kZ 1 [40])=1:=rfl;omega
   ·omega
  subst hkk;have hen:a8q (eG 1 l0 m++[vJ m]) (l0.length+2):=by unfold a8q;rw [yB (t:=vJ m) (by have:=a3p (P:=[]) (R:=[]) (a:=1) (b:=m) (l0:=l0) (t:=vJ m);simpa using this)]
  have hup:=d7k hs0 hc (.inl hen);rw [hx1] at hup;injection hup with g1 g2
  rw [g1];exact hc
 ·have hopen:=b5a (num:=gN) (ln:=1) (r:=x++[41]);unfold Lx at hopen;rw [show 40::(x++[41])=[40]++(x++[41]) from rfl,hopen,e2] at hl;cases hl
theorem b1p {x:List UInt8}{a:bW}{l0:List Tok}{m:Int}(h:Pc x a l0 m)(c:Int)(rest:List UInt8):dL gN (40::(x++41::rest)) 0 (1+c) false=a6O (eG (1+c) (l0.map (cP c)) (m+c)) (dL gN rest 0 (m+c) false):=by
 have hs:=tW (num:=gN) c x 0 1 false;rw [h.lex] at hs;have hopen:=b5a (num:=gN) (ln:=1+c) (r:=x++41::rest);unfold Lx at hopen;rw [show 40::(x++41::rest)=[40]++(x++41::rest) from rfl,hopen];rcases a3m gN rest x 0 (1+c) h.no (Nat.zero_le _) with ⟨l1,m1,e1,e2⟩|⟨e,e1,e2⟩
 ·rw [hs] at e1;simp only [a6w,List.map_append,List.map_cons,List.map_nil,Except.ok.injEq] at e1;have hd:=congrArg List.dropLast e1;simp only [List.dropLast_concat] at hd;have hlst:=congrArg List.getLast? e1;simp [cP] at hlst;subst hd hlst;rw [e2,c6d]
  rfl
 ·rw [hs] at e1;cases e1
theorem b8t {x:List UInt8}{a:bW}{l0:List Tok}{m:Int}(h:Pc x a l0 m)(P R:List Tok)(c ln ln2:Int)(hR:R≠[]){l':List Tok}(hl':l'=P++(eG ln (l0.map (cP c)) ln2++R)):mA bA bF tL l' (jG bA bF tL l' (l'.length+1)) P.length= .ok a (P.length+(l0.length+2))∧mQ l' P.length [40]:=by
 have hN:a2K (eG 1 l0 m++[vJ m]) l' (l0.length+1) P.length [41]:=by rw [hl'];exact c6Z hR
 have hRl:0<R.length:=List.length_pos_iff.2 hR;have hsg:mQ l' P.length [40]:=by unfold mQ;rw [hl',yB c1H];exact ⟨rfl,rfl⟩
 refine ⟨?_,hsg⟩;have ht:=c1F h.d7T;have hlen:(eG 1 l0 m++[vJ m]).length=l0.length+3:=by simp [pE]
 have hlen':l'.length=P.length+(l0.length+2)+R.length:=by rw [hl'];simp [pE];omega
 have aP:=ht.pU.pred;have hP:=aC.c6W ht.fin hN;have hx:=aC.exF (andP:=bF) ht.fin hN ht.wf hP aP (l0.length+4) (l'.length+1) (by omega);have ax:=aA.exF (kw:=bA) (andP:=bF) ht.fin aP (l0.length+4);have hdec:∀s,aJ l' P.length s=decide ([40]=s):=hsg.is;have hlst:mQ l' (P.length+(l0.length+1)) [41]:=by have:=hN.a6c;rw [show l0.length+1+P.length=P.length+(l0.length+1) by omega] at this;exact this
 rw [b1n hsg];rcases c0w h.cl with ⟨hn,ha,hj⟩|⟨hn,k,hin,hk,hj⟩
 ·
  have e2:l0.length=2:=by omega
  rw [e2] at hN hlst ⊢;obtain ⟨n1,n2,n3⟩:=hn;have g1:aJ l' (P.length+1) [45]=true:=by have:=a1c hN (i:=1) (by omega) [45];rw [show 1+P.length=P.length+1 by omega] at this;rw [this];exact n1
  have g2:(aK l' (P.length+2)).kind=3:=by have:=hN.kind 2 (by omega);rw [show 2+P.length=P.length+2 by omega] at this;rw [this];exact n2
  have g4:(aK l' (P.length+2)).n=(aK (eG 1 l0 m++[vJ m]) 2).n:=by
   have:=hN.n 2 (by omega)
   rwa [show 2+P.length=P.length+2 by omega] at this
  have g3:dN (aK l' (P.length+3)) [41]=true:=by
   have:aJ l' (P.length+3) [41]=true:=by rw [hlst.is];decide
   exact this
  have hr:=c0x (kw:=bA) (andP:=bF) (rdP:=tL) (l:=l') (ex:=jG bA bF tL l' (l'.length+1)) (i:=P.length) (by rw [hdec];decide) ⟨g1,g2,g3⟩;rw [hr,ha,g4]
 ·have hkk:k=l0.length+1:=by omega
  subst hkk;have hfol:Fol bA (eG 1 l0 m++[vJ m]) (l0.length+1):=xZ ht.wf hk rfl (by decide);have hin':=aC.inG ht.fin hN ht.wf hP aP hx ax 1 a (l0.length+1) (by omega) hin (d8T _) hfol;rw [show 1+P.length=P.length+1 by omega,show l0.length+1+P.length=P.length+(l0.length+1) by omega] at hin';have hki:aJ l' (P.length+(l0.length+1)) [41]=true:=by rw [hlst.is];decide
  refine c3N (by rw [hdec];decide) ?_ hin' hki
  rintro ⟨c1,c2,c3⟩;have c1:aJ l' (1+P.length) [45]=true:=by rw [show 1+P.length=P.length+1 by omega];exact c1
  rw [hZ hN (by decide) (by decide) (by omega)] at c1;have l1:=is_lt hN (by decide) (by decide) (by omega) c1;have c2:(aK l' (2+P.length)).kind=3:=by rw [show 2+P.length=P.length+1+1 by omega];exact c2
  have l2:2<l0.length+1:=by
   by_cases q:2<l0.length+1
   ·exact q
   ·have q:l0.length=1:=by omega
    have:=hN.a6c.1;rw [q] at this;have g:(aK l' (2+P.length)).kind=4:=this;omega
  rw [hN.kind 2 l2] at c2;have c3:aJ l' (3+P.length) [41]=true:=by rw [show 3+P.length=P.length+1+2 by omega];exact c3
  have c3':dN (aK (eG 1 l0 m++[vJ m]) 3) [41]=true:=by
   by_cases q:3<l0.length+1
   ·have:=a1c hN q [41];rw [this] at c3;exact c3
   ·have q:3=l0.length+1:=by omega
    rw [← q] at hk;exact hk
  exact hn ⟨c1,c2,c3'⟩
theorem b5w {ln:Int}{w:List UInt8}(hw:w=[45]∨w=[43]∨w=[42]∨w=[60]∨w=[62]∨w=[38,38])(r:List UInt8):dL gN (32::(w++32::r)) 0 ln false=a6O [kZ ln w] (dL gN r 0 ln false):=by
 have hsp:∀r:List UInt8,dL gN (32::r) 0 ln false=dL gN r 0 ln false:=fun r=>by have:=Lx.sp (num:=gN) (ln:=ln) (r:=r);unfold Lx at this;rw [show 32::r=[32]++r from rfl,this,b7J]
 rw [hsp];have hsg:∀(c:UInt8) (s:List UInt8),w=c::s→smU c=false→caU c=false→dgU c=false→kQ (c::s++32::r)=c::s→dL gN (w++32::r) 0 ln false=a6O [kZ ln w] (dL gN r 0 ln false):=fun c s e h1 h2 h3 h4=>by subst e;have:=Lx.sg (num:=gN) (ln:=ln) h1 h2 h3 h4;unfold Lx at this;rw [this,hsp]
 have hsep:∀w,w∈dY→kQ (w++32::r)=w:=fun w hw=>by rw [c4T (fun b hb=>by cases hb;decide)];exact b2F w hw
 rcases hw with rfl|rfl|rfl|rfl|rfl|rfl
 all_goals exact hsg _ _ rfl (by decide) (by decide) (by decide) (hsep _ (by decide))
section
variable {x y z:List UInt8} {a b c:bW} {lx ly lz:List Tok} {mx my mz:Int} {w w2:List UInt8}
theorem a7a (hx:Pc x a lx mx)(hy:Pc y b ly my)(hz:Pc z c lz mz)(hw:w=[45]∨w=[43]∨w=[42]∨w=[60]∨w=[62]∨w=[38,38])(hw2:w2=[45]∨w2=[43]∨w2=[42]∨w2=[60]∨w2=[62]∨w2=[38,38]):∃m2 m3,dL gN (40::(x++41::32::(w++32::40::(y++41::32::(w2++32::40::(z++[41])))))) 0 1 false= .ok (eG 1 lx mx++kZ mx w::(eG mx (ly.map (cP (mx-1))) m2++kZ m2 w2::(eG m2 (lz.map (cP (m2-1))) m3++[vJ m3]))):=by
 have h1:=b1p hx 0 (32::(w++32::40::(y++41::32::(w2++32::40::(z++[41])))));have hs0:lx.map (cP 0)=lx:=by
  have:(cP 0)=id:=by funext t;simp [cP]
  rw [this,List.map_id]
 rw [Int.add_zero,Int.add_zero,hs0,b5w hw] at h1;have h2:=b1p hy (mx-1) (32::(w2++32::40::(z++[41])));rw [show 1+(mx-1)=mx by omega,b5w hw2] at h2;obtain ⟨m2,hm2⟩:∃m2,my+(mx-1)=m2:=⟨_,rfl⟩;rw [hm2] at h2;have h3:=b1p hz (m2-1) [];rw [show 1+(m2-1)=m2 by omega] at h3;obtain ⟨m3,hm3⟩:∃m3,mz+(m2-1)=m3:=⟨_,rfl⟩;rw [hm3] at h3;refine ⟨m2,m3,?_⟩;rw [h1,h2,h3];simp [a6O,dL]
theorem d1m (hx:Pc x a lx mx)(hy:Pc y b ly my)(hw:w=[45]∨w=[43]∨w=[42]∨w=[60]∨w=[62]∨w=[38,38]):∃m2,dL gN (40::(x++41::32::(w++32::40::(y++[41])))) 0 1 false= .ok (eG 1 lx mx++kZ mx w::(eG mx (ly.map (cP (mx-1))) m2++[vJ m2])):=by
 have h1:=b1p hx 0 (32::(w++32::40::(y++[41])));have hs0:lx.map (cP 0)=lx:=by
  have:(cP 0)=id:=by funext t;simp [cP]
  rw [this,List.map_id]
 rw [Int.add_zero,Int.add_zero,hs0,b5w hw] at h1;have h2:=b1p hy (mx-1) [];rw [show 1+(mx-1)=mx by omega] at h2;obtain ⟨m2,hm2⟩:∃m2,my+(mx-1)=m2:=⟨_,rfl⟩;rw [hm2] at h2;refine ⟨m2,?_⟩;rw [h1,h2];simp [a6O,dL]
theorem b1q (hx:Pc x a lx mx)(hy:Pc y b ly my)(hz:Pc z c lz mz){m2 m3:Int}{l:List Tok}(hl:l=eG 1 lx mx++kZ mx w::(eG mx (ly.map (cP (mx-1))) m2++kZ m2 w2::(eG m2 (lz.map (cP (m2-1))) m3++[vJ m3]))):
  ∃k1 k2 k3,mA bA bF tL l (jG bA bF tL l (l.length+1)) 0= .ok a k1∧mA bA bF tL l (jG bA bF tL l (l.length+1)) (k1+1)= .ok b k2∧mA bA bF tL l (jG bA bF tL l (l.length+1)) (k2+1)= .ok c k3∧mQ l 0 [40]∧mQ l k1 w∧mQ l (k1+1) [40]∧mQ l k2 w2∧mQ l (k2+1) [40]∧a8q l k3∧0<l.length:=by
 have hs0:lx.map (cP 0)=lx:=by
  have:(cP 0)=id:=by funext t;simp [cP]
  rw [this,List.map_id]
 obtain ⟨u1,s1⟩:=b8t hx [] (kZ mx w::(eG mx (ly.map (cP (mx-1))) m2++kZ m2 w2::(eG m2 (lz.map (cP (m2-1))) m3++[vJ m3]))) 0 1 mx (by simp) (l':=l) (by rw [hl,hs0];rfl);obtain ⟨u2,s2⟩:=b8t hy (eG 1 lx mx++[kZ mx w]) (kZ m2 w2::(eG m2 (lz.map (cP (m2-1))) m3++[vJ m3])) (mx-1) mx m2 (by simp) (l':=l) (by rw [hl];simp);obtain ⟨u3,s3⟩:=b8t hz (eG 1 lx mx++kZ mx w::(eG mx (ly.map (cP (mx-1))) m2++[kZ m2 w2])) [vJ m3] (m2-1) m2 m3 (by simp) (l':=l) (by rw [hl];simp);have l2:(eG 1 lx mx++[kZ mx w]).length=lx.length+2+1:=by simp [pE]
 have l3:(eG 1 lx mx++kZ mx w::(eG mx (ly.map (cP (mx-1))) m2++[kZ m2 w2])).length=lx.length+2+1+(ly.length+2)+1:=by simp [pE];omega
 rw [l2] at u2 s2;rw [l3] at u3 s3;have g1:aK l (lx.length+2)=kZ mx w:=yB (by have:=a3p (P:=[]) (R:=eG mx (ly.map (cP (mx-1))) m2++kZ m2 w2::(eG m2 (lz.map (cP (m2-1))) m3++[vJ m3])) (a:=1) (b:=mx) (l0:=lx) (t:=kZ mx w);rw [hl];simpa using this)
 have g2:aK l (lx.length+2+1+(ly.length+2))=kZ m2 w2:=yB (by have:=a3p (P:=eG 1 lx mx++[kZ mx w]) (R:=eG m2 (lz.map (cP (m2-1))) m3++[vJ m3]) (a:=mx) (b:=m2) (l0:=ly.map (cP (mx-1))) (t:=kZ m2 w2);rw [l2,List.length_map] at this;rw [hl, ← this];simp)
 have g3:aK l (lx.length+2+1+(ly.length+2)+1+(lz.length+2))=vJ m3:=yB (by have:=a3p (P:=eG 1 lx mx++kZ mx w::(eG mx (ly.map (cP (mx-1))) m2++[kZ m2 w2])) (R:=[]) (a:=m2) (b:=m3) (l0:=lz.map (cP (m2-1))) (t:=vJ m3);rw [l3,List.length_map] at this;rw [hl, ← this];simp)
 refine ⟨lx.length+2,lx.length+2+1+(ly.length+2),lx.length+2+1+(ly.length+2)+1+(lz.length+2),?_,u2,u3,s1,?_,s2,?_,s3,?_,?_⟩
 ·have:=u1;simpa using this
 ·unfold mQ;rw [g1];exact ⟨rfl,rfl⟩
 ·unfold mQ;rw [g2];exact ⟨rfl,rfl⟩
 ·unfold a8q;rw [g3]
 ·rw [hl];simp [pE];omega
theorem d5k (hx:Pc x a lx mx)(hy:Pc y b ly my){m2:Int}{l:List Tok}(hl:l=eG 1 lx mx++kZ mx w::(eG mx (ly.map (cP (mx-1))) m2++[vJ m2])):
  ∃k1 k2,mA bA bF tL l (jG bA bF tL l (l.length+1)) 0= .ok a k1∧mA bA bF tL l (jG bA bF tL l (l.length+1)) (k1+1)= .ok b k2∧mQ l 0 [40]∧mQ l k1 w∧a8q l k2:=by
 have hs0:lx.map (cP 0)=lx:=by
  have:(cP 0)=id:=by funext t;simp [cP]
  rw [this,List.map_id]
 obtain ⟨u1,s1⟩:=b8t hx [] (kZ mx w::(eG mx (ly.map (cP (mx-1))) m2++[vJ m2])) 0 1 mx (by simp) (l':=l) (by rw [hl,hs0];rfl);obtain ⟨u2,s2⟩:=b8t hy (eG 1 lx mx++[kZ mx w]) [vJ m2] (mx-1) mx m2 (by simp) (l':=l) (by rw [hl];simp);have l2:(eG 1 lx mx++[kZ mx w]).length=lx.length+2+1:=by simp [pE]
 rw [l2] at u2 s2;have g1:aK l (lx.length+2)=kZ mx w:=yB (by have:=a3p (P:=[]) (R:=eG mx (ly.map (cP (mx-1))) m2++[vJ m2]) (a:=1) (b:=mx) (l0:=lx) (t:=kZ mx w);rw [hl];simpa using this)
 have g2:aK l (lx.length+2+1+(ly.length+2))=vJ m2:=yB (by have:=a3p (P:=eG 1 lx mx++[kZ mx w]) (R:=[]) (a:=mx) (b:=m2) (l0:=ly.map (cP (mx-1))) (t:=vJ m2);rw [l2,List.length_map] at this;rw [hl, ← this];simp)
 refine ⟨lx.length+2,lx.length+2+1+(ly.length+2),?_,u2,s1,?_,?_⟩
 ·have:=u1;simpa using this
 ·unfold mQ;rw [g1];exact ⟨rfl,rfl⟩
 ·unfold a8q;rw [g2]
theorem b5x {s:List UInt8}{l:List Tok}{e:bW}{k:Nat}(hs:s.length≤30000)(hl:dL gN s 0 1 false= .ok l)(h0:mQ l 0 [40])(h:xO bA bF tL l (jG bA bF tL l (l.length+1)) 0= .ok e k)(hk:a8q l k):dU exM s= .ok e k:=by
 refine c6t (by omega) hl ?_ hk
 rw [c6Y,b1m h0];exact h
theorem d5l (hx:Pc x a lx mx)(hy:Pc y b ly my)(hz:Pc z c lz mz)(h1:x.length≤1000)(h2:y.length≤1000)(h3:z.length≤1000):∃k,dU exM (40::(x++41::32::([45]++32::40::(y++41::32::([43]++32::40::(z++[41]))))))= .ok (bJ 10 [bJ 11 [a,b],c]) k:=by obtain ⟨m2,m3,hl⟩:=a7a hx hy hz (w:=[45]) (w2:=[43]) (by simp) (by simp);obtain ⟨k1,k2,k3,u1,u2,u3,s0,s1,s1',s2,s2',s3,hp⟩:=b1q hx hy hz (l:=_) rfl;exact ⟨k3,b5x (by simp;omega) hl s0 (b3E s0 (d5i u1 u2 u3 s1 s2 (.inl s3) hp) (.inl s3)) s3⟩
theorem d5m (hx:Pc x a lx mx)(hy:Pc y b ly my)(hz:Pc z c lz mz)(h1:x.length≤1000)(h2:y.length≤1000)(h3:z.length≤1000):∃k,dU exM (40::(x++41::32::([43]++32::40::(y++41::32::([42]++32::40::(z++[41]))))))= .ok (bJ 10 [a,bJ 12 [b,c]]) k:=by obtain ⟨m2,m3,hl⟩:=a7a hx hy hz (w:=[43]) (w2:=[42]) (by simp) (by simp);obtain ⟨k1,k2,k3,u1,u2,u3,s0,s1,s1',s2,s2',s3,hp⟩:=b1q hx hy hz (l:=_) rfl;exact ⟨k3,b5x (by simp;omega) hl s0 (b3E s0 (d5j u1 u2 u3 s1 s2 (.inl s3)) (.inl s3)) s3⟩
theorem d5n (hx:Pc x a lx mx)(hy:Pc y b ly my)(hz:Pc z c lz mz)(h1:x.length≤1000)(h2:y.length≤1000)(h3:z.length≤1000):∃k,dU exM (40::(x++41::32::([60]++32::40::(y++41::32::([38,38]++32::40::(z++[41]))))))= .ok (bJ 19 [bJ 17 [a,b],c]) k:=by obtain ⟨m2,m3,hl⟩:=a7a hx hy hz (w:=[60]) (w2:=[38,38]) (by simp) (by simp);obtain ⟨k1,k2,k3,u1,u2,u3,s0,s1,s1',s2,s2',s3,hp⟩:=b1q hx hy hz (l:=_) rfl;exact ⟨k3,b5x (by simp;omega) hl s0 (d7l u1 u2 u3 s0 s1 s2 s2' (.inl s3)) s3⟩
theorem d5o (hx:Pc x a lx mx)(hy:Pc y b ly my)(h1:x.length≤1000)(h2:y.length≤1000):∃k,dU exM (40::(x++41::32::([62]++32::40::(y++[41]))))= .ok (bJ 17 [b,a]) k:=by obtain ⟨m2,hl⟩:=d1m hx hy (w:=[62]) (by simp);obtain ⟨k1,k2,u1,u2,s0,s1,s2⟩:=d5k hx hy (l:=_) rfl;exact ⟨k2,b5x (by simp;omega) hl s0 (d7m u1 u2 s0 s1 (.inl s2)) s2⟩
end
end
section
open Go Go.VM
def TL:List TypeId:=[5,9,37,39,199,257,260,261]
theorem c0y:yP Tryz.prog TL=true:=by kernel_rfl
theorem sO:laidOutB Tryz.prog=true:=by kernel_rfl
theorem hmr:mapsRowed Tryz.prog=true:=by kernel_rfl
theorem hsf:((List.range Tryz.prog.types.size).all fun t=>match Tryz.prog.underlying t with|some (.slice e)=>decide (0<Tryz.prog.cellsOf e)|_=>true)=true:=by kernel_rfl
theorem jW:ownKnob Tryz.prog.godebug=none:=by kernel_rfl
theorem tu9:Tryz.prog.underlying 9=some .string:=by kernel_rfl
end
section
open Go Go.VM
theorem b5y {s:List UInt8}{n e:Int}(h:dU exM s= .bad n e):e≠0:=a2I (fun l n e hE hB hp h=>aB.expr (low:=0) hE hB (b1b l) 0 n e (Nat.zero_le _) hp h) h
theorem a8J {s:List UInt8}{e:bW}{j:Nat}(h:dU exM s= .ok e j):WE 900000000 e:=by obtain ⟨hs,l,hl,hx,_⟩:=b3r h;have hV:mO G0 tL l:=b3s sM hl (by omega);exact c6U hV 0 e j (List.length_pos_iff.2 hV.fin.1) hx
theorem qJ {P:Program}{G:GT}{q:Bool}{x:VM.Out}{c:Prop}[Decidable c]{dst:Option Tmp}{all:Array Oper}{rest:List Oper}{k:List KI}{Q:Exit→St→Prop}(hc:c)(h:a7q P G q (some x) dst all rest k Q):a7q P G q (if c then some x else none) dst all rest k Q:=by rw [if_pos hc];exact h
theorem a1C (x y z:List UInt8)(hx:x.length≤100000000)(hy:y.length≤100000000)(hz:z.length≤100000000):CS Tryz.prog G0 3 [.str x,.str y,.str z] (.d (.bool true)) none:=by
 by_cases b1:100<x.length
 ·have e1:(100:Int)<x.length:=by omega
  refine CS.bH Tryz.func3 rfl Tryz.ntmps3 rfl ?_
  simp [e1,b1];refine aI.mk gG (gX ) ?_
  simp
 have e1: ¬(100:Int)<x.length:=by omega
 by_cases b2:100<y.length
 ·have e2:(100:Int)<y.length:=by omega
  refine CS.bH Tryz.func3 rfl Tryz.ntmps3 rfl ?_
  simp [e1,b1,e2,b2];refine aI.mk gG (gX ) ?_
  simp
 have e2: ¬(100:Int)<y.length:=by omega
 by_cases b3:100<z.length
 ·have e3:(100:Int)<z.length:=by omega
  refine CS.bH Tryz.func3 rfl Tryz.ntmps3 rfl ?_
  simp [e1,b1,e2,b2,e3,b3];refine aI.mk gG (gX ) ?_
  simp
 have e3: ¬(100:Int)<z.length:=by omega
 have hc:=b1i (G:=G0) (x++y++z) (by simp;omega);have hbx:=vX (G:=G0) x (by omega);have hby:=vX (G:=G0) y (by omega);have hbz:=vX (G:=G0) z (by omega);have px:=eF (G:=G0) sM tI (40::(x++[41])) (by simp;omega);have py:=eF (G:=G0) sM tI (40::(y++[41])) (by simp;omega);have pz:=eF (G:=G0) sM tI (40::(z++[41])) (by simp;omega);obtain ⟨ra,hra⟩:∃r,dU exM (40::(x++[41]))=r:=⟨_,rfl⟩;obtain ⟨rb,hrb⟩:∃r,dU exM (40::(y++[41]))=r:=⟨_,rfl⟩;obtain ⟨rc,hrc⟩:∃r,dU exM (40::(z++[41]))=r:=⟨_,rfl⟩;rw [hra] at px;rw [hrb] at py;rw [hrc] at pz;have q1:=eF (G:=G0) sM tI (40::(x++41::32::([45]++32::40::(y++41::32::([43]++32::40::(z++[41])))))) (by simp;omega);have q2:=eF (G:=G0) sM tI (40::(x++41::32::([43]++32::40::(y++41::32::([42]++32::40::(z++[41])))))) (by simp;omega);have q3:=eF (G:=G0) sM tI (40::(x++41::32::([60]++32::40::(y++41::32::([38,38]++32::40::(z++[41])))))) (by simp;omega);have q4:=eF (G:=G0) sM tI (40::(x++41::32::([62]++32::40::(y++[41])))) (by simp;omega);refine CS.bH Tryz.func3 rfl Tryz.ntmps3 rfl ?_
 simp [e1,b1,e2,b2,e3,b3]
 repeat (refine qJ (by first|omega|(simp;omega)) ?_;simp)
 simp at hc;refine aI.mk a8p hc ?_
 cases h1:hasB 35 (x++y++z) with
 |true=>
  simp at h1;simp [h1];refine aI.mk gG (gX ) ?_
  simp
 |false=>
 have n35:=c0q h1;simp at h1;simp [h1];refine aI.mk uI hbx ?_
 cases h2:b1j 0 x with
 |false=>
  simp;refine aI.mk gG (gX ) ?_
  simp
 |true=>
 simp;refine aI.mk uI hby ?_
 cases h3:b1j 0 y with
 |false=>
  simp;refine aI.mk gG (gX ) ?_
  simp
 |true=>
 simp;refine aI.mk uI hbz ?_
 cases h4:b1j 0 z with
 |false=>
  simp;refine aI.mk gG (gX ) ?_
  simp
 |true=>
 simp
 repeat (refine qJ (by first|omega|(simp;omega)) ?_;simp)
 refine aI.mk dP px ?_
 simp
 repeat (refine qJ (by first|omega|(simp;omega)) ?_;simp)
 refine aI.mk dP py ?_
 simp
 repeat (refine qJ (by first|omega|(simp;omega)) ?_;simp)
 refine aI.mk dP pz ?_
 cases ra with
 |bad n e=>
  have hz:=b5y hra;simp [zR,hz];refine aI.mk gG (gX ) ?_
  simp
 |ok a ja=>
 cases rb with
 |bad n e=>
  have hz:=b5y hrb;simp [zR,hz];refine aI.mk gG (gX ) ?_
  simp
 |ok b jb=>
 cases rc with
 |bad n e=>
  have hz:=b5y hrc;simp [zR,hz];refine aI.mk gG (gX ) ?_
  simp
 |ok c jc=>
 have nx:∀b∈x,b≠35:=fun b hb=>n35 b (by simp [hb])
 have ny:∀b∈y,b≠35:=fun b hb=>n35 b (by simp [hb])
 have nz:∀b∈z,b≠35:=fun b hb=>n35 b (by simp [hb])
 obtain ⟨lx,mx,cx⟩:=c7a nx (fun q hq=>by have:=a3o x 0 (by omega) h2 q hq;omega) hra;obtain ⟨ly,my,cy⟩:=c7a ny (fun q hq=>by have:=a3o y 0 (by omega) h3 q hq;omega) hrb;obtain ⟨lz,mz,cz⟩:=c7a nz (fun q hq=>by have:=a3o z 0 (by omega) h4 q hq;omega) hrc;obtain ⟨k1,g1⟩:=d5l cx cy cz (by omega) (by omega) (by omega);obtain ⟨k2,g2⟩:=d5m cx cy cz (by omega) (by omega) (by omega);obtain ⟨k3,g3⟩:=d5n cx cy cz (by omega) (by omega) (by omega);obtain ⟨k4,g4⟩:=d5o cx cy (by omega) (by omega);have w1:=uT (G:=G0) _ (a8J g1);have w2:=uT (G:=G0) _ (a8J g2);have w3:=uT (G:=G0) _ (a8J g3);have w4:=uT (G:=G0) _ (a8J g4);rw [g1] at q1;rw [g2] at q2;rw [g3] at q3;rw [g4] at q4;have t1:=sC (G:=G0) 11 a b;have t2:=sC (G:=G0) 10 (bJ 11 [a,b]) c;have t3:=sC (G:=G0) 12 b c;have t4:=sC (G:=G0) 10 a (bJ 12 [b,c]);have t5:=sC (G:=G0) 17 a b;have t6:=sC (G:=G0) 19 (bJ 17 [a,b]) c;have t7:=sC (G:=G0) 17 b a;obtain ⟨v1,hv1⟩:∃v,bJ 10 [bJ 11 [a,b],c]=v:=⟨_,rfl⟩;obtain ⟨v2,hv2⟩:∃v,bJ 10 [a,bJ 12 [b,c]]=v:=⟨_,rfl⟩;obtain ⟨v3,hv3⟩:∃v,bJ 19 [bJ 17 [a,b],c]=v:=⟨_,rfl⟩;obtain ⟨v4,hv4⟩:∃v,bJ 17 [b,a]=v:=⟨_,rfl⟩;obtain ⟨v5,hv5⟩:∃v,bJ 11 [a,b]=v:=⟨_,rfl⟩;obtain ⟨v6,hv6⟩:∃v,bJ 12 [b,c]=v:=⟨_,rfl⟩;obtain ⟨v7,hv7⟩:∃v,bJ 17 [a,b]=v:=⟨_,rfl⟩;rw [hv1] at q1 w1 t2;rw [hv2] at q2 w2 t4;rw [hv3] at q3 w3 t6;rw [hv4] at q4 w4 t7;rw [hv5] at t1 t2;rw [hv6] at t3 t4;rw [hv7] at t5 t6
 clear hv1 hv2 hv3 hv4 hv5 hv6 hv7 g1 g2 g3 g4 cx cy cz
 simp [a1A,zR] at q1 q2 q3 q4;simp [a1A,zR]
 repeat (refine qJ (by first|omega|(simp;omega)) ?_;simp)
 refine aI.mk dP q1 ?_
 simp
 repeat (refine qJ (by first|omega|(simp;omega)) ?_;simp)
 refine aI.mk dP q2 ?_
 simp
 repeat (refine qJ (by first|omega|(simp;omega)) ?_;simp)
 refine aI.mk dP q3 ?_
 simp
 repeat (refine qJ (by first|omega|(simp;omega)) ?_;simp)
 refine aI.mk dP q4 ?_
 simp;refine ⟨mK.mk (by kernel_rfl),?_⟩;refine aI.mk qI t1 ?_
 simp;refine aI.mk qI t2 ?_
 simp;refine aI.mk qZ w1 ?_
 simp;refine aI.mk qI t3 ?_
 simp;refine aI.mk qI t4 ?_
 simp;refine aI.mk qZ w2 ?_
 simp;refine aI.mk qI t5 ?_
 simp;refine aI.mk qI t6 ?_
 simp;refine aI.mk qZ w3 ?_
 simp;refine aI.mk qI t7 ?_
 simp;refine aI.mk qZ w4 ?_
 simp;refine aI.mk gG (gX ) ?_
 simp
theorem a4Q (xs:List D)(h:a5j Tryz.prog [9,9,9] xs)(hsz:szL xs≤1048576):CS Tryz.prog G0 3 xs (.d (.bool true)) none:=by
 match xs,h with
 |[a,b,c],⟨h1,h2,h3,_⟩=>obtain ⟨s,rfl,_⟩:=a6s tu9 h1;obtain ⟨r,rfl,_⟩:=a6s tu9 h2;obtain ⟨q,rfl,_⟩:=a6s tu9 h3;simp only [szL,szD] at hsz;exact a1C s r q (by omega) (by omega) (by omega)
end
end Go.Proofs.YtjpodcmhcenjjaaGreatDoor
