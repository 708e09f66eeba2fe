/- Lemmas. No condition. -/
import Derived.Test.YtmfbjecjccipfaaGreatDoorOve
import Derived.Test.YtmfbjecjccipfaaGreatDoorOvf
import Derived.Lib.TrimByte
import Derived.Lib.Repeat
set_option linter.unusedVariables false
set_option linter.unusedSimpArgs false
set_option linter.unusedSectionVars false
set_option maxRecDepth 100000
set_option maxHeartbeats 64000000
open Go.Proofs.Tryz
section
namespace Go.VM
open Go Go.RowKit
section
variable {P:Program} {G:GT} {st:St}
def b5P(ops:Array Oper)(L:Array Bool)(i0 i1 i2 i3 i4:Nat):Bool:=
 let S:=L.setIfInBounds i0 true
 let A:=S.setIfInBounds i1 true
 let B:=S.setIfInBounds i3 true
 (Region.ready .any ops L==[i0])&&(Region.ready .any ops S==[i1,i3])&&(Region.ready .any ops A==[i2,i3])&&(Region.ready .any ops B==[i1,i4])&&
 (Region.ready .any ops (A.setIfInBounds i2 true)==[i3])&&(Region.ready .any ops (A.setIfInBounds i3 true)==[i2,i4])&&(Region.ready .any ops (B.setIfInBounds i1 true)==[i2,i4])&&(Region.ready .any ops (B.setIfInBounds i4 true)==[i1])&&
 (Region.ready .any ops ((A.setIfInBounds i2 true).setIfInBounds i3 true)==[i4])&&(Region.ready .any ops ((A.setIfInBounds i3 true).setIfInBounds i2 true)==[i4])&&(Region.ready .any ops ((A.setIfInBounds i3 true).setIfInBounds i4 true)==[i2])&&
 (Region.ready .any ops ((B.setIfInBounds i1 true).setIfInBounds i2 true)==[i4])&&(Region.ready .any ops ((B.setIfInBounds i1 true).setIfInBounds i4 true)==[i2])&&(Region.ready .any ops ((B.setIfInBounds i4 true).setIfInBounds i1 true)==[i2])&&
 (Region.ready .any ops (((A.setIfInBounds i2 true).setIfInBounds i3 true).setIfInBounds i4 true)==[])&&(Region.ready .any ops (((A.setIfInBounds i3 true).setIfInBounds i2 true).setIfInBounds i4 true)==[])&&(Region.ready .any ops (((A.setIfInBounds i3 true).setIfInBounds i4 true).setIfInBounds i2 true)==[])&&
 (Region.ready .any ops (((B.setIfInBounds i1 true).setIfInBounds i2 true).setIfInBounds i4 true)==[])&&(Region.ready .any ops (((B.setIfInBounds i1 true).setIfInBounds i4 true).setIfInBounds i2 true)==[])&&(Region.ready .any ops (((B.setIfInBounds i4 true).setIfInBounds i1 true).setIfInBounds i2 true)==[])
abbrev tl3(s:St)(gI:List (TypeId×List Loc))(e:TypeId)(r p b:Tmp)(xs:List (List D))(c:List D)(kb off:Nat):St:=finish (tl2 s gI e r p xs c) (some b) (.ptr kb off) .no
theorem d7f(a:Act){p b:Nat}{u v:Value}(h:p≠b):(a.put (some p) u).put (some b) v=(a.put (some b) v).put (some p) u:=by simp only[Act.put];congr 1;exact Array.setIfInBounds_comm _ _ h
variable{p0 p1 p2 p3 p4:String}{T e t y0 y1 y2 y3 y4:TypeId}{b p q r s x y z:Tmp}{ops:Array Oper}{f0 f1 f2 f3 f4:Array Edge}{fd:Nat}
theorem c6x{i0 i1 i2 i3 i4:Nat}{L0:Array Bool}{fo:Nat}{u:TypeId}{xs:List (List D)}{z0 c:List D}{gI:List (TypeId×List Loc)}{kb0 yR:Nat}{out:Out}{Q:St->Prop}{QQ:Exit->Act->World->Prop}(h0:ops[i0]? =some ⟨some r,.call {callee:=.builtin .append,args:=#[.tmp s,.tmp z],argTypes:=#[t,t]},y0,p0,f0,none⟩)(h1:ops[i1]? =some ⟨some p,.indexAddr t (.tmp r) (.tmp q),y1,p1,f1,none⟩)(h2:ops[i2]? =some ⟨none,.store e (.tmp p) (.tmp x),y2,p2,f2,none⟩)(h3:ops[i3]? =some ⟨some b,.fieldAddr T (.tmp y) fd,y3,p3,f3,none⟩)(h4:ops[i4]? =some ⟨none,.store t (.tmp b) (.tmp r),y4,p4,f4,none⟩)(hR:b5P ops L0 i0 i1 i2 i3 i4=true)(oB:kD P e=true)(hu:P.underlying t=some (.slice e))(gK:(r≠q/\r≠x/\r≠p/\r≠b/\r≠y)/\(p≠x/\p≠b/\p≠y)/\b≠q/\b≠x)(aG:r<st.tmps.length/\p<st.tmps.length/\b<st.tmps.length)(hsx:st.eval G (.tmp s)=.d (.sl xs))(htk:jV (.t s) st.own=some (e,gI))(hlx:∀c∈xs,c.length=P.cellsOf e)(hx:st.eval G (.tmp z)=.d (.sl [z0]))(hz0:z0.length=P.cellsOf e)(hbd:(xs.length+1)*(P.bytesOf e+1)<=140737488355328)(hq:st.eval G (.tmp q)=.d (.int .i64 (xs.length:Int)))(hxv:st.eval G (.tmp x)=.d (.agg c))(hc:c.length=P.cellsOf e)(hy:st.eval G (.tmp y)=.ptr kb0 yR)(hfo:aO P T fd=some (fo,u))(hfc:P.cellsOf u≠0)(pZ:tY P G t (.tmp b) (.tmp r) (tl3 st gI e r p b xs c kb0 (yR+fo))=some out)(hQ:Q out.st){base:dU}{R:Nat->Nat->Prop}{μ:Nat->Nat}{a:Act}{w:World}(hr:Rel P G base R μ st a w)(hk:∀s' a' w' R' μ',Q s'->Rel P G base R' μ' s' a' w'->Step base R w R' w'->QQ .normal a' w'):wpAny P .any ops QQ 5 L0 a w:=by
 obtain⟨⟨n1,n2,n3,n4,n7⟩,⟨n5,n6,n8⟩,n9,n10⟩:=gK;obtain⟨l1,l2,l3⟩:=aG;have mI:=hr.size;obtain⟨_,_,_,_,_,a2i,_,_⟩:=a0J oB;obtain⟨g,cap,a3V,w1,e0,hg,mO,e8S,c0x⟩:=b4A (ty:=y0) hr oB hu (x:=.tmp z) hsx htk hlx hx hz0 hbd;obtain⟨pc,hpc,b3q,c6r⟩:=(hr.pQ hxv).a5d;have kK:∀u∈pc.toList,u.oneCell'=true:=λu hu=>by
  obtain⟨j,hj⟩:=g3q hu;have hjl:j<c.length:=by rw[<-b3q];simpa using (g3a.1 hj).1
  obtain⟨k1,k2⟩:=c6r j c[j] (by simp[hjl]);have:pc.getD j Go.undef=u:=by
   have:pc[j]? =some u:=by simpa using hj
   simp[g3b,this]
  rw[this]at k2;exact k2.b1i k1
 obtain⟨R1,hr1,hV1,hA1,hs1⟩:=c0x pc.toList c (by simpa[b3q]using hc) hc kK (λj d hj=>by
  obtain⟨k1,k2⟩:=c6r j d hj;have hjl:j<pc.size:=by rw[b3q];exact(g3a.1 hj).1
  refine⟨k1,pc[j],by simp[hjl],?_⟩;simpa[g3b,hjl]using k2)
 generalize hvS:(Value.slice (some ⟨g,0,none⟩) (xs.length+1) cap)=vS at *;generalize d6Y:spl a3V (xs.length*P.cellsOf e) pc.toList=b3r at *;have hra:r<a.tmps.size:=by rw[mI];exact l1
 have hpa:p<a.tmps.size:=by rw[mI];exact l2
 have e8U:=hr1.put (dst:=some r) (.d _ _ hV1) hA1;have hr2:=e8U.put (dst:=some p) (v:=.pointer (some ⟨g,xs.length*P.cellsOf e,none⟩)) (act:=.no) (.undef _) trivial;generalize ha1:a.put (some r) vS=a1 at *;generalize ha2:a1.put (some p) (.pointer (some ⟨g,xs.length*P.cellsOf e,none⟩))=a2 at *;have z1:a1.tmps.size=a.tmps.size:=by rw[<-ha1];exact size_put
 have v1r:a1.eval (.tmp r)=vS:=by rw[<-ha1];exact eM hra
 have v1q:a1.eval (.tmp q)=a.eval (.tmp q):=by rw[<-ha1];exact cK (Ne.symm n1)
 have v1x:a1.eval (.tmp x)=a.eval (.tmp x):=by rw[<-ha1];exact cK (Ne.symm n2)
 have v1b:a1.eval (.tmp b)=a.eval (.tmp b):=by rw[<-ha1];exact cK (Ne.symm n4)
 have v2p:a2.eval (.tmp p)=.pointer (some ⟨g,xs.length*P.cellsOf e,none⟩):=by rw[<-ha2];exact eM (z1.symm▸hpa)
 have v2x:a2.eval (.tmp x)=.agg pc:=by rw[<-ha2,cK (Ne.symm n5),v1x,hpc]
 have v2r:a2.eval (.tmp r)=vS:=by rw[<-ha2,cK n3];exact v1r
 have v2b:a2.eval (.tmp b)=a.eval (.tmp b):=by rw[<-ha2,cK (Ne.symm n6)];exact v1b
 have v1y:a1.eval (.tmp y)=.pointer (some ⟨μ kb0,yR,none⟩):=by rw[<-ha1,cK (Ne.symm n7)];exact hr.eJ hy
 have hb0:b<a.tmps.size:=by rw[mI];exact l3
 have z2:a2.tmps.size=a.tmps.size:=by rw[<-ha2,size_put];exact z1
 have hr3:=hr2.put (dst:=some b) (v:=.pointer (some ⟨μ kb0,yR+fo,none⟩)) (act:=.no) (.ptr kb0 (yR+fo)) trivial;generalize ha3:a2.put (some b) (.pointer (some ⟨μ kb0,yR+fo,none⟩))=a3 at *;generalize hab:a1.put (some b) (.pointer (some ⟨μ kb0,yR+fo,none⟩))=ab at *;have f2M:ab.put (some p) (.pointer (some ⟨g,xs.length*P.cellsOf e,none⟩))=a3:=by rw[<-hab, <- ha3, <- ha2];exact(d7f a1 n6).symm
 have v2y:a2.eval (.tmp y)=.pointer (some ⟨μ kb0,yR,none⟩):=by rw[<-ha2,cK (Ne.symm n8)];exact v1y
 have v3b:a3.eval (.tmp b)=.pointer (some ⟨μ kb0,yR+fo,none⟩):=by rw[<-ha3];exact eM (z2.symm▸hb0)
 have v3r:a3.eval (.tmp r)=vS:=by rw[<-ha3,cK n4];exact v2r
 have v3p:a3.eval (.tmp p)=.pointer (some ⟨g,xs.length*P.cellsOf e,none⟩):=by rw[<-ha3,cK n6];exact v2p
 have v3x:a3.eval (.tmp x)=.agg pc:=by rw[<-ha3,cK (Ne.symm n10)];exact v2x
 have vbb:ab.eval (.tmp b)=.pointer (some ⟨μ kb0,yR+fo,none⟩):=by rw[<-hab];exact eM (z1.symm▸hb0)
 have vbr:ab.eval (.tmp r)=vS:=by rw[<-hab,cK n4];exact v1r
 have vbq:ab.eval (.tmp q)=a.eval (.tmp q):=by rw[<-hab,cK (Ne.symm n9)];exact v1q
 have a7p:=pZ;unfold tY at a7p;split at a7p;rotate_left
 .cases a7p
 rename_i kb off ys hb hys;split at a7p;rotate_left
 .cases a7p
 rename_i cs hkb;split at a7p;rotate_left
 .cases a7p
 rename_i hcd
 clear a7p
 have hHs:(tl3 st gI e r p b xs c kb0 (yR+fo)).H=st.H:=rfl;rw[hHs]at hkb;have hbe:(tl3 st gI e r p b xs c kb0 (yR+fo)).eval G (.tmp b)=.ptr kb0 (yR+fo):=by simp[St.eval,finish,List.getD,l3]
 rw[hbe]at hb;cases hb;have e8X:ys.length=1:=by
  have:(tl3 st gI e r p b xs c kb0 (yR+fo)).eval G (.tmp r)=.d (.sl (xs++[c])):=by simp[St.eval,finish,List.getD,l1,List.getElem?_set,Ne.symm n3,Ne.symm n4]
  rw[this]at hys;simp only[xD,D.cells,List.map_cons,List.map_nil,g3f]at hys;rw[<-hys];rfl
 obtain⟨_,_,vs0,T0,hh0,e8Y,_⟩:=hr.mE kb0 _ hkb;obtain⟨hbg,e8Z⟩:=e8S kb0 _ hkb;have hvc:vS.cells=#[vS]:=by rw[<-hvS];rfl
 have hvo:vS.oneCell'=true:=by rw[<-hvS];rfl
 have hob:w1.heap[μ kb0]? =some (.cells vs0 T0 (0,0)):=e8Z.trans hh0;generalize hX:spl vs0 (yR+fo) [vS]=X;have E0:(execOp a.eval ⟨some r,.call {callee:=.builtin .append,args:=#[.tmp s,.tmp z],argTypes:=#[t,t]},y0,p0,f0,none⟩).run P w=.ok (.value vS) w1:=by simp[execOp,resolve,invoke,builtin,e0]
 have E1:∀(ax:Act)(w':World),ax.eval (.tmp r)=vS->ax.eval (.tmp q)=a.eval (.tmp q)->(execOp ax.eval ⟨some p,.indexAddr t (.tmp r) (.tmp q),y1,p1,f1,none⟩).run P w'=.ok (.value (.pointer (some ⟨g,xs.length*P.cellsOf e,none⟩))) w':=λax w' k1 k2=>a4A rfl hu (k1.trans hvS.symm) (k2.trans (hr.yL hq)) (by omega) a2i
 have E2:∀(ax:Act)(w':World),ax.eval (.tmp p)=.pointer (some ⟨g,xs.length*P.cellsOf e,none⟩)->ax.eval (.tmp x)=.agg pc->w'.heap[g]? =some (.cells a3V e (0,0))->(execOp ax.eval ⟨none,.store e (.tmp p) (.tmp x),y2,p2,f2,none⟩).run P w'=.ok .skip (w'.setRow g b3r):=λax w' kp kx hw'=>by have:=vX (P:=P) (a:=ax) (w:=w') (o:=⟨none,.store e (.tmp p) (.tmp x),y2,p2,f2,none⟩) rfl kp hw' (by rw[kx];show pc.size=_;rw[b3q,hc]) (by omega) (by rw[kx];exact kK) (by rw[kx];show _+pc.size<=_;rw[b3q,hc];exact mO);rw[kx]at this;have qM:(Value.agg pc).cells=pc:=rfl;rw[qM,d6Y]at this;exact this
 have E3:∀(ax:Act)(w':World),ax.eval (.tmp y)=.pointer (some ⟨μ kb0,yR,none⟩)->(execOp ax.eval ⟨some b,.fieldAddr T (.tmp y) fd,y3,p3,f3,none⟩).run P w'=.ok (.value (.pointer (some ⟨μ kb0,yR+fo,none⟩))) w':=λax w' ky=>a0h (P:=P) rfl hfo hfc ky;have E4:∀(ax:Act)(w':World),ax.eval (.tmp b)=.pointer (some ⟨μ kb0,yR+fo,none⟩)->ax.eval (.tmp r)=vS->w'.heap[μ kb0]? =some (.cells vs0 T0 (0,0))->(execOp ax.eval ⟨none,.store t (.tmp b) (.tmp r),y4,p4,f4,none⟩).run P w'=.ok .skip (w'.setRow (μ kb0) X):=λax w' hb1 hr1 hw'=>by have:=vX (P:=P) (a:=ax) (w:=w') (o:=⟨none,.store t (.tmp b) (.tmp r),y4,p4,f4,none⟩) rfl hb1 hw' (by rw[hr1,hvc, <- hcd.1,e8X];rfl) (by omega) (by rw[hr1,hvc];simpa using hvo) (by rw[hr1,hvc];show yR+fo+1<=_;rw[e8Y];omega);rw[hr1,hvc]at this;have:(execOp ax.eval ⟨none,.store t (.tmp b) (.tmp r),y4,p4,f4,none⟩).run P w'=.ok .skip (w'.setRow (μ kb0) (spl vs0 (yR+fo) [vS])):=this;rw[hX]at this;exact this
 have hgX:(w1.setRow (μ kb0) X).heap[g]? =some (.cells a3V e (0,0)):=(setRow_other w1 (μ kb0) g _ (Ne.symm hbg)).trans hg;have hbX:(w1.setRow g b3r).heap[μ kb0]? =some (.cells vs0 T0 (0,0)):=(setRow_other w1 g (μ kb0) _ hbg).trans hob;have c0Y:(w1.setRow (μ kb0) X).setRow g b3r=(w1.setRow g b3r).setRow (μ kb0) X:=b4z w1 hbg X b3r;have a0Q:QQ .normal a3 ((w1.setRow g b3r).setRow (μ kb0) X):=by
  obtain⟨v,w',R',μ',dD,hr4,_,_,hs3⟩:=a8m (o:=⟨none,.store t (.tmp b) (.tmp r),y4,p4,f4,none⟩) rfl pZ base R1 μ a3 _ hr3;rw[E4 a3 _ v3b v3r hbX]at dD;rcases dD with dD|⟨dD,_⟩
  .cases dD
  .cases dD;exact hk out.st a3 _ R' μ' hQ hr4 (hs1.trans hs3)
 simp only[b5P,g2Z,beq_iff_eq]at hR;obtain⟨⟨⟨⟨⟨⟨⟨⟨⟨⟨⟨⟨⟨⟨⟨⟨⟨⟨⟨r0,r1⟩,rA⟩,rB⟩,rAC⟩,rAB⟩,rBA⟩,rBD⟩,f6H⟩,f6I⟩,f6J⟩,f6K⟩,f6L⟩,f6M⟩,e1⟩,e2⟩,e3⟩,e4⟩,e5⟩,e6⟩:=hR;refine wpAny_all r0 (by simp) λi hi=>?_;simp only[g3g]at hi;subst hi;refine eF h0 rfl (.inl E0) ha1 ?_;refine wpAny_all r1 (by simp) λj hj=>?_;simp only[g3w,List.not_mem_nil,or_false]at hj;rcases hj with rfl|rfl
 .refine eF h1 rfl (.inl (E1 a1 w1 v1r v1q)) ha2 ?_;refine wpAny_all rA (by simp) λj hj=>?_;simp only[g3w,List.not_mem_nil,or_false]at hj;rcases hj with rfl|rfl
  .refine eF h2 rfl (.inr ⟨E2 a2 w1 v2p v2x hg,rfl⟩) rfl ?_;refine wpAny_all rAC (by simp) λj hj=>?_;simp only[g3g]at hj;subst hj;refine eF h3 rfl (.inl (E3 a2 _ v2y)) ha3 ?_;refine wpAny_all f6H (by simp) λj hj=>?_;simp only[g3g]at hj;subst hj;exact eF h4 rfl (.inr ⟨E4 a3 _ v3b v3r hbX,rfl⟩) rfl (wpAny_done e1 a0Q _)
  .refine eF h3 rfl (.inl (E3 a2 _ v2y)) ha3 ?_;refine wpAny_all rAB (by simp) λj hj=>?_;simp only[g3w,List.not_mem_nil,or_false]at hj;rcases hj with rfl|rfl
   .refine eF h2 rfl (.inr ⟨E2 a3 w1 v3p v3x hg,rfl⟩) rfl ?_;refine wpAny_all f6I (by simp) λj hj=>?_;simp only[g3g]at hj;subst hj;exact eF h4 rfl (.inr ⟨E4 a3 _ v3b v3r hbX,rfl⟩) rfl (wpAny_done e2 a0Q _)
   .refine eF h4 rfl (.inr ⟨E4 a3 _ v3b v3r hob,rfl⟩) rfl ?_;refine wpAny_all f6J (by simp) λj hj=>?_;simp only[g3g]at hj;subst hj;exact eF h2 rfl (.inr ⟨E2 a3 _ v3p v3x hgX,rfl⟩) rfl (wpAny_done e3 (by rw[c0Y];exact a0Q) _)
 .refine eF h3 rfl (.inl (E3 a1 _ v1y)) hab ?_;refine wpAny_all rB (by simp) λj hj=>?_;simp only[g3w,List.not_mem_nil,or_false]at hj;rcases hj with rfl|rfl
  .refine eF h1 rfl (.inl (E1 ab _ vbr vbq)) f2M ?_;refine wpAny_all rBA (by simp) λj hj=>?_;simp only[g3w,List.not_mem_nil,or_false]at hj;rcases hj with rfl|rfl
   .refine eF h2 rfl (.inr ⟨E2 a3 w1 v3p v3x hg,rfl⟩) rfl ?_;refine wpAny_all f6K (by simp) λj hj=>?_;simp only[g3g]at hj;subst hj;exact eF h4 rfl (.inr ⟨E4 a3 _ v3b v3r hbX,rfl⟩) rfl (wpAny_done e4 a0Q _)
   .refine eF h4 rfl (.inr ⟨E4 a3 _ v3b v3r hob,rfl⟩) rfl ?_;refine wpAny_all f6L (by simp) λj hj=>?_;simp only[g3g]at hj;subst hj;exact eF h2 rfl (.inr ⟨E2 a3 _ v3p v3x hgX,rfl⟩) rfl (wpAny_done e5 (by rw[c0Y];exact a0Q) _)
  .refine eF h4 rfl (.inr ⟨E4 ab _ vbb vbr hob,rfl⟩) rfl ?_;refine wpAny_all rBD (by simp) λj hj=>?_;simp only[g3g]at hj;subst hj;refine eF h1 rfl (.inl (E1 ab _ vbr vbq)) f2M ?_;refine wpAny_all f6M (by simp) λj hj=>?_;simp only[g3g]at hj;subst hj;exact eF h2 rfl (.inr ⟨E2 a3 _ v3p v3x hgX,rfl⟩) rfl (wpAny_done e6 (by rw[c0Y];exact a0Q) _)
def d1M(P:Program)(G:GT)(t e T:TypeId)(s z r p q x b y:Tmp)(fd:Nat)(Q:St->Prop)(st:St):Prop:=
 ∃(xs:List (List D))(z0 c:List D)(gI:List (TypeId×List Loc))(kb0 yR fo:Nat)(u:TypeId)(out:Out),(r<st.tmps.length/\p<st.tmps.length/\b<st.tmps.length)/\st.eval G (.tmp s)=.d (.sl xs)/\jV (.t s) st.own=some (e,gI)/\(∀c∈xs,c.length=P.cellsOf e)/\st.eval G (.tmp z)=.d (.sl [z0])/\z0.length=P.cellsOf e/\
  (xs.length+1)*(P.bytesOf e+1)<=140737488355328/\st.eval G (.tmp q)=.d (.int .i64 (xs.length:Int))/\st.eval G (.tmp x)=.d (.agg c)/\c.length=P.cellsOf e/\st.eval G (.tmp y)=.ptr kb0 yR/\aO P T fd=some (fo,u)/\P.cellsOf u≠0/\tY P G t (.tmp b) (.tmp r) (tl3 st gI e r p b xs c kb0 (yR+fo))=some out/\Q out.st
theorem a3q{id:Nat}{Q:Exit->St->Prop}{m:Nat}(h0:ops[m]? =some ⟨some r,.call {callee:=.builtin .append,args:=#[.tmp s,.tmp z],argTypes:=#[t,t]},y0,p0,f0,none⟩)(h1:ops[m+1]? =some ⟨some p,.indexAddr t (.tmp r) (.tmp q),y1,p1,f1,none⟩)(h2:ops[m+2]? =some ⟨none,.store e (.tmp p) (.tmp x),y2,p2,f2,none⟩)(h3:ops[m+3]? =some ⟨some b,.fieldAddr T (.tmp y) fd,y3,p3,f3,none⟩)(h4:ops[m+4]? =some ⟨none,.store t (.tmp b) (.tmp r),y4,p4,f4,none⟩)(hB:(P.follows .mixedOrders&&d6X ops m&&decide (ops.size=m+5)&&b5P ops (sE m ops.size) m (m+1) (m+2) (m+3) (m+4))=true)(oB:(kD P e&&decide ((r≠q/\r≠x/\r≠p/\r≠b/\r≠y)/\(p≠x/\p≠b/\p≠y)/\b≠q/\b≠x))=true)(hu:P.underlying t=some (.slice e))(hF:b3g ops st=true)(h:VK P G [.ops true ops (ops.toList.take m)] .normal st λ_ s1=>d1M P G t e T s z r p q x b y fd (λs'=>Q .normal s') s1):SW P G (.region id ops true) st Q:=by
 rw[g2Z,g2Z,g2Z,g3N]at hB;obtain⟨⟨⟨hm,hL⟩,mI⟩,hR⟩:=hB;rw[g2Z,g3N]at oB;have h5:ops.size-m=5:=by rw[mI];exact Nat.add_sub_cancel_left ..
 refine b7e hm hL hF (c9F h) ?_;rintro s1 base R μ a w QQ ⟨xs,z0,c,gI,kb0,yR,fo,u,out,k0,k1,k2,k3,k4,k5,k6,k7,k8,k9,k10,k11,k12,k13,k14⟩ hr hk;rw[h5];exact c6x (Q:=λs'=>Q .normal s') h0 h1 h2 h3 h4 hR oB.1 hu oB.2 k0 k1 k2 k3 k4 k5 k6 k7 k8 k9 k10 k11 k12 k13 k14 hr hk
end
end Go.VM
namespace Go.VM
open Go Go.RowKit
section
variable {P:Program} {G:GT} {st:St} {base:dU} {R:Nat->Nat->Prop} {μ:Nat->Nat} {a:Act} {w:World}
def b7k(P:Program)(G:GT)(all:Array Oper):List Oper->St->(Exit->St->Prop)->Prop
 |[],st,Q=>Q .normal st
 |o::rest,st,Q=>
  match gB o all st.tmps with
  |some true=>
   match kT G o st with
   |some (f,ds)=>(∃r own,(Enters P f/\CS P G f ds r own)/\b7k P G all rest (finish st o.dst r (a6Q own)) Q)\/∃s',(Enters P f/\oR P G f (ds.map .d) (oF o) st o.dst s')/\b7k P G all rest s' Q
   |none=>
    match dY G o st with
    |some (f,g2X)=>∃x0,uI P G f g2X (oF o) o.dst st (λs=>b7k P G all rest s Q) Q x0
    |none=>
     match pB P G o st with
     |some out=>b7k P G all rest (finish out.st o.dst out.v (b1q false all o out.v out.act)) Q
     |none=>False
  |some false=>b7k P G all rest (finish st o.dst (.cY []) .no) Q
  |none=>False
theorem d1N{all:Array Oper}:∀(l:List Oper)(st:St)(Q:Exit->St->Prop),b7k P G all l st Q->∀(base:dU)(R:Nat->Nat->Prop)(μ:Nat->Nat)(a:Act)(w:World),Rel P G base R μ st a w->
  ∀QQ:Exit->Act->World->Prop,(∀e s a' w' R' μ',Q e s->Rel P G base R' μ' s a' w'->Step base R w R' w'->QQ e a' w')->wpList P all QQ l a w
 |[],st,Q,h,base,R,μ,a,w,hr,QQ,hk=>hk _ st a w R μ h hr (.refl _ _ _)
 |o::rest,st,Q,h,base,R,μ,a,w,hr,QQ,hk=>by
  have go:qN P G false all o (λs=>b7k P G all rest s Q) st->wpList P all QQ (o::rest) a w:=λh1=>by unfold wpList;exact uE h1 hr λs v w' R' μ' h' jD uO=>d1N rest s Q h' base R' μ' _ w' jD QQ λe s a' w2 R2 μ2 q1 q2 q3=>hk e s a' w2 R2 μ2 q1 q2 (uO.trans q3)
  unfold b7k at h;split at h
  .rename_i hw;split at h
   .rename_i f ds hc;refine go ?_;unfold qN;rw[hw,hc];rcases h with⟨r,own,h1,h2⟩|⟨s',h1,h2⟩
    .exact .inl ⟨r,own,h1,λe=>Bool.noConfusion e,by simpa using h2⟩
    .exact .inr ⟨by simp[uD],s',h1,h2⟩
   .rename_i hc;split at h
    .rename_i f g2X hH;obtain⟨x0,h0⟩:=h;unfold uI at h0;obtain⟨he,h1,h2⟩:=h0;cases x0 with
     |true=>obtain⟨s',h3,h4⟩:=h1 rfl;refine go ?_;unfold qN;rw[hw,hc,hH];simp only[uD,Bool.false_and,a3d,g3t,if_false];exact⟨s',⟨he,h3⟩,h4⟩
     |false=>obtain⟨v,h3,h4⟩:=h2 rfl;unfold wpList;rw[a4v hr hw,if_pos rfl];exact .inl (b0r hH ⟨he,h3⟩ hr λR' w' hs hb=>hk _ _ _ w' R' μ h4 (hr.b1S hs hb) hs)
    .rename_i hH;split at h
     .rename_i out hv;refine go ?_;unfold qN;rw[hw,hc,hH,hv];exact h
     .exact h.elim
  .rename_i hw;refine go ?_;unfold qN;rw[hw];exact h
  .exact h.elim
def XW(P:Program)(G:GT):Code->St->(Exit->St->Prop)->Prop
 |.skip,st,Q=>Q .normal st
 |.region id ops draw,st,Q=>match draw with
  |true=>SW P G (.region id ops true) st Q
  |false=>b7k P G ops ops.toList st Q
 |.seq x y,st,Q=>XW P G x st λe s=>match e with
  |.normal=>XW P G y s Q
  |e=>Q e s
 |.cond c x y,st,Q=>
  match st.eval G c with
  |.d (.bool t)=>if t then XW P G x st Q else XW P G y st Q
  |.rQ=>XW P G x st Q/\XW P G y st Q
  |_=>False
 |.block id c,st,Q=>XW P G c st λe s=>match e with
  |.exit id'=>if id'=id then Q .normal s else Q (.exit id') s
  |e=>Q e s
 |.loop c,st,Q=>SW P G (.loop c) st Q
 |.exit id,st,Q=>Q (.exit id) st
 |.ret,st,Q=>Q .ret st
 |.label _,st,Q=>Q .normal st
 |.scope c,st,Q=>XW P G c st λe s=>match e with
  |.goto _=>False
  |e=>Q e s
 |_,_,_=>False
theorem b1W:∀(c:Code)(st:St)(Q:Exit->St->Prop),XW P G c st Q->SW P G c st Q
 |.skip,st,Q,h=>λbase R μ a w hr=>wp_skip ⟨st,R,μ,h,hr,.refl _ _ _⟩
 |.region id ops draw,st,Q,h=>by
  unfold XW at h;cases draw with
  |true=>exact h
  |false=>exact λbase R μ a w hr=>wp_region_list (d1N ops.toList st Q h base R μ a w hr _ λe s a' w' R' μ' q1 q2 q3=>⟨s,R',μ',q1,q2,q3⟩)
 |.seq x y,st,Q,h=>λbase R μ a w hr=>wp_seq (wp_mono (b1W x st _ h base R μ a w hr) λe a1 w1 ⟨s,R1,μ1,q1,q2,q3⟩=>by
   cases e with
   |normal=>exact wp_mono (b1W y s Q q1 base R1 μ1 a1 w1 q2) λe2 a2 w2 ⟨s2,R2,μ2,p1,p2,p3⟩=>⟨s2,R2,μ2,p1,p2,q3.trans p3⟩
   |_=>exact⟨s,R1,μ1,q1,q2,q3⟩)
 |.cond c x y,st,Q,h=>λbase R μ a w hr=>by
  unfold XW at h;split at h
  .rename_i t hc;refine wp_cond (hr.a2f hc) ?_;cases t
   .exact b1W y st Q h base R μ a w hr
   .exact b1W x st Q h base R μ a w hr
  .rename_i hc;obtain⟨t,ht⟩:=hr.d1k hc;refine wp_cond ht ?_;cases t
   .exact b1W y st Q h.2 base R μ a w hr
   .exact b1W x st Q h.1 base R μ a w hr
  .cases h
 |.block id c,st,Q,h=>λbase R μ a w hr=>wp_block (wp_mono (b1W c st _ h base R μ a w hr) λe a1 w1 ⟨s,R1,μ1,q1,q2,q3⟩=>by
   cases e with
   |exit id'=>
    simp only[Exit.inBlock];simp only at q1;by_cases hid:id'=id
    .rw[if_pos hid]at q1|-;exact⟨s,R1,μ1,q1,q2,q3⟩
    .rw[if_neg hid]at q1|-;exact⟨s,R1,μ1,q1,q2,q3⟩
   |_=>exact⟨s,R1,μ1,q1,q2,q3⟩)
 |.loop c,st,Q,h=>h
 |.exit id,st,Q,h=>λbase R μ a w hr=>wp_exit ⟨st,R,μ,h,hr,.refl _ _ _⟩
 |.ret,st,Q,h=>λbase R μ a w hr=>wp_ret ⟨st,R,μ,h,hr,.refl _ _ _⟩
 |.rangeFunc ..,_,_,h=>by simp[XW]at h
 |.scope c,st,Q,h=>λbase R μ a w hr=>wp_scope_straight (wp_mono (b1W c st _ h base R μ a w hr) λe a1 w1 ⟨s,R1,μ1,q1,q2,q3⟩=>by
   cases e with
   |goto l=>exact q1.elim
   |_=>exact⟨s,R1,μ1,q1,q2,q3⟩)
 |.label l,st,Q,h=>λbase R μ a w hr=>wp_label ⟨st,R,μ,h,hr,.refl _ _ _⟩
 |.goto ..,_,_,h=>by simp[XW]at h
inductive XI where
 |code (c:Code)
 |blk (id:Nat)
 |ops (all:Array Oper) (rest:List Oper)
 |scp
def XK(P:Program)(G:GT):List XI->Exit->St->(Exit->St->Prop)->Prop
 |[],e,st,Q=>Q e st
 |.code c::k,.normal,st,Q=>XW P G c st λe s=>XK P G k e s Q
 |.code _::k,e,st,Q=>XK P G k e st Q
 |.blk id::k,.exit id',st,Q=>if id'=id then XK P G k .normal st Q else XK P G k (.exit id') st Q
 |.blk _::k,e,st,Q=>XK P G k e st Q
 |.ops all rest::k,.normal,st,Q=>b7k P G all rest st λe s=>XK P G k e s Q
 |.ops _ _::k,e,st,Q=>XK P G k e st Q
 |.scp::_,.goto _,_,_=>False
 |.scp::k,e,st,Q=>XK P G k e st Q
def c6y(P:Program)(G:GT)(v:DV)(x y:Code)(k:List XI)(st:St)(Q:Exit->St->Prop):Prop:=
 match v with
 |.d (.bool t)=>if t then XK P G (.code x::k) .normal st Q else XK P G (.code y::k) .normal st Q
 |.rQ=>XK P G (.code x::k) .normal st Q/\XK P G (.code y::k) .normal st Q
 |_=>False
end
section
variable {P:Program} {G:GT} {k:List XI} {st:St} {Q:Exit->St->Prop}
theorem e9f(e:Exit):XK P G [] e st Q=Q e st:=rfl
theorem e3k:XK P G (.code .skip::k) .normal st Q=XK P G k .normal st Q:=rfl
theorem e9g(x y:Code):XK P G (.code (.seq x y)::k) .normal st Q=XK P G (.code x::.code y::k) .normal st Q:=by simp only[XK,XW];congr 1;funext e s;cases e<;>rfl
theorem e3l(c:Operand)(x y:Code):XK P G (.code (.cond c x y)::k) .normal st Q=c6y P G (st.eval G c) x y k st Q:=rfl
theorem d7g(id:Nat)(c:Code):XK P G (.code (.block id c)::k) .normal st Q=XK P G (.code c::.blk id::k) .normal st Q:=by simp only[XK,XW];congr 1;funext e s;cases e<;>rfl
theorem d7h(l:Nat):XK P G (.code (.label l)::k) .normal st Q=XK P G k .normal st Q:=rfl
theorem b9D:XK P G (.scp::k) .normal st Q=XK P G k .normal st Q:=rfl
theorem c9I:XK P G (.scp::k) .ret st Q=XK P G k .ret st Q:=rfl
theorem c6z(id:Nat):XK P G (.scp::k) (.exit id) st Q=XK P G k (.exit id) st Q:=rfl
theorem d3w(id:Nat)(ops:Array Oper):XK P G (.code (.region id ops false)::k) .normal st Q=XK P G (.ops ops ops.toList::k) .normal st Q:=rfl
theorem d7i(id:Nat)(ops:Array Oper):XK P G (.code (.region id ops true)::k) .normal st Q=SW P G (.region id ops true) st (λe s=>XK P G k e s Q):=rfl
theorem e3m(id:Nat):XK P G (.code (.exit id)::k) .normal st Q=XK P G k (.exit id) st Q:=rfl
theorem e9h:XK P G (.code .ret::k) .normal st Q=XK P G k .ret st Q:=rfl
theorem e3n(c:Code):XK P G (.code (.loop c)::k) .normal st Q=SW P G (.loop c) st (λe s=>XK P G k e s Q):=rfl
theorem c6A(c:Code):XK P G (.code c::k) .ret st Q=XK P G k .ret st Q:=rfl
theorem c2V(c:Code)(id:Nat):XK P G (.code c::k) (.exit id) st Q=XK P G k (.exit id) st Q:=rfl
theorem b9E(id:Nat):XK P G (.blk id::k) .normal st Q=XK P G k .normal st Q:=rfl
theorem c9J(id:Nat):XK P G (.blk id::k) .ret st Q=XK P G k .ret st Q:=rfl
theorem c6B(id id':Nat):XK P G (.blk id::k) (.exit id') st Q=if id'=id then XK P G k .normal st Q else XK P G k (.exit id') st Q:=rfl
theorem c9K(all:Array Oper):XK P G (.ops all []::k) .normal st Q=XK P G k .normal st Q:=rfl
theorem a4C(ps:List PanicEntry):∀k:List XI,XK P G k (.panic ps) st Q=Q (.panic ps) st
 |[]=>rfl
 |.code _::k=>by simpa only[XK]using a4C ps k
 |.blk _::k=>by simpa only[XK]using a4C ps k
 |.ops _ _::k=>by simpa only[XK]using a4C ps k
 |.scp::k=>by simpa only[XK]using a4C ps k
def jT(P:Program)(G:GT)(f:FuncId)(ds:List D)(ls:List (Option Loc))(dst:Option Tmp)(all:Array Oper)(rest:List Oper)(k:List XI)(st:St)(Q:Exit->St->Prop):Prop:=
 (∃r own,(Enters P f/\CS P G f ds r own)/\XK P G (.ops all rest::k) .normal (finish st dst r (a6Q own)) Q)\/
 (∃s',(Enters P f/\oR P G f (ds.map .d) ls st dst s')/\XK P G (.ops all rest::k) .normal s' Q)
variable{all:Array Oper}{f:FuncId}{dst:Option Tmp}{ls:List (Option Loc)}{rest:List Oper}
theorem jT.mk{ds:List D}{r:DV}{own:Option TypeId}(he:Enters P f)(hc:CS P G f ds r own)(h:XK P G (.ops all rest::k) .normal (finish st dst r (a6Q own)) Q):jT P G f ds ls dst all rest k st Q:=.inl ⟨r,own,⟨he,hc⟩,h⟩
def c1d(P:Program)(G:GT)(x:Option Out)(dst:Option Tmp)(all:Array Oper)(rest:List Oper)(k:List XI)(Q:Exit->St->Prop):Prop:=
 match x with
 |some out=>XK P G (.ops all rest::k) .normal (finish out.st dst out.v out.act) Q
 |none=>False
theorem c9L{st':St}{v:DV}{act:OA}:c1d P G (some ⟨v,act,st'⟩) dst all rest k Q=XK P G (.ops all rest::k) .normal (finish st' dst v act) Q:=rfl
theorem jN{c:Prop}[Decidable c]{out:Out}(hc:c)(h:c1d P G (some out) dst all rest k Q):c1d P G (if c then some out else none) dst all rest k Q:=by rw[if_pos hc];exact h
theorem c9M(x y:Code):c6y P G (.d (.bool true)) x y k st Q=XK P G (.code x::k) .normal st Q:=rfl
theorem d3x(x y:Code):c6y P G .rQ x y k st Q=(XK P G (.code x::k) .normal st Q/\XK P G (.code y::k) .normal st Q):=rfl
theorem c6C(x y:Code):c6y P G (.d (.bool false)) x y k st Q=XK P G (.code y::k) .normal st Q:=rfl
def eB(P:Program)(G:GT)(f:FuncId)(g2X:List DV)(ls:List (Option Loc))(dst:Option Tmp)(all:Array Oper)(rest:List Oper)(k:List XI)(st:St)(Q:Exit->St->Prop):Prop:=
 ∃x0,uI P G f g2X ls dst st (λs=>XK P G (.ops all rest::k) .normal s Q) (λe s=>XK P G k e s Q) x0
theorem eB.mk{g2X:List DV}{x0:Bool}(h:uI P G f g2X ls dst st (λs=>XK P G (.ops all rest::k) .normal s Q) Q x0):eB P G f g2X ls dst all rest k st Q:=by
 refine⟨x0,?_⟩;unfold uI at h|-;refine⟨h.1,h.2.1,λh0=>?_⟩;obtain⟨v,h1,h2⟩:=h.2.2 h0;refine⟨v,h1,?_⟩
 show XK P G k (.panic (a1C v)) (a3o st) Q
 rw[a4C];exact h2
def a7t(P:Program)(G:GT)(o:Oper)(all:Array Oper)(rest:List Oper)(k:List XI)(st:St)(Q:Exit->St->Prop):Prop:=
 match kT G o st with
 |some (f,ds)=>jT P G f ds (oF o) o.dst all rest k st Q
 |none=>
  match dY G o st with
  |some (f,g2X)=>eB P G f g2X (oF o) o.dst all rest k st Q
  |none=>c1d P G ((pB P G o st).map λout=>⟨out.v,b1q false all o out.v out.act,out.st⟩) o.dst all rest k Q
def a5w(P:Program)(G:GT)(y:DV)(want:Bool)(o:Oper)(all:Array Oper)(rest:List Oper)(k:List XI)(st:St)(Q:Exit->St->Prop):Prop:=
 match y with
 |.undef=>False
 |.rQ=>False
 |.d (.bool b)=>if b=want then a7t P G o all rest k st Q else XK P G (.ops all rest::k) .normal (finish st o.dst (.cY []) .no) Q
 |_=>XK P G (.ops all rest::k) .normal (finish st o.dst (.cY []) .no) Q
theorem a3r(b want:Bool)(o:Oper)(all:Array Oper)(rest:List Oper):a5w P G (.d (.bool b)) want o all rest k st Q=if b=want then a7t P G o all rest k st Q else XK P G (.ops all rest::k) .normal (finish st o.dst (.cY []) .no) Q:=rfl
theorem c9N(ds:List D)(want:Bool)(o:Oper)(all:Array Oper)(rest:List Oper):a5w P G (.cY ds) want o all rest k st Q=XK P G (.ops all rest::k) .normal (finish st o.dst (.cY []) .no) Q:=rfl
theorem d3y(o:Oper)(all:Array Oper)(rest:List Oper):a5w P G (.d (.bool true)) true o all rest k st Q=a7t P G o all rest k st Q:=by rw[a3r,if_pos rfl]
theorem d3z(o:Oper)(all:Array Oper)(rest:List Oper):a5w P G (.d (.bool false)) false o all rest k st Q=a7t P G o all rest k st Q:=by rw[a3r,if_pos rfl]
theorem d3A(o:Oper)(all:Array Oper)(rest:List Oper):a5w P G (.d (.bool true)) false o all rest k st Q=XK P G (.ops all rest::k) .normal (finish st o.dst (.cY []) .no) Q:=by rw[a3r,if_neg (by decide)]
theorem d3B(o:Oper)(all:Array Oper)(rest:List Oper):a5w P G (.d (.bool false)) true o all rest k st Q=XK P G (.ops all rest::k) .normal (finish st o.dst (.cY []) .no) Q:=by rw[a3r,if_neg (by decide)]
theorem b4E(all:Array Oper)(o:Oper)(rest:List Oper):XK P G (.ops all (o::rest)::k) .normal st Q=match gB o all st.tmps with
  |some true=>a7t P G o all rest k st Q
  |some false=>XK P G (.ops all rest::k) .normal (finish st o.dst (.cY []) .no) Q
  |none=>False:=by
 simp only[XK,b7k,a7t,jT,eB,c1d];cases gB o all st.tmps with
 |none=>rfl
 |some b=>
  cases b with
  |false=>rfl
  |true=>
   simp only;cases kT G o st with
   |some p=>rfl
   |none=>
    simp only;cases dY G o st with
    |some p=>rfl
    |none=>simp only;cases pB P G o st<;>rfl
theorem c6D(all:Array Oper)(dst:Option Tmp)(op:Op)(ty:TypeId)(pos:String)(after:Array Edge)(rest:List Oper):
  XK P G (.ops all (⟨dst,op,ty,pos,after,none⟩::rest)::k) .normal st Q=a7t P G ⟨dst,op,ty,pos,after,none⟩ all rest k st Q:=by
 rw[b4E]
 rfl
theorem c2W(all:Array Oper)(dst:Option Tmp)(op:Op)(ty:TypeId)(pos:String)(after:Array Edge)(j:Nat)(want:Bool)(rest:List Oper):
  XK P G (.ops all (⟨dst,op,ty,pos,after,some (j,want)⟩::rest)::k) .normal st Q=a5w P G (wR all st.tmps j) want ⟨dst,op,ty,pos,after,some (j,want)⟩ all rest k st Q:=by
 rw[b4E];simp only[gB,a5w];generalize wR all st.tmps j=y;cases y with
 |d x=>
  cases x with
  |bool b=>cases b<;>cases want<;>rfl
  |_=>rfl
 |_=>rfl
variable{c:Code}
theorem SW.xk(h:XK P G [.code c] .normal st Q):SW P G c st Q:=b1W c st Q h
theorem SW.tK{ι:Type}(ws:ι->List (Nat×DV))(H:ι->List (Nat×bH))(own:ι->List (TypeId×List Loc))(m:ι->Nat)(x0:ι)(h0:yE st (mJ c st (ws x0) (H x0) (own x0)))(round:∀x,XK P G [.code c] .normal (mJ c st (ws x) (H x) (own x)) λe s=>match e with
   |.normal=>bD (λy=>mJ c st (ws y) (H y) (own y)) m x s
   |e=>Q e s):SW P G (.loop c) st Q:=SW.f2H ws H own m x0 h0 λx=>SW.xk (round x)
end
attribute [irreducible] XK jT eB c1d c6y a5w
attribute [simp] d7h b9D c9I c6z e9f e3k e9g e3l d7g d3w d7i e3m e9h e3n c6A c2V b9E c9J c6B c9K c6D c2W a7t c9L c9M c6C d3x c9N d3y d3z d3A d3B a4C
end Go.VM
namespace Go.VM
open Go Go.RowKit
section
variable {P:Program} {G:GT} {st:St} {base:dU} {R:Nat->Nat->Prop} {μ:Nat->Nat} {a:Act} {w:World}
def a8w:Op->Bool
 |.move _=>true
 |.nilCheck _=>true
 |.fieldAddr _ _ _=>true
 |_=>false
variable{K TT:St->Prop}{all ops:Array Oper}{o:Oper}
theorem b7l(hg:o.guard=none)(hk:a8w o.op=true)(h:qN P G true all o K st)(hr:Rel P G base R μ st a w):∃v,∀w',(execOp a.eval o).run P w'=.ok (.value v) w':=by
 unfold qN at h;rw[show gB o all st.tmps=some true from by unfold gB;rw[hg]]at h;cases qA:o.op with
 |move x=>exact⟨a.eval x,λw'=>by simp[execOp,qA]⟩
 |nilCheck x=>
  simp only[kT,dY,qA,pB]at h;unfold xR at h;split at h
  .rename_i out ho;split at ho
   .rename_i k off hx;exact⟨_,λw'=>by simp[execOp,qA,hr.eJ hx];rfl⟩
   .rename_i cs hx;obtain⟨b,off,he,_⟩:=(hr.qQ hx).a6I;exact⟨_,λw'=>by simp[execOp,qA,he];rfl⟩
   .rename_i f hx;exact⟨_,λw'=>by simp[execOp,qA,hr.b6c hx];rfl⟩
   .rename_i f cs hx;obtain⟨vs,he,_,_⟩:=(hr.qQ hx).b1l;exact⟨_,λw'=>by simp[execOp,qA,he];rfl⟩
   .cases ho
  .exact h.elim
 |fieldAddr t x i=>
  simp only[kT,dY,qA,pB]at h;unfold uT at h;split at h
  .rename_i out ho;split at ho
   .rename_i off u hf;split at ho
    .cases ho
    .rename_i gK;split at ho
     .rename_i k o2 hx;exact⟨_,λw'=>a0h (P:=P) qA hf gK (hr.eJ hx)⟩
     .rename_i cs hx;obtain⟨b,o2,he,_⟩:=(hr.qQ hx).a6I;exact⟨_,λw'=>a0h (P:=P) qA hf gK he⟩
     .cases ho
   .cases ho
  .exact h.elim
 |_=>simp[a8w,qA]at hk
theorem c6E(hg:o.guard=none)(hk:a8w o.op=true)(h:qN P G true all o K st)(hr:Rel P G base R μ st a w):
  ∃v s R' μ',(∀w',(execOp a.eval o).run P w'=.ok (.value v) w')/\K s/\Rel P G base R' μ' s (a.put o.dst v) w/\Step base R w R' w:=by
 obtain⟨v,hv⟩:=b7l hg hk h hr;have h1:=uE (Q:=λ_ _ _=>False) (KK:=λa' w'=>∃s R' μ',K s/\Rel P G base R' μ' s a' w'/\Step base R w R' w') h hr (λs v w' R' μ' q1 q2 q3=>⟨s,R',μ',q1,q2,q3⟩);rw[if_pos (by unfold Region.wanted;rw[hg])]at h1;rcases h1 with h1|⟨_,_,_,h2⟩
 .unfold Oper.wp at h1;rw[hv w]at h1;obtain⟨s,R',μ',q1,q2,q3⟩:=h1;exact⟨v,s,R',μ',hv,q1,q2,q3⟩
 .exact h2.elim
def b7m(ops:Array Oper):List Nat->Array Bool->Bool
 |[],_=>true
 |i::r,listed=>(match ops[i]? with
  |some o=>a8w o.op&&(o.guard==none)&&o.dst.isSome
  |none=>false)&&Region.noSelect ops&&Region.free .any ops listed i&&(Region.ready .any ops listed).contains i&&b7m ops r (listed.setIfInBounds i true)
theorem c2X{ops:Array Oper}{K:St->Prop}{QQ:Exit->Act->World->Prop}(hQ:∀c a a' w,a.defers=a'.defers->a.tmps.size=a'.tmps.size->QQ (.panic c) a w->QQ (.panic c) a' w):∀(l:List Nat)(listed:Array Bool)(fuel:Nat)(st:St),b7m ops l listed=true->wN P G true ops (sel ops l) st K->
  ∀(base:dU)(R:Nat->Nat->Prop)(μ:Nat->Nat)(a:Act)(w:World),Rel P G base R μ st a w->(∀s a' R' μ',K s->Rel P G base R' μ' s a' w->Step base R w R' w->wpAny P .any ops QQ fuel (cW l listed) a' w)->wpAny P .any ops QQ (l.length+fuel) listed a w
 |[],listed,fuel,st,_,h,base,R,μ,a,w,hr,hk=>by simpa[cW]using hk st a R μ h hr (.refl _ _ _)
 |i::l,listed,fuel,st,hB,h,base,R,μ,a,w,hr,hk=>by
  simp only[b7m,g2Z]at hB;obtain⟨⟨⟨⟨ho,d7j⟩,hf⟩,hrd⟩,hB'⟩:=hB;split at ho;rotate_left
  .cases ho
  rename_i o hoi;simp only[g2Z,beq_iff_eq]at ho;obtain⟨⟨hsk,hg⟩,hd⟩:=ho;simp only[sel,hoi,wN]at h;obtain⟨v,s,R',μ',hv,hK,jD,uO⟩:=c6E hg hsk h hr;rw[show(i::l).length+fuel=(l.length+fuel)+1 by simp only[List.length_cons];omega];refine wpAny_take (v:=v) hoi d7j hf hrd (λc a w h=>hQ c _ _ w ?_ ?_ h) (.inl ⟨by unfold Region.wanted;rw[hg],hv⟩) ?_
  .cases o.dst<;>rfl
  .cases o.dst<;>simp[Act.put]
  .exact c2X hQ l _ fuel s hB' hK base R' μ' _ w jD λs2 a2 R2 μ2 q1 q2 q3=>hk s2 a2 R2 μ2 q1 q2 (uO.trans q3)
def a0R(Q:Exit->St->Prop):Exit->St->Prop:=λe s=>match e with
 |.panic c=>∀s,Q (.panic c) s
 |e=>Q e s
variable{Q:Exit->St->Prop}{s:St}
theorem c2Y:a0R Q .normal s=Q .normal s:=rfl
variable{c:List PanicEntry}
theorem a7u:a0R Q (.panic c) s=∀s,Q (.panic c) s:=rfl
theorem b7n{e:Exit}(h:a0R Q e s):Q e s:=by cases e<;>first|exact h|exact h s
theorem Rel.b7o(hr:Rel P G base R μ st a w)(a':Act)(hd:a'.defers=[]):Rel P G base R μ ⟨List.replicate a'.tmps.size .undef,[],[]⟩ a' w where
 defers:=hd
 size:=by simp
 tmps:=λi v d _ hd=>by
  rw[g3R]at hd;split at hd
  .simp at hd;subst hd;exact .undef _
  .cases hd
 mE:=λk o h=>by cases h
 inj:=λk k' o o' h=>by cases h
 eR:=λc hc=>by cases hc
 own:=⟨[],rfl,λi c v h _=>by simp at h,.nil⟩
 wS:=hr.wS
 rY:=hr.rY
 base:=hr.base
 pass:=hr.pass
theorem a7v{ops:Array Oper}:∀(l:List Nat)(listed:Array Bool),b7m ops l listed=true->gX ops listed->gX ops (cW l listed)
 |[],_,_,h=>h
 |i::l,listed,hB,h=>by simp only[b7m,g2Z]at hB;exact a7v l _ hB.2 (h.set (by simpa using hB.1.2))
def e6g(ops:Array Oper)(ss:List Nat)(c:Nat)(tG:List Nat)(T:Ord):Bool:=(gW ops).isEmpty&&b7m ops ss (Array.replicate ops.size false)&&decide (ss.length+tG.length+1<=ops.size)&&inB ops c tG&&b1O ops c tG (cW ss (Array.replicate ops.size false))&& !(Region.ready .any ops (cW tG (cW ss (Array.replicate ops.size false)))).isEmpty&&((Region.ready .any ops (cW tG (cW ss (Array.replicate ops.size false)))).all λj=>a5u c T j)&&b7h ops c T (ops.size-ss.length-tG.length) (cW tG (cW ss (Array.replicate ops.size false)))
theorem gX.zero:gX ops (Array.replicate ops.size false):=λk hk=>by
 rcases Nat.lt_or_ge k ops.size with h'|h'
 .simp[h']at hk
 .simp[Nat.not_lt.2 h']at hk
theorem eV{id:Nat}(ss:List Nat)(c:Nat)(tG:List Nat)(T:Ord)(x0:Bool)(hm:P.follows .mixedOrders=true)(hB:e6g ops ss c tG T=true)(h:VK P G [.ops true ops (sel ops ss)] .normal st λ_ s=>VK P G [.ops true ops (sel ops tG)] .normal s λ_ s=>sF P G ops c (a0R Q) x0 T s):SW P G (.region id ops true) st Q:=by
 simp only[e6g,g2Z,List.isEmpty_iff,g3N,g3v,g3C,g3c]at hB;obtain⟨⟨⟨⟨⟨⟨⟨hN,pZ⟩,hlen⟩,wJ⟩,hs⟩,gK⟩,eS⟩,ht⟩:=hB;obtain⟨k,hk⟩:=Nat.exists_eq_add_of_le hlen;have qM:=a7v ss _ pZ gX.zero;have e:ops.size-ss.length-tG.length=k+1:=by omega
 rw[e]at ht;refine SW.mono (λe s=>b7n) ?_;intro base R μ a w hr;obtain⟨jD,uO⟩:=hr.drew;refine wp_region_any hm ?_;simp only[VK]at h;have main:=c2X (QQ:=λe a' w'=>∃s' R' μ',a0R Q e s'/\Rel P G base R' μ' s' a' w'/\Step base R w R' w') (K:=λs=>wN P G true ops (sel ops tG) s λs=>sF P G ops c (a0R Q) x0 T s) (λc a a' w h1 h2 ⟨s',R',μ',q1,q2,q3⟩=>⟨⟨List.replicate a'.tmps.size .undef,[],[]⟩,R',μ',q1,q2.b7o a' (h1▸q2.defers),q3⟩) ss _ (tG.length+(k+1)) st pZ h base R μ a w.drew jD λs a' R1 μ1 q1 q2 q3=>by
  cases x0 with
  |false=>have h2:=xY (λs hs=>sF.pan T s hs) _ _ q1;have:=a8u (P:=P) (G:=G) (c:=c) (Z:=a3p P G ops c (a0R Q)) hN tG _ s (k+1) qM wJ hs (vY (λs uO=>⟨gK,λj hj=>a7r T k _ s ht uO j hj (eS j hj)⟩) _ _ (yY tG s wJ h2));exact b1T _ _ s this base R1 μ1 a' w.drew q2 λv s a' w' R' μ' p1 p2 p3=>⟨s,R',μ',p1,p2,uO.trans (q3.trans p3)⟩
  |true=>have h2:=xY (λs hs=>sF.ret T s hs) _ _ q1;have:=a8t (P:=P) (G:=G) (c:=c) (Q:=λs=>a0R Q .normal s) hN tG _ s (k+1) qM hs (vY (λs uO=>⟨λh'=>(gK h').elim,λj hj=>b1P hN T k _ s (gX.cW tG _ qM hs) ht uO j hj (eS j hj)⟩) _ _ (yY tG s wJ h2)) λ_=>trivial;exact b1N _ _ s this base R1 μ1 a' w.drew q2 λs a' w' R' μ' p1 p2 p3=>⟨s,R',μ',p1,p2,uO.trans (q3.trans p3)⟩
 rw[show ss.length+(tG.length+(k+1))=ops.size by omega]at main;exact main
def c2Z(ops:Array Oper)(m:Nat)(ss:List Nat)(c:Nat)(tG:List Nat)(T:Ord):Bool:=(gW ops).isEmpty&&b7m ops ss (Array.replicate ops.size false)&&d7e m ss&&decide (ss.length+tG.length+1<=m)&&decide (m<=ops.size)&&a0z ops m&&d7e m tG&&inB ops c tG&&b1O ops c tG (cW ss (Array.replicate ops.size false))&& !(Region.ready .any ops (cW tG (cW ss (Array.replicate ops.size false)))).isEmpty&&((Region.ready .any ops (cW tG (cW ss (Array.replicate ops.size false)))).all λj=>a5u c T j)&&a9A ops m c T (m-ss.length-tG.length) (cW tG (cW ss (Array.replicate ops.size false)))
theorem b1X{id:Nat}{m:Nat}(ss:List Nat)(c:Nat)(tG:List Nat)(T:Ord)(x0:Bool)(hm:P.follows .mixedOrders=true)(hB:c2Z ops m ss c tG T=true)(h:VK P G [.ops true ops (sel ops ss)] .normal st λ_ s=>VK P G [.ops true ops (sel ops tG)] .normal s λ_ s=>sF P G ops c (b7j TT (a0R Q)) x0 T s)(hT:∀s base R μ a w (QQ:Exit->Act->World->Prop),TT s->Rel P G base R μ s a w->(∀s' a' w' R' μ',Q .normal s'->Rel P G base R' μ' s' a' w'->Step base R w R' w'->QQ .normal a' w')->wpAny P .any ops QQ (ops.size-m) (sE m ops.size) a w):SW P G (.region id ops true) st Q:=by
 simp only[c2Z,g2Z,List.isEmpty_iff,g3N,g3v,g3C,g3c]at hB;obtain⟨⟨⟨⟨⟨⟨⟨⟨⟨⟨⟨hN,pZ⟩,f8S⟩,hlen⟩,f2t⟩,hTA⟩,cN⟩,wJ⟩,hs⟩,gK⟩,eS⟩,ht⟩:=hB;obtain⟨k,hk⟩:=Nat.exists_eq_add_of_le hlen;have qM:=a7v ss _ pZ gX.zero;have e:m-ss.length-tG.length=k+1:=by omega
 rw[e]at ht;obtain⟨k',hk'⟩:=Nat.exists_eq_add_of_le (Nat.le_trans hlen f2t);refine SW.mono (λe s=>b7n) ?_;intro base R μ a w hr;obtain⟨jD,uO⟩:=hr.drew;refine wp_region_any hm ?_;simp only[VK]at h;have main:=c2X (QQ:=λe a' w'=>∃s' R' μ',a0R Q e s'/\Rel P G base R' μ' s' a' w'/\Step base R w R' w') (K:=λs=>wN P G true ops (sel ops tG) s λs=>sF P G ops c (b7j TT (a0R Q)) x0 T s) (λc a a' w h1 h2 ⟨s',R',μ',q1,q2,q3⟩=>⟨⟨List.replicate a'.tmps.size .undef,[],[]⟩,R',μ',q1,q2.b7o a' (h1▸q2.defers),q3⟩) ss _ (tG.length+(k'+1)) st pZ h base R μ a w.drew jD λs a' R1 μ1 q1 q2 q3=>by
  cases x0 with
  |false=>have h2:=xY (λs hs=>sF.pan T s hs) _ _ q1;have:=a8u (P:=P) (G:=G) (c:=c) (Z:=a3p P G ops c (b7j TT (a0R Q))) hN tG _ s (k'+1) qM wJ hs (vY (λs uO=>⟨gK,λj hj=>a8v T k k' _ s (by omega) ht uO j hj (eS j hj)⟩) _ _ (yY tG s wJ h2));exact b1T _ _ s this base R1 μ1 a' w.drew q2 λv s a' w' R' μ' p1 p2 p3=>⟨s,R',μ',p1,p2,uO.trans (q3.trans p3)⟩
  |true=>
   have h2:=xY (λs hs=>sF.ret T s hs) _ _ q1;have h3:=b0s (P:=P) (G:=G) (m:=m) (c:=c) (Q:=TT) hTA hN tG _ s (k+1) cN qM hs (vY (λs uO=>⟨gK,λj hj=>b1U hTA hN T k _ s (gX.cW tG _ qM hs) ht uO j hj (eS j hj)⟩) _ _ (yY tG s wJ h2));have h4:=c1c (r:=ops.size-m) (QQ:=λe a' w'=>∃s' R' μ',a0R Q e s'/\Rel P G base R' μ' s' a' w'/\Step base R w R' w') _ _ s h3 base R1 μ1 a' w.drew q2 λs a' w' R' μ' p1 p2 p3=>hT s base R' μ' a' w' _ p1 p2 λs2 a2 w2 R2 μ2 o1 o2 o3=>⟨s2,R2,μ2,o1,o2,uO.trans (q3.trans (p3.trans o3))⟩
   rw[show tG.length+(k+1)+(ops.size-m)=tG.length+(k'+1) by omega]at h4;exact h4
 rw[show ss.length+(tG.length+(k'+1))=ops.size by omega]at main;exact main
variable{p0 p1 p2 p3:String}{b p q r x z:Tmp}{e t y0 y1 y2 y3:TypeId}{f0 f1 f2 f3:Array Edge}
theorem b1Y{id:Nat}(m:Nat){s:Tmp}(ss:List Nat)(c:Nat)(tG:List Nat)(T:Ord)(x0:Bool)(h0:ops[m]? =some ⟨some r,.call {callee:=.builtin .append,args:=#[.tmp s,.tmp z],argTypes:=#[t,t]},y0,p0,f0,none⟩)(h1:ops[m+1]? =some ⟨some p,.indexAddr t (.tmp r) (.tmp q),y1,p1,f1,none⟩)(h2:ops[m+2]? =some ⟨none,.store e (.tmp p) (.tmp x),y2,p2,f2,none⟩)(h3:ops[m+3]? =some ⟨none,.store t (.tmp b) (.tmp r),y3,p3,f3,none⟩)(hB:(P.follows .mixedOrders&&c2Z ops m ss c tG T&&c1a ops m)=true)(oB:(kD P e&&decide ((r≠q/\r≠x/\r≠p/\r≠b)/\p≠x/\p≠b))=true)(hu:P.underlying t=some (.slice e))(h:VK P G [.ops true ops (sel ops ss)] .normal st λ_ s1=>VK P G [.ops true ops (sel ops tG)] .normal s1 λ_ s1=>sF P G ops c (b7j (e9b P G t e s z r p q x b (λs'=>Q .normal s')) (a0R Q)) x0 T s1):SW P G (.region id ops true) st Q:=by
 rw[g2Z,g2Z]at hB;obtain⟨⟨hm,hL⟩,hR⟩:=hB;rw[g2Z,g3N]at oB;simp only[c1a,g2Z,g3N,beq_iff_eq]at hR;obtain⟨⟨⟨⟨⟨⟨⟨⟨⟨⟨mI,r0⟩,r1⟩,r2⟩,r3⟩,r4⟩,r5⟩,r6⟩,r7⟩,r8⟩,r9⟩:=hR;have h4:ops.size-m=4:=by rw[mI];exact Nat.add_sub_cancel_left ..
 refine b1X ss c tG T x0 hm hL h ?_;rintro s1 base R μ a w QQ ⟨xs,z0,c,gI,out,k0,k1,k2,k3,k4,k5,k6,k7,k8,k9,k10,k11⟩ hr hk;rw[h4];exact e3f (Q:=λs'=>Q .normal s') h0 h1 h2 h3 r0 r1 r2 r3 r4 r5 r6 r7 r8 r9 oB.1 hu oB.2 k0 k1 k2 k3 k4 k5 k6 k7 k8 k9 k10 k11 hr hk
theorem eW{id:Nat}(m:Nat){T:TypeId}{s y:Tmp}{fd:Nat}{y4:TypeId}{p4:String}{f4:Array Edge}(ss:List Nat)(c:Nat)(tG:List Nat)(O:Ord)(x0:Bool)(h0:ops[m]? =some ⟨some r,.call {callee:=.builtin .append,args:=#[.tmp s,.tmp z],argTypes:=#[t,t]},y0,p0,f0,none⟩)(h1:ops[m+1]? =some ⟨some p,.indexAddr t (.tmp r) (.tmp q),y1,p1,f1,none⟩)(h2:ops[m+2]? =some ⟨none,.store e (.tmp p) (.tmp x),y2,p2,f2,none⟩)(h3:ops[m+3]? =some ⟨some b,.fieldAddr T (.tmp y) fd,y3,p3,f3,none⟩)(h4:ops[m+4]? =some ⟨none,.store t (.tmp b) (.tmp r),y4,p4,f4,none⟩)(hB:(P.follows .mixedOrders&&c2Z ops m ss c tG O&&decide (ops.size=m+5)&&b5P ops (sE m ops.size) m (m+1) (m+2) (m+3) (m+4))=true)(oB:(kD P e&&decide ((r≠q/\r≠x/\r≠p/\r≠b/\r≠y)/\(p≠x/\p≠b/\p≠y)/\b≠q/\b≠x))=true)(hu:P.underlying t=some (.slice e))(h:VK P G [.ops true ops (sel ops ss)] .normal st λ_ s1=>VK P G [.ops true ops (sel ops tG)] .normal s1 λ_ s1=>sF P G ops c (b7j (d1M P G t e T s z r p q x b y fd (λs'=>Q .normal s')) (a0R Q)) x0 O s1):SW P G (.region id ops true) st Q:=by
 rw[g2Z,g2Z,g2Z,g3N]at hB;obtain⟨⟨⟨hm,hL⟩,mI⟩,hR⟩:=hB;rw[g2Z,g3N]at oB;have h5:ops.size-m=5:=by rw[mI];exact Nat.add_sub_cancel_left ..
 refine b1X ss c tG O x0 hm hL h ?_;rintro s1 base R μ a w QQ ⟨xs,z0,c,gI,kb0,yR,fo,u,out,k0,k1,k2,k3,k4,k5,k6,k7,k8,k9,k10,k11,k12,k13,k14⟩ hr hk;rw[h5];exact c6x (Q:=λs'=>Q .normal s') h0 h1 h2 h3 h4 hR oB.1 hu oB.2 k0 k1 k2 k3 k4 k5 k6 k7 k8 k9 k10 k11 k12 k13 k14 hr hk
def d7k:List DV->List DV->Prop
 |[],[]=>True
 |d::ds,d'::ds'=>(d'=.undef\/b0j d d')/\d7k ds ds'
 |_,_=>False
def e3o:bH->bH->Prop
 |.cells cs,.cells xG=>d7k cs xG
 |o,o'=>o'=o
def d7l(H:List (Nat×bH)):List (Nat×bH)->Prop
 |[]=>True
 |(k,o')::r=>(∃o,getKey k H=some o/\e3o o o')/\d7l H r
theorem c1e:∀{cs xG:List DV},d7k cs xG->xG.length=cs.length/\∀(i:Nat)(d':DV),xG[i]? =some d'->∃d,cs[i]? =some d/\(d'=.undef\/b0j d d')
 |[],[],_=>⟨rfl,λi d' h=>by simp at h⟩
 |d::ds,d'::ds',h=>by
  obtain⟨h1,h2⟩:=c1e h.2;refine⟨by simp[h1],λi e he=>?_⟩;cases i with
  |zero=>simp at he;subst he;exact⟨d,rfl,h.1⟩
  |succ i=>simpa using h2 i e (by simpa using he)
theorem c1f{H:List (Nat×bH)}:∀{H1:List (Nat×bH)},d7l H H1->∀k o',getKey k H1=some o'->∃o,getKey k H=some o/\e3o o o'
 |[],_,k,o',h=>by simp[getKey]at h
 |(k0,o0)::r,hw,k,o',h=>by
  unfold getKey at h;split at h
  .rename_i he;cases h;subst he;exact hw.1
  .exact c1f hw.2 k o' h
theorem e3p{x y:D}(h:WkD x y)(hx:x.one=true):y.one=true:=by cases h<;>first|exact hx|rfl|(simp[D.one]at hx|-)
variable{d:DV}
theorem d3C{d':DV}(h:b0j d d')(hc:d.cell=true):d'.cell=true:=by cases d<;>cases d'<;>simp only[b0j]at h<;>first|exact e3p h hc|(cases h;exact hc)|(cases h;done)|(simp[DV.cell]at hc)
theorem d7m{b:Nat}{o o':bH}(h:e3o o o')(hr:mV R μ w b o):mV R μ w b o':=by
 cases o with
 |cells cs=>
  cases o' with
  |cells xG=>
   obtain⟨q1,q2⟩:=c1e h;obtain⟨vs,T,h1,h2,h3,h4⟩:=hr;refine⟨vs,T,h1,by rw[h2,q1],λi d' hd'=>?_,λT' hm=>?_⟩
   .obtain⟨d,hd,hc⟩:=q2 i d' hd';obtain⟨p1,p2⟩:=h3 i d hd;rcases hc with rfl|hc
    .exact⟨rfl,.undef _⟩
    .exact⟨d3C hc p1,p2.wk hc⟩
   .obtain⟨i,hi⟩:=g3q hm;obtain⟨d,hd,hc⟩:=q2 i _ hi;rcases hc with hc|hc
    .cases hc
    .have:d=.a0E T':=by cases d<;>simp only[b0j]at hc<;>first|exact hc|cases hc
     subst this;exact h4 T' (g3e hd)
  |map es=>cases h
  |iter s p=>cases h
  |bld T u es=>cases h
 |map es=>cases o'<;>first|(cases h;exact hr)|cases h
 |iter s p=>cases o'<;>first|(cases h;exact hr)|cases h
 |bld T u es=>cases o'<;>first|(cases h;exact hr)|cases h
structure d7n (s s':St):Prop where
 tmps:WkT s.tmps s'.tmps
 H:d7l s.H s'.H
 own:b1w s s.own s'.own=true
 keys:bM s'.H s'.own=true
theorem d3D(s s':St):d7n s s'↔WkT s.tmps s'.tmps/\d7l s.H s'.H/\b1w s s.own s'.own=true/\bM s'.H s'.own=true:=⟨λh=>⟨h.tmps,h.H,h.own,h.keys⟩,λh=>⟨h.1,h.2.1,h.2.2.1,h.2.2.2⟩⟩
theorem Rel.e6h{st':St}(hr:Rel P G base R μ st a w)(h:d7n st st'):Rel P G base R μ st' a w:=by
 obtain⟨h1,h2⟩:=a0N h.tmps;have h3:=c1f h.H;refine⟨hr.defers,by rw[hr.size,h1],λi v d' hv hd'=>?_,λk o' hk=>?_,λk k' o o' hk hk' he=>?_,λc hc k off hl=>?_,?_,hr.wS,hr.rY,hr.base,hr.pass⟩
 .obtain⟨d,hd,hc⟩:=h2 i d' hd';have:=hr.tmps i v d hv hd;rcases hc with rfl|rfl|⟨rfl,rfl⟩
  .exact .undef _
  .exact this
  .obtain⟨ao,rfl⟩:=this.b1j.mN;exact .d _ _ (.emp _ _)
 .obtain⟨o,ho,hw⟩:=h3 k o' hk;obtain⟨q1,q2,q3⟩:=hr.mE k o ho;exact⟨q1,q2,d7m hw q3⟩
 .obtain⟨o1,ho1,_⟩:=h3 k o hk;obtain⟨o2,ho2,_⟩:=h3 k' o' hk';exact hr.inj k k' o1 o2 ho1 ho2 he
 .have:=g3c.1 h.keys c hc;have:=g3c.1 this _ hl;exact g3B.1 this
 .obtain⟨vs,sU⟩:=hr.own;obtain⟨vs',hv',_⟩:=a6W hr st'.own st.own vs ⟨sU.len,sU.one,sU.apart⟩ h.own;refine⟨vs',hv'.len,λi c v hc hv=>?_,hv'.apart⟩;have ho:=hv'.one i c v hc hv;exact⟨ho.eR,ho.own,λk o hk=>by obtain⟨o1,ho1,_⟩:=h3 k o hk;exact ho.keys k o1 ho1⟩
theorem a0i(a:List (List D))(x y:List D)(h:WkL x y):c2B (a++[x]) (a++[y]):=by
 refine⟨by simp,λi d d' h1 h2=>?_⟩;by_cases hi:i<a.length
 .rw[g3k hi]at h1 h2;rw[h1]at h2;cases h2;simp
 .rw[g3h (by omega)]at h1 h2;cases hk:i-a.length with
  |zero=>rw[hk]at h1 h2;simp at h1 h2;subst h1 h2;exact h
  |succ n=>rw[hk]at h1;simp at h1
def a5x(P:Program)(s:St)(rs:List ResultVar)(d:DV)(H1:List (Nat×bH))(own1:List (TypeId×List Loc)):Prop:=match a3k P s rs with
 |some r=>d7n (b4p s rs r) ⟨[r],H1,own1⟩/\b0j r d
 |none=>False
variable{H1:List (Nat×bH)}{own1:List (TypeId×List Loc)}
theorem Rel.e9i{r:DV}{v:Value}(jD:Rel P G base R μ ⟨[r],H1,own1⟩ {tmps:=#[v],defers:=[]} w)(hw:b0j r d):Rel P G base R μ ⟨[d],H1,own1⟩ {tmps:=#[v],defers:=[]} w:=
 ⟨jD.defers,jD.size,λi u d0 hu hd=>by
  cases i with
  |zero=>simp at hd;subst hd;exact(jD.tmps 0 u r hu rfl).wk hw
  |succ i=>simp at hd,jD.mE,jD.inj,jD.eR,by
  obtain⟨vs,h1,h2,h3⟩:=jD.own;exact⟨vs,h1,λi c v hc hv=>⟨(h2 i c v hc hv).eR,(h2 i c v hc hv).own,(h2 i c v hc hv).keys⟩,h3⟩,jD.wS,jD.rY,jD.base,jD.pass⟩
theorem CH.b7p{f:FuncId}{fn:Func}{c:Code}{n:Nat}{s0:St}(hf:P.funcs[f]? =some fn)(hb:fn.body=some c)(hn:fn.ntmps=n){rs:List ResultVar}(hrs:fn.results.toList=rs)(hT:(s0.own.all λc=>c.2.all λl=>match l with|.t i=>decide (i<s0.tmps.length)|_=>true)=true)(h:SW P G c ⟨s0.tmps++List.replicate (n-s0.tmps.length) (.cY []),s0.H,s0.own⟩ λe s=>(e=.normal\/e=.ret)/\a5x P s rs d H1 own1):CH P G f s0 ⟨[d],H1,own1⟩:=by
 subst hrs;intro base R μ args w hr;refine calls_of_wp hf hb ?_;have mI:args.size=s0.tmps.length:=hr.size;have hrel:Rel P G base R μ ⟨s0.tmps++List.replicate (n-s0.tmps.length) (.cY []),s0.H,s0.own⟩ {tmps:=args++Array.replicate (fn.ntmps-args.size) undef,defers:=[]} w:=by
  refine⟨rfl,by simp[mI,hn],λi v d hiv hid=>?_,hr.mE,hr.inj,hr.eR,?_,hr.wS,hr.rY,hr.base,hr.pass⟩
  .simp only at hid;by_cases hi:i<s0.tmps.length
   .rw[g3k hi]at hid;rw[g3H (by omega)]at hiv;exact hr.tmps i v d hiv hid
   .rw[g3h (by omega),g3R]at hid;split at hid<;>simp at hid;subst hid;rw[g3W (by omega),Array.getElem?_replicate]at hiv;split at hiv<;>simp at hiv;subst hiv;exact .cY #[] [] rfl (by simp)
  .obtain⟨vs,hl,h1,hap⟩:=hr.own;refine⟨vs,hl,λi c v hc hv=>?_,hap⟩;have ho:=h1 i c v hc hv;refine⟨λl hl u hu=>?_,ho.own,ho.keys⟩;cases l with
   |t j=>have hj:=g3c.1 (g3c.1 hT c (g3e hc)) _ hl;simp only[g3N]at hj;simp only[cX]at hu;rw[g3H (by omega)]at hu;exact ho.eR _ hl u hu
   |c k off=>exact ho.eR _ hl u hu
 refine wp_mono (h base R μ _ w hrel) λe a' w' ⟨s,R',μ',⟨he,a2R⟩,jD,hs⟩=>?_;unfold a5x at a2R;split at a2R
 .rename_i r kX;obtain⟨v,hv1,hv2⟩:=a2p jD kX;have a6Z:a'.defers=[]/\∃v,(results fn a'.tmps).run P w'=.ok v w'/\∃v' R' μ',Ending.returned v=.returned v'/\Rel P G base R' μ' ⟨[d],H1,own1⟩ {tmps:=#[v'],defers:=[]} w'/\Step base R w R' w':=
   ⟨jD.defers,v,hv1,v,R',μ',rfl,((jD.ret hv1 hv2).e6h a2R.1).e9i a2R.2,hs⟩
  rcases he with rfl|rfl
  .exact a6Z
  .exact a6Z
 .exact a2R.elim
theorem CX.b7p{f:FuncId}{fn:Func}{c:Code}{n:Nat}{s0:St}{x:Ends}(hf:P.funcs[f]? =some fn)(hb:fn.body=some c)(hn:fn.ntmps=n){rs:List ResultVar}(hrs:fn.results.toList=rs)(hT:(s0.own.all λc=>c.2.all λl=>match l with|.t i=>decide (i<s0.tmps.length)|_=>true)=true)(h:∀Q:Exit->St->Prop,(∀d H1 own1 e s,x=.inl (d,H1,own1)->(e=.normal\/e=.ret)->a5x P s rs d H1 own1->Q e s)->(∀v s,x=.inr v->Q (.panic (a1C v)) s)->SW P G c ⟨s0.tmps++List.replicate (n-s0.tmps.length) (.cY []),s0.H,s0.own⟩ Q):CX P G f s0 x:=by
 match x,h with
 |.inl (d,H1,own1),h=>exact CH.b7p hf hb hn hrs hT (h _ (λd' H1' f2T e s he=>by cases he;exact λh1 h2=>⟨h1,h2⟩) (λv s he=>by cases he))
 |.inr v,h=>exact CPn.xV hf hb hn hT (h _ (λd' H1' f2T e s he=>by cases he) (λv' s he=>by cases he;rfl))
theorem c3a:b7j TT Q .normal s=TT s:=rfl
theorem c6F:b7j TT Q (.panic c) s=Q (.panic c) s:=rfl
def a6y(a b d:Nat):Ord:=
 .op a (.op b (.op d (.call [] .none) (.call [d] .none)) (.op d (.op b (.call [] .none) (.call [b] .none)) (.call [b,d] .none)))
  (.op d (.op a (.op b (.call [] .none) (.call [b] .none)) (.call [a,b] .none)) (.call [a,b,d] .none))
attribute [simp] c2Y a7u a5x d3D d7l e3o d7k c3a c6F a6y
end
end Go.VM
section
namespace Go.Proofs.YtmfbjecjccipfaaGreatDoor
open Go Go.VM
variable {G:GT}
def smI(c:Int):Bool:=decide (97<=c)&&decide (c<=122)
def caI(c:Int):Bool:=decide (65<=c)&&decide (c<=90)
def dgI(c:Int):Bool:=decide (48<=c)&&decide (c<=57)
def inI(c:Int):Bool:=smI c||caI c||dgI c||decide (c=95)
theorem b1Z(c:Int):CS prog G 137 [.int .i32 c] (.d (.bool (smI c))) none:=by refine CS.aW func137 rfl ntmps137 rfl ?_;by_cases h:97<=c<;>simp[h,smI]
theorem a7w(c:Int):CS prog G 140 [.int .i32 c] (.d (.bool (caI c))) none:=by refine CS.aW func140 rfl ntmps140 rfl ?_;by_cases h:65<=c<;>simp[h,caI]
theorem a5y(c:Int):CS prog G 141 [.int .i32 c] (.d (.bool (dgI c))) none:=by refine CS.aW func141 rfl ntmps141 rfl ?_;by_cases h:48<=c<;>simp[h,dgI]
theorem c3b(c:Int):CS prog G 139 [.int .i32 c] (.d (.bool (inI c))) none:=by
 refine CS.aW func139 rfl ntmps139 rfl ?_;simp;refine aC.mk (.mk func137 rfl) (b1Z c) ?_;by_cases h1:smI c=true
 .simp[h1,inI]
 .simp[h1];refine aC.mk (.mk func140 rfl) (a7w c) ?_;by_cases h2:caI c=true
  .simp[h2,inI]
  .simp[h2];refine aC.mk (.mk func141 rfl) (a5y c) ?_;by_cases h3:dgI c=true
   .simp[h3,inI]
   .simp[h1,h2,h3,inI]
end Go.Proofs.YtmfbjecjccipfaaGreatDoor
end
section
namespace Go.Proofs.YtmfbjecjccipfaaGreatDoor
open Go Go.VM Go.RowKit
variable {G:GT}
theorem e6k{args:Array Value}(h:args.size=2):args=#[args.getD 0 undef,args.getD 1 undef]:=by
 obtain⟨l⟩:=args
 match l,h with
 |[a,b],_=>rfl
theorem c6G(s:List UInt8)(c:UInt8)(hc:c.toNat<128:=by decide):CS prog G 169 [.str s,.str [c]] (.d (.str (Lib.trimLeftB s c))) none:=
 CS.d1B λw R args hg hR hs hv=>by rw[e6k hs,(hv 0 _ rfl).vR,(hv 1 _ rfl).vR];exact(strings_TrimLeft_one ⟨s.toArray⟩ c hc w).mono λe w' ⟨he,hw⟩=>⟨_,he,.str _,hw▸Below.refl _ _⟩
theorem c3d(s p:List UInt8):CS prog G 143 [.str s,.str p] (.d (.bool (p.isPrefixOf s))) none:=
 CS.d1B λw R args hg hR hs hv=>by rw[e6k hs,(hv 0 _ rfl).vR,(hv 1 _ rfl).vR];exact(strings_HasPrefix ⟨s.toArray⟩ ⟨p.toArray⟩ w).mono λe w' ⟨he,hw⟩=>⟨_,he,.bool _,hw▸Below.refl _ _⟩
def jZ(s:List UInt8):Int×Bool:=if jW s<=1000000000000 then((jW s:Int),true) else(0,false)
theorem e3q(l:List UInt8):∀a,a*10 ^ l.length<=b9B a l:=by
 induction l with
 |nil=>intro a;simp[b9B]
 |cons c r ih=>
  intro a;have h:=ih (10*a+(c.toNat-48));have e:b9B a (c::r)=b9B (10*a+(c.toNat-48)) r:=rfl;rw[e];refine Nat.le_trans ?_ h;rw[List.length_cons,Nat.pow_succ];have:a*(10 ^ r.length*10)=(10*a)*10 ^ r.length:=by rw[Nat.mul_comm (10 ^ r.length) 10, <- Nat.mul_assoc,Nat.mul_comm a 10]
  rw[this];exact g3T _ (by omega)
theorem c1g(s:List UInt8):jW (Lib.trimLeftB s 48)=jW s:=by
 unfold Lib.trimLeftB
 induction s with
 |nil=>rfl
 |cons c r ih=>
  by_cases h:c=48
  .subst h;have e:jW (48::r)=jW r:=rfl;rw[e, <- ih];simp
  .have:(c==48)=false:=by simpa using h
   rw[List.dropWhile_cons,this]
   rfl
variable{s:List UInt8}
theorem d3E(h:Lib.trimLeftB s 48≠[]):∃c r,Lib.trimLeftB s 48=c::r/\c≠48:=by
 unfold Lib.trimLeftB at h|-
 induction s with
 |nil=>exact absurd rfl h
 |cons c r ih=>
  by_cases hc:c=48
  .subst hc;simp only[List.dropWhile_cons,beq_self_eq_true,if_true]at h|-;exact ih h
  .have:(c==48)=false:=by simpa using hc
   rw[List.dropWhile_cons,this];exact⟨c,r,rfl,hc⟩
theorem d7p:∀c∈Lib.trimLeftB s 48,c∈s:=λc hc=>(List.dropWhile_sublist _).subset hc
theorem c3e(hs:∀c∈s,yS c=true)(gK:Lib.trimLeftB s 48≠[]):sZ (Lib.trimLeftB s 48)=jZ s:=by
 obtain⟨c,r,he,hc⟩:=d3E gK;have eS:∀x∈c::r,yS x=true:=λx hx=>hs x (d7p x (he▸hx));have hv:jW s=jW (c::r):=by rw[<-he,c1g]
 rw[he];have hcd:=wU.1 (eS c (.head _));have hn:b3n (c::r)=false:=by
  have:c≠45:=by rintro rfl;revert hcd;decide
  simp[b3n,this]
 have hb:sP (c::r)=c::r:=by simp[sP,hn]
 have cN:10 ^ r.length<=jW (c::r):=by
  have h1:1<=c.toNat-48:=by have:c.toNat≠48:=λe=>hc (UInt8.toNat.inj (by simpa using e));omega
  have e:jW (c::r)=b9B (10*0+(c.toNat-48)) r:=rfl;rw[e];refine Nat.le_trans ?_ (e3q r _)
  calc 10 ^ r.length=1*10 ^ r.length:=by rw[Nat.one_mul]
   _<=_:=g3T _ (by omega)
 have a3m:tJ (c::r)=decide (r.length<=12):=by simp only[tJ,hb,hn];by_cases h:r.length<=12<;>simp[h,hc]<;>omega
 have hd:(c::r).all yS=true:=g3c.2 eS;unfold sZ jZ;rw[a3m,hb,hd,hn,hv];by_cases h:r.length<=12
 .have hup:=a5p _ _ rfl eS;simp[h,sgn,chk];have hi:inB ((jW (c::r):Nat):Int)=decide (jW (c::r)<=1000000000000):=by unfold inB;by_cases h2:jW (c::r)<=1000000000000<;>simp[h2]<;>omega
  rw[hi];by_cases h2:jW (c::r)<=1000000000000<;>simp[h2]
 .have:10 ^ 13<=jW (c::r):=Nat.le_trans (Nat.pow_le_pow_right (by omega) (by omega)) cN;have h2:¬jW (c::r)<=1000000000000:=by omega
  simp[h,h2]
theorem b9H(s:List UInt8)(hs:∀c∈s,yS c=true):CS prog G 142 [.str s] (.cY [.int .i64 (jZ s).1,.bool (jZ s).2]) none:=by
 refine CS.aW func142 rfl ntmps142 rfl ?_;simp;refine aC.mk (.mk func169 rfl) (c6G s 48) ?_;by_cases h:Lib.trimLeftB s 48=[]
 .have hv:jW s=0:=by rw[<-c1g,h];rfl
  simp[h,jZ,hv]
 .have he:(Lib.trimLeftB s 48).isEmpty=false:=by simpa using h
  simp[he];refine aC.mk (.mk func170 rfl) (c9A (Lib.trimLeftB s 48)) ?_;simp[c3e hs h]
end Go.Proofs.YtmfbjecjccipfaaGreatDoor
end
section
namespace Go.Proofs.YtmfbjecjccipfaaGreatDoor
open Go Go.VM
variable {G:GT}
variable{p:UInt8->Bool}{s:List UInt8}
theorem vF{i:Nat}(h:i<s.length)(ht:∀b∈s.take i,p b=true)(hn:p s[i]=false:=by simpa using wJ):(s.takeWhile p).length=i:=by
 have e:s=s.take i++s[i]::s.drop (i+1):=by rw[<-g3m h,g3M]
 generalize hx:s[i]=x at e hn;rw[e,List.takeWhile_append_of_pos ht,List.takeWhile_cons,hn];simp;omega
theorem tP(ht:∀b∈s,p b=true):s.takeWhile p=s:=by have:=List.takeWhile_append_of_pos (l₂:=[]) ht;simpa using this
theorem b4F(F:FuncId)(p:Int->Bool)(pb:UInt8->Bool)(hF:VM.Enters prog F)(sN:∀c,CS prog G F [.int .i32 c] (.d (.bool (p c))) none)(rZ:∀b:UInt8,p b.toNat=pb b)(hhi:∀c,128<=c->p c=false)(s:List UInt8):
  CH prog G 138 ⟨[.d (.str s),.fn F],[],[]⟩ ⟨[.d (.int .i64 (s.takeWhile pb).length)],[],[]⟩:=by
 refine CH.aW func138 rfl ntmps138 rfl (by simp) ?_;simp;refine SW.gA (ι:={i:Nat//i<=s.length/\∀b∈s.take i,pb b=true}) (λ_=>[]) (λi=>[(8,.iter s i.1)]) (λ_=>[]) (λi=>s.length-i.1) ⟨0,by simp⟩ (by simp) ?_;rintro⟨i,hi,ht⟩
 try simp only at hi ht
 by_cases aG:i<s.length
 .simp[aG];refine aC.mk hF (sN _) ?_;by_cases hb:s[i].toNat<128
  .have hd:=d6P aG hb;have hpl:=rZ s[i];by_cases hpb:pb s[i]=true
   .rw[hpb]at hpl;simp[hd,hpl];refine bD.mk ⟨i+1,aG,λb hm=>?_⟩ (by simp) (by simp;omega);rw[g3o aG]at hm;rcases g3z.1 hm with hm|hm
    .exact ht b hm
    .simp at hm;rw[hm];exact hpb
   .have hpf:pb s[i]=false:=by simpa using hpb
    rw[hpf]at hpl;simp[hd,hpl,vF aG ht hpf]
  .obtain⟨h1,_⟩:=d6Q aG;have hpf:pb s[i]=false:=by rw[<-rZ];exact hhi _ (by omega)
   have hpl:=hhi ((Utf8.decode ⟨s.toArray⟩ i).1:Int) (by omega);simp[hpl,vF aG ht hpf]
 .have:i=s.length:=by omega
  subst this;rw[g3S]at ht;simp[tP ht]
def oO:List UInt8->Nat->Bool->List UInt8×Nat
 |[],n,_=>([],n)
 |c::r,n,cm=>if c=10 then oO r (n+1) false else if cm=true\/c=32\/c=9 then oO r n cm else if c=35 then oO r n true else(c::r,n)
theorem b2a:∀(s:List UInt8)(n:Nat)(cm:Bool),(oO s n cm).2<=n+s.length/\(oO s n cm).1.length<=s.length
 |[],n,cm=>by simp[oO]
 |c::r,n,cm=>by
  unfold oO;split
  .have:=b2a r (n+1) false;simp only[List.length_cons];omega
  .split
   .have:=b2a r n cm;simp only[List.length_cons];omega
   .split
    .have:=b2a r n true;simp only[List.length_cons];omega
    .simp only[List.length_cons];omega
theorem c6H(s:List UInt8)(n:Nat):∀(k i:Nat),(∀j,i<=j->j<i+k->∃h:j<s.length,128<=s[j].toNat)->oO (s.drop i) n true=oO (s.drop (i+k)) n true
 |0,i,_=>rfl
 |k+1,i,h=>by
  obtain⟨hi,hb⟩:=h i (by omega) (by omega);have ih:=c6H s n k (i+1) λj h1 h2=>h j (by omega) (by omega);have h10:s[i]≠10:=λe=>by rw[e]at hb;simp at hb
  rw[g3m hi,oO,if_neg h10,if_pos (.inl rfl),ih];congr 2;omega
theorem a3X(c:UInt8)(k:Nat)(hk:k<256:=by omega):((c.toNat:Int)=(k:Int))↔c=UInt8.ofNat k:=by
 constructor
 .intro h;apply UInt8.toNat.inj;simp;omega
 .rintro rfl;simp;omega
theorem c6I(s:List UInt8)(hl:s.length<=900000000:=by omega):CS prog G 88 [.str s] (.cY [.str (oO s 0 false).1,.int .i64 (oO s 0 false).2]) none:=by
 obtain⟨res,e6l⟩:∃x,oO s 0 false=x:=⟨_,rfl⟩;rw[e6l];refine CS.aW func88 rfl ntmps88 rfl ?_;simp;refine SW.gA (ι:={x:Nat×Nat×Bool//x.1<=s.length/\x.2.1<=x.1/\oO (s.drop x.1) x.2.1 x.2.2=res}) (λx=>[(4,.d (.int .i64 x.1.2.1)),(5,.d (.bool x.1.2.2))]) (λx=>[(9,.iter s x.1.1)]) (λ_=>[]) (λx=>s.length-x.1.1) ⟨(0,0,false),by simp[e6l]⟩ (by simp) ?_;rintro⟨⟨i,n,cm⟩,hi,hn,hR⟩
 try simp only at hi hn hR
 by_cases aG:i<s.length
 .have hw:=bC (show n<9223372036854775807 by omega);have hle:=Nat.le_of_lt aG;have a4E:s.drop i=s[i]::s.drop (i+1):=g3m aG;by_cases hb:s[i].toNat<128
  .have hd:=d6P aG hb;have c10:=a3X s[i] 10;have c32:=a3X s[i] 32;have c9:=a3X s[i] 9;have c35:=a3X s[i] 35;simp at c10 c32 c9 c35;by_cases h10:s[i]=10
   .have e:=c10.2 h10;simp[aG,hd,e];refine bD.mk ⟨(i+1,n+1,false),aG,by simp;omega,?_⟩ (by simp[hw]) (by simp;omega);rw[<-hR,a4E,oO,if_pos h10]
   .have e:¬s[i].toNat=10:=λh=>h10 (c10.1 h);simp[aG,hd,e];cases cm with
    |true=>
     try simp
     refine bD.mk ⟨(i+1,n,true),aG,by simp;omega,?_⟩ (by simp) (by simp;omega);rw[<-hR,a4E,oO,if_neg h10,if_pos (.inl rfl)]
    |false=>
     try simp
     by_cases h32:s[i]=32
     .have e2:=c32.2 h32;simp[e2];refine bD.mk ⟨(i+1,n,false),aG,by simp;omega,?_⟩ (by simp) (by simp;omega);rw[<-hR,a4E,oO,if_neg h10,if_pos (.inr (.inl h32))]
     .have e2:¬s[i].toNat=32:=λh=>h32 (c32.1 h);simp[e2];by_cases h9:s[i]=9
      .have e3:=c9.2 h9;simp[e3];refine bD.mk ⟨(i+1,n,false),aG,by simp;omega,?_⟩ (by simp) (by simp;omega);rw[<-hR,a4E,oO,if_neg h10,if_pos (.inr (.inr h9))]
      .have e3:¬s[i].toNat=9:=λh=>h9 (c9.1 h);simp[e3];by_cases h35:s[i]=35
       .have e4:=c35.2 h35;simp[e4];refine bD.mk ⟨(i+1,n,true),aG,by simp;omega,?_⟩ (by simp) (by simp;omega);rw[<-hR,a4E,oO,if_neg h10,if_neg (by simp[h32,h9]),if_pos h35]
       .have e4:¬s[i].toNat=35:=λh=>h35 (c35.1 h);have kX:res=(s.drop i,n):=by rw[<-hR,a4E,oO,if_neg h10,if_neg (by simp[h32,h9]),if_neg h35]
        simp[e4,kX,hle]
  .obtain⟨h1,h2,h3,h4⟩:=d6Q aG;obtain⟨rw,hrw⟩:∃rw,Utf8.decode ⟨s.toArray⟩ i=rw:=⟨_,rfl⟩;rw[hrw]at h1 h2 h3 h4;have e10:¬((rw.1:Int)=10):=by omega
   have e32:¬((rw.1:Int)=32):=by omega
   have e9:¬((rw.1:Int)=9):=by omega
   have e35:¬((rw.1:Int)=35):=by omega
   have hbb:∀k,k<128->s[i]≠UInt8.ofNat k:=λk hk e=>by rw[e]at hb;simp at hb;omega
   have b10:s[i]≠10:=hbb 10 (by omega);have b32:s[i]≠32:=hbb 32 (by omega);have b9:s[i]≠9:=hbb 9 (by omega);have b35:s[i]≠35:=hbb 35 (by omega);simp[aG,hrw,e10];cases cm with
   |true=>simp;refine bD.mk ⟨(i+rw.2,n,true),h3,by simp;omega,?_⟩ (by simp) (by simp;omega);rw[<-hR,c6H s n rw.2 i h4]
   |false=>
    have kX:res=(s.drop i,n):=by rw[<-hR,a4E,oO,if_neg b10,if_neg (by simp[b32,b9]),if_neg b35]
    simp[e32,e9,e35,kX,hle]
 .have:i=s.length:=by omega
  subst this;rw[List.drop_length]at hR;have kX:res=([],n):=by rw[<-hR,oO]
  simp[kX]
end Go.Proofs.YtmfbjecjccipfaaGreatDoor
end
section
namespace Go.Proofs.YtmfbjecjccipfaaGreatDoor
open Go Go.VM
variable {G:GT}
def a0A:List D:=[.sl (dA.map λt=>[D.str t])]
theorem d7r(b:UInt8):smI b.toNat=smU b:=by rw[Bool.eq_iff_iff];simp only[smI,smU,g2Z,g3N];omega
theorem d7s(b:UInt8):caI b.toNat=caU b:=by rw[Bool.eq_iff_iff];simp only[caI,caU,g2Z,g3N];omega
theorem d1O(b:UInt8):dgI b.toNat=dgU b:=by rw[Bool.eq_iff_iff];simp only[dgI,dgU,g2Z,g3N];omega
theorem f2U(b:UInt8):inI b.toNat=inU b:=by unfold inI inU;rw[d7r,d7s,d1O];congr 1;simp only[decide_eq_decide];omega
variable{c:Int}
theorem f2V(h:128<=c):inI c=false:=by simp only[inI,smI,caI,dgI,Bool.or_eq_false_iff,Bool.and_eq_false_iff,decide_eq_false_iff_not];omega
theorem f2W(h:128<=c):dgI c=false:=by simp only[dgI,Bool.and_eq_false_iff,decide_eq_false_iff_not];omega
theorem b2b(p:UInt8->Bool)(s:List UInt8):s.take (s.takeWhile p).length=s.takeWhile p:=by have h:=List.takeWhile_prefix (l:=s) p;exact(List.prefix_iff_eq_take.1 h).symm
theorem d7t(p:UInt8->Bool)(s:List UInt8):(s.takeWhile p).length<=s.length:=(List.takeWhile_prefix (l:=s) p).length_le
theorem w32(c:UInt8):IntKind.i32.wrap (c.toNat:Int)=c.toNat:=by have:=c.toNat_lt;unfold IntKind.wrap;simp[IntKind.bits,IntKind.signed];omega
theorem c3g(c:UInt8):dgU c=yS c:=by rw[Bool.eq_iff_iff];simp only[dgU,yS,g2Z,g3N]
theorem c9O{p:UInt8->Bool}:∀{s:List UInt8}{b:UInt8},b∈s.takeWhile p->p b=true
 |[],b,h=>by simp at h
 |c::r,b,h=>by
  rw[List.takeWhile_cons]at h;split at h
  .rename_i hc;rcases g3w.1 h with rfl|h
   .exact hc
   .exact c9O h
  .cases h
def a7x(s:List UInt8):List D:=[.int .i64 (firstT jZ s).1,.str (firstT jZ s).2.1,.int .i64 (firstT jZ s).2.2.1,.int .i64 0]
theorem d1P(s:List UInt8):CH prog G 138 ⟨[.d (.str s),.fn 139],[],[]⟩ ⟨[.d (.int .i64 (s.takeWhile inU).length)],[],[]⟩:=b4F 139 inI inU (.mk func139 rfl) c3b f2U (λ_=>f2V) s
theorem e3s(s:List UInt8):CH prog G 138 ⟨[.d (.str s),.fn 141],[],[]⟩ ⟨[.d (.int .i64 (s.takeWhile dgU).length)],[],[]⟩:=b4F 141 dgI dgU (.mk func141 rfl) a5y d1O (λ_=>f2W) s
variable{s:List UInt8}
theorem d1Q{i:Nat}(h:i<dA.length)(hn:∀t∈dA.take i,t.isPrefixOf s=false)(hp:dA[i].isPrefixOf s=true):sQ s=dA[i]:=by
 have e:dA=dA.take i++dA[i]::dA.drop (i+1):=by rw[<-g3m h,g3M]
 generalize dA[i]=x at e hp|-;unfold sQ;rw[e,List.find?_append];have h0:(dA.take i).find? (λt=>t.isPrefixOf s)=none:=List.find?_eq_none.2 λt ht=>by rw[hn t ht];simp
 rw[h0];simp[List.find?_cons,hp]
theorem c1h(hn:∀t∈dA,t.isPrefixOf s=false):sQ s=[]:=by
 unfold sQ;rw[List.find?_eq_none.2 λt ht=>by rw[hn t ht];simp]
 rfl
theorem e3t:∀t∈dA,t≠[]:=by decide
theorem c3h(hS:G 0=some a0A)(c:UInt8)(r:List UInt8)(hl:(c::r).length<=900000000:=by omega):CS prog G 89 [.str (c::r)] (.cY [.agg (a7x (c::r)),.bool (firstT jZ (c::r)).2.2.2]) none:=by
 obtain⟨s,hs⟩:∃s,c::r=s:=⟨_,rfl⟩;have h0:0<s.length:=by rw[<-hs];simp
 have zO:s[0]=c:=by subst hs;rfl
 have hf:firstT jZ s=if smU c then(1,s.takeWhile inU,0,true) else if caU c then(2,s.takeWhile inU,0,true)
  else if dgU c then(3,s.takeWhile dgU,(jZ (s.takeWhile dgU)).1,(jZ (s.takeWhile dgU)).2)
  else if sQ s=[] then(0,[],0,false) else(4,sQ s,0,true):=by subst hs;rfl
 rw[hs]at hl|-
 clear hs
 have hw:=w32 c;have l1:=d7t inU s;have l2:=d7t dgU s;have t1:=b2b inU s;have t2:=b2b dgU s;refine CS.aW func89 rfl ntmps89 rfl ?_;simp[h0,zO,hw];refine aC.mk (.mk func137 rfl) (b1Z (c.toNat:Int)) ?_;rw[d7r];by_cases h1:smU c=true
 .simp[h1];refine jE.ro (.mk func138 rfl) (d1P s) [] (by simp) (by simp) (by simp) (by simp) (by simp) ?_;simp[l1,t1,a7x,hf,h1]
 simp[h1];refine aC.mk (.mk func140 rfl) (a7w (c.toNat:Int)) ?_;rw[d7s];by_cases h2:caU c=true
 .simp[h2];refine jE.ro (.mk func138 rfl) (d1P s) [] (by simp) (by simp) (by simp) (by simp) (by simp) ?_;simp[l1,t1,a7x,hf,h1,h2]
 simp[h2];refine aC.mk (.mk func141 rfl) (a5y (c.toNat:Int)) ?_;rw[d1O];by_cases h3:dgU c=true
 .simp[h3];refine jE.ro (.mk func138 rfl) (e3s s) [] (by simp) (by simp) (by simp) (by simp) (by simp) ?_;simp[l2,t2];refine aC.mk (.mk func142 rfl) (b9H (s.takeWhile dgU) (λb hb=>by rw[<-c3g];exact c9O hb)) ?_;simp[a7x,hf,h1,h2,h3]
 simp[h3,hS,a0A];have hlen:(dA.map λt=>[D.str t]).length=dA.length:=by simp
 refine SW.gA (ι:={i:Nat//i<=dA.length/\∀t∈dA.take i,t.isPrefixOf s=false}) (λi=>[(47,.d (.int .i64 i.1))]) (λ_=>[(2,.cells [.d (.int .i64 0),.d (.str []),.d (.int .i64 0),.d (.int .i64 0)])]) (λ_=>[]) (λi=>dA.length-i.1) ⟨0,by simp⟩ (by simp) ?_;rintro⟨i,hi,hn⟩
 try simp only at hi hn
 by_cases aG:i<dA.length
 .have hsl:dA.length=31:=rfl;have hw2:=bC (show i<9223372036854775807 by omega);have hg:(dA.map λt=>[D.str t])[i]? =some [.str dA[i]]:=by simp[aG]
  simp[aG,hg];refine aC.mk (.mk func143 rfl) (c3d s dA[i]) ?_;by_cases hp:dA[i].isPrefixOf s=true
  .have hsg:=d1Q aG hn hp;have gK:=e3t _ (g3y aG);simp[hp,a7x,hf,h1,h2,h3,hsg,gK]
  .have hp':dA[i].isPrefixOf s=false:=Bool.eq_false_iff.2 hp;simp[hp'];refine bD.mk ⟨i+1,aG,λt ht=>?_⟩ (by simp[hw2]) (by simp;omega);rw[g3o aG]at ht;rcases g3z.1 ht with ht|ht
   .exact hn t ht
   .simp at ht;rw[ht];exact hp'
 .have:i=dA.length:=by omega
  subst this;rw[g3S]at hn;have hsg:=c1h hn;simp[a7x,hf,h1,h2,h3,hsg]
end Go.Proofs.YtmfbjecjccipfaaGreatDoor
end
section
namespace Go.Proofs.YtmfbjecjccipfaaGreatDoor
open Go Go.VM
variable {G:GT}
def bL(t:Tok):List D:=[.int .i64 t.kind,.str t.text,.int .i64 t.n,.int .i64 t.line]
def b5r(l:List Tok):List (List D):=l.map bL
@[simp] theorem f2X(l:List Tok):(b5r l).length=l.length:=by simp[b5r]
@[simp] theorem f2Y:b5r []=[]:=rfl
@[simp] theorem f2Z(l:List Tok):((b5r l).all λc=>c.length==4)=true:=by simp[b5r,bL]
theorem a8y(l:List Tok)(t:Tok):b5r (l++[t])=b5r l++[[.int .i64 t.kind,.str t.text,.int .i64 t.n,.int .i64 t.line]]:=by simp[b5r,bL]
theorem a8z:∀(s:List UInt8)(n:Nat)(cm:Bool)(ln:Int),jX jZ s 0 (ln+n) cm=jX jZ (oO s n cm).1 0 (ln+(oO s n cm).2) false
 |[],n,cm,ln=>by simp[oO,jX]
 |c::r,n,cm,ln=>by
  unfold oO;split
  .rename_i h;rw[<-a8z r (n+1) false ln,jX,if_pos h];congr 1;omega
  .rename_i h;split
   .rename_i h2;rw[<-a8z r n cm ln]
    conv=>lhs;rw[jX]
    rw[if_neg h,if_pos h2]
   .rename_i h2;split
    .rename_i h3;rw[<-a8z r n true ln]
     conv=>lhs;rw[jX]
     rw[if_neg h,if_neg h2,if_pos h3]
    .simp only[not_or,Bool.not_eq_true]at h2;rw[h2.1]
theorem a8A:∀(s:List UInt8)(n:Nat)(cm:Bool),(oO s n cm).2+(oO s n cm).1.length<=n+s.length
 |[],n,cm=>by simp[oO]
 |c::r,n,cm=>by
  unfold oO;split
  .have:=a8A r (n+1) false;simp only[List.length_cons];omega
  .split
   .have:=a8A r n cm;simp only[List.length_cons];omega
   .split
    .have:=a8A r n true;simp only[List.length_cons];omega
    .simp only[List.length_cons];omega
theorem a8B:∀(s:List UInt8)(n:Nat)(cm:Bool)(c:UInt8)(r:List UInt8),(oO s n cm).1=c::r->c≠10/\c≠32/\c≠9/\c≠35
 |[],n,cm,c,r,h=>by simp[oO]at h
 |a::s,n,cm,c,r,h=>by
  unfold oO at h;split at h
  .exact a8B s _ _ c r h
  .rename_i h1;split at h
   .exact a8B s _ _ c r h
   .rename_i h2;split at h
    .exact a8B s _ _ c r h
    .rename_i h3;simp only[not_or]at h2;cases h;exact⟨h1,h2.2.1,h2.2.2,h3⟩
def c6J(out:List Tok):Except Int (List Tok)->Except Int (List Tok)
 |.ok l=>.ok (out++l)
 |.error e=>.error e
def c6K:Except Int (List Tok)->D
 |.ok l=>.sl (b5r l)
 |.error _=>.aE
def c6L:Except Int (List Tok)->Int
 |.ok _=>0
 |.error e=>e
def c6M:Except Int (List Tok)->Int
 |.ok _=>0
 |.error _=>14
theorem yZ:VM.Enters prog 44:=.mk func44 rfl
theorem b9J(hS:G 0=some a0A)(s:List UInt8)(hl:s.length<=900000000):CS prog G 44 [.str s] (.cY (if 40000<s.length then [.aE,.int .i64 0,.int .i64 7] else
  [c6K (jX jZ s 0 1 false),.int .i64 (c6L (jX jZ s 0 1 false)),.int .i64 (c6M (jX jZ s 0 1 false))])) none:=by
 obtain⟨res,kX⟩:∃x,jX jZ s 0 1 false=x:=⟨_,rfl⟩;rw[kX];refine CS.aW func44 rfl ntmps44 rfl ?_;by_cases b4G:40000<s.length
 .have h2:(40000:Int)<s.length:=by omega
  simp[b4G,h2]
 have h2:¬(40000:Int)<s.length:=by omega
 simp[b4G,h2];refine SW.gA (ι:={x:List UInt8×List Tok×Int//x.1.length<=s.length/\1<=x.2.2/\x.2.2+x.1.length<=s.length+1/\x.2.1.length+x.1.length<=s.length/\c6J x.2.1 (jX jZ x.1 0 x.2.2 false)=res}) (λx=>[(0,.d (.str x.1.1)),(5,.d (.sl (b5r x.1.2.1))),(6,.d (.int .i64 x.1.2.2))]) (λ_=>[]) (λ_=>[(79,[.t 5])]) (λx=>x.1.1.length) ⟨(s,[],1),by refine⟨g3p _,by simp,by simp;omega,by simp,?_⟩;simp only;rw[kX];cases res<;>rfl⟩ (by simp) ?_;rintro⟨⟨t,out,ln⟩,ht,hln,hb,ho,hR⟩
 try simp only at ht hln hb ho hR
 obtain⟨q1,q2⟩:=b2a t 0 false;have q3:=a8A t 0 false;have hsk:=a8z t 0 false ln;have hhd:=a8B t 0 false;simp;refine aC.mk (.mk func88 rfl) (c6I t) ?_;obtain⟨⟨rest,n⟩,hrn⟩:∃x,oO t 0 false=x:=⟨_,rfl⟩;rw[hrn]at hsk hhd q1 q2 q3;simp only[Int.natCast_zero,Int.add_zero]at hsk;simp only at hsk hhd q1 q2 q3;rw[hsk]at hR;have hw:IntKind.i64.wrap (ln+n)=ln+n:=wrap64 (by omega);have mI:(out.length+1)*41<=140737488355328:=by omega
 simp[hrn,hw];cases rest with
 |nil=>
  have e:res=.ok (out++[⟨0,[],0,ln+n⟩]):=by rw[<-hR];rfl
  simp[e,c6K,c6L,c6M,a8y,mI]
 |cons c r=>
  obtain⟨g1,g2,g3,g4⟩:=hhd c r rfl;rw[b6N (ln+n) g1 g2 g3 g4]at hR;simp;refine aC.mk (.mk func89 rfl) (c3h hS c r) ?_;obtain⟨ff,hff⟩:∃ff,firstT jZ (c::r)=ff:=⟨_,rfl⟩;have oB:= @a4z jZ (c::r);rw[hff]at hR oB;obtain⟨k,tx,m,ok⟩:=ff;simp only at hR oB;cases ok with
  |false=>
   have e:res=.error (ln+n):=by rw[<-hR];rfl
   simp[hff,a7x,e,c6K,c6L,c6M]
  |true=>
   obtain⟨p1,p2,_⟩:=oB rfl;have hle:=p2.length_le;have a2i:0<tx.length:=g3D.2 p1;simp only[List.length_cons]at hle q2 q3;simp[hff,a7x,mI,hle];have hR2:c6J (out++[⟨k,tx,m,ln+n⟩]) (jX jZ ((c::r).drop tx.length) 0 (ln+n) false)=res:=by
    rw[<-hR,if_pos rfl];generalize jX jZ ((c::r).drop tx.length) 0 (ln+n) false=y;cases y with
    |ok l=>simp[c6J]
    |error e=>rfl
   have hdl:((c::r).drop tx.length).length=r.length+1-tx.length:=by simp
   refine bD.mk ⟨((c::r).drop tx.length,out++[⟨k,tx,m,ln+n⟩],ln+n),?_⟩ (by simp[a8y]) (by simp only[hdl];omega);refine⟨by simp only[hdl];omega,by simp only;omega,by simp only[hdl];omega,by simp only[hdl,g3K,List.length_cons,List.length_nil];omega,hR2⟩
end Go.Proofs.YtmfbjecjccipfaaGreatDoor
end
end
namespace Go.Proofs.YtmfbjecjccipfaaGreatDoor
section
open Go Go.VM
variable {G:GT}
abbrev rdO(l:List Tok)(i:Nat):bH:=.cells [.d (.sl (l.map bL)),.d (.int .i64 i)]
abbrev rH(l:List Tok)(i:Nat):List (Nat×bH):=[(100000,rdO l i)]
abbrev rO(n e:Int):Value:=.iface 115 (.agg #[.int .i64 n,.int .i64 e])
def kV{α:Type}:jA α->Bool
 |.ok _ _=>true
 |.bad _ _=>false
def rdE{α:Type}(l:List Tok)(enc:α->DV)(Y:α->List (Nat×bH))(own:List (TypeId×List VM.Loc)):jA α->VM.Ends
 |.ok a j=>.inl (enc a,rH l j++Y a,own)
 |.bad n e=>.inr (rO n e)
theorem gQ{i n:Nat}(h:i<n):i<=i/\i<n:=⟨g3p _,h⟩
theorem c6N{α:Type}{l:List Tok}{enc:α->DV}{Y:α->List (Nat×bH)}{own:List (TypeId×List VM.Loc)}(r:jA α):(rdE l enc Y own r).isLeft=kV r:=by cases r<;>rfl
def pX(G:GT){α:Type}(f:FuncId)(av:List DV)(X:List (Nat×bH))(own:List (TypeId×List VM.Loc))(l:List Tok)(i:Nat)(r:jA α)(enc:α->DV)(Y:α->List (Nat×bH)):Prop:=CX prog G f ⟨av,rH l i++X,own⟩ (rdE l enc Y own r)
abbrev tL(G:GT){α:Type}(f:FuncId)(ds:List D)(l:List Tok)(i:Nat)(r:jA α)(enc:α->DV):Prop:=pX G f (.ptr 100000 0::ds.map .d) [] [] l i r enc λ_=>[]
structure uJ {α:Type} (Q:Exit->St->Prop) (rs:List ResultVar) (l:List Tok) (enc:α->DV) (Y:α->List (Nat×bH)) (own:List (TypeId×List VM.Loc)) (r:jA α):Prop where
 ok:∀a j e s,r=.ok a j->(e=.normal\/e=.ret)->a5x prog s rs (enc a) (rH l j++Y a) own->Q e s
 bad:∀n e s,r=.bad n e->Q (.panic (a1C (rO n e))) s
section
variable {α β:Type} {Q:Exit->St->Prop} {rs:List ResultVar} {l:List Tok} {i j:Nat} {enc:β->DV} {Y:β->List (Nat×bH)} {own:List (TypeId×List VM.Loc)} {n e:Int} {a:α}
theorem uJ.step{x:bE α}{f:α->bE β}(h:uJ Q rs l enc Y own ((x >>=f) i))(hx:x i=.ok a j):uJ Q rs l enc Y own (f a j):=by rwa[bS hx]at h
theorem uJ.fail{x:bE α}{f:α->bE β}(h:uJ Q rs l enc Y own ((x >>=f) i))(hx:x i=.bad n e)(s:St):Q (.panic (a1C (rO n e))) s:=h.bad _ _ _ (kN hx)
variable{A c:Prop}
theorem uJ.uK[Decidable c]{x y:jA β}(h:uJ Q rs l enc Y own (if c then x else y))(hc:c):uJ Q rs l enc Y own x:=by rwa[if_pos hc]at h
theorem uJ.sK[Decidable c]{x y:jA β}(h:uJ Q rs l enc Y own (if c then x else y))(hc:¬c):uJ Q rs l enc Y own y:=by rwa[if_neg hc]at h
variable{X:List (Nat×bH)}{f:FuncId}{fn:Func}{av:List DV}
theorem pX.xV{c:Code}{k:Nat}{r:jA β}(hf:prog.funcs[f]? =some fn)(hb:fn.body=some c)(hn:fn.ntmps=k)(hrs:fn.results.toList=rs)(hT:(own.all λc=>c.2.all λl=>match l with|.t i=>decide (i<av.length)|_=>true)=true)(h:∀Q:Exit->St->Prop,uJ Q rs l enc Y own r->SW prog G c ⟨av++List.replicate (k-av.length) (.cY []),rH l i++X,own⟩ Q):pX G f av X own l i r enc Y:=by
 refine CX.b7p hf hb hn hrs hT λQ h1 h2=>h Q ⟨λa j e s hr he hs=>?_,λn e s hr=>?_⟩
 .subst hr;exact h1 _ _ _ e s rfl he hs
 .subst hr;exact h2 _ s rfl
theorem kI(K:List (Nat×Nat)):∀ds:List D,aZ K (ds.map .d)=ds.map .d
 |[]=>rfl
 |d::r=>by simp only[List.map_cons,aZ,bI,kI K r]
theorem eX(K:List (Nat×Nat)):∀ds:List D,(ds.map DV.d).all (aY K)=true
 |[]=>rfl
 |d::r=>by simp only[List.map_cons,List.all_cons,aY,eX K r,Bool.and_self]
variable{KK:St->Prop}{dst:Option Tmp}{st:St}{ls:List (Option VM.Loc)}
theorem a1D{av0:List DV}{r:jA β}{rest:List (TypeId×List VM.Loc)}(he:VM.Enters prog f)(hc:pX G f av0 X own l i r enc Y)(K:List (Nat×Nat))(mO:∀a j,r=.ok a j->aR K ⟨av0,rH l i++X,own⟩ (enc a) (rH l j++Y a)=true)(c6w:aR K ⟨av0,rH l i++X,own⟩ .undef (rH l i++X)=true)(pD:WkT av (aZ K av0))(hH:WkH st.H (dE K (rH l i++X)))(oG:xW st st.own (own.map (sB K ls))=some rest)(b9A:a1d st.tmps.length ls own=true)(oB:∀a j,r=.ok a j->KK (bJ K dst st rest (enc a) (rH l j++Y a) own))(a4y:∀n e,r=.bad n e->Q (.panic (a1C (rO n e))) (a3o st)):uI prog G f av ls dst st KK Q (kV r):=by
 rw[<-c6N (l:=l) (enc:=enc) (Y:=Y) (own:=own) r];refine uI.mk he hc K (λd H1 own1 hx=>?_) (λv hx=>c6w) pD hH oG b9A (λd H1 own1 hx=>?_) (λv hx=>?_)
 .cases r with
  |bad n e=>cases hx
  |ok a j=>cases hx;exact mO a j rfl
 .cases r with
  |bad n e=>cases hx
  |ok a j=>cases hx;exact oB a j rfl
 .cases r with
  |bad n e=>cases hx;exact a4y n e rfl
  |ok a j=>cases hx
abbrev K1:List (Nat×Nat):=[(100000,100000)]
variable{ds:List D}
theorem rdZ{r:jA β}(he:VM.Enters prog f)(hc:tL G f ds l i r enc)(oB:∀a j,r=.ok a j->KK ⟨kG dst (enc a) st.tmps,cE 100000 (rdO l j) st.H,hZ dst (dropKey 100000 st.own)⟩)(a4y:∀n e,r=.bad n e->Q (.panic (a1C (rO n e))) (a3o st))(hk:∀a,aY K1 (enc a)=true/\bI K1 (enc a)=enc a:=by intro a;exact⟨rfl,rfl⟩)(hw:WkT av (.ptr 100000 0::ds.map .d):=by simp)(hH:getKey 100000 st.H=some (rdO l i):=by simp):uI prog G f av ls dst st KK Q (kV r):=by
 refine a1D he hc K1 (λa j hr=>?_) ?_ ?_ ?_ rfl rfl (λa j hr=>?_) a4y (rest:=st.own)
 .simp[aR,aY,bB,bA,eX,bM,getKey,(hk a).1]
 .simp[aR,aY,bB,bA,eX,bM,getKey]
 .simpa[aZ,bI,rk,kI]using hw
 .simp only[dE,rdO,List.append_nil,List.map_cons,List.map_nil,rk,if_true,dM,aZ,bI,WkH,and_true];exact⟨_,hH,by simp[WkO]⟩
 .have:=oB a j hr;simpa[bJ,bW,dM,aZ,bI,rk,eN,(hk a).2]using this
variable{all:Array Oper}{ops:List Oper}
theorem c3i{d:D}{q ro:Bool}{k:List KI}(he:VM.Enters prog f)(hc:CH prog G f ⟨.ptr 100000 0::ds.map .d,rH l i,[]⟩ ⟨[.d d],rH l i,[]⟩)(h:VK prog G (.ops q all ops::k) .normal (finish st dst (.d d) .no) Q)(hw:WkT av (.ptr 100000 0::ds.map .d):=by simp)(hH:getKey 100000 st.H=some (rdO l i):=by simp)(uV:oM [100000] st.own=true:=by simp):jE prog G q ro f av ls dst all ops k st Q:=by
 refine jE.ro he hc K1 ?_ ?_ ?_ uV ?_ h
 .simp[aR,aY,bB,bA,eX,bM,getKey]
 .simpa[aZ,bI,rk,kI]using hw
 .simp only[dE,rdO,List.map_cons,List.map_nil,rk,if_true,dM,aZ,bI,a9s,and_true];exact hH
 .simp[hH]
theorem pX.bP{c:Code}{k:Nat}{r:jA β}(hf:prog.funcs[f]? =some fn)(hb:fn.body=some c)(hn:fn.ntmps=k)(hrs:fn.results.toList=rs)(hT:(own.all λc=>c.2.all λl=>match l with|.t i=>decide (i<av.length)|_=>true)=true)(h:∀Q:Exit->St->Prop,uJ Q rs l enc Y own r->XK prog G [.code c] .normal ⟨av++List.replicate (k-av.length) (.cY []),rH l i++X,own⟩ Q):pX G f av X own l i r enc Y:=pX.xV hf hb hn hrs hT λQ hQ=>SW.xk (h Q hQ)
variable{k:List XI}
theorem rdX{r:jA β}(he:VM.Enters prog f)(hc:tL G f ds l i r enc)(oB:∀a j,r=.ok a j->XK prog G (.ops all ops::k) .normal ⟨kG dst (enc a) st.tmps,cE 100000 (rdO l j) st.H,hZ dst (dropKey 100000 st.own)⟩ Q)(a4y:∀n e,r=.bad n e->Q (.panic (a1C (rO n e))) (a3o st))(hk:∀a,aY K1 (enc a)=true/\bI K1 (enc a)=enc a:=by intro a;exact⟨rfl,rfl⟩)(hw:WkT av (.ptr 100000 0::ds.map .d):=by simp)(hH:getKey 100000 st.H=some (rdO l i):=by simp):eB prog G f av ls dst all ops k st Q:=eB.mk (rdZ (hw:=hw) (hH:=hH) he hc oB a4y hk)
variable{Q':Exit->St->Prop}{m:Nat}
theorem rT{γ:Type}{x:bE γ}{g:γ->bE β}{e1:γ->DV}(Q0:uJ Q rs l enc Y own ((x >>=g) i))(p0:A/\i<l.length)(he:VM.Enters prog f)(hc:tL G f ds l i (x i) e1)(ad:aB l m x)(oB:∀a j,x i=.ok a j->uJ Q rs l enc Y own (g a j)->i+m<=j/\j<l.length->KK ⟨kG dst (e1 a) st.tmps,cE 100000 (rdO l j) st.H,hZ dst (dropKey 100000 st.own)⟩)(hq:∀v s,(∀s,Q (.panic v) s)->Q' (.panic v) s:=by first|exact λ_ _ h=>h _|(intro v s h;simp;first|exact h _|exact h))(hw:WkT av (.ptr 100000 0::ds.map .d):=by simp)(hH:getKey 100000 st.H=some (rdO l i):=by simp)(hk:∀a,aY K1 (e1 a)=true/\bI K1 (e1 a)=e1 a:=by intro a;exact⟨rfl,rfl⟩):uI prog G f av ls dst st KK Q' (kV (x i)):=rdZ (hw:=hw) (hH:=hH) he hc (λa j h=>oB a j h (Q0.step h) (ad i a j p0.2 h)) (λn e h=>hq _ _ λs=>Q0.fail h s) hk
theorem uA{γ:Type}{x:bE γ}{g:γ->bE β}{e1:γ->DV}(Q0:uJ Q rs l enc Y own ((x >>=g) i))(p0:A/\i<l.length)(he:VM.Enters prog f)(hc:tL G f ds l i (x i) e1)(ad:aB l m x)(oB:∀a j,x i=.ok a j->uJ Q rs l enc Y own (g a j)->i+m<=j/\j<l.length->XK prog G (.ops all ops::k) .normal ⟨kG dst (e1 a) st.tmps,cE 100000 (rdO l j) st.H,hZ dst (dropKey 100000 st.own)⟩ Q')(hq:∀v s,(∀s,Q (.panic v) s)->Q' (.panic v) s:=by first|exact λ_ _ h=>h _|(intro v s h;simp;first|exact h _|exact h))(hw:WkT av (.ptr 100000 0::ds.map .d):=by simp)(hH:getKey 100000 st.H=some (rdO l i):=by simp)(hk:∀a,aY K1 (e1 a)=true/\bI K1 (e1 a)=e1 a:=by intro a;exact⟨rfl,rfl⟩):eB prog G f av ls dst all ops k st Q':=eB.mk (rT (hw:=hw) (hH:=hH) Q0 p0 he hc ad oB hq (hk:=hk))
theorem rdR{r:jA β}{e1:β->DV}(Q0:uJ Q rs l enc Y own r)(he:VM.Enters prog f)(hc:tL G f ds l i r e1)(oB:∀a j,r=.ok a j->XK prog G (.ops all ops::k) .normal ⟨kG dst (e1 a) st.tmps,cE 100000 (rdO l j) st.H,hZ dst (dropKey 100000 st.own)⟩ Q')(hq:∀v s,(∀s,Q (.panic v) s)->Q' (.panic v) s:=by first|exact λ_ _ h=>h _|(intro v s h;simp;first|exact h _|exact h))(hw:WkT av (.ptr 100000 0::ds.map .d):=by simp)(hH:getKey 100000 st.H=some (rdO l i):=by simp)(hk:∀a,aY K1 (e1 a)=true/\bI K1 (e1 a)=e1 a:=by intro a;exact⟨rfl,rfl⟩):eB prog G f av ls dst all ops k st Q':=rdX (hw:=hw) (hH:=hH) he hc oB (λn e h=>hq _ _ λs=>Q0.bad n e s h) hk
theorem pY{d:DV}(he:VM.Enters prog f)(hc:CH prog G f ⟨.ptr 100000 0::ds.map .d,rH l i,[]⟩ ⟨[d],rH l j,[]⟩)(h:XK prog G (.ops all ops::k) .normal ⟨kG dst d st.tmps,cE 100000 (rdO l j) st.H,hZ dst (dropKey 100000 st.own)⟩ Q)(hk:aY K1 d=true/\bI K1 d=d:=by exact⟨rfl,rfl⟩)(hw:WkT av (.ptr 100000 0::ds.map .d):=by simp)(hH:getKey 100000 st.H=some (rdO l i):=by simp):eB prog G f av ls dst all ops k st Q:=
 rdX (hw:=hw) (hH:=hH) (r:=jA.ok () j) (enc:=λ_=>d) he hc (λa j' hr=>by cases hr;exact h) (λn e hr=>by cases hr) λ_=>hk
end
theorem f3a:List.range 2=[0,1]:=rfl
theorem f3b:List.range 3=[0,1,2]:=rfl
attribute [simp] kG hZ f3a f3b
theorem oS:VM.Enters prog 112:=.mk func112 rfl
theorem oH:VM.Enters prog 91:=.mk func91 rfl
theorem cH:VM.Enters prog 17:=.mk func17 rfl
theorem jO:VM.Enters prog 68:=.mk func68 rfl
theorem kP:VM.Enters prog 33:=.mk func33 rfl
theorem xZ:VM.Enters prog 32:=.mk func32 rfl
theorem oC:VM.Enters prog 19:=.mk func19 rfl
theorem a3t:VM.Enters prog 128:=.mk func128 rfl
theorem dS:VM.Enters prog 81:=.mk func81 rfl
theorem mA:VM.Enters prog 90:=.mk func90 rfl
theorem a3u:VM.Enters prog 99:=.mk func99 rfl
theorem qE(t:Tok)(s:Nm):CS prog G 112 [.agg (bL t),.str s] (.d (.bool (cI t s))) none:=by
 obtain⟨k,x,n,ln⟩:=t;refine CS.aW func112 rfl ntmps112 rfl ?_;by_cases h1:k=1
 .by_cases h2:x=s<;>simp[bL,cI,h1,h2]
 .by_cases h4:k=4
  .by_cases h2:x=s<;>simp[bL,cI,h4,h2]
  .by_cases h5:k=2
   .by_cases h2:x=s<;>simp[bL,cI,h5,h2]
   .simp[bL,cI,h1,h4,h5]
theorem pS(hG:G 1=some gC)(t:Tok):CS prog G 91 [.agg (bL t)] (.d (.bool (gU aL t))) none:=by
 obtain⟨k,x,n,ln⟩:=t;refine CS.aW func91 rfl ntmps91 rfl ?_;by_cases h1:k=1
 .simp[bL,gU,h1];refine aC.mk a0w (a1y hG x) ?_;simp
 .simp[bL,gU,h1]
theorem dK(l:List Tok)(i m:Nat)(x:Int)(hx:(i:Int)+x=m:=by omega)(hm:m<=l.length+10:=by omega)(h0:l≠[]:=by intro e;subst e;simp at hi)(hl:l.length<=2000000:=by omega):CH prog G 17 ⟨[.ptr 100000 0,.d (.int .i64 x)],rH l i,[]⟩ ⟨[.d (.agg (bL (aH l m)))],rH l i,[]⟩:=by
 have hw:IntKind.i64.wrap ((i:Int)+x)=(m:Int):=by rw[hx,wrap64 (by omega)]
 have hlen:0<l.length:=g3D.2 h0;have hw2:IntKind.i64.wrap ((l.length:Int)-1)=((l.length-1:Nat):Int):=by rw[wrap64 (by omega)];omega
 by_cases h:m<l.length
 .have hg:aH l m=l[m]:=by simp[aH,h]
  rw[hg];obtain⟨T,hT⟩:∃T,l[m]=T:=⟨_,rfl⟩;rw[hT];obtain⟨k,s,n,ln⟩:=T;refine CH.aW func17 rfl ntmps17 rfl (by simp) ?_;simp[hw,h,hT,bL];exact⟨.mk,a7a.mk⟩
 .have hl1:l.length-1<l.length:=by omega
  have hg:aH l m=l[l.length-1]:=by simp[aH,h,List.getLastD_eq_getLast?,List.getLast?_eq_getElem?,hl1]
  rw[hg];obtain⟨N,hN⟩:∃N,l.length-1=N:=⟨_,rfl⟩;rw[hN]at hl1 hw2;obtain⟨T,hT⟩:∃T,l[N]=T:=⟨_,rfl⟩;have hT2:l[l.length-1]=T:=by simp only[hN];exact hT
  rw[hT2];obtain⟨k,s,n,ln⟩:=T;refine CH.aW func17 rfl ntmps17 rfl (by simp) ?_;simp[hw,hw2,h,h0,hT,hl1,bL];exact⟨.mk,a7a.mk⟩
theorem mQ(l:List Tok)(i:Nat)(s:Nm)(hi:i<l.length)(hl:l.length<=2000000:=by omega):CH prog G 68 ⟨[.ptr 100000 0,.d (.str s)],rH l i,[]⟩ ⟨[.d (.bool (aJ l i s))],rH l i,[]⟩:=by have ht:=dK (G:=G) l i i 0 (by omega) (by omega) (by intro e;subst e;simp at hi) hl;refine CH.aW func68 rfl ntmps68 rfl (by simp) ?_;simp;refine c3i (i:=i) (ds:=[.int .i64 0]) cH ht ?_;simp;refine aC.mk oS (qE (aH l i) s) ?_;simp[aJ]
theorem tQ(l:List Tok)(i:Nat)(s:Nm)(hi:i<l.length)(hl:l.length<=2000000)(h:aJ l i s=true):CH prog G 33 ⟨[.ptr 100000 0,.d (.str s)],rH l i,[]⟩ ⟨[.d (.bool true)],rH l (i+1),[]⟩:=by have hc:=mQ (G:=G) l i s hi hl;rw[h]at hc;have hw:=bC (show i<9223372036854775807 by omega);refine CH.aW func33 rfl ntmps33 rfl (by simp) ?_;simp;refine c3i (i:=i) (ds:=[.str s]) jO hc ?_;simp[hw]
theorem b3s(l:List Tok)(i:Nat)(s:Nm)(hi:i<l.length)(hl:l.length<=2000000)(h:aJ l i s=false):CH prog G 33 ⟨[.ptr 100000 0,.d (.str s)],rH l i,[]⟩ ⟨[.d (.bool false)],rH l i,[]⟩:=by have hc:=mQ (G:=G) l i s hi hl;rw[h]at hc;refine CH.aW func33 rfl ntmps33 rfl (by simp) ?_;simp;refine c3i (i:=i) (ds:=[.str s]) jO hc ?_;simp
theorem a0j{α:Type}(l:List Tok)(i:Nat)(hi:i<l.length)(hl:l.length<=2000000)(enc:α->DV):tL G 32 [] l i (dN l i:jA α) enc:=by have ht:=dK (G:=G) l i i 0 (by omega) (by omega) (by intro e;subst e;simp at hi) hl;refine pX.xV func32 rfl ntmps32 rfl (by simp) ?_;intro Q hE;refine SW.lw (LW.app 4 ?_);simp;refine c3i (i:=i) (ds:=[.int .i64 0]) cH ht ?_;generalize hT:aH l i=T;have hb:=λs=>hE.bad T.line 14 s (by unfold dN;rw[hT]);obtain⟨k,s,n,ln⟩:=T;simp[bL];refine LW.c9H (td:=_) (n:=ln) (e:=14) rfl rfl (by simp) (by simp) ?_;exact hb _
end
end Go.Proofs.YtmfbjecjccipfaaGreatDoor
