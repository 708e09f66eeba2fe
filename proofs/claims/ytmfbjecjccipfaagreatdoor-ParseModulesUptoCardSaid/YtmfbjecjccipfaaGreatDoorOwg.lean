/- Lemmas. No condition. -/
import Derived.Test.YtmfbjecjccipfaaGreatDoorOwe
import Derived.Test.YtmfbjecjccipfaaGreatDoorOwf
import Derived.Lib.TrimByte
import Derived.Lib.Repeat
set_option linter.unusedVariables false
set_option linter.unusedSimpArgs false
set_option linter.unusedSectionVars false
set_option maxRecDepth 100000
set_option maxHeartbeats 64000000
open Go.Proofs.Tryz
section
namespace Go.VM
open Go Go.RowKit
section
variable {P:Program} {G:GT} {st:St}
def b6v(ops:Array Oper)(L:Array Bool)(i0 i1 i2 i3 i4:Nat):Bool:=
 let S:=L.setIfInBounds i0 true
 let A:=S.setIfInBounds i1 true
 let B:=S.setIfInBounds i3 true
 (Region.ready .any ops L==[i0])&&(Region.ready .any ops S==[i1,i3])&&(Region.ready .any ops A==[i2,i3])&&(Region.ready .any ops B==[i1,i4])&&
 (Region.ready .any ops (A.setIfInBounds i2 true)==[i3])&&(Region.ready .any ops (A.setIfInBounds i3 true)==[i2,i4])&&(Region.ready .any ops (B.setIfInBounds i1 true)==[i2,i4])&&(Region.ready .any ops (B.setIfInBounds i4 true)==[i1])&&
 (Region.ready .any ops ((A.setIfInBounds i2 true).setIfInBounds i3 true)==[i4])&&(Region.ready .any ops ((A.setIfInBounds i3 true).setIfInBounds i2 true)==[i4])&&(Region.ready .any ops ((A.setIfInBounds i3 true).setIfInBounds i4 true)==[i2])&&
 (Region.ready .any ops ((B.setIfInBounds i1 true).setIfInBounds i2 true)==[i4])&&(Region.ready .any ops ((B.setIfInBounds i1 true).setIfInBounds i4 true)==[i2])&&(Region.ready .any ops ((B.setIfInBounds i4 true).setIfInBounds i1 true)==[i2])&&
 (Region.ready .any ops (((A.setIfInBounds i2 true).setIfInBounds i3 true).setIfInBounds i4 true)==[])&&(Region.ready .any ops (((A.setIfInBounds i3 true).setIfInBounds i2 true).setIfInBounds i4 true)==[])&&(Region.ready .any ops (((A.setIfInBounds i3 true).setIfInBounds i4 true).setIfInBounds i2 true)==[])&&
 (Region.ready .any ops (((B.setIfInBounds i1 true).setIfInBounds i2 true).setIfInBounds i4 true)==[])&&(Region.ready .any ops (((B.setIfInBounds i1 true).setIfInBounds i4 true).setIfInBounds i2 true)==[])&&(Region.ready .any ops (((B.setIfInBounds i4 true).setIfInBounds i1 true).setIfInBounds i2 true)==[])
abbrev tl3(s:St)(gM:List (TypeId×List Loc))(e:TypeId)(r p b:Tmp)(xs:List (List D))(c:List D)(kb off:Nat):St:=finish (tl2 s gM e r p xs c) (some b) (.ptr kb off) .no
theorem d7K(a:Act){p b:Nat}{u v:Value}(h:p≠b):(a.put (some p) u).put (some b) v=(a.put (some b) v).put (some p) u:=by simp only[Act.put];congr 1;exact Array.setIfInBounds_comm _ _ h
variable{T e t y0 y1 y2 y3 y4:TypeId}{p0 p1 p2 p3 p4:String}{f0 f1 f2 f3 f4:Array Edge}{b p q r s x y z:Tmp}{fd:Nat}{ops:Array Oper}
theorem c6Y{i0 i1 i2 i3 i4:Nat}{L0:Array Bool}{fo:Nat}{u:TypeId}{xs:List (List D)}{z0 c:List D}{gM:List (TypeId×List Loc)}{kb0 zK:Nat}{out:Out}{Q:St->Prop}{QQ:Exit->Act->World->Prop}(h0:ops[i0]? =some ⟨some r,.call {callee:=.builtin .append,args:=#[.tmp s,.tmp z],argTypes:=#[t,t]},y0,p0,f0,none⟩)(h1:ops[i1]? =some ⟨some p,.indexAddr t (.tmp r) (.tmp q),y1,p1,f1,none⟩)(h2:ops[i2]? =some ⟨none,.store e (.tmp p) (.tmp x),y2,p2,f2,none⟩)(h3:ops[i3]? =some ⟨some b,.fieldAddr T (.tmp y) fd,y3,p3,f3,none⟩)(h4:ops[i4]? =some ⟨none,.store t (.tmp b) (.tmp r),y4,p4,f4,none⟩)(hR:b6v ops L0 i0 i1 i2 i3 i4=true)(pG:kF P e=true)(hu:P.underlying t=some (.slice e))(gJ:(r≠q/\r≠x/\r≠p/\r≠b/\r≠y)/\(p≠x/\p≠b/\p≠y)/\b≠q/\b≠x)(aG:r<st.tmps.length/\p<st.tmps.length/\b<st.tmps.length)(hsx:st.eval G (.tmp s)=.d (.sl xs))(htk:jW (.t s) st.own=some (e,gM))(hlx:∀c∈xs,c.length=P.cellsOf e)(hx:st.eval G (.tmp z)=.d (.sl [z0]))(hz0:z0.length=P.cellsOf e)(hbd:(xs.length+1)*(P.bytesOf e+1)<=140737488355328)(hq:st.eval G (.tmp q)=.d (.int .i64 (xs.length:Int)))(hxv:st.eval G (.tmp x)=.d (.agg c))(hc:c.length=P.cellsOf e)(hy:st.eval G (.tmp y)=.ptr kb0 zK)(hfo:aO P T fd=some (fo,u))(hfc:P.cellsOf u≠0)(pP:uF P G t (.tmp b) (.tmp r) (tl3 st gM e r p b xs c kb0 (zK+fo))=some out)(hQ:Q out.st){base:dU}{R:Nat->Nat->Prop}{μ:Nat->Nat}{a:Act}{w:World}(hr:Rel P G base R μ st a w)(hk:∀s' a' w' R' μ',Q s'->Rel P G base R' μ' s' a' w'->Step base R w R' w'->QQ .normal a' w'):wpAny P .any ops QQ 5 L0 a w:=by
 obtain⟨⟨n1,n2,n3,n4,n7⟩,⟨n5,n6,n8⟩,n9,n10⟩:=gJ;obtain⟨l1,l2,l3⟩:=aG;have mQ:=hr.size;obtain⟨_,_,_,_,_,a2I,_,_⟩:=a1b pG;obtain⟨g,cap,a4x,w1,e0,hg,mX,e9q,c1m⟩:=b5d (ty:=y0) hr pG hu (x:=.tmp z) hsx htk hlx hx hz0 hbd;obtain⟨pc,hpc,b3N,c6S⟩:=(hr.pX hxv).a5w;have kR:∀u∈pc.toList,u.oneCell'=true:=λu hu=>by
  obtain⟨j,hj⟩:=g3H hu;have hjl:j<c.length:=by rw[<-b3N];simpa using (g3r.1 hj).1
  obtain⟨k1,k2⟩:=c6S j c[j] (by simp[hjl]);have:pc.getD j Go.undef=u:=by
   have:pc[j]? =some u:=by simpa using hj
   simp[g3s,this]
  rw[this]at k2;exact k2.b1A k1
 obtain⟨R1,hr1,hV1,hA1,hs1⟩:=c1m pc.toList c (by simpa[b3N]using hc) hc kR (λj d hj=>by
  obtain⟨k1,k2⟩:=c6S j d hj;have hjl:j<pc.size:=by rw[b3N];exact(g3r.1 hj).1
  refine⟨k1,pc[j],by simp[hjl],?_⟩;simpa[g3s,hjl]using k2)
 generalize hvS:(Value.slice (some ⟨g,0,none⟩) (xs.length+1) cap)=vS at *;generalize d7E:spl a4x (xs.length*P.cellsOf e) pc.toList=b3O at *;have hra:r<a.tmps.size:=by rw[mQ];exact l1
 have hpa:p<a.tmps.size:=by rw[mQ];exact l2
 have e9s:=hr1.put (dst:=some r) (.d _ _ hV1) hA1;have hr2:=e9s.put (dst:=some p) (v:=.pointer (some ⟨g,xs.length*P.cellsOf e,none⟩)) (act:=.no) (.undef _) trivial;generalize ha1:a.put (some r) vS=a1 at *;generalize ha2:a1.put (some p) (.pointer (some ⟨g,xs.length*P.cellsOf e,none⟩))=a2 at *;have z1:a1.tmps.size=a.tmps.size:=by rw[<-ha1];exact size_put
 have v1r:a1.eval (.tmp r)=vS:=by rw[<-ha1];exact eP hra
 have v1q:a1.eval (.tmp q)=a.eval (.tmp q):=by rw[<-ha1];exact cK (Ne.symm n1)
 have v1x:a1.eval (.tmp x)=a.eval (.tmp x):=by rw[<-ha1];exact cK (Ne.symm n2)
 have v1b:a1.eval (.tmp b)=a.eval (.tmp b):=by rw[<-ha1];exact cK (Ne.symm n4)
 have v2p:a2.eval (.tmp p)=.pointer (some ⟨g,xs.length*P.cellsOf e,none⟩):=by rw[<-ha2];exact eP (z1.symm▸hpa)
 have v2x:a2.eval (.tmp x)=.agg pc:=by rw[<-ha2,cK (Ne.symm n5),v1x,hpc]
 have v2r:a2.eval (.tmp r)=vS:=by rw[<-ha2,cK n3];exact v1r
 have v2b:a2.eval (.tmp b)=a.eval (.tmp b):=by rw[<-ha2,cK (Ne.symm n6)];exact v1b
 have v1y:a1.eval (.tmp y)=.pointer (some ⟨μ kb0,zK,none⟩):=by rw[<-ha1,cK (Ne.symm n7)];exact hr.eO hy
 have hb0:b<a.tmps.size:=by rw[mQ];exact l3
 have z2:a2.tmps.size=a.tmps.size:=by rw[<-ha2,size_put];exact z1
 have hr3:=hr2.put (dst:=some b) (v:=.pointer (some ⟨μ kb0,zK+fo,none⟩)) (act:=.no) (.ptr kb0 (zK+fo)) trivial;generalize ha3:a2.put (some b) (.pointer (some ⟨μ kb0,zK+fo,none⟩))=a3 at *;generalize hab:a1.put (some b) (.pointer (some ⟨μ kb0,zK+fo,none⟩))=ab at *;have f3i:ab.put (some p) (.pointer (some ⟨g,xs.length*P.cellsOf e,none⟩))=a3:=by rw[<-hab, <- ha3, <- ha2];exact(d7K a1 n6).symm
 have v2y:a2.eval (.tmp y)=.pointer (some ⟨μ kb0,zK,none⟩):=by rw[<-ha2,cK (Ne.symm n8)];exact v1y
 have v3b:a3.eval (.tmp b)=.pointer (some ⟨μ kb0,zK+fo,none⟩):=by rw[<-ha3];exact eP (z2.symm▸hb0)
 have v3r:a3.eval (.tmp r)=vS:=by rw[<-ha3,cK n4];exact v2r
 have v3p:a3.eval (.tmp p)=.pointer (some ⟨g,xs.length*P.cellsOf e,none⟩):=by rw[<-ha3,cK n6];exact v2p
 have v3x:a3.eval (.tmp x)=.agg pc:=by rw[<-ha3,cK (Ne.symm n10)];exact v2x
 have vbb:ab.eval (.tmp b)=.pointer (some ⟨μ kb0,zK+fo,none⟩):=by rw[<-hab];exact eP (z1.symm▸hb0)
 have vbr:ab.eval (.tmp r)=vS:=by rw[<-hab,cK n4];exact v1r
 have vbq:ab.eval (.tmp q)=a.eval (.tmp q):=by rw[<-hab,cK (Ne.symm n9)];exact v1q
 have a7N:=pP;unfold uF at a7N;split at a7N;rotate_left
 .cases a7N
 rename_i kb off ys hb hys;split at a7N;rotate_left
 .cases a7N
 rename_i cs hkb;split at a7N;rotate_left
 .cases a7N
 rename_i hcd
 clear a7N
 have hHs:(tl3 st gM e r p b xs c kb0 (zK+fo)).H=st.H:=rfl;rw[hHs]at hkb;have hbe:(tl3 st gM e r p b xs c kb0 (zK+fo)).eval G (.tmp b)=.ptr kb0 (zK+fo):=by simp[St.eval,finish,List.getD,l3]
 rw[hbe]at hb;cases hb;have e9v:ys.length=1:=by
  have:(tl3 st gM e r p b xs c kb0 (zK+fo)).eval G (.tmp r)=.d (.sl (xs++[c])):=by simp[St.eval,finish,List.getD,l1,List.getElem?_set,Ne.symm n3,Ne.symm n4]
  rw[this]at hys;simp only[xQ,D.cells,List.map_cons,List.map_nil,g3w]at hys;rw[<-hys];rfl
 obtain⟨_,_,vs0,T0,hh0,e9w,_⟩:=hr.mL kb0 _ hkb;obtain⟨hbg,e9x⟩:=e9q kb0 _ hkb;have hvc:vS.cells=#[vS]:=by rw[<-hvS];rfl
 have hvo:vS.oneCell'=true:=by rw[<-hvS];rfl
 have hob:w1.heap[μ kb0]? =some (.cells vs0 T0 (0,0)):=e9x.trans hh0;generalize hX:spl vs0 (zK+fo) [vS]=X;have E0:(execOp a.eval ⟨some r,.call {callee:=.builtin .append,args:=#[.tmp s,.tmp z],argTypes:=#[t,t]},y0,p0,f0,none⟩).run P w=.ok (.value vS) w1:=by simp[execOp,resolve,invoke,builtin,e0]
 have E1:∀(ax:Act)(w':World),ax.eval (.tmp r)=vS->ax.eval (.tmp q)=a.eval (.tmp q)->(execOp ax.eval ⟨some p,.indexAddr t (.tmp r) (.tmp q),y1,p1,f1,none⟩).run P w'=.ok (.value (.pointer (some ⟨g,xs.length*P.cellsOf e,none⟩))) w':=λax w' k1 k2=>a5c rfl hu (k1.trans hvS.symm) (k2.trans (hr.zE hq)) (by omega) a2I
 have E2:∀(ax:Act)(w':World),ax.eval (.tmp p)=.pointer (some ⟨g,xs.length*P.cellsOf e,none⟩)->ax.eval (.tmp x)=.agg pc->w'.heap[g]? =some (.cells a4x e (0,0))->(execOp ax.eval ⟨none,.store e (.tmp p) (.tmp x),y2,p2,f2,none⟩).run P w'=.ok .skip (w'.setRow g b3O):=λax w' kp kx hw'=>by have:=wB (P:=P) (a:=ax) (w:=w') (o:=⟨none,.store e (.tmp p) (.tmp x),y2,p2,f2,none⟩) rfl kp hw' (by rw[kx];show pc.size=_;rw[b3N,hc]) (by omega) (by rw[kx];exact kR) (by rw[kx];show _+pc.size<=_;rw[b3N,hc];exact mX);rw[kx]at this;have qC:(Value.agg pc).cells=pc:=rfl;rw[qC,d7E]at this;exact this
 have E3:∀(ax:Act)(w':World),ax.eval (.tmp y)=.pointer (some ⟨μ kb0,zK,none⟩)->(execOp ax.eval ⟨some b,.fieldAddr T (.tmp y) fd,y3,p3,f3,none⟩).run P w'=.ok (.value (.pointer (some ⟨μ kb0,zK+fo,none⟩))) w':=λax w' ky=>a0z (P:=P) rfl hfo hfc ky;have E4:∀(ax:Act)(w':World),ax.eval (.tmp b)=.pointer (some ⟨μ kb0,zK+fo,none⟩)->ax.eval (.tmp r)=vS->w'.heap[μ kb0]? =some (.cells vs0 T0 (0,0))->(execOp ax.eval ⟨none,.store t (.tmp b) (.tmp r),y4,p4,f4,none⟩).run P w'=.ok .skip (w'.setRow (μ kb0) X):=λax w' hb1 hr1 hw'=>by have:=wB (P:=P) (a:=ax) (w:=w') (o:=⟨none,.store t (.tmp b) (.tmp r),y4,p4,f4,none⟩) rfl hb1 hw' (by rw[hr1,hvc, <- hcd.1,e9v];rfl) (by omega) (by rw[hr1,hvc];simpa using hvo) (by rw[hr1,hvc];show zK+fo+1<=_;rw[e9w];omega);rw[hr1,hvc]at this;have:(execOp ax.eval ⟨none,.store t (.tmp b) (.tmp r),y4,p4,f4,none⟩).run P w'=.ok .skip (w'.setRow (μ kb0) (spl vs0 (zK+fo) [vS])):=this;rw[hX]at this;exact this
 have hgX:(w1.setRow (μ kb0) X).heap[g]? =some (.cells a4x e (0,0)):=(setRow_other w1 (μ kb0) g _ (Ne.symm hbg)).trans hg;have hbX:(w1.setRow g b3O).heap[μ kb0]? =some (.cells vs0 T0 (0,0)):=(setRow_other w1 g (μ kb0) _ hbg).trans hob;have c1N:(w1.setRow (μ kb0) X).setRow g b3O=(w1.setRow g b3O).setRow (μ kb0) X:=b5c w1 hbg X b3O;have a1k:QQ .normal a3 ((w1.setRow g b3O).setRow (μ kb0) X):=by
  obtain⟨v,w',R',μ',dG,hr4,_,_,hs3⟩:=a8J (o:=⟨none,.store t (.tmp b) (.tmp r),y4,p4,f4,none⟩) rfl pP base R1 μ a3 _ hr3;rw[E4 a3 _ v3b v3r hbX]at dG;rcases dG with dG|⟨dG,_⟩
  .cases dG
  .cases dG;exact hk out.st a3 _ R' μ' hQ hr4 (hs1.trans hs3)
 simp only[b6v,g3q,beq_iff_eq]at hR;obtain⟨⟨⟨⟨⟨⟨⟨⟨⟨⟨⟨⟨⟨⟨⟨⟨⟨⟨⟨r0,r1⟩,rA⟩,rB⟩,rAC⟩,rAB⟩,rBA⟩,rBD⟩,f7a⟩,f7b⟩,f7c⟩,f7d⟩,f7e⟩,f7f⟩,e1⟩,e2⟩,e3⟩,e4⟩,e5⟩,e6⟩:=hR;refine wpAny_all r0 (by simp) λi hi=>?_;simp only[g3x]at hi;subst hi;refine eG h0 rfl (.inl E0) ha1 ?_;refine wpAny_all r1 (by simp) λj hj=>?_;simp only[g3N,List.not_mem_nil,or_false]at hj;rcases hj with rfl|rfl
 .refine eG h1 rfl (.inl (E1 a1 w1 v1r v1q)) ha2 ?_;refine wpAny_all rA (by simp) λj hj=>?_;simp only[g3N,List.not_mem_nil,or_false]at hj;rcases hj with rfl|rfl
  .refine eG h2 rfl (.inr ⟨E2 a2 w1 v2p v2x hg,rfl⟩) rfl ?_;refine wpAny_all rAC (by simp) λj hj=>?_;simp only[g3x]at hj;subst hj;refine eG h3 rfl (.inl (E3 a2 _ v2y)) ha3 ?_;refine wpAny_all f7a (by simp) λj hj=>?_;simp only[g3x]at hj;subst hj;exact eG h4 rfl (.inr ⟨E4 a3 _ v3b v3r hbX,rfl⟩) rfl (wpAny_done e1 a1k _)
  .refine eG h3 rfl (.inl (E3 a2 _ v2y)) ha3 ?_;refine wpAny_all rAB (by simp) λj hj=>?_;simp only[g3N,List.not_mem_nil,or_false]at hj;rcases hj with rfl|rfl
   .refine eG h2 rfl (.inr ⟨E2 a3 w1 v3p v3x hg,rfl⟩) rfl ?_;refine wpAny_all f7b (by simp) λj hj=>?_;simp only[g3x]at hj;subst hj;exact eG h4 rfl (.inr ⟨E4 a3 _ v3b v3r hbX,rfl⟩) rfl (wpAny_done e2 a1k _)
   .refine eG h4 rfl (.inr ⟨E4 a3 _ v3b v3r hob,rfl⟩) rfl ?_;refine wpAny_all f7c (by simp) λj hj=>?_;simp only[g3x]at hj;subst hj;exact eG h2 rfl (.inr ⟨E2 a3 _ v3p v3x hgX,rfl⟩) rfl (wpAny_done e3 (by rw[c1N];exact a1k) _)
 .refine eG h3 rfl (.inl (E3 a1 _ v1y)) hab ?_;refine wpAny_all rB (by simp) λj hj=>?_;simp only[g3N,List.not_mem_nil,or_false]at hj;rcases hj with rfl|rfl
  .refine eG h1 rfl (.inl (E1 ab _ vbr vbq)) f3i ?_;refine wpAny_all rBA (by simp) λj hj=>?_;simp only[g3N,List.not_mem_nil,or_false]at hj;rcases hj with rfl|rfl
   .refine eG h2 rfl (.inr ⟨E2 a3 w1 v3p v3x hg,rfl⟩) rfl ?_;refine wpAny_all f7d (by simp) λj hj=>?_;simp only[g3x]at hj;subst hj;exact eG h4 rfl (.inr ⟨E4 a3 _ v3b v3r hbX,rfl⟩) rfl (wpAny_done e4 a1k _)
   .refine eG h4 rfl (.inr ⟨E4 a3 _ v3b v3r hob,rfl⟩) rfl ?_;refine wpAny_all f7e (by simp) λj hj=>?_;simp only[g3x]at hj;subst hj;exact eG h2 rfl (.inr ⟨E2 a3 _ v3p v3x hgX,rfl⟩) rfl (wpAny_done e5 (by rw[c1N];exact a1k) _)
  .refine eG h4 rfl (.inr ⟨E4 ab _ vbb vbr hob,rfl⟩) rfl ?_;refine wpAny_all rBD (by simp) λj hj=>?_;simp only[g3x]at hj;subst hj;refine eG h1 rfl (.inl (E1 ab _ vbr vbq)) f3i ?_;refine wpAny_all f7f (by simp) λj hj=>?_;simp only[g3x]at hj;subst hj;exact eG h2 rfl (.inr ⟨E2 a3 _ v3p v3x hgX,rfl⟩) rfl (wpAny_done e6 (by rw[c1N];exact a1k) _)
def d2t(P:Program)(G:GT)(t e T:TypeId)(s z r p q x b y:Tmp)(fd:Nat)(Q:St->Prop)(st:St):Prop:=
 ∃(xs:List (List D))(z0 c:List D)(gM:List (TypeId×List Loc))(kb0 zK fo:Nat)(u:TypeId)(out:Out),(r<st.tmps.length/\p<st.tmps.length/\b<st.tmps.length)/\st.eval G (.tmp s)=.d (.sl xs)/\jW (.t s) st.own=some (e,gM)/\(∀c∈xs,c.length=P.cellsOf e)/\st.eval G (.tmp z)=.d (.sl [z0])/\z0.length=P.cellsOf e/\
  (xs.length+1)*(P.bytesOf e+1)<=140737488355328/\st.eval G (.tmp q)=.d (.int .i64 (xs.length:Int))/\st.eval G (.tmp x)=.d (.agg c)/\c.length=P.cellsOf e/\st.eval G (.tmp y)=.ptr kb0 zK/\aO P T fd=some (fo,u)/\P.cellsOf u≠0/\uF P G t (.tmp b) (.tmp r) (tl3 st gM e r p b xs c kb0 (zK+fo))=some out/\Q out.st
theorem a3T{id:Nat}{Q:Exit->St->Prop}{m:Nat}(h0:ops[m]? =some ⟨some r,.call {callee:=.builtin .append,args:=#[.tmp s,.tmp z],argTypes:=#[t,t]},y0,p0,f0,none⟩)(h1:ops[m+1]? =some ⟨some p,.indexAddr t (.tmp r) (.tmp q),y1,p1,f1,none⟩)(h2:ops[m+2]? =some ⟨none,.store e (.tmp p) (.tmp x),y2,p2,f2,none⟩)(h3:ops[m+3]? =some ⟨some b,.fieldAddr T (.tmp y) fd,y3,p3,f3,none⟩)(h4:ops[m+4]? =some ⟨none,.store t (.tmp b) (.tmp r),y4,p4,f4,none⟩)(hB:(P.follows .mixedOrders&&d7D ops m&&decide (ops.size=m+5)&&b6v ops (sH m ops.size) m (m+1) (m+2) (m+3) (m+4))=true)(pG:(kF P e&&decide ((r≠q/\r≠x/\r≠p/\r≠b/\r≠y)/\(p≠x/\p≠b/\p≠y)/\b≠q/\b≠x))=true)(hu:P.underlying t=some (.slice e))(hF:b3C ops st=true)(h:VK P G [.ops true ops (ops.toList.take m)] .normal st λ_ s1=>d2t P G t e T s z r p q x b y fd (λs'=>Q .normal s') s1):SW P G (.region id ops true) st Q:=by
 rw[g3q,g3q,g3q,g4e]at hB;obtain⟨⟨⟨hm,hL⟩,mQ⟩,hR⟩:=hB;rw[g3q,g4e]at pG;have h5:ops.size-m=5:=by rw[mQ];exact Nat.add_sub_cancel_left ..
 refine b7C hm hL hF (d0o h) ?_;rintro s1 base R μ a w QQ ⟨xs,z0,c,gM,kb0,zK,fo,u,out,k0,k1,k2,k3,k4,k5,k6,k7,k8,k9,k10,k11,k12,k13,k14⟩ hr hk;rw[h5];exact c6Y (Q:=λs'=>Q .normal s') h0 h1 h2 h3 h4 hR pG.1 hu pG.2 k0 k1 k2 k3 k4 k5 k6 k7 k8 k9 k10 k11 k12 k13 k14 hr hk
end
end Go.VM
namespace Go.VM
open Go Go.RowKit
section
variable {P:Program} {G:GT} {st:St} {base:dU} {R:Nat->Nat->Prop} {μ:Nat->Nat} {a:Act} {w:World}
def b7I(P:Program)(G:GT)(all:Array Oper):List Oper->St->(Exit->St->Prop)->Prop
 |[],st,Q=>Q .normal st
 |o::rest,st,Q=>
  match gC o all st.tmps with
  |some true=>
   match kY G o st with
   |some (f,ds)=>(∃r own,(Enters P f/\CS P G f ds r own)/\b7I P G all rest (finish st o.dst r (a7n own)) Q)\/∃s',(Enters P f/\pC P G f (ds.map .d) (oN o) st o.dst s')/\b7I P G all rest s' Q
   |none=>
    match eB G o st with
    |some (f,g3o)=>∃x0,tQ P G f g3o (oN o) o.dst st (λs=>b7I P G all rest s Q) Q x0
    |none=>
     match pH P G o st with
     |some out=>b7I P G all rest (finish out.st o.dst out.v (b1I false all o out.v out.act)) Q
     |none=>False
  |some false=>b7I P G all rest (finish st o.dst (.cX []) .no) Q
  |none=>False
theorem d2u{all:Array Oper}:∀(l:List Oper)(st:St)(Q:Exit->St->Prop),b7I P G all l st Q->∀(base:dU)(R:Nat->Nat->Prop)(μ:Nat->Nat)(a:Act)(w:World),Rel P G base R μ st a w->
  ∀QQ:Exit->Act->World->Prop,(∀e s a' w' R' μ',Q e s->Rel P G base R' μ' s a' w'->Step base R w R' w'->QQ e a' w')->wpList P all QQ l a w
 |[],st,Q,h,base,R,μ,a,w,hr,QQ,hk=>hk _ st a w R μ h hr (.refl _ _ _)
 |o::rest,st,Q,h,base,R,μ,a,w,hr,QQ,hk=>by
  have go:qO P G false all o (λs=>b7I P G all rest s Q) st->wpList P all QQ (o::rest) a w:=λh1=>by unfold wpList;exact uL h1 hr λs v w' R' μ' h' jG tL=>d2u rest s Q h' base R' μ' _ w' jG QQ λe s a' w2 R2 μ2 q1 q2 q3=>hk e s a' w2 R2 μ2 q1 q2 (tL.trans q3)
  unfold b7I at h;split at h
  .rename_i hw;split at h
   .rename_i f ds hc;refine go ?_;unfold qO;rw[hw,hc];rcases h with⟨r,own,h1,h2⟩|⟨s',h1,h2⟩
    .exact .inl ⟨r,own,h1,λe=>Bool.noConfusion e,by simpa using h2⟩
    .exact .inr ⟨by simp[uK],s',h1,h2⟩
   .rename_i hc;split at h
    .rename_i f g3o hH;obtain⟨x0,h0⟩:=h;unfold tQ at h0;obtain⟨he,h1,h2⟩:=h0;cases x0 with
     |true=>obtain⟨s',h3,h4⟩:=h1 rfl;refine go ?_;unfold qO;rw[hw,hc,hH];simp only[uK,Bool.false_and,a3H,g3K,if_false];exact⟨s',⟨he,h3⟩,h4⟩
     |false=>obtain⟨v,h3,h4⟩:=h2 rfl;unfold wpList;rw[a4U hr hw,if_pos rfl];exact .inl (b0M hH ⟨he,h3⟩ hr λR' w' hs hb=>hk _ _ _ w' R' μ h4 (hr.b2f hs hb) hs)
    .rename_i hH;split at h
     .rename_i out hv;refine go ?_;unfold qO;rw[hw,hc,hH,hv];exact h
     .exact h.elim
  .rename_i hw;refine go ?_;unfold qO;rw[hw];exact h
  .exact h.elim
def XW(P:Program)(G:GT):Code->St->(Exit->St->Prop)->Prop
 |.skip,st,Q=>Q .normal st
 |.region id ops draw,st,Q=>match draw with
  |true=>SW P G (.region id ops true) st Q
  |false=>b7I P G ops ops.toList st Q
 |.seq x y,st,Q=>XW P G x st λe s=>match e with
  |.normal=>XW P G y s Q
  |e=>Q e s
 |.cond c x y,st,Q=>
  match st.eval G c with
  |.d (.bool t)=>if t then XW P G x st Q else XW P G y st Q
  |.rS=>XW P G x st Q/\XW P G y st Q
  |_=>False
 |.block id c,st,Q=>XW P G c st λe s=>match e with
  |.exit id'=>if id'=id then Q .normal s else Q (.exit id') s
  |e=>Q e s
 |.loop c,st,Q=>SW P G (.loop c) st Q
 |.exit id,st,Q=>Q (.exit id) st
 |.ret,st,Q=>Q .ret st
 |.label _,st,Q=>Q .normal st
 |.scope c,st,Q=>XW P G c st λe s=>match e with
  |.goto _=>False
  |e=>Q e s
 |_,_,_=>False
theorem b2j:∀(c:Code)(st:St)(Q:Exit->St->Prop),XW P G c st Q->SW P G c st Q
 |.skip,st,Q,h=>λbase R μ a w hr=>wp_skip ⟨st,R,μ,h,hr,.refl _ _ _⟩
 |.region id ops draw,st,Q,h=>by
  unfold XW at h;cases draw with
  |true=>exact h
  |false=>exact λbase R μ a w hr=>wp_region_list (d2u ops.toList st Q h base R μ a w hr _ λe s a' w' R' μ' q1 q2 q3=>⟨s,R',μ',q1,q2,q3⟩)
 |.seq x y,st,Q,h=>λbase R μ a w hr=>wp_seq (wp_mono (b2j x st _ h base R μ a w hr) λe a1 w1 ⟨s,R1,μ1,q1,q2,q3⟩=>by
   cases e with
   |normal=>exact wp_mono (b2j y s Q q1 base R1 μ1 a1 w1 q2) λe2 a2 w2 ⟨s2,R2,μ2,p1,p2,p3⟩=>⟨s2,R2,μ2,p1,p2,q3.trans p3⟩
   |_=>exact⟨s,R1,μ1,q1,q2,q3⟩)
 |.cond c x y,st,Q,h=>λbase R μ a w hr=>by
  unfold XW at h;split at h
  .rename_i t hc;refine wp_cond (hr.a2F hc) ?_;cases t
   .exact b2j y st Q h base R μ a w hr
   .exact b2j x st Q h base R μ a w hr
  .rename_i hc;obtain⟨t,ht⟩:=hr.d1U hc;refine wp_cond ht ?_;cases t
   .exact b2j y st Q h.2 base R μ a w hr
   .exact b2j x st Q h.1 base R μ a w hr
  .cases h
 |.block id c,st,Q,h=>λbase R μ a w hr=>wp_block (wp_mono (b2j c st _ h base R μ a w hr) λe a1 w1 ⟨s,R1,μ1,q1,q2,q3⟩=>by
   cases e with
   |exit id'=>
    simp only[Exit.inBlock];simp only at q1;by_cases hid:id'=id
    .rw[if_pos hid]at q1|-;exact⟨s,R1,μ1,q1,q2,q3⟩
    .rw[if_neg hid]at q1|-;exact⟨s,R1,μ1,q1,q2,q3⟩
   |_=>exact⟨s,R1,μ1,q1,q2,q3⟩)
 |.loop c,st,Q,h=>h
 |.exit id,st,Q,h=>λbase R μ a w hr=>wp_exit ⟨st,R,μ,h,hr,.refl _ _ _⟩
 |.ret,st,Q,h=>λbase R μ a w hr=>wp_ret ⟨st,R,μ,h,hr,.refl _ _ _⟩
 |.rangeFunc ..,_,_,h=>by simp[XW]at h
 |.scope c,st,Q,h=>λbase R μ a w hr=>wp_scope_straight (wp_mono (b2j c st _ h base R μ a w hr) λe a1 w1 ⟨s,R1,μ1,q1,q2,q3⟩=>by
   cases e with
   |goto l=>exact q1.elim
   |_=>exact⟨s,R1,μ1,q1,q2,q3⟩)
 |.label l,st,Q,h=>λbase R μ a w hr=>wp_label ⟨st,R,μ,h,hr,.refl _ _ _⟩
 |.goto ..,_,_,h=>by simp[XW]at h
inductive XI where
 |code (c:Code)
 |blk (id:Nat)
 |ops (all:Array Oper) (rest:List Oper)
 |scp
def XK(P:Program)(G:GT):List XI->Exit->St->(Exit->St->Prop)->Prop
 |[],e,st,Q=>Q e st
 |.code c::k,.normal,st,Q=>XW P G c st λe s=>XK P G k e s Q
 |.code _::k,e,st,Q=>XK P G k e st Q
 |.blk id::k,.exit id',st,Q=>if id'=id then XK P G k .normal st Q else XK P G k (.exit id') st Q
 |.blk _::k,e,st,Q=>XK P G k e st Q
 |.ops all rest::k,.normal,st,Q=>b7I P G all rest st λe s=>XK P G k e s Q
 |.ops _ _::k,e,st,Q=>XK P G k e st Q
 |.scp::_,.goto _,_,_=>False
 |.scp::k,e,st,Q=>XK P G k e st Q
def c6Z(P:Program)(G:GT)(v:DV)(x y:Code)(k:List XI)(st:St)(Q:Exit->St->Prop):Prop:=
 match v with
 |.d (.bool t)=>if t then XK P G (.code x::k) .normal st Q else XK P G (.code y::k) .normal st Q
 |.rS=>XK P G (.code x::k) .normal st Q/\XK P G (.code y::k) .normal st Q
 |_=>False
end
section
variable {P:Program} {G:GT} {k:List XI} {st:St} {Q:Exit->St->Prop}
theorem e9E(e:Exit):XK P G [] e st Q=Q e st:=rfl
theorem e3H:XK P G (.code .skip::k) .normal st Q=XK P G k .normal st Q:=rfl
theorem e9F(x y:Code):XK P G (.code (.seq x y)::k) .normal st Q=XK P G (.code x::.code y::k) .normal st Q:=by simp only[XK,XW];congr 1;funext e s;cases e<;>rfl
theorem e3I(c:Operand)(x y:Code):XK P G (.code (.cond c x y)::k) .normal st Q=c6Z P G (st.eval G c) x y k st Q:=rfl
theorem d7L(id:Nat)(c:Code):XK P G (.code (.block id c)::k) .normal st Q=XK P G (.code c::.blk id::k) .normal st Q:=by simp only[XK,XW];congr 1;funext e s;cases e<;>rfl
theorem d7M(l:Nat):XK P G (.code (.label l)::k) .normal st Q=XK P G k .normal st Q:=rfl
theorem c0p:XK P G (.scp::k) .normal st Q=XK P G k .normal st Q:=rfl
theorem d0r:XK P G (.scp::k) .ret st Q=XK P G k .ret st Q:=rfl
theorem c7a(id:Nat):XK P G (.scp::k) (.exit id) st Q=XK P G k (.exit id) st Q:=rfl
theorem d4c(id:Nat)(ops:Array Oper):XK P G (.code (.region id ops false)::k) .normal st Q=XK P G (.ops ops ops.toList::k) .normal st Q:=rfl
theorem d7N(id:Nat)(ops:Array Oper):XK P G (.code (.region id ops true)::k) .normal st Q=SW P G (.region id ops true) st (λe s=>XK P G k e s Q):=rfl
theorem e3J(id:Nat):XK P G (.code (.exit id)::k) .normal st Q=XK P G k (.exit id) st Q:=rfl
theorem e9G:XK P G (.code .ret::k) .normal st Q=XK P G k .ret st Q:=rfl
theorem e3K(c:Code):XK P G (.code (.loop c)::k) .normal st Q=SW P G (.loop c) st (λe s=>XK P G k e s Q):=rfl
theorem c7b(c:Code):XK P G (.code c::k) .ret st Q=XK P G k .ret st Q:=rfl
theorem c3C(c:Code)(id:Nat):XK P G (.code c::k) (.exit id) st Q=XK P G k (.exit id) st Q:=rfl
theorem c0q(id:Nat):XK P G (.blk id::k) .normal st Q=XK P G k .normal st Q:=rfl
theorem d0s(id:Nat):XK P G (.blk id::k) .ret st Q=XK P G k .ret st Q:=rfl
theorem c7c(id id':Nat):XK P G (.blk id::k) (.exit id') st Q=if id'=id then XK P G k .normal st Q else XK P G k (.exit id') st Q:=rfl
theorem d0t(all:Array Oper):XK P G (.ops all []::k) .normal st Q=XK P G k .normal st Q:=rfl
theorem a5f(ps:List PanicEntry):∀k:List XI,XK P G k (.panic ps) st Q=Q (.panic ps) st
 |[]=>rfl
 |.code _::k=>by simpa only[XK]using a5f ps k
 |.blk _::k=>by simpa only[XK]using a5f ps k
 |.ops _ _::k=>by simpa only[XK]using a5f ps k
 |.scp::k=>by simpa only[XK]using a5f ps k
def jV(P:Program)(G:GT)(f:FuncId)(ds:List D)(ls:List (Option Loc))(dst:Option Tmp)(all:Array Oper)(rest:List Oper)(k:List XI)(st:St)(Q:Exit->St->Prop):Prop:=
 (∃r own,(Enters P f/\CS P G f ds r own)/\XK P G (.ops all rest::k) .normal (finish st dst r (a7n own)) Q)\/
 (∃s',(Enters P f/\pC P G f (ds.map .d) ls st dst s')/\XK P G (.ops all rest::k) .normal s' Q)
variable{all:Array Oper}{f:FuncId}{rest:List Oper}{ls:List (Option Loc)}{dst:Option Tmp}
theorem jV.mk{ds:List D}{r:DV}{own:Option TypeId}(he:Enters P f)(hc:CS P G f ds r own)(h:XK P G (.ops all rest::k) .normal (finish st dst r (a7n own)) Q):jV P G f ds ls dst all rest k st Q:=.inl ⟨r,own,⟨he,hc⟩,h⟩
def c1S(P:Program)(G:GT)(x:Option Out)(dst:Option Tmp)(all:Array Oper)(rest:List Oper)(k:List XI)(Q:Exit->St->Prop):Prop:=
 match x with
 |some out=>XK P G (.ops all rest::k) .normal (finish out.st dst out.v out.act) Q
 |none=>False
theorem d0u{st':St}{v:DV}{act:OA}:c1S P G (some ⟨v,act,st'⟩) dst all rest k Q=XK P G (.ops all rest::k) .normal (finish st' dst v act) Q:=rfl
theorem eF{c:Prop}[Decidable c]{out:Out}(hc:c)(h:c1S P G (some out) dst all rest k Q):c1S P G (if c then some out else none) dst all rest k Q:=by rw[if_pos hc];exact h
theorem d0v(x y:Code):c6Z P G (.d (.bool true)) x y k st Q=XK P G (.code x::k) .normal st Q:=rfl
theorem d4d(x y:Code):c6Z P G .rS x y k st Q=(XK P G (.code x::k) .normal st Q/\XK P G (.code y::k) .normal st Q):=rfl
theorem c7d(x y:Code):c6Z P G (.d (.bool false)) x y k st Q=XK P G (.code y::k) .normal st Q:=rfl
def dX(P:Program)(G:GT)(f:FuncId)(g3o:List DV)(ls:List (Option Loc))(dst:Option Tmp)(all:Array Oper)(rest:List Oper)(k:List XI)(st:St)(Q:Exit->St->Prop):Prop:=
 ∃x0,tQ P G f g3o ls dst st (λs=>XK P G (.ops all rest::k) .normal s Q) (λe s=>XK P G k e s Q) x0
theorem dX.mk{g3o:List DV}{x0:Bool}(h:tQ P G f g3o ls dst st (λs=>XK P G (.ops all rest::k) .normal s Q) Q x0):dX P G f g3o ls dst all rest k st Q:=by
 refine⟨x0,?_⟩;unfold tQ at h|-;refine⟨h.1,h.2.1,λh0=>?_⟩;obtain⟨v,h1,h2⟩:=h.2.2 h0;refine⟨v,h1,?_⟩
 show XK P G k (.panic (a2d v)) (a3R st) Q
 rw[a5f];exact h2
def a7T(P:Program)(G:GT)(o:Oper)(all:Array Oper)(rest:List Oper)(k:List XI)(st:St)(Q:Exit->St->Prop):Prop:=
 match kY G o st with
 |some (f,ds)=>jV P G f ds (oN o) o.dst all rest k st Q
 |none=>
  match eB G o st with
  |some (f,g3o)=>dX P G f g3o (oN o) o.dst all rest k st Q
  |none=>c1S P G ((pH P G o st).map λout=>⟨out.v,b1I false all o out.v out.act,out.st⟩) o.dst all rest k Q
def a5O(P:Program)(G:GT)(y:DV)(want:Bool)(o:Oper)(all:Array Oper)(rest:List Oper)(k:List XI)(st:St)(Q:Exit->St->Prop):Prop:=
 match y with
 |.undef=>False
 |.rS=>False
 |.d (.bool b)=>if b=want then a7T P G o all rest k st Q else XK P G (.ops all rest::k) .normal (finish st o.dst (.cX []) .no) Q
 |_=>XK P G (.ops all rest::k) .normal (finish st o.dst (.cX []) .no) Q
theorem a3U(b want:Bool)(o:Oper)(all:Array Oper)(rest:List Oper):a5O P G (.d (.bool b)) want o all rest k st Q=if b=want then a7T P G o all rest k st Q else XK P G (.ops all rest::k) .normal (finish st o.dst (.cX []) .no) Q:=rfl
theorem d0w(ds:List D)(want:Bool)(o:Oper)(all:Array Oper)(rest:List Oper):a5O P G (.cX ds) want o all rest k st Q=XK P G (.ops all rest::k) .normal (finish st o.dst (.cX []) .no) Q:=rfl
theorem d4e(o:Oper)(all:Array Oper)(rest:List Oper):a5O P G (.d (.bool true)) true o all rest k st Q=a7T P G o all rest k st Q:=by rw[a3U,if_pos rfl]
theorem d4f(o:Oper)(all:Array Oper)(rest:List Oper):a5O P G (.d (.bool false)) false o all rest k st Q=a7T P G o all rest k st Q:=by rw[a3U,if_pos rfl]
theorem d4g(o:Oper)(all:Array Oper)(rest:List Oper):a5O P G (.d (.bool true)) false o all rest k st Q=XK P G (.ops all rest::k) .normal (finish st o.dst (.cX []) .no) Q:=by rw[a3U,if_neg (by decide)]
theorem d4h(o:Oper)(all:Array Oper)(rest:List Oper):a5O P G (.d (.bool false)) true o all rest k st Q=XK P G (.ops all rest::k) .normal (finish st o.dst (.cX []) .no) Q:=by rw[a3U,if_neg (by decide)]
theorem b5h(all:Array Oper)(o:Oper)(rest:List Oper):XK P G (.ops all (o::rest)::k) .normal st Q=match gC o all st.tmps with
  |some true=>a7T P G o all rest k st Q
  |some false=>XK P G (.ops all rest::k) .normal (finish st o.dst (.cX []) .no) Q
  |none=>False:=by
 simp only[XK,b7I,a7T,jV,dX,c1S];cases gC o all st.tmps with
 |none=>rfl
 |some b=>
  cases b with
  |false=>rfl
  |true=>
   simp only;cases kY G o st with
   |some p=>rfl
   |none=>
    simp only;cases eB G o st with
    |some p=>rfl
    |none=>simp only;cases pH P G o st<;>rfl
theorem c7e(all:Array Oper)(dst:Option Tmp)(op:Op)(ty:TypeId)(pos:String)(after:Array Edge)(rest:List Oper):
  XK P G (.ops all (⟨dst,op,ty,pos,after,none⟩::rest)::k) .normal st Q=a7T P G ⟨dst,op,ty,pos,after,none⟩ all rest k st Q:=by
 rw[b5h]
 rfl
theorem c3D(all:Array Oper)(dst:Option Tmp)(op:Op)(ty:TypeId)(pos:String)(after:Array Edge)(j:Nat)(want:Bool)(rest:List Oper):
  XK P G (.ops all (⟨dst,op,ty,pos,after,some (j,want)⟩::rest)::k) .normal st Q=a5O P G (wX all st.tmps j) want ⟨dst,op,ty,pos,after,some (j,want)⟩ all rest k st Q:=by
 rw[b5h];simp only[gC,a5O];generalize wX all st.tmps j=y;cases y with
 |d x=>
  cases x with
  |bool b=>cases b<;>cases want<;>rfl
  |_=>rfl
 |_=>rfl
variable{c:Code}
theorem SW.xk(h:XK P G [.code c] .normal st Q):SW P G c st Q:=b2j c st Q h
theorem SW.sV{ι:Type}(ws:ι->List (Nat×DV))(H:ι->List (Nat×bG))(own:ι->List (TypeId×List Loc))(m:ι->Nat)(x0:ι)(h0:yY st (mR c st (ws x0) (H x0) (own x0)))(round:∀x,XK P G [.code c] .normal (mR c st (ws x) (H x) (own x)) λe s=>match e with
   |.normal=>bE (λy=>mR c st (ws y) (H y) (own y)) m x s
   |e=>Q e s):SW P G (.loop c) st Q:=SW.f3d ws H own m x0 h0 λx=>SW.xk (round x)
end
attribute [irreducible] XK jV dX c1S c6Z a5O
attribute [simp] d7M c0p d0r c7a e9E e3H e9F e3I d7L d4c d7N e3J e9G e3K c7b c3C c0q d0s c7c d0t c7e c3D a7T d0u d0v c7d d4d d0w d4e d4f d4g d4h a5f
end Go.VM
namespace Go.VM
open Go Go.RowKit
section
variable {P:Program} {G:GT} {st:St} {base:dU} {R:Nat->Nat->Prop} {μ:Nat->Nat} {a:Act} {w:World}
def a8T:Op->Bool
 |.move _=>true
 |.nilCheck _=>true
 |.fieldAddr _ _ _=>true
 |_=>false
variable{all ops:Array Oper}{K TT:St->Prop}{o:Oper}
theorem b7J(hg:o.guard=none)(hk:a8T o.op=true)(h:qO P G true all o K st)(hr:Rel P G base R μ st a w):∃v,∀w',(execOp a.eval o).run P w'=.ok (.value v) w':=by
 unfold qO at h;rw[show gC o all st.tmps=some true from by unfold gC;rw[hg]]at h;cases qD:o.op with
 |move x=>exact⟨a.eval x,λw'=>by simp[execOp,qD]⟩
 |nilCheck x=>
  simp only[kY,eB,qD,pH]at h;unfold yH at h;split at h
  .rename_i out ho;split at ho
   .rename_i k off hx;exact⟨_,λw'=>by simp[execOp,qD,hr.eO hx];rfl⟩
   .rename_i cs hx;obtain⟨b,off,he,_⟩:=(hr.qR hx).a7f;exact⟨_,λw'=>by simp[execOp,qD,he];rfl⟩
   .rename_i f hx;exact⟨_,λw'=>by simp[execOp,qD,hr.b6L hx];rfl⟩
   .rename_i f cs hx;obtain⟨vs,he,_,_⟩:=(hr.qR hx).b1D;exact⟨_,λw'=>by simp[execOp,qD,he];rfl⟩
   .cases ho
  .exact h.elim
 |fieldAddr t x i=>
  simp only[kY,eB,qD,pH]at h;unfold uY at h;split at h
  .rename_i out ho;split at ho
   .rename_i off u hf;split at ho
    .cases ho
    .rename_i gJ;split at ho
     .rename_i k o2 hx;exact⟨_,λw'=>a0z (P:=P) qD hf gJ (hr.eO hx)⟩
     .rename_i cs hx;obtain⟨b,o2,he,_⟩:=(hr.qR hx).a7f;exact⟨_,λw'=>a0z (P:=P) qD hf gJ he⟩
     .cases ho
   .cases ho
  .exact h.elim
 |_=>simp[a8T,qD]at hk
theorem c7f(hg:o.guard=none)(hk:a8T o.op=true)(h:qO P G true all o K st)(hr:Rel P G base R μ st a w):
  ∃v s R' μ',(∀w',(execOp a.eval o).run P w'=.ok (.value v) w')/\K s/\Rel P G base R' μ' s (a.put o.dst v) w/\Step base R w R' w:=by
 obtain⟨v,hv⟩:=b7J hg hk h hr;have h1:=uL (Q:=λ_ _ _=>False) (KK:=λa' w'=>∃s R' μ',K s/\Rel P G base R' μ' s a' w'/\Step base R w R' w') h hr (λs v w' R' μ' q1 q2 q3=>⟨s,R',μ',q1,q2,q3⟩);rw[if_pos (by unfold Region.wanted;rw[hg])]at h1;rcases h1 with h1|⟨_,_,_,h2⟩
 .unfold Oper.wp at h1;rw[hv w]at h1;obtain⟨s,R',μ',q1,q2,q3⟩:=h1;exact⟨v,s,R',μ',hv,q1,q2,q3⟩
 .exact h2.elim
def b7K(ops:Array Oper):List Nat->Array Bool->Bool
 |[],_=>true
 |i::r,listed=>(match ops[i]? with
  |some o=>a8T o.op&&(o.guard==none)&&o.dst.isSome
  |none=>false)&&Region.noSelect ops&&Region.free .any ops listed i&&(Region.ready .any ops listed).contains i&&b7K ops r (listed.setIfInBounds i true)
theorem b6w{ops:Array Oper}{K:St->Prop}{QQ:Exit->Act->World->Prop}(hQ:∀c a a' w,a.defers=a'.defers->a.tmps.size=a'.tmps.size->QQ (.panic c) a w->QQ (.panic c) a' w):∀(l:List Nat)(listed:Array Bool)(fuel:Nat)(st:St),b7K ops l listed=true->vU P G true ops (sel ops l) st K->
  ∀(base:dU)(R:Nat->Nat->Prop)(μ:Nat->Nat)(a:Act)(w:World),Rel P G base R μ st a w->(∀s a' R' μ',K s->Rel P G base R' μ' s a' w->Step base R w R' w->wpAny P .any ops QQ fuel (cT l listed) a' w)->wpAny P .any ops QQ (l.length+fuel) listed a w
 |[],listed,fuel,st,_,h,base,R,μ,a,w,hr,hk=>by simpa[cT]using hk st a R μ h hr (.refl _ _ _)
 |i::l,listed,fuel,st,hB,h,base,R,μ,a,w,hr,hk=>by
  simp only[b7K,g3q]at hB;obtain⟨⟨⟨⟨ho,d7O⟩,hf⟩,hrd⟩,hB'⟩:=hB;split at ho;rotate_left
  .cases ho
  rename_i o hoi;simp only[g3q,beq_iff_eq]at ho;obtain⟨⟨hsk,hg⟩,hd⟩:=ho;simp only[sel,hoi,vU]at h;obtain⟨v,s,R',μ',hv,hK,jG,tL⟩:=c7f hg hsk h hr;rw[show(i::l).length+fuel=(l.length+fuel)+1 by simp only[List.length_cons];omega];refine wpAny_take (v:=v) hoi d7O hf hrd (λc a w h=>hQ c _ _ w ?_ ?_ h) (.inl ⟨by unfold Region.wanted;rw[hg],hv⟩) ?_
  .cases o.dst<;>rfl
  .cases o.dst<;>simp[Act.put]
  .exact b6w hQ l _ fuel s hB' hK base R' μ' _ w jG λs2 a2 R2 μ2 q1 q2 q3=>hk s2 a2 R2 μ2 q1 q2 (tL.trans q3)
def xF(Q:Exit->St->Prop):Exit->St->Prop:=λe s=>match e with
 |.panic c=>∀s,Q (.panic c) s
 |e=>Q e s
variable{s:St}{Q:Exit->St->Prop}
theorem c3E:xF Q .normal s=Q .normal s:=rfl
variable{c:List PanicEntry}
theorem a7U:xF Q (.panic c) s=∀s,Q (.panic c) s:=rfl
theorem b2k{e:Exit}(h:xF Q e s):Q e s:=by cases e<;>first|exact h|exact h s
theorem Rel.b2l(hr:Rel P G base R μ st a w)(a':Act)(hd:a'.defers=[]):Rel P G base R μ ⟨List.replicate a'.tmps.size .undef,[],[]⟩ a' w where
 defers:=hd
 size:=by simp
 tmps:=λi v d _ hd=>by
  rw[g4i]at hd;split at hd
  .simp at hd;subst hd;exact .undef _
  .cases hd
 mL:=λk o h=>by cases h
 inj:=λk k' o o' h=>by cases h
 eU:=λc hc=>by cases hc
 own:=⟨[],rfl,λi c v h _=>by simp at h,.nil⟩
 wY:=hr.wY
 sB:=hr.sB
 base:=hr.base
 pass:=hr.pass
theorem a3V{ops:Array Oper}:∀(l:List Nat)(listed:Array Bool),b7K ops l listed=true->gR ops listed->gR ops (cT l listed)
 |[],_,_,h=>h
 |i::l,listed,hB,h=>by simp only[b7K,g3q]at hB;exact a3V l _ hB.2 (h.set (by simpa using hB.1.2))
def d2v(ops:Array Oper)(ss:List Nat)(c:Nat)(rG:List Nat)(T:Ord):Bool:=(gY ops).isEmpty&&b7K ops ss (Array.replicate ops.size false)&&decide (ss.length+rG.length+1<=ops.size)&&inB ops c rG&&b2c ops c rG (cT ss (Array.replicate ops.size false))&& !(Region.ready .any ops (cT rG (cT ss (Array.replicate ops.size false)))).isEmpty&&((Region.ready .any ops (cT rG (cT ss (Array.replicate ops.size false)))).all λj=>a5M c T j)&&b7F ops c T (ops.size-ss.length-rG.length) (cT rG (cT ss (Array.replicate ops.size false)))
theorem gR.zero:gR ops (Array.replicate ops.size false):=λk hk=>by
 rcases Nat.lt_or_ge k ops.size with h'|h'
 .simp[h']at hk
 .simp[Nat.not_lt.2 h']at hk
theorem dK{id:Nat}(ss:List Nat)(c:Nat)(rG:List Nat)(T:Ord)(x0:Bool)(hm:P.follows .mixedOrders=true)(hB:d2v ops ss c rG T=true)(h:VK P G [.ops true ops (sel ops ss)] .normal st λ_ s=>VK P G [.ops true ops (sel ops rG)] .normal s λ_ s=>sI P G ops c (xF Q) x0 T s):SW P G (.region id ops true) st Q:=by
 simp only[d2v,g3q,List.isEmpty_iff,g4e,g3M,g3T,g3t]at hB;obtain⟨⟨⟨⟨⟨⟨⟨hN,pP⟩,hlen⟩,yL⟩,hs⟩,gJ⟩,eQ⟩,ht⟩:=hB;obtain⟨k,hk⟩:=Nat.exists_eq_add_of_le hlen;have qC:=a3V ss _ pP gR.zero;have e:ops.size-ss.length-rG.length=k+1:=by omega
 rw[e]at ht;refine SW.mono (λe s=>b2k) ?_;intro base R μ a w hr;obtain⟨jG,tL⟩:=hr.drew;refine wp_region_any hm ?_;simp only[VK]at h;have main:=b6w (QQ:=λe a' w'=>∃s' R' μ',xF Q e s'/\Rel P G base R' μ' s' a' w'/\Step base R w R' w') (K:=λs=>vU P G true ops (sel ops rG) s λs=>sI P G ops c (xF Q) x0 T s) (λc a a' w h1 h2 ⟨s',R',μ',q1,q2,q3⟩=>⟨⟨List.replicate a'.tmps.size .undef,[],[]⟩,R',μ',q1,q2.b2l a' (h1▸q2.defers),q3⟩) ss _ (rG.length+(k+1)) st pP h base R μ a w.drew jG λs a' R1 μ1 q1 q2 q3=>by
  cases x0 with
  |false=>have h2:=yP (λs hs=>sI.pan T s hs) _ _ q1;have:=a8R (P:=P) (G:=G) (c:=c) (Z:=a3S P G ops c (xF Q)) hN rG _ s (k+1) qC yL hs (tW (λs tL=>⟨gJ,λj hj=>a7R T k _ s ht tL j hj (eQ j hj)⟩) _ _ (xE rG s yL h2));exact b2g _ _ s this base R1 μ1 a' w.drew q2 λv s a' w' R' μ' p1 p2 p3=>⟨s,R',μ',p1,p2,tL.trans (q3.trans p3)⟩
  |true=>have h2:=yP (λs hs=>sI.ret T s hs) _ _ q1;have:=a5e (P:=P) (G:=G) (c:=c) (Q:=λs=>xF Q .normal s) hN rG _ s (k+1) qC hs (tW (λs tL=>⟨λh'=>(gJ h').elim,λj hj=>a8Q hN T k _ s (gR.cT rG _ qC hs) ht tL j hj (eQ j hj)⟩) _ _ (xE rG s yL h2)) λ_=>trivial;exact a7O _ _ s this base R1 μ1 a' w.drew q2 λs a' w' R' μ' p1 p2 p3=>⟨s,R',μ',p1,p2,tL.trans (q3.trans p3)⟩
 rw[show ss.length+(rG.length+(k+1))=ops.size by omega]at main;exact main
def c3F(ops:Array Oper)(m:Nat)(ss:List Nat)(c:Nat)(rG:List Nat)(T:Ord):Bool:=(gY ops).isEmpty&&b7K ops ss (Array.replicate ops.size false)&&d7J m ss&&decide (ss.length+rG.length+1<=m)&&decide (m<=ops.size)&&a0T ops m&&d7J m rG&&inB ops c rG&&b2c ops c rG (cT ss (Array.replicate ops.size false))&& !(Region.ready .any ops (cT rG (cT ss (Array.replicate ops.size false)))).isEmpty&&((Region.ready .any ops (cT rG (cT ss (Array.replicate ops.size false)))).all λj=>a5M c T j)&&a9U ops m c T (m-ss.length-rG.length) (cT rG (cT ss (Array.replicate ops.size false)))
theorem b2m{id:Nat}{m:Nat}(ss:List Nat)(c:Nat)(rG:List Nat)(T:Ord)(x0:Bool)(hm:P.follows .mixedOrders=true)(hB:c3F ops m ss c rG T=true)(h:VK P G [.ops true ops (sel ops ss)] .normal st λ_ s=>VK P G [.ops true ops (sel ops rG)] .normal s λ_ s=>sI P G ops c (b7H TT (xF Q)) x0 T s)(hT:∀s base R μ a w (QQ:Exit->Act->World->Prop),TT s->Rel P G base R μ s a w->(∀s' a' w' R' μ',Q .normal s'->Rel P G base R' μ' s' a' w'->Step base R w R' w'->QQ .normal a' w')->wpAny P .any ops QQ (ops.size-m) (sH m ops.size) a w):SW P G (.region id ops true) st Q:=by
 simp only[c3F,g3q,List.isEmpty_iff,g4e,g3M,g3T,g3t]at hB;obtain⟨⟨⟨⟨⟨⟨⟨⟨⟨⟨⟨hN,pP⟩,f9n⟩,hlen⟩,f2P⟩,hTA⟩,cM⟩,yL⟩,hs⟩,gJ⟩,eQ⟩,ht⟩:=hB;obtain⟨k,hk⟩:=Nat.exists_eq_add_of_le hlen;have qC:=a3V ss _ pP gR.zero;have e:m-ss.length-rG.length=k+1:=by omega
 rw[e]at ht;obtain⟨k',hk'⟩:=Nat.exists_eq_add_of_le (Nat.le_trans hlen f2P);refine SW.mono (λe s=>b2k) ?_;intro base R μ a w hr;obtain⟨jG,tL⟩:=hr.drew;refine wp_region_any hm ?_;simp only[VK]at h;have main:=b6w (QQ:=λe a' w'=>∃s' R' μ',xF Q e s'/\Rel P G base R' μ' s' a' w'/\Step base R w R' w') (K:=λs=>vU P G true ops (sel ops rG) s λs=>sI P G ops c (b7H TT (xF Q)) x0 T s) (λc a a' w h1 h2 ⟨s',R',μ',q1,q2,q3⟩=>⟨⟨List.replicate a'.tmps.size .undef,[],[]⟩,R',μ',q1,q2.b2l a' (h1▸q2.defers),q3⟩) ss _ (rG.length+(k'+1)) st pP h base R μ a w.drew jG λs a' R1 μ1 q1 q2 q3=>by
  cases x0 with
  |false=>have h2:=yP (λs hs=>sI.pan T s hs) _ _ q1;have:=a8R (P:=P) (G:=G) (c:=c) (Z:=a3S P G ops c (b7H TT (xF Q))) hN rG _ s (k'+1) qC yL hs (tW (λs tL=>⟨gJ,λj hj=>a8S T k k' _ s (by omega) ht tL j hj (eQ j hj)⟩) _ _ (xE rG s yL h2));exact b2g _ _ s this base R1 μ1 a' w.drew q2 λv s a' w' R' μ' p1 p2 p3=>⟨s,R',μ',p1,p2,tL.trans (q3.trans p3)⟩
  |true=>
   have h2:=yP (λs hs=>sI.ret T s hs) _ _ q1;have h3:=b0N (P:=P) (G:=G) (m:=m) (c:=c) (Q:=TT) hTA hN rG _ s (k+1) cM qC hs (tW (λs tL=>⟨gJ,λj hj=>b2h hTA hN T k _ s (gR.cT rG _ qC hs) ht tL j hj (eQ j hj)⟩) _ _ (xE rG s yL h2));have h4:=c1R (r:=ops.size-m) (QQ:=λe a' w'=>∃s' R' μ',xF Q e s'/\Rel P G base R' μ' s' a' w'/\Step base R w R' w') _ _ s h3 base R1 μ1 a' w.drew q2 λs a' w' R' μ' p1 p2 p3=>hT s base R' μ' a' w' _ p1 p2 λs2 a2 w2 R2 μ2 o1 o2 o3=>⟨s2,R2,μ2,o1,o2,tL.trans (q3.trans (p3.trans o3))⟩
   rw[show rG.length+(k+1)+(ops.size-m)=rG.length+(k'+1) by omega]at h4;exact h4
 rw[show ss.length+(rG.length+(k'+1))=ops.size by omega]at main;exact main
variable{e t y0 y1 y2 y3:TypeId}{f0 f1 f2 f3:Array Edge}{p0 p1 p2 p3:String}{b p q r x z:Tmp}
theorem b2n{id:Nat}(m:Nat){s:Tmp}(ss:List Nat)(c:Nat)(rG:List Nat)(T:Ord)(x0:Bool)(h0:ops[m]? =some ⟨some r,.call {callee:=.builtin .append,args:=#[.tmp s,.tmp z],argTypes:=#[t,t]},y0,p0,f0,none⟩)(h1:ops[m+1]? =some ⟨some p,.indexAddr t (.tmp r) (.tmp q),y1,p1,f1,none⟩)(h2:ops[m+2]? =some ⟨none,.store e (.tmp p) (.tmp x),y2,p2,f2,none⟩)(h3:ops[m+3]? =some ⟨none,.store t (.tmp b) (.tmp r),y3,p3,f3,none⟩)(hB:(P.follows .mixedOrders&&c3F ops m ss c rG T&&c1P ops m)=true)(pG:(kF P e&&decide ((r≠q/\r≠x/\r≠p/\r≠b)/\p≠x/\p≠b))=true)(hu:P.underlying t=some (.slice e))(h:VK P G [.ops true ops (sel ops ss)] .normal st λ_ s1=>VK P G [.ops true ops (sel ops rG)] .normal s1 λ_ s1=>sI P G ops c (b7H (e9z P G t e s z r p q x b (λs'=>Q .normal s')) (xF Q)) x0 T s1):SW P G (.region id ops true) st Q:=by
 rw[g3q,g3q]at hB;obtain⟨⟨hm,hL⟩,hR⟩:=hB;rw[g3q,g4e]at pG;simp only[c1P,g3q,g4e,beq_iff_eq]at hR;obtain⟨⟨⟨⟨⟨⟨⟨⟨⟨⟨mQ,r0⟩,r1⟩,r2⟩,r3⟩,r4⟩,r5⟩,r6⟩,r7⟩,r8⟩,r9⟩:=hR;have h4:ops.size-m=4:=by rw[mQ];exact Nat.add_sub_cancel_left ..
 refine b2m ss c rG T x0 hm hL h ?_;rintro s1 base R μ a w QQ ⟨xs,z0,c,gM,out,k0,k1,k2,k3,k4,k5,k6,k7,k8,k9,k10,k11⟩ hr hk;rw[h4];exact e3C (Q:=λs'=>Q .normal s') h0 h1 h2 h3 r0 r1 r2 r3 r4 r5 r6 r7 r8 r9 pG.1 hu pG.2 k0 k1 k2 k3 k4 k5 k6 k7 k8 k9 k10 k11 hr hk
theorem eW{id:Nat}(m:Nat){T:TypeId}{s y:Tmp}{fd:Nat}{y4:TypeId}{p4:String}{f4:Array Edge}(ss:List Nat)(c:Nat)(rG:List Nat)(O:Ord)(x0:Bool)(h0:ops[m]? =some ⟨some r,.call {callee:=.builtin .append,args:=#[.tmp s,.tmp z],argTypes:=#[t,t]},y0,p0,f0,none⟩)(h1:ops[m+1]? =some ⟨some p,.indexAddr t (.tmp r) (.tmp q),y1,p1,f1,none⟩)(h2:ops[m+2]? =some ⟨none,.store e (.tmp p) (.tmp x),y2,p2,f2,none⟩)(h3:ops[m+3]? =some ⟨some b,.fieldAddr T (.tmp y) fd,y3,p3,f3,none⟩)(h4:ops[m+4]? =some ⟨none,.store t (.tmp b) (.tmp r),y4,p4,f4,none⟩)(hB:(P.follows .mixedOrders&&c3F ops m ss c rG O&&decide (ops.size=m+5)&&b6v ops (sH m ops.size) m (m+1) (m+2) (m+3) (m+4))=true)(pG:(kF P e&&decide ((r≠q/\r≠x/\r≠p/\r≠b/\r≠y)/\(p≠x/\p≠b/\p≠y)/\b≠q/\b≠x))=true)(hu:P.underlying t=some (.slice e))(h:VK P G [.ops true ops (sel ops ss)] .normal st λ_ s1=>VK P G [.ops true ops (sel ops rG)] .normal s1 λ_ s1=>sI P G ops c (b7H (d2t P G t e T s z r p q x b y fd (λs'=>Q .normal s')) (xF Q)) x0 O s1):SW P G (.region id ops true) st Q:=by
 rw[g3q,g3q,g3q,g4e]at hB;obtain⟨⟨⟨hm,hL⟩,mQ⟩,hR⟩:=hB;rw[g3q,g4e]at pG;have h5:ops.size-m=5:=by rw[mQ];exact Nat.add_sub_cancel_left ..
 refine b2m ss c rG O x0 hm hL h ?_;rintro s1 base R μ a w QQ ⟨xs,z0,c,gM,kb0,zK,fo,u,out,k0,k1,k2,k3,k4,k5,k6,k7,k8,k9,k10,k11,k12,k13,k14⟩ hr hk;rw[h5];exact c6Y (Q:=λs'=>Q .normal s') h0 h1 h2 h3 h4 hR pG.1 hu pG.2 k0 k1 k2 k3 k4 k5 k6 k7 k8 k9 k10 k11 k12 k13 k14 hr hk
def d7P:List DV->List DV->Prop
 |[],[]=>True
 |d::ds,d'::ds'=>(d'=.undef\/b0E d d')/\d7P ds ds'
 |_,_=>False
def e3L:bG->bG->Prop
 |.cells cs,.cells xU=>d7P cs xU
 |o,o'=>o'=o
def d7Q(H:List (Nat×bG)):List (Nat×bG)->Prop
 |[]=>True
 |(k,o')::r=>(∃o,getKey k H=some o/\e3L o o')/\d7Q H r
theorem c1T:∀{cs xU:List DV},d7P cs xU->xU.length=cs.length/\∀(i:Nat)(d':DV),xU[i]? =some d'->∃d,cs[i]? =some d/\(d'=.undef\/b0E d d')
 |[],[],_=>⟨rfl,λi d' h=>by simp at h⟩
 |d::ds,d'::ds',h=>by
  obtain⟨h1,h2⟩:=c1T h.2;refine⟨by simp[h1],λi e he=>?_⟩;cases i with
  |zero=>simp at he;subst he;exact⟨d,rfl,h.1⟩
  |succ i=>simpa using h2 i e (by simpa using he)
theorem c1U{H:List (Nat×bG)}:∀{H1:List (Nat×bG)},d7Q H H1->∀k o',getKey k H1=some o'->∃o,getKey k H=some o/\e3L o o'
 |[],_,k,o',h=>by simp[getKey]at h
 |(k0,o0)::r,hw,k,o',h=>by
  unfold getKey at h;split at h
  .rename_i he;cases h;subst he;exact hw.1
  .exact c1U hw.2 k o' h
theorem e3M{x y:D}(h:WkD x y)(hx:x.one=true):y.one=true:=by cases h<;>first|exact hx|rfl|(simp[D.one]at hx|-)
variable{d:DV}
theorem d4i{d':DV}(h:b0E d d')(hc:d.cell=true):d'.cell=true:=by cases d<;>cases d'<;>simp only[b0E]at h<;>first|exact e3M h hc|(cases h;exact hc)|(cases h;done)|(simp[DV.cell]at hc)
theorem d7R{b:Nat}{o o':bG}(h:e3L o o')(hr:oC R μ w b o):oC R μ w b o':=by
 cases o with
 |cells cs=>
  cases o' with
  |cells xU=>
   obtain⟨q1,q2⟩:=c1T h;obtain⟨vs,T,h1,h2,h3,h4⟩:=hr;refine⟨vs,T,h1,by rw[h2,q1],λi d' hd'=>?_,λT' hm=>?_⟩
   .obtain⟨d,hd,hc⟩:=q2 i d' hd';obtain⟨p1,p2⟩:=h3 i d hd;rcases hc with rfl|hc
    .exact⟨rfl,.undef _⟩
    .exact⟨d4i hc p1,p2.wk hc⟩
   .obtain⟨i,hi⟩:=g3H hm;obtain⟨d,hd,hc⟩:=q2 i _ hi;rcases hc with hc|hc
    .cases hc
    .have:d=.a0W T':=by cases d<;>simp only[b0E]at hc<;>first|exact hc|cases hc
     subst this;exact h4 T' (g3v hd)
  |map es=>cases h
  |iter s p=>cases h
  |bld T u es=>cases h
 |map es=>cases o'<;>first|(cases h;exact hr)|cases h
 |iter s p=>cases o'<;>first|(cases h;exact hr)|cases h
 |bld T u es=>cases o'<;>first|(cases h;exact hr)|cases h
structure d7S (s s':St):Prop where
 tmps:WkT s.tmps s'.tmps
 H:d7Q s.H s'.H
 own:b1O s s.own s'.own=true
 keys:bK s'.H s'.own=true
theorem d4j(s s':St):d7S s s'↔WkT s.tmps s'.tmps/\d7Q s.H s'.H/\b1O s s.own s'.own=true/\bK s'.H s'.own=true:=⟨λh=>⟨h.tmps,h.H,h.own,h.keys⟩,λh=>⟨h.1,h.2.1,h.2.2.1,h.2.2.2⟩⟩
theorem Rel.e6M{st':St}(hr:Rel P G base R μ st a w)(h:d7S st st'):Rel P G base R μ st' a w:=by
 obtain⟨h1,h2⟩:=a1f h.tmps;have h3:=c1U h.H;refine⟨hr.defers,by rw[hr.size,h1],λi v d' hv hd'=>?_,λk o' hk=>?_,λk k' o o' hk hk' he=>?_,λc hc k off hl=>?_,?_,hr.wY,hr.sB,hr.base,hr.pass⟩
 .obtain⟨d,hd,hc⟩:=h2 i d' hd';have:=hr.tmps i v d hv hd;rcases hc with rfl|rfl|⟨rfl,rfl⟩
  .exact .undef _
  .exact this
  .obtain⟨ao,rfl⟩:=this.b1B.mW;exact .d _ _ (.emp _ _)
 .obtain⟨o,ho,hw⟩:=h3 k o' hk;obtain⟨q1,q2,q3⟩:=hr.mL k o ho;exact⟨q1,q2,d7R hw q3⟩
 .obtain⟨o1,ho1,_⟩:=h3 k o hk;obtain⟨o2,ho2,_⟩:=h3 k' o' hk';exact hr.inj k k' o1 o2 ho1 ho2 he
 .have:=g3t.1 h.keys c hc;have:=g3t.1 this _ hl;exact g3S.1 this
 .obtain⟨vs,tA⟩:=hr.own;obtain⟨vs',hv',_⟩:=a7t hr st'.own st.own vs ⟨tA.len,tA.one,tA.apart⟩ h.own;refine⟨vs',hv'.len,λi c v hc hv=>?_,hv'.apart⟩;have ho:=hv'.one i c v hc hv;exact⟨ho.eU,ho.own,λk o hk=>by obtain⟨o1,ho1,_⟩:=h3 k o hk;exact ho.keys k o1 ho1⟩
theorem a0A(a:List (List D))(x y:List D)(h:WkL x y):b7d (a++[x]) (a++[y]):=by
 refine⟨by simp,λi d d' h1 h2=>?_⟩;by_cases hi:i<a.length
 .rw[g3B hi]at h1 h2;rw[h1]at h2;cases h2;simp
 .rw[g3y (by omega)]at h1 h2;cases hk:i-a.length with
  |zero=>rw[hk]at h1 h2;simp at h1 h2;subst h1 h2;exact h
  |succ n=>rw[hk]at h1;simp at h1
def a4z(P:Program)(s:St)(rs:List ResultVar)(d:DV)(H1:List (Nat×bG))(own1:List (TypeId×List Loc)):Prop:=match a3O P s rs with
 |some r=>d7S (b4R s rs r) ⟨[r],H1,own1⟩/\b0E r d
 |none=>False
variable{H1:List (Nat×bG)}{own1:List (TypeId×List Loc)}
theorem Rel.e9H{r:DV}{v:Value}(jG:Rel P G base R μ ⟨[r],H1,own1⟩ {tmps:=#[v],defers:=[]} w)(hw:b0E r d):Rel P G base R μ ⟨[d],H1,own1⟩ {tmps:=#[v],defers:=[]} w:=
 ⟨jG.defers,jG.size,λi u d0 hu hd=>by
  cases i with
  |zero=>simp at hd;subst hd;exact(jG.tmps 0 u r hu rfl).wk hw
  |succ i=>simp at hd,jG.mL,jG.inj,jG.eU,by
  obtain⟨vs,h1,h2,h3⟩:=jG.own;exact⟨vs,h1,λi c v hc hv=>⟨(h2 i c v hc hv).eU,(h2 i c v hc hv).own,(h2 i c v hc hv).keys⟩,h3⟩,jG.wY,jG.sB,jG.base,jG.pass⟩
theorem CH.b3P{f:FuncId}{fn:Func}{c:Code}{n:Nat}{s0:St}(hf:P.funcs[f]? =some fn)(hb:fn.body=some c)(hn:fn.ntmps=n){rs:List ResultVar}(hrs:fn.results.toList=rs)(hT:(s0.own.all λc=>c.2.all λl=>match l with|.t i=>decide (i<s0.tmps.length)|_=>true)=true)(h:SW P G c ⟨s0.tmps++List.replicate (n-s0.tmps.length) (.cX []),s0.H,s0.own⟩ λe s=>(e=.normal\/e=.ret)/\a4z P s rs d H1 own1):CH P G f s0 ⟨[d],H1,own1⟩:=by
 subst hrs;intro base R μ args w hr;refine calls_of_wp hf hb ?_;have mQ:args.size=s0.tmps.length:=hr.size;have rT:Rel P G base R μ ⟨s0.tmps++List.replicate (n-s0.tmps.length) (.cX []),s0.H,s0.own⟩ {tmps:=args++Array.replicate (fn.ntmps-args.size) undef,defers:=[]} w:=by
  refine⟨rfl,by simp[mQ,hn],λi v d hiv hid=>?_,hr.mL,hr.inj,hr.eU,?_,hr.wY,hr.sB,hr.base,hr.pass⟩
  .simp only at hid;by_cases hi:i<s0.tmps.length
   .rw[g3B hi]at hid;rw[g3Y (by omega)]at hiv;exact hr.tmps i v d hiv hid
   .rw[g3y (by omega),g4i]at hid;split at hid<;>simp at hid;subst hid;rw[g4n (by omega),Array.getElem?_replicate]at hiv;split at hiv<;>simp at hiv;subst hiv;exact .cX #[] [] rfl (by simp)
  .obtain⟨vs,hl,h1,hap⟩:=hr.own;refine⟨vs,hl,λi c v hc hv=>?_,hap⟩;have ho:=h1 i c v hc hv;refine⟨λl hl u hu=>?_,ho.own,ho.keys⟩;cases l with
   |t j=>have hj:=g3t.1 (g3t.1 hT c (g3v hc)) _ hl;simp only[g4e]at hj;simp only[cY]at hu;rw[g3Y (by omega)]at hu;exact ho.eU _ hl u hu
   |c k off=>exact ho.eU _ hl u hu
 refine wp_mono (h base R μ _ w rT) λe a' w' ⟨s,R',μ',⟨he,a2a⟩,jG,hs⟩=>?_;unfold a4z at a2a;split at a2a
 .rename_i r mB;obtain⟨v,hv1,hv2⟩:=a2P jG mB;have a7w:a'.defers=[]/\∃v,(results fn a'.tmps).run P w'=.ok v w'/\∃v' R' μ',Ending.returned v=.returned v'/\Rel P G base R' μ' ⟨[d],H1,own1⟩ {tmps:=#[v'],defers:=[]} w'/\Step base R w R' w':=
   ⟨jG.defers,v,hv1,v,R',μ',rfl,((jG.ret hv1 hv2).e6M a2a.1).e9H a2a.2,hs⟩
  rcases he with rfl|rfl
  .exact a7w
  .exact a7w
 .exact a2a.elim
theorem CX.b3P{f:FuncId}{fn:Func}{c:Code}{n:Nat}{s0:St}{x:Ends}(hf:P.funcs[f]? =some fn)(hb:fn.body=some c)(hn:fn.ntmps=n){rs:List ResultVar}(hrs:fn.results.toList=rs)(hT:(s0.own.all λc=>c.2.all λl=>match l with|.t i=>decide (i<s0.tmps.length)|_=>true)=true)(h:∀Q:Exit->St->Prop,(∀d H1 own1 e s,x=.inl (d,H1,own1)->(e=.normal\/e=.ret)->a4z P s rs d H1 own1->Q e s)->(∀v s,x=.inr v->Q (.panic (a2d v)) s)->SW P G c ⟨s0.tmps++List.replicate (n-s0.tmps.length) (.cX []),s0.H,s0.own⟩ Q):CX P G f s0 x:=by
 match x,h with
 |.inl (d,H1,own1),h=>exact CH.b3P hf hb hn hrs hT (h _ (λd' H1' f3p e s he=>by cases he;exact λh1 h2=>⟨h1,h2⟩) (λv s he=>by cases he))
 |.inr v,h=>exact CPn.xA hf hb hn hT (h _ (λd' H1' f3p e s he=>by cases he) (λv' s he=>by cases he;rfl))
theorem c3G:b7H TT Q .normal s=TT s:=rfl
theorem c7g:b7H TT Q (.panic c) s=Q (.panic c) s:=rfl
def a6V(a b d:Nat):Ord:=
 .op a (.op b (.op d (.call [] .none) (.call [d] .none)) (.op d (.op b (.call [] .none) (.call [b] .none)) (.call [b,d] .none)))
  (.op d (.op a (.op b (.call [] .none) (.call [b] .none)) (.call [a,b] .none)) (.call [a,b,d] .none))
attribute [simp] c3E a7U a4z d4j d7Q e3L d7P c3G c7g a6V
end
end Go.VM
section
namespace Go.Proofs.YtmfbjecjccipfaaGreatDoor
open Go Go.VM
variable {G:GT}
def smI(c:Int):Bool:=decide (97<=c)&&decide (c<=122)
def caI(c:Int):Bool:=decide (65<=c)&&decide (c<=90)
def dgI(c:Int):Bool:=decide (48<=c)&&decide (c<=57)
def inI(c:Int):Bool:=smI c||caI c||dgI c||decide (c=95)
theorem b2o(c:Int):CS prog G 137 [.int .i32 c] (.d (.bool (smI c))) none:=by refine CS.aY func137 rfl ntmps137 rfl ?_;by_cases h:97<=c<;>simp[h,smI]
theorem a7V(c:Int):CS prog G 140 [.int .i32 c] (.d (.bool (caI c))) none:=by refine CS.aY func140 rfl ntmps140 rfl ?_;by_cases h:65<=c<;>simp[h,caI]
theorem a5P(c:Int):CS prog G 141 [.int .i32 c] (.d (.bool (dgI c))) none:=by refine CS.aY func141 rfl ntmps141 rfl ?_;by_cases h:48<=c<;>simp[h,dgI]
theorem c3H(c:Int):CS prog G 139 [.int .i32 c] (.d (.bool (inI c))) none:=by
 refine CS.aY func139 rfl ntmps139 rfl ?_;simp;refine aC.mk (.mk func137 rfl) (b2o c) ?_;by_cases h1:smI c=true
 .simp[h1,inI]
 .simp[h1];refine aC.mk (.mk func140 rfl) (a7V c) ?_;by_cases h2:caI c=true
  .simp[h2,inI]
  .simp[h2];refine aC.mk (.mk func141 rfl) (a5P c) ?_;by_cases h3:dgI c=true
   .simp[h3,inI]
   .simp[h1,h2,h3,inI]
end Go.Proofs.YtmfbjecjccipfaaGreatDoor
end
section
namespace Go.Proofs.YtmfbjecjccipfaaGreatDoor
open Go Go.VM Go.RowKit
variable {G:GT}
theorem e6P{args:Array Value}(h:args.size=2):args=#[args.getD 0 undef,args.getD 1 undef]:=by
 obtain⟨l⟩:=args
 match l,h with
 |[a,b],_=>rfl
theorem c7h(s:List UInt8)(c:UInt8)(hc:c.toNat<128:=by decide):CS prog G 169 [.str s,.str [c]] (.d (.str (Lib.trimLeftB s c))) none:=
 CS.d2k λw R args hg hR hs hv=>by rw[e6P hs,(hv 0 _ rfl).vR,(hv 1 _ rfl).vR];exact(strings_TrimLeft_one ⟨s.toArray⟩ c hc w).mono λe w' ⟨he,hw⟩=>⟨_,he,.str _,hw▸Below.refl _ _⟩
theorem c3J(s p:List UInt8):CS prog G 143 [.str s,.str p] (.d (.bool (p.isPrefixOf s))) none:=
 CS.d2k λw R args hg hR hs hv=>by rw[e6P hs,(hv 0 _ rfl).vR,(hv 1 _ rfl).vR];exact(strings_HasPrefix ⟨s.toArray⟩ ⟨p.toArray⟩ w).mono λe w' ⟨he,hw⟩=>⟨_,he,.bool _,hw▸Below.refl _ _⟩
def kN(s:List UInt8):Int×Bool:=if jX s<=1000000000000 then((jX s:Int),true) else(0,false)
theorem e3N(l:List UInt8):∀a,a*10 ^ l.length<=c0n a l:=by
 induction l with
 |nil=>intro a;simp[c0n]
 |cons c r ih=>
  intro a;have h:=ih (10*a+(c.toNat-48));have e:c0n a (c::r)=c0n (10*a+(c.toNat-48)) r:=rfl;rw[e];refine Nat.le_trans ?_ h;rw[List.length_cons,Nat.pow_succ];have:a*(10 ^ r.length*10)=(10*a)*10 ^ r.length:=by rw[Nat.mul_comm (10 ^ r.length) 10, <- Nat.mul_assoc,Nat.mul_comm a 10]
  rw[this];exact g4k _ (by omega)
theorem c1V(s:List UInt8):jX (Lib.trimLeftB s 48)=jX s:=by
 unfold Lib.trimLeftB
 induction s with
 |nil=>rfl
 |cons c r ih=>
  by_cases h:c=48
  .subst h;have e:jX (48::r)=jX r:=rfl;rw[e, <- ih];simp
  .have:(c==48)=false:=by simpa using h
   rw[List.dropWhile_cons,this]
   rfl
variable{s:List UInt8}
theorem d4k(h:Lib.trimLeftB s 48≠[]):∃c r,Lib.trimLeftB s 48=c::r/\c≠48:=by
 unfold Lib.trimLeftB at h|-
 induction s with
 |nil=>exact absurd rfl h
 |cons c r ih=>
  by_cases hc:c=48
  .subst hc;simp only[List.dropWhile_cons,beq_self_eq_true,if_true]at h|-;exact ih h
  .have:(c==48)=false:=by simpa using hc
   rw[List.dropWhile_cons,this];exact⟨c,r,rfl,hc⟩
theorem d7U:∀c∈Lib.trimLeftB s 48,c∈s:=λc hc=>(List.dropWhile_sublist _).subset hc
theorem c3K(hs:∀c∈s,zL c=true)(gJ:Lib.trimLeftB s 48≠[]):tF (Lib.trimLeftB s 48)=kN s:=by
 obtain⟨c,r,he,hc⟩:=d4k gJ;have eQ:∀x∈c::r,zL x=true:=λx hx=>hs x (d7U x (he▸hx));have hv:jX s=jX (c::r):=by rw[<-he,c1V]
 rw[he];have hcd:=xB.1 (eQ c (.head _));have hn:b3J (c::r)=false:=by
  have:c≠45:=by rintro rfl;revert hcd;decide
  simp[b3J,this]
 have hb:sU (c::r)=c::r:=by simp[sU,hn]
 have cM:10 ^ r.length<=jX (c::r):=by
  have h1:1<=c.toNat-48:=by have:c.toNat≠48:=λe=>hc (UInt8.toNat.inj (by simpa using e));omega
  have e:jX (c::r)=c0n (10*0+(c.toNat-48)) r:=rfl;rw[e];refine Nat.le_trans ?_ (e3N r _)
  calc 10 ^ r.length=1*10 ^ r.length:=by rw[Nat.one_mul]
   _<=_:=g4k _ (by omega)
 have a3Q:tO (c::r)=decide (r.length<=12):=by simp only[tO,hb,hn];by_cases h:r.length<=12<;>simp[h,hc]<;>omega
 have hd:(c::r).all zL=true:=g3t.2 eQ;unfold tF kN;rw[a3Q,hb,hd,hn,hv];by_cases h:r.length<=12
 .have hup:=a5I _ _ rfl eQ;simp[h,sgn,chk];have hi:inB ((jX (c::r):Nat):Int)=decide (jX (c::r)<=1000000000000):=by unfold inB;by_cases h2:jX (c::r)<=1000000000000<;>simp[h2]<;>omega
  rw[hi];by_cases h2:jX (c::r)<=1000000000000<;>simp[h2]
 .have:10 ^ 13<=jX (c::r):=Nat.le_trans (Nat.pow_le_pow_right (by omega) (by omega)) cM;have h2:¬jX (c::r)<=1000000000000:=by omega
  simp[h,h2]
theorem c0t(s:List UInt8)(hs:∀c∈s,zL c=true):CS prog G 142 [.str s] (.cX [.int .i64 (kN s).1,.bool (kN s).2]) none:=by
 refine CS.aY func142 rfl ntmps142 rfl ?_;simp;refine aC.mk (.mk func169 rfl) (c7h s 48) ?_;by_cases h:Lib.trimLeftB s 48=[]
 .have hv:jX s=0:=by rw[<-c1V,h];rfl
  simp[h,kN,hv]
 .have he:(Lib.trimLeftB s 48).isEmpty=false:=by simpa using h
  simp[he];refine aC.mk (.mk func170 rfl) (d0k (Lib.trimLeftB s 48)) ?_;simp[c3K hs h]
end Go.Proofs.YtmfbjecjccipfaaGreatDoor
end
section
namespace Go.Proofs.YtmfbjecjccipfaaGreatDoor
open Go Go.VM
variable {G:GT}
variable{s:List UInt8}{p:UInt8->Bool}
theorem vJ{i:Nat}(h:i<s.length)(ht:∀b∈s.take i,p b=true)(hn:p s[i]=false:=by simpa using yL):(s.takeWhile p).length=i:=by
 have e:s=s.take i++s[i]::s.drop (i+1):=by rw[<-g3D h,g4d]
 generalize hx:s[i]=x at e hn;rw[e,List.takeWhile_append_of_pos ht,List.takeWhile_cons,hn];simp;omega
theorem tX(ht:∀b∈s,p b=true):s.takeWhile p=s:=by have:=List.takeWhile_append_of_pos (l₂:=[]) ht;simpa using this
theorem b5i(F:FuncId)(p:Int->Bool)(pb:UInt8->Bool)(hF:VM.Enters prog F)(sS:∀c,CS prog G F [.int .i32 c] (.d (.bool (p c))) none)(qZ:∀b:UInt8,p b.toNat=pb b)(hhi:∀c,128<=c->p c=false)(s:List UInt8):
  CH prog G 138 ⟨[.d (.str s),.fn F],[],[]⟩ ⟨[.d (.int .i64 (s.takeWhile pb).length)],[],[]⟩:=by
 refine CH.aY func138 rfl ntmps138 rfl (by simp) ?_;simp;refine SW.eA (ι:={i:Nat//i<=s.length/\∀b∈s.take i,pb b=true}) (λ_=>[]) (λi=>[(8,.iter s i.1)]) (λ_=>[]) (λi=>s.length-i.1) ⟨0,by simp⟩ (by simp) ?_;rintro⟨i,hi,ht⟩
 try simp only at hi ht
 by_cases aG:i<s.length
 .simp[aG];refine aC.mk hF (sS _) ?_;by_cases hb:s[i].toNat<128
  .have hd:=d7v aG hb;have hpl:=qZ s[i];by_cases hpb:pb s[i]=true
   .rw[hpb]at hpl;simp[hd,hpl];refine bE.mk ⟨i+1,aG,λb hm=>?_⟩ (by simp) (by simp;omega);rw[g3F aG]at hm;rcases g3Q.1 hm with hm|hm
    .exact ht b hm
    .simp at hm;rw[hm];exact hpb
   .have hpf:pb s[i]=false:=by simpa using hpb
    rw[hpf]at hpl;simp[hd,hpl,vJ aG ht hpf]
  .obtain⟨h1,_⟩:=d7w aG;have hpf:pb s[i]=false:=by rw[<-qZ];exact hhi _ (by omega)
   have hpl:=hhi ((Utf8.decode ⟨s.toArray⟩ i).1:Int) (by omega);simp[hpl,vJ aG ht hpf]
 .have:i=s.length:=by omega
  subst this;rw[g4j]at ht;simp[tX ht]
def oY:List UInt8->Nat->Bool->List UInt8×Nat
 |[],n,_=>([],n)
 |c::r,n,cm=>if c=10 then oY r (n+1) false else if cm=true\/c=32\/c=9 then oY r n cm else if c=35 then oY r n true else(c::r,n)
theorem b2p:∀(s:List UInt8)(n:Nat)(cm:Bool),(oY s n cm).2<=n+s.length/\(oY s n cm).1.length<=s.length
 |[],n,cm=>by simp[oY]
 |c::r,n,cm=>by
  unfold oY;split
  .have:=b2p r (n+1) false;simp only[List.length_cons];omega
  .split
   .have:=b2p r n cm;simp only[List.length_cons];omega
   .split
    .have:=b2p r n true;simp only[List.length_cons];omega
    .simp only[List.length_cons];omega
theorem c7i(s:List UInt8)(n:Nat):∀(k i:Nat),(∀j,i<=j->j<i+k->∃h:j<s.length,128<=s[j].toNat)->oY (s.drop i) n true=oY (s.drop (i+k)) n true
 |0,i,_=>rfl
 |k+1,i,h=>by
  obtain⟨hi,hb⟩:=h i (by omega) (by omega);have ih:=c7i s n k (i+1) λj h1 h2=>h j (by omega) (by omega);have h10:s[i]≠10:=λe=>by rw[e]at hb;simp at hb
  rw[g3D hi,oY,if_neg h10,if_pos (.inl rfl),ih];congr 2;omega
theorem a7W(c:UInt8)(k:Nat)(hk:k<256:=by omega):((c.toNat:Int)=(k:Int))↔c=UInt8.ofNat k:=by
 constructor
 .intro h;apply UInt8.toNat.inj;simp;omega
 .rintro rfl;simp;omega
theorem c7j(s:List UInt8)(hl:s.length<=900000000:=by omega):CS prog G 88 [.str s] (.cX [.str (oY s 0 false).1,.int .i64 (oY s 0 false).2]) none:=by
 obtain⟨res,e6Q⟩:∃x,oY s 0 false=x:=⟨_,rfl⟩;rw[e6Q];refine CS.aY func88 rfl ntmps88 rfl ?_;simp;refine SW.eA (ι:={x:Nat×Nat×Bool//x.1<=s.length/\x.2.1<=x.1/\oY (s.drop x.1) x.2.1 x.2.2=res}) (λx=>[(4,.d (.int .i64 x.1.2.1)),(5,.d (.bool x.1.2.2))]) (λx=>[(9,.iter s x.1.1)]) (λ_=>[]) (λx=>s.length-x.1.1) ⟨(0,0,false),by simp[e6Q]⟩ (by simp) ?_;rintro⟨⟨i,n,cm⟩,hi,hn,hR⟩
 try simp only at hi hn hR
 by_cases aG:i<s.length
 .have hw:=aX (show n<9223372036854775807 by omega);have hle:=Nat.le_of_lt aG;have a5g:s.drop i=s[i]::s.drop (i+1):=g3D aG;by_cases hb:s[i].toNat<128
  .have hd:=d7v aG hb;have c10:=a7W s[i] 10;have c32:=a7W s[i] 32;have c9:=a7W s[i] 9;have c35:=a7W s[i] 35;simp at c10 c32 c9 c35;by_cases h10:s[i]=10
   .have e:=c10.2 h10;simp[aG,hd,e];refine bE.mk ⟨(i+1,n+1,false),aG,by simp;omega,?_⟩ (by simp[hw]) (by simp;omega);rw[<-hR,a5g,oY,if_pos h10]
   .have e:¬s[i].toNat=10:=λh=>h10 (c10.1 h);simp[aG,hd,e];cases cm with
    |true=>
     try simp
     refine bE.mk ⟨(i+1,n,true),aG,by simp;omega,?_⟩ (by simp) (by simp;omega);rw[<-hR,a5g,oY,if_neg h10,if_pos (.inl rfl)]
    |false=>
     try simp
     by_cases h32:s[i]=32
     .have e2:=c32.2 h32;simp[e2];refine bE.mk ⟨(i+1,n,false),aG,by simp;omega,?_⟩ (by simp) (by simp;omega);rw[<-hR,a5g,oY,if_neg h10,if_pos (.inr (.inl h32))]
     .have e2:¬s[i].toNat=32:=λh=>h32 (c32.1 h);simp[e2];by_cases h9:s[i]=9
      .have e3:=c9.2 h9;simp[e3];refine bE.mk ⟨(i+1,n,false),aG,by simp;omega,?_⟩ (by simp) (by simp;omega);rw[<-hR,a5g,oY,if_neg h10,if_pos (.inr (.inr h9))]
      .have e3:¬s[i].toNat=9:=λh=>h9 (c9.1 h);simp[e3];by_cases h35:s[i]=35
       .have e4:=c35.2 h35;simp[e4];refine bE.mk ⟨(i+1,n,true),aG,by simp;omega,?_⟩ (by simp) (by simp;omega);rw[<-hR,a5g,oY,if_neg h10,if_neg (by simp[h32,h9]),if_pos h35]
       .have e4:¬s[i].toNat=35:=λh=>h35 (c35.1 h);have mB:res=(s.drop i,n):=by rw[<-hR,a5g,oY,if_neg h10,if_neg (by simp[h32,h9]),if_neg h35]
        simp[e4,mB,hle]
  .obtain⟨h1,h2,h3,h4⟩:=d7w aG;obtain⟨rw,hrw⟩:∃rw,Utf8.decode ⟨s.toArray⟩ i=rw:=⟨_,rfl⟩;rw[hrw]at h1 h2 h3 h4;have e10:¬((rw.1:Int)=10):=by omega
   have e32:¬((rw.1:Int)=32):=by omega
   have e9:¬((rw.1:Int)=9):=by omega
   have e35:¬((rw.1:Int)=35):=by omega
   have hbb:∀k,k<128->s[i]≠UInt8.ofNat k:=λk hk e=>by rw[e]at hb;simp at hb;omega
   have b10:s[i]≠10:=hbb 10 (by omega);have b32:s[i]≠32:=hbb 32 (by omega);have b9:s[i]≠9:=hbb 9 (by omega);have b35:s[i]≠35:=hbb 35 (by omega);simp[aG,hrw,e10];cases cm with
   |true=>simp;refine bE.mk ⟨(i+rw.2,n,true),h3,by simp;omega,?_⟩ (by simp) (by simp;omega);rw[<-hR,c7i s n rw.2 i h4]
   |false=>
    have mB:res=(s.drop i,n):=by rw[<-hR,a5g,oY,if_neg b10,if_neg (by simp[b32,b9]),if_neg b35]
    simp[e32,e9,e35,mB,hle]
 .have:i=s.length:=by omega
  subst this;rw[List.drop_length]at hR;have mB:res=([],n):=by rw[<-hR,oY]
  simp[mB]
end Go.Proofs.YtmfbjecjccipfaaGreatDoor
end
section
namespace Go.Proofs.YtmfbjecjccipfaaGreatDoor
open Go Go.VM
variable {G:GT}
def a0U:List D:=[.sl (dD.map λt=>[D.str t])]
theorem d7W(b:UInt8):smI b.toNat=smU b:=by rw[Bool.eq_iff_iff];simp only[smI,smU,g3q,g4e];omega
theorem d7X(b:UInt8):caI b.toNat=caU b:=by rw[Bool.eq_iff_iff];simp only[caI,caU,g3q,g4e];omega
theorem d2w(b:UInt8):dgI b.toNat=dgU b:=by rw[Bool.eq_iff_iff];simp only[dgI,dgU,g3q,g4e];omega
theorem f3q(b:UInt8):inI b.toNat=inU b:=by unfold inI inU;rw[d7W,d7X,d2w];congr 1;simp only[decide_eq_decide];omega
variable{c:Int}
theorem f3r(h:128<=c):inI c=false:=by simp only[inI,smI,caI,dgI,Bool.or_eq_false_iff,Bool.and_eq_false_iff,decide_eq_false_iff_not];omega
theorem f3s(h:128<=c):dgI c=false:=by simp only[dgI,Bool.and_eq_false_iff,decide_eq_false_iff_not];omega
theorem b2q(p:UInt8->Bool)(s:List UInt8):s.take (s.takeWhile p).length=s.takeWhile p:=by have h:=List.takeWhile_prefix (l:=s) p;exact(List.prefix_iff_eq_take.1 h).symm
theorem d7Y(p:UInt8->Bool)(s:List UInt8):(s.takeWhile p).length<=s.length:=(List.takeWhile_prefix (l:=s) p).length_le
theorem w32(c:UInt8):IntKind.i32.wrap (c.toNat:Int)=c.toNat:=by have:=c.toNat_lt;unfold IntKind.wrap;simp[IntKind.bits,IntKind.signed];omega
theorem c3M(c:UInt8):dgU c=zL c:=by rw[Bool.eq_iff_iff];simp only[dgU,zL,g3q,g4e]
theorem d0x{p:UInt8->Bool}:∀{s:List UInt8}{b:UInt8},b∈s.takeWhile p->p b=true
 |[],b,h=>by simp at h
 |c::r,b,h=>by
  rw[List.takeWhile_cons]at h;split at h
  .rename_i hc;rcases g3N.1 h with rfl|h
   .exact hc
   .exact d0x h
  .cases h
def a7X(s:List UInt8):List D:=[.int .i64 (firstT kN s).1,.str (firstT kN s).2.1,.int .i64 (firstT kN s).2.2.1,.int .i64 0]
theorem d2x(s:List UInt8):CH prog G 138 ⟨[.d (.str s),.fn 139],[],[]⟩ ⟨[.d (.int .i64 (s.takeWhile inU).length)],[],[]⟩:=b5i 139 inI inU (.mk func139 rfl) c3H f3q (λ_=>f3r) s
theorem e3Q(s:List UInt8):CH prog G 138 ⟨[.d (.str s),.fn 141],[],[]⟩ ⟨[.d (.int .i64 (s.takeWhile dgU).length)],[],[]⟩:=b5i 141 dgI dgU (.mk func141 rfl) a5P d2w (λ_=>f3s) s
variable{s:List UInt8}
theorem d2y{i:Nat}(h:i<dD.length)(hn:∀t∈dD.take i,t.isPrefixOf s=false)(hp:dD[i].isPrefixOf s=true):vG s=dD[i]:=by
 have e:dD=dD.take i++dD[i]::dD.drop (i+1):=by rw[<-g3D h,g4d]
 generalize dD[i]=x at e hp|-;unfold vG;rw[e,List.find?_append];have h0:(dD.take i).find? (λt=>t.isPrefixOf s)=none:=List.find?_eq_none.2 λt ht=>by rw[hn t ht];simp
 rw[h0];simp[List.find?_cons,hp]
theorem c1W(hn:∀t∈dD,t.isPrefixOf s=false):vG s=[]:=by
 unfold vG;rw[List.find?_eq_none.2 λt ht=>by rw[hn t ht];simp]
 rfl
theorem e3R:∀t∈dD,t≠[]:=by decide
theorem c3N(hS:G 0=some a0U)(c:UInt8)(r:List UInt8)(hl:(c::r).length<=900000000:=by omega):CS prog G 89 [.str (c::r)] (.cX [.agg (a7X (c::r)),.bool (firstT kN (c::r)).2.2.2]) none:=by
 obtain⟨s,hs⟩:∃s,c::r=s:=⟨_,rfl⟩;have h0:0<s.length:=by rw[<-hs];simp
 have hc0:s[0]=c:=by subst hs;rfl
 have hf:firstT kN s=if smU c then(1,s.takeWhile inU,0,true) else if caU c then(2,s.takeWhile inU,0,true)
  else if dgU c then(3,s.takeWhile dgU,(kN (s.takeWhile dgU)).1,(kN (s.takeWhile dgU)).2)
  else if vG s=[] then(0,[],0,false) else(4,vG s,0,true):=by subst hs;rfl
 rw[hs]at hl|-
 clear hs
 have hw:=w32 c;have l1:=d7Y inU s;have l2:=d7Y dgU s;have t1:=b2q inU s;have t2:=b2q dgU s;refine CS.aY func89 rfl ntmps89 rfl ?_;simp[h0,hc0,hw];refine aC.mk (.mk func137 rfl) (b2o (c.toNat:Int)) ?_;rw[d7W];by_cases h1:smU c=true
 .simp[h1];refine jH.ro (.mk func138 rfl) (d2x s) [] (by simp) (by simp) (by simp) (by simp) (by simp) ?_;simp[l1,t1,a7X,hf,h1]
 simp[h1];refine aC.mk (.mk func140 rfl) (a7V (c.toNat:Int)) ?_;rw[d7X];by_cases h2:caU c=true
 .simp[h2];refine jH.ro (.mk func138 rfl) (d2x s) [] (by simp) (by simp) (by simp) (by simp) (by simp) ?_;simp[l1,t1,a7X,hf,h1,h2]
 simp[h2];refine aC.mk (.mk func141 rfl) (a5P (c.toNat:Int)) ?_;rw[d2w];by_cases h3:dgU c=true
 .simp[h3];refine jH.ro (.mk func138 rfl) (e3Q s) [] (by simp) (by simp) (by simp) (by simp) (by simp) ?_;simp[l2,t2];refine aC.mk (.mk func142 rfl) (c0t (s.takeWhile dgU) (λb hb=>by rw[<-c3M];exact d0x hb)) ?_;simp[a7X,hf,h1,h2,h3]
 simp[h3,hS,a0U];have hlen:(dD.map λt=>[D.str t]).length=dD.length:=by simp
 refine SW.eA (ι:={i:Nat//i<=dD.length/\∀t∈dD.take i,t.isPrefixOf s=false}) (λi=>[(47,.d (.int .i64 i.1))]) (λ_=>[(2,.cells [.d (.int .i64 0),.d (.str []),.d (.int .i64 0),.d (.int .i64 0)])]) (λ_=>[]) (λi=>dD.length-i.1) ⟨0,by simp⟩ (by simp) ?_;rintro⟨i,hi,hn⟩
 try simp only at hi hn
 by_cases aG:i<dD.length
 .have hsl:dD.length=31:=rfl;have hw2:=aX (show i<9223372036854775807 by omega);have hg:(dD.map λt=>[D.str t])[i]? =some [.str dD[i]]:=by simp[aG]
  simp[aG,hg];refine aC.mk (.mk func143 rfl) (c3J s dD[i]) ?_;by_cases hp:dD[i].isPrefixOf s=true
  .have hsg:=d2y aG hn hp;have gJ:=e3R _ (g3P aG);simp[hp,a7X,hf,h1,h2,h3,hsg,gJ]
  .have hp':dD[i].isPrefixOf s=false:=Bool.eq_false_iff.2 hp;simp[hp'];refine bE.mk ⟨i+1,aG,λt ht=>?_⟩ (by simp[hw2]) (by simp;omega);rw[g3F aG]at ht;rcases g3Q.1 ht with ht|ht
   .exact hn t ht
   .simp at ht;rw[ht];exact hp'
 .have:i=dD.length:=by omega
  subst this;rw[g4j]at hn;have hsg:=c1W hn;simp[a7X,hf,h1,h2,h3,hsg]
end Go.Proofs.YtmfbjecjccipfaaGreatDoor
end
section
namespace Go.Proofs.YtmfbjecjccipfaaGreatDoor
open Go Go.VM
variable {G:GT}
def bL(t:Tok):List D:=[.int .i64 t.kind,.str t.text,.int .i64 t.n,.int .i64 t.line]
def b5V(l:List Tok):List (List D):=l.map bL
@[simp] theorem f3t(l:List Tok):(b5V l).length=l.length:=by simp[b5V]
@[simp] theorem f3u:b5V []=[]:=rfl
@[simp] theorem f3v(l:List Tok):((b5V l).all λc=>c.length==4)=true:=by simp[b5V,bL]
theorem a8W(l:List Tok)(t:Tok):b5V (l++[t])=b5V l++[[.int .i64 t.kind,.str t.text,.int .i64 t.n,.int .i64 t.line]]:=by simp[b5V,bL]
theorem a8X:∀(s:List UInt8)(n:Nat)(cm:Bool)(ln:Int),oV kN s 0 (ln+n) cm=oV kN (oY s n cm).1 0 (ln+(oY s n cm).2) false
 |[],n,cm,ln=>by simp[oY,oV]
 |c::r,n,cm,ln=>by
  unfold oY;split
  .rename_i h;rw[<-a8X r (n+1) false ln,oV,if_pos h];congr 1;omega
  .rename_i h;split
   .rename_i h2;rw[<-a8X r n cm ln]
    conv=>lhs;rw[oV]
    rw[if_neg h,if_pos h2]
   .rename_i h2;split
    .rename_i h3;rw[<-a8X r n true ln]
     conv=>lhs;rw[oV]
     rw[if_neg h,if_neg h2,if_pos h3]
    .simp only[not_or,Bool.not_eq_true]at h2;rw[h2.1]
theorem a8Y:∀(s:List UInt8)(n:Nat)(cm:Bool),(oY s n cm).2+(oY s n cm).1.length<=n+s.length
 |[],n,cm=>by simp[oY]
 |c::r,n,cm=>by
  unfold oY;split
  .have:=a8Y r (n+1) false;simp only[List.length_cons];omega
  .split
   .have:=a8Y r n cm;simp only[List.length_cons];omega
   .split
    .have:=a8Y r n true;simp only[List.length_cons];omega
    .simp only[List.length_cons];omega
theorem a8Z:∀(s:List UInt8)(n:Nat)(cm:Bool)(c:UInt8)(r:List UInt8),(oY s n cm).1=c::r->c≠10/\c≠32/\c≠9/\c≠35
 |[],n,cm,c,r,h=>by simp[oY]at h
 |a::s,n,cm,c,r,h=>by
  unfold oY at h;split at h
  .exact a8Z s _ _ c r h
  .rename_i h1;split at h
   .exact a8Z s _ _ c r h
   .rename_i h2;split at h
    .exact a8Z s _ _ c r h
    .rename_i h3;simp only[not_or]at h2;cases h;exact⟨h1,h2.2.1,h2.2.2,h3⟩
def c7k(out:List Tok):Except Int (List Tok)->Except Int (List Tok)
 |.ok l=>.ok (out++l)
 |.error e=>.error e
def c7l:Except Int (List Tok)->D
 |.ok l=>.sl (b5V l)
 |.error _=>.aE
def c7m:Except Int (List Tok)->Int
 |.ok _=>0
 |.error e=>e
def c7n:Except Int (List Tok)->Int
 |.ok _=>0
 |.error _=>14
theorem zR:VM.Enters prog 44:=.mk func44 rfl
theorem c0v(hS:G 0=some a0U)(s:List UInt8)(hl:s.length<=900000000):CS prog G 44 [.str s] (.cX (if 40000<s.length then [.aE,.int .i64 0,.int .i64 7] else
  [c7l (oV kN s 0 1 false),.int .i64 (c7m (oV kN s 0 1 false)),.int .i64 (c7n (oV kN s 0 1 false))])) none:=by
 obtain⟨res,mB⟩:∃x,oV kN s 0 1 false=x:=⟨_,rfl⟩;rw[mB];refine CS.aY func44 rfl ntmps44 rfl ?_;by_cases b5j:40000<s.length
 .have h2:(40000:Int)<s.length:=by omega
  simp[b5j,h2]
 have h2:¬(40000:Int)<s.length:=by omega
 simp[b5j,h2];refine SW.eA (ι:={x:List UInt8×List Tok×Int//x.1.length<=s.length/\1<=x.2.2/\x.2.2+x.1.length<=s.length+1/\x.2.1.length+x.1.length<=s.length/\c7k x.2.1 (oV kN x.1 0 x.2.2 false)=res}) (λx=>[(0,.d (.str x.1.1)),(5,.d (.sl (b5V x.1.2.1))),(6,.d (.int .i64 x.1.2.2))]) (λ_=>[]) (λ_=>[(79,[.t 5])]) (λx=>x.1.1.length) ⟨(s,[],1),by refine⟨g3G _,by simp,by simp;omega,by simp,?_⟩;simp only;rw[mB];cases res<;>rfl⟩ (by simp) ?_;rintro⟨⟨t,out,ln⟩,ht,hln,hb,ho,hR⟩
 try simp only at ht hln hb ho hR
 obtain⟨q1,q2⟩:=b2p t 0 false;have q3:=a8Y t 0 false;have hsk:=a8X t 0 false ln;have hhd:=a8Z t 0 false;simp;refine aC.mk (.mk func88 rfl) (c7j t) ?_;obtain⟨⟨rest,n⟩,hrn⟩:∃x,oY t 0 false=x:=⟨_,rfl⟩;rw[hrn]at hsk hhd q1 q2 q3;simp only[Int.natCast_zero,Int.add_zero]at hsk;simp only at hsk hhd q1 q2 q3;rw[hsk]at hR;have hw:IntKind.i64.wrap (ln+n)=ln+n:=wrap64 (by omega);have mQ:(out.length+1)*41<=140737488355328:=by omega
 simp[hrn,hw];cases rest with
 |nil=>
  have e:res=.ok (out++[⟨0,[],0,ln+n⟩]):=by rw[<-hR];rfl
  simp[e,c7l,c7m,c7n,a8W,mQ]
 |cons c r=>
  obtain⟨g1,g2,g3,g4⟩:=hhd c r rfl;rw[b7v (ln+n) g1 g2 g3 g4]at hR;simp;refine aC.mk (.mk func89 rfl) (c3N hS c r) ?_;obtain⟨ff,hff⟩:∃ff,firstT kN (c::r)=ff:=⟨_,rfl⟩;have pG:= @b1W kN (c::r);rw[hff]at hR pG;obtain⟨k,tx,m,ok⟩:=ff;simp only at hR pG;cases ok with
  |false=>
   have e:res=.error (ln+n):=by rw[<-hR];rfl
   simp[hff,a7X,e,c7l,c7m,c7n]
  |true=>
   obtain⟨p1,p2,_⟩:=pG rfl;have hle:=p2.length_le;have a2I:0<tx.length:=g3U.2 p1;simp only[List.length_cons]at hle q2 q3;simp[hff,a7X,mQ,hle];have hR2:c7k (out++[⟨k,tx,m,ln+n⟩]) (oV kN ((c::r).drop tx.length) 0 (ln+n) false)=res:=by
    rw[<-hR,if_pos rfl];generalize oV kN ((c::r).drop tx.length) 0 (ln+n) false=y;cases y with
    |ok l=>simp[c7k]
    |error e=>rfl
   have hdl:((c::r).drop tx.length).length=r.length+1-tx.length:=by simp
   refine bE.mk ⟨((c::r).drop tx.length,out++[⟨k,tx,m,ln+n⟩],ln+n),?_⟩ (by simp[a8W]) (by simp only[hdl];omega);refine⟨by simp only[hdl];omega,by simp only;omega,by simp only[hdl];omega,by simp only[hdl,g4b,List.length_cons,List.length_nil];omega,hR2⟩
end Go.Proofs.YtmfbjecjccipfaaGreatDoor
end
end
namespace Go.Proofs.YtmfbjecjccipfaaGreatDoor
section
open Go Go.VM
variable {G:GT}
abbrev rdO(l:List Tok)(i:Nat):bG:=.cells [.d (.sl (l.map bL)),.d (.int .i64 i)]
abbrev rH(l:List Tok)(i:Nat):List (Nat×bG):=[(100000,rdO l i)]
abbrev rP(n e:Int):Value:=.iface 115 (.agg #[.int .i64 n,.int .i64 e])
def kZ{α:Type}:gO α->Bool
 |.ok _ _=>true
 |.bad _ _=>false
def rdE{α:Type}(l:List Tok)(enc:α->DV)(Y:α->List (Nat×bG))(own:List (TypeId×List VM.Loc)):gO α->VM.Ends
 |.ok a j=>.inl (enc a,rH l j++Y a,own)
 |.bad n e=>.inr (rP n e)
theorem gT{i n:Nat}(h:i<n):i<=i/\i<n:=⟨g3G _,h⟩
theorem c7o{α:Type}{l:List Tok}{enc:α->DV}{Y:α->List (Nat×bG)}{own:List (TypeId×List VM.Loc)}(r:gO α):(rdE l enc Y own r).isLeft=kZ r:=by cases r<;>rfl
def qA(G:GT){α:Type}(f:FuncId)(av:List DV)(X:List (Nat×bG))(own:List (TypeId×List VM.Loc))(l:List Tok)(i:Nat)(r:gO α)(enc:α->DV)(Y:α->List (Nat×bG)):Prop:=CX prog G f ⟨av,rH l i++X,own⟩ (rdE l enc Y own r)
abbrev tR(G:GT){α:Type}(f:FuncId)(ds:List D)(l:List Tok)(i:Nat)(r:gO α)(enc:α->DV):Prop:=qA G f (.ptr 100000 0::ds.map .d) [] [] l i r enc λ_=>[]
structure uP {α:Type} (Q:Exit->St->Prop) (rs:List ResultVar) (l:List Tok) (enc:α->DV) (Y:α->List (Nat×bG)) (own:List (TypeId×List VM.Loc)) (r:gO α):Prop where
 ok:∀a j e s,r=.ok a j->(e=.normal\/e=.ret)->a4z prog s rs (enc a) (rH l j++Y a) own->Q e s
 bad:∀n e s,r=.bad n e->Q (.panic (a2d (rP n e))) s
section
variable {α β:Type} {Q:Exit->St->Prop} {rs:List ResultVar} {l:List Tok} {i j:Nat} {enc:β->DV} {Y:β->List (Nat×bG)} {own:List (TypeId×List VM.Loc)} {n e:Int} {a:α}
theorem uP.step{x:bF α}{f:α->bF β}(h:uP Q rs l enc Y own ((x >>=f) i))(hx:x i=.ok a j):uP Q rs l enc Y own (f a j):=by rwa[bU hx]at h
theorem uP.fail{x:bF α}{f:α->bF β}(h:uP Q rs l enc Y own ((x >>=f) i))(hx:x i=.bad n e)(s:St):Q (.panic (a2d (rP n e))) s:=h.bad _ _ _ (kT hx)
variable{A c:Prop}
theorem uP.sW[Decidable c]{x y:gO β}(h:uP Q rs l enc Y own (if c then x else y))(hc:c):uP Q rs l enc Y own x:=by rwa[if_pos hc]at h
theorem uP.rK[Decidable c]{x y:gO β}(h:uP Q rs l enc Y own (if c then x else y))(hc:¬c):uP Q rs l enc Y own y:=by rwa[if_neg hc]at h
variable{fn:Func}{f:FuncId}{av:List DV}{X:List (Nat×bG)}
theorem qA.xA{c:Code}{k:Nat}{r:gO β}(hf:prog.funcs[f]? =some fn)(hb:fn.body=some c)(hn:fn.ntmps=k)(hrs:fn.results.toList=rs)(hT:(own.all λc=>c.2.all λl=>match l with|.t i=>decide (i<av.length)|_=>true)=true)(h:∀Q:Exit->St->Prop,uP Q rs l enc Y own r->SW prog G c ⟨av++List.replicate (k-av.length) (.cX []),rH l i++X,own⟩ Q):qA G f av X own l i r enc Y:=by
 refine CX.b3P hf hb hn hrs hT λQ h1 h2=>h Q ⟨λa j e s hr he hs=>?_,λn e s hr=>?_⟩
 .subst hr;exact h1 _ _ _ e s rfl he hs
 .subst hr;exact h2 _ s rfl
theorem kO(K:List (Nat×Nat)):∀ds:List D,bA K (ds.map .d)=ds.map .d
 |[]=>rfl
 |d::r=>by simp only[List.map_cons,bA,bI,kO K r]
theorem eX(K:List (Nat×Nat)):∀ds:List D,(ds.map DV.d).all (bB K)=true
 |[]=>rfl
 |d::r=>by simp only[List.map_cons,List.all_cons,bB,eX K r,Bool.and_self]
variable{ls:List (Option VM.Loc)}{KK:St->Prop}{st:St}{dst:Option Tmp}
theorem a2e{av0:List DV}{r:gO β}{rest:List (TypeId×List VM.Loc)}(he:VM.Enters prog f)(hc:qA G f av0 X own l i r enc Y)(K:List (Nat×Nat))(mX:∀a j,r=.ok a j->aW K ⟨av0,rH l i++X,own⟩ (enc a) (rH l j++Y a)=true)(c6X:aW K ⟨av0,rH l i++X,own⟩ .undef (rH l i++X)=true)(pJ:WkT av (bA K av0))(hH:WkH st.H (dC K (rH l i++X)))(oO:yK st st.own (own.map (sD K ls))=some rest)(c0m:a1w st.tmps.length ls own=true)(pG:∀a j,r=.ok a j->KK (bJ K dst st rest (enc a) (rH l j++Y a) own))(a4X:∀n e,r=.bad n e->Q (.panic (a2d (rP n e))) (a3R st)):tQ prog G f av ls dst st KK Q (kZ r):=by
 rw[<-c7o (l:=l) (enc:=enc) (Y:=Y) (own:=own) r];refine tQ.mk he hc K (λd H1 own1 hx=>?_) (λv hx=>c6X) pJ hH oO c0m (λd H1 own1 hx=>?_) (λv hx=>?_)
 .cases r with
  |bad n e=>cases hx
  |ok a j=>cases hx;exact mX a j rfl
 .cases r with
  |bad n e=>cases hx
  |ok a j=>cases hx;exact pG a j rfl
 .cases r with
  |bad n e=>cases hx;exact a4X n e rfl
  |ok a j=>cases hx
abbrev K1:List (Nat×Nat):=[(100000,100000)]
variable{ds:List D}
theorem rdZ{r:gO β}(he:VM.Enters prog f)(hc:tR G f ds l i r enc)(pG:∀a j,r=.ok a j->KK ⟨kJ dst (enc a) st.tmps,cF 100000 (rdO l j) st.H,jB dst (dropKey 100000 st.own)⟩)(a4X:∀n e,r=.bad n e->Q (.panic (a2d (rP n e))) (a3R st))(hk:∀a,bB K1 (enc a)=true/\bI K1 (enc a)=enc a:=by intro a;exact⟨rfl,rfl⟩)(hw:WkT av (.ptr 100000 0::ds.map .d):=by simp)(hH:getKey 100000 st.H=some (rdO l i):=by simp):tQ prog G f av ls dst st KK Q (kZ r):=by
 refine a2e he hc K1 (λa j hr=>?_) ?_ ?_ ?_ rfl rfl (λa j hr=>?_) a4X (rest:=st.own)
 .simp[aW,bB,bD,bC,eX,bK,getKey,(hk a).1]
 .simp[aW,bB,bD,bC,eX,bK,getKey]
 .simpa[bA,bI,rk,kO]using hw
 .simp only[dC,rdO,List.append_nil,List.map_cons,List.map_nil,rk,if_true,dL,bA,bI,WkH,and_true];exact⟨_,hH,by simp[WkO]⟩
 .have:=pG a j hr;simpa[bJ,bX,dL,bA,bI,rk,eI,(hk a).2]using this
variable{all:Array Oper}{ops:List Oper}
theorem c3O{d:D}{q ro:Bool}{k:List KI}(he:VM.Enters prog f)(hc:CH prog G f ⟨.ptr 100000 0::ds.map .d,rH l i,[]⟩ ⟨[.d d],rH l i,[]⟩)(h:VK prog G (.ops q all ops::k) .normal (finish st dst (.d d) .no) Q)(hw:WkT av (.ptr 100000 0::ds.map .d):=by simp)(hH:getKey 100000 st.H=some (rdO l i):=by simp)(vB:oX [100000] st.own=true:=by simp):jH prog G q ro f av ls dst all ops k st Q:=by
 refine jH.ro he hc K1 ?_ ?_ ?_ vB ?_ h
 .simp[aW,bB,bD,bC,eX,bK,getKey]
 .simpa[bA,bI,rk,kO]using hw
 .simp only[dC,rdO,List.map_cons,List.map_nil,rk,if_true,dL,bA,bI,a9N,and_true];exact hH
 .simp[hH]
theorem qA.bO{c:Code}{k:Nat}{r:gO β}(hf:prog.funcs[f]? =some fn)(hb:fn.body=some c)(hn:fn.ntmps=k)(hrs:fn.results.toList=rs)(hT:(own.all λc=>c.2.all λl=>match l with|.t i=>decide (i<av.length)|_=>true)=true)(h:∀Q:Exit->St->Prop,uP Q rs l enc Y own r->XK prog G [.code c] .normal ⟨av++List.replicate (k-av.length) (.cX []),rH l i++X,own⟩ Q):qA G f av X own l i r enc Y:=qA.xA hf hb hn hrs hT λQ hQ=>SW.xk (h Q hQ)
variable{k:List XI}
theorem rdX{r:gO β}(he:VM.Enters prog f)(hc:tR G f ds l i r enc)(pG:∀a j,r=.ok a j->XK prog G (.ops all ops::k) .normal ⟨kJ dst (enc a) st.tmps,cF 100000 (rdO l j) st.H,jB dst (dropKey 100000 st.own)⟩ Q)(a4X:∀n e,r=.bad n e->Q (.panic (a2d (rP n e))) (a3R st))(hk:∀a,bB K1 (enc a)=true/\bI K1 (enc a)=enc a:=by intro a;exact⟨rfl,rfl⟩)(hw:WkT av (.ptr 100000 0::ds.map .d):=by simp)(hH:getKey 100000 st.H=some (rdO l i):=by simp):dX prog G f av ls dst all ops k st Q:=dX.mk (rdZ (hw:=hw) (hH:=hH) he hc pG a4X hk)
variable{Q':Exit->St->Prop}{m:Nat}
theorem rX{γ:Type}{x:bF γ}{g:γ->bF β}{e1:γ->DV}(Q0:uP Q rs l enc Y own ((x >>=g) i))(p0:A/\i<l.length)(he:VM.Enters prog f)(hc:tR G f ds l i (x i) e1)(ad:aB l m x)(pG:∀a j,x i=.ok a j->uP Q rs l enc Y own (g a j)->i+m<=j/\j<l.length->KK ⟨kJ dst (e1 a) st.tmps,cF 100000 (rdO l j) st.H,jB dst (dropKey 100000 st.own)⟩)(hq:∀v s,(∀s,Q (.panic v) s)->Q' (.panic v) s:=by first|exact λ_ _ h=>h _|(intro v s h;simp;first|exact h _|exact h))(hw:WkT av (.ptr 100000 0::ds.map .d):=by simp)(hH:getKey 100000 st.H=some (rdO l i):=by simp)(hk:∀a,bB K1 (e1 a)=true/\bI K1 (e1 a)=e1 a:=by intro a;exact⟨rfl,rfl⟩):tQ prog G f av ls dst st KK Q' (kZ (x i)):=rdZ (hw:=hw) (hH:=hH) he hc (λa j h=>pG a j h (Q0.step h) (ad i a j p0.2 h)) (λn e h=>hq _ _ λs=>Q0.fail h s) hk
theorem uG{γ:Type}{x:bF γ}{g:γ->bF β}{e1:γ->DV}(Q0:uP Q rs l enc Y own ((x >>=g) i))(p0:A/\i<l.length)(he:VM.Enters prog f)(hc:tR G f ds l i (x i) e1)(ad:aB l m x)(pG:∀a j,x i=.ok a j->uP Q rs l enc Y own (g a j)->i+m<=j/\j<l.length->XK prog G (.ops all ops::k) .normal ⟨kJ dst (e1 a) st.tmps,cF 100000 (rdO l j) st.H,jB dst (dropKey 100000 st.own)⟩ Q')(hq:∀v s,(∀s,Q (.panic v) s)->Q' (.panic v) s:=by first|exact λ_ _ h=>h _|(intro v s h;simp;first|exact h _|exact h))(hw:WkT av (.ptr 100000 0::ds.map .d):=by simp)(hH:getKey 100000 st.H=some (rdO l i):=by simp)(hk:∀a,bB K1 (e1 a)=true/\bI K1 (e1 a)=e1 a:=by intro a;exact⟨rfl,rfl⟩):dX prog G f av ls dst all ops k st Q':=dX.mk (rX (hw:=hw) (hH:=hH) Q0 p0 he hc ad pG hq (hk:=hk))
theorem rdR{r:gO β}{e1:β->DV}(Q0:uP Q rs l enc Y own r)(he:VM.Enters prog f)(hc:tR G f ds l i r e1)(pG:∀a j,r=.ok a j->XK prog G (.ops all ops::k) .normal ⟨kJ dst (e1 a) st.tmps,cF 100000 (rdO l j) st.H,jB dst (dropKey 100000 st.own)⟩ Q')(hq:∀v s,(∀s,Q (.panic v) s)->Q' (.panic v) s:=by first|exact λ_ _ h=>h _|(intro v s h;simp;first|exact h _|exact h))(hw:WkT av (.ptr 100000 0::ds.map .d):=by simp)(hH:getKey 100000 st.H=some (rdO l i):=by simp)(hk:∀a,bB K1 (e1 a)=true/\bI K1 (e1 a)=e1 a:=by intro a;exact⟨rfl,rfl⟩):dX prog G f av ls dst all ops k st Q':=rdX (hw:=hw) (hH:=hH) he hc pG (λn e h=>hq _ _ λs=>Q0.bad n e s h) hk
theorem qB{d:DV}(he:VM.Enters prog f)(hc:CH prog G f ⟨.ptr 100000 0::ds.map .d,rH l i,[]⟩ ⟨[d],rH l j,[]⟩)(h:XK prog G (.ops all ops::k) .normal ⟨kJ dst d st.tmps,cF 100000 (rdO l j) st.H,jB dst (dropKey 100000 st.own)⟩ Q)(hk:bB K1 d=true/\bI K1 d=d:=by exact⟨rfl,rfl⟩)(hw:WkT av (.ptr 100000 0::ds.map .d):=by simp)(hH:getKey 100000 st.H=some (rdO l i):=by simp):dX prog G f av ls dst all ops k st Q:=
 rdX (hw:=hw) (hH:=hH) (r:=gO.ok () j) (enc:=λ_=>d) he hc (λa j' hr=>by cases hr;exact h) (λn e hr=>by cases hr) λ_=>hk
end
theorem f3w:List.range 2=[0,1]:=rfl
theorem f3x:List.range 3=[0,1,2]:=rfl
attribute [simp] kJ jB f3w f3x
theorem pF:VM.Enters prog 112:=.mk func112 rfl
theorem oQ:VM.Enters prog 91:=.mk func91 rfl
theorem cJ:VM.Enters prog 17:=.mk func17 rfl
theorem jR:VM.Enters prog 68:=.mk func68 rfl
theorem kU:VM.Enters prog 33:=.mk func33 rfl
theorem yQ:VM.Enters prog 32:=.mk func32 rfl
theorem oK:VM.Enters prog 19:=.mk func19 rfl
theorem a3X:VM.Enters prog 128:=.mk func128 rfl
theorem dS:VM.Enters prog 81:=.mk func81 rfl
theorem mE:VM.Enters prog 90:=.mk func90 rfl
theorem a3Y:VM.Enters prog 99:=.mk func99 rfl
theorem qH(t:Tok)(s:Nm):CS prog G 112 [.agg (bL t),.str s] (.d (.bool (cQ t s))) none:=by
 obtain⟨k,x,n,ln⟩:=t;refine CS.aY func112 rfl ntmps112 rfl ?_;by_cases h1:k=1
 .by_cases h2:x=s<;>simp[bL,cQ,h1,h2]
 .by_cases h4:k=4
  .by_cases h2:x=s<;>simp[bL,cQ,h4,h2]
  .by_cases h5:k=2
   .by_cases h2:x=s<;>simp[bL,cQ,h5,h2]
   .simp[bL,cQ,h1,h4,h5]
theorem pZ(hG:G 1=some gD)(t:Tok):CS prog G 91 [.agg (bL t)] (.d (.bool (kL aH t))) none:=by
 obtain⟨k,x,n,ln⟩:=t;refine CS.aY func91 rfl ntmps91 rfl ?_;by_cases h1:k=1
 .simp[bL,kL,h1];refine aC.mk a0R (a1Z hG x) ?_;simp
 .simp[bL,kL,h1]
theorem dM(l:List Tok)(i m:Nat)(x:Int)(hx:(i:Int)+x=m:=by omega)(hm:m<=l.length+10:=by omega)(h0:l≠[]:=by intro e;subst e;simp at hi)(hl:l.length<=2000000:=by omega):CH prog G 17 ⟨[.ptr 100000 0,.d (.int .i64 x)],rH l i,[]⟩ ⟨[.d (.agg (bL (aJ l m)))],rH l i,[]⟩:=by
 have hw:IntKind.i64.wrap ((i:Int)+x)=(m:Int):=by rw[hx,wrap64 (by omega)]
 have hlen:0<l.length:=g3U.2 h0;have hw2:IntKind.i64.wrap ((l.length:Int)-1)=((l.length-1:Nat):Int):=by rw[wrap64 (by omega)];omega
 by_cases h:m<l.length
 .have hg:aJ l m=l[m]:=by simp[aJ,h]
  rw[hg];obtain⟨T,hT⟩:∃T,l[m]=T:=⟨_,rfl⟩;rw[hT];obtain⟨k,s,n,ln⟩:=T;refine CH.aY func17 rfl ntmps17 rfl (by simp) ?_;simp[hw,h,hT,bL];exact⟨.mk,a7x.mk⟩
 .have hl1:l.length-1<l.length:=by omega
  have hg:aJ l m=l[l.length-1]:=by simp[aJ,h,List.getLastD_eq_getLast?,List.getLast?_eq_getElem?,hl1]
  rw[hg];obtain⟨N,hN⟩:∃N,l.length-1=N:=⟨_,rfl⟩;rw[hN]at hl1 hw2;obtain⟨T,hT⟩:∃T,l[N]=T:=⟨_,rfl⟩;have hT2:l[l.length-1]=T:=by simp only[hN];exact hT
  rw[hT2];obtain⟨k,s,n,ln⟩:=T;refine CH.aY func17 rfl ntmps17 rfl (by simp) ?_;simp[hw,hw2,h,h0,hT,hl1,bL];exact⟨.mk,a7x.mk⟩
theorem mY(l:List Tok)(i:Nat)(s:Nm)(hi:i<l.length)(hl:l.length<=2000000:=by omega):CH prog G 68 ⟨[.ptr 100000 0,.d (.str s)],rH l i,[]⟩ ⟨[.d (.bool (aL l i s))],rH l i,[]⟩:=by have ht:=dM (G:=G) l i i 0 (by omega) (by omega) (by intro e;subst e;simp at hi) hl;refine CH.aY func68 rfl ntmps68 rfl (by simp) ?_;simp;refine c3O (i:=i) (ds:=[.int .i64 0]) cJ ht ?_;simp;refine aC.mk pF (qH (aJ l i) s) ?_;simp[aL]
theorem tY(l:List Tok)(i:Nat)(s:Nm)(hi:i<l.length)(hl:l.length<=2000000)(h:aL l i s=true):CH prog G 33 ⟨[.ptr 100000 0,.d (.str s)],rH l i,[]⟩ ⟨[.d (.bool true)],rH l (i+1),[]⟩:=by have hc:=mY (G:=G) l i s hi hl;rw[h]at hc;have hw:=aX (show i<9223372036854775807 by omega);refine CH.aY func33 rfl ntmps33 rfl (by simp) ?_;simp;refine c3O (i:=i) (ds:=[.str s]) jR hc ?_;simp[hw]
theorem b3Q(l:List Tok)(i:Nat)(s:Nm)(hi:i<l.length)(hl:l.length<=2000000)(h:aL l i s=false):CH prog G 33 ⟨[.ptr 100000 0,.d (.str s)],rH l i,[]⟩ ⟨[.d (.bool false)],rH l i,[]⟩:=by have hc:=mY (G:=G) l i s hi hl;rw[h]at hc;refine CH.aY func33 rfl ntmps33 rfl (by simp) ?_;simp;refine c3O (i:=i) (ds:=[.str s]) jR hc ?_;simp
theorem a0B{α:Type}(l:List Tok)(i:Nat)(hi:i<l.length)(hl:l.length<=2000000)(enc:α->DV):tR G 32 [] l i (eV l i:gO α) enc:=by have ht:=dM (G:=G) l i i 0 (by omega) (by omega) (by intro e;subst e;simp at hi) hl;refine qA.xA func32 rfl ntmps32 rfl (by simp) ?_;intro Q hE;refine SW.lw (LW.app 4 ?_);simp;refine c3O (i:=i) (ds:=[.int .i64 0]) cJ ht ?_;generalize hT:aJ l i=T;have hb:=λs=>hE.bad T.line 14 s (by unfold eV;rw[hT]);obtain⟨k,s,n,ln⟩:=T;simp[bL];refine LW.d0q (td:=_) (n:=ln) (e:=14) rfl rfl (by simp) (by simp) ?_;exact hb _
end
end Go.Proofs.YtmfbjecjccipfaaGreatDoor
