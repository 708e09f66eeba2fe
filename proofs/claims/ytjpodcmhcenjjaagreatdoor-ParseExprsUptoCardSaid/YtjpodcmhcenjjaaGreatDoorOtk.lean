/- Lemmas that the law of this claim needs (PuB PuH PuJ Fit PvG PwZ). No condition. -/
import Derived.Test.YtjpodcmhcenjjaaGreatDoorOta
import Derived.Test.YtjpodcmhcenjjaaGreatDoorOtc
import Derived.Test.YtjpodcmhcenjjaaGreatDoorOtd
import Derived.Test.YtjpodcmhcenjjaaGreatDoorOtg
import Derived.Test.YtjpodcmhcenjjaaGreatDoorOth
import Derived.Test.YtjpodcmhcenjjaaGreatDoorOtj
set_option linter.unusedVariables false
set_option linter.unusedSimpArgs false
set_option linter.unusedSectionVars false
set_option maxRecDepth 100000
set_option maxHeartbeats 64000000
open Go.Proofs.Tryz
namespace Go.Proofs.YtjpodcmhcenjjaaGreatDoor
section
section
variable {α β:Type} {kw:Nm->Bool} {andP:Pr->Pr->Pr} {aE:List Tok->Nat->Nat->kJ Pr} {l l':List Tok} {N d:Nat} {W W':Nat->Prop} {u:Nm}
variable (hE:oK l) (hN:d7T l l' N d u)
include hE hN
omit hE in
theorem e5n.base:e5n N d W (gO kw l) (gO kw l'):=λi a j hi h hj hw=>by
 have e1:=c3C hN (s:=[73,110,116]) (by decide) (by decide) hi;have e2:=c3C hN (s:=[66,111,111,108]) (by decide) (by decide) hi;have e3:=c3C hN (s:=[67,101,108,108]) (by decide) (by decide) hi;have e4:=e3c (kw:=kw) hN hi;unfold gO at h|-;rw[e1,e2,e3,e4];split at h
 .rename_i h1;rw[if_pos h1];cases h;rw[show i+1+d=i+d+1 by omega]
 rename_i h1;rw[if_neg h1];split at h
 .rename_i h2;rw[if_pos h2];cases h;rw[show i+1+d=i+d+1 by omega]
 rename_i h2;rw[if_neg h2];split at h
 .rename_i h3;rw[if_pos h3];cases h;rw[show i+1+d=i+d+1 by omega]
 rename_i h3;rw[if_neg h3];split at h
 .rename_i h4;rw[if_pos h4,hN.text i (by cases h;omega)];cases h;rw[show i+1+d=i+d+1 by omega]
 rename_i h4;rw[if_neg h4];cases h
 rfl
end
end
section
def f2E(l:List Tok)(i:Nat)(w:Nm):Prop:=(aG l i).kind=4/\(aG l i).text=w
section
variable {kw:Nm->Bool} {andP:Pr->Pr->Pr} {aE:List Tok->Nat->Nat->kJ Pr} {l:List Tok} {ex:Nat->bE cG} {i j k k1 k2 k3:Nat} {a b c e:cG}
theorem f2E.is{w:Nm}(h:f2E l i w)(s:Nm):aH l i s=decide (w=s):=by unfold aH cV;rw[h.1,h.2];simp
end
end
section
def e8G(ln1:Int)(l0:List Tok)(ln2:Int):List Tok:=f1J ln1 [40]::(l0++[f1J ln2 [41]])
structure Pc (x:List UInt8) (a:cG) (l0:List Tok) (m:Int):Prop where
 no:∀b∈x,b≠35
 lex:mH jC x 0 1 false=.ok (l0++[eTk m])
 g0m:mH jC (40::(x++[41])) 0 1 false=.ok (e8G 1 l0 m++[eTk m])
 cl:pU aJ aZ rdQ (e8G 1 l0 m++[eTk m]) (vD aJ aZ rdQ (e8G 1 l0 m++[eTk m]) (l0.length+4)) 0=.ok a (l0.length+2)
end
section
open Go Go.VM
def TL:List TypeId:=[5,9,37,39,199,257,260,261]
theorem c9T:a2E prog TL=true:=by kernel_rfl
theorem sE:laidOutB prog=true:=by kernel_rfl
theorem hmr:mapsRowed prog=true:=by kernel_rfl
theorem hsf:((List.range prog.types.size).all λt=>match prog.underlying t with|some (.slice e)=>decide (0<prog.cellsOf e)|_=>true)=true:=by kernel_rfl
theorem mN:ownKnob prog.godebug=none:=by kernel_rfl
theorem tu9:prog.underlying 9=some .string:=by kernel_rfl
end
section
open Go Go.VM
theorem e3h{s:List UInt8}{e:cG}{j:Nat}(h:eI exM s=.ok e j):WE 900000000 e:=by obtain⟨hs,l,hl,hx,_⟩:=d3r h;have hV:pY G0 rdQ l:=c0W a3c hl (by omega);exact d8f hV 0 e j (List.length_pos_iff.2 hV.fin.1) hx
end
section
open Go Go.VM
theorem e3i(s:List UInt8):WE 900000000 (a3v xS (eI exM s)):=by
 cases h:eI exM s with
 |bad n e=>exact .leaf _ _ _
 |ok m j=>exact e3h h
theorem b1S(s:List UInt8)(hs:s.length<=100000000):CS prog G0 7 [.str s] (.d (.bool true)) none:=by
 by_cases b1:600<s.length
 .have e1:(600:Int)<s.length:=by omega
  refine CS.aX func7 rfl ntmps7 rfl ?_;simp[e1,b1];refine aC.mk a8V (b1R ) ?_;simp
 have e1: ¬(600:Int)<s.length:=by omega
 have p1:=qB (G:=G0) a3c a4f s (by omega);have p2:=c7n (G:=G0) s (by omega);have w3:=b9s (G:=G0) _ (e3i s);generalize a3v xS (eI exM s)=t at p1 p2 w3;generalize a3Z (eI exM s)=x3 at p1 p2;refine CS.aX func7 rfl ntmps7 rfl ?_;simp[e1,b1];refine aC.mk pJ p1 ?_;simp;refine aC.mk c3y p2 ?_;simp;refine aC.mk a5f w3 ?_;simp;refine aC.mk a8V (b1R ) ?_;simp
theorem parseExprs_all(xs:List D)(h:b0B prog [9] xs)(jZ:szL xs<=1048576):CS prog G0 7 xs (.d (.bool true)) none:=by
 match xs,h with
 |[a],⟨h1,_⟩=>obtain⟨s,rfl,_⟩:=d2a tu9 h1;simp only[szL,szD]at jZ;exact b1S s (by omega)
end
end Go.Proofs.YtjpodcmhcenjjaaGreatDoor
