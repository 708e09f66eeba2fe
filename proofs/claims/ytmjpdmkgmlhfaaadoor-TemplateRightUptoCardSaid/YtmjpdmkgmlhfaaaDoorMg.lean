/- Template: the closure that goes through a function type. No condition. -/
import Derived.Test.YtmjpdmkgmlhfaaaDoorMe
import Derived.Test.YtmjpdmkgmlhfaaaDoorMf
set_option linter.unusedVariables false
set_option linter.unusedSimpArgs false
set_option linter.unusedSectionVars false
namespace Go.Proofs.YtmjpdmkgmlhfaaaDoor
open Go Go.VM
set_option maxRecDepth 100000
set_option maxHeartbeats 16000000
variable {G : GT}
/-- What 'added' does. -/
def AddC (G : GT) : Prop := ∀ (sc : List Vr) (x : Vr), sc.length ≤ 1000000 → CS Tryd.prog G 43 [.sl (sc.map vrC), .agg (vrC x)] (.d (.sl ((addVr sc x).map vrC))) none
theorem ent_template_added : VM.Enters Tryd.prog 43 := VM.Enters.mk Tryd.func43 rfl
theorem addVr_len (sc : List Vr) (x : Vr) : (addVr sc x).length ≤ sc.length + 1 := by
  unfold addVr
  have := List.length_filter_le (fun y : Vr => !decide (y.1 = x.1)) sc
  simp only [List.length_append, List.length_cons, List.length_nil]
  omega
/-- What the loop has done, and what is to come. -/
structure FunI where
  i : Nat
  A : List Ty
  dn : List Nm
  sc : List Vr
  hs : List Ho
def FunI.Ok (pre : Nm) (m : Mt) (l : List Ty) (ns : List Nm) (sc0 : List Vr) (hs0 : List Ho) (x : FunI) : Prop :=
  x.i < l.length ∧ x.A.length = x.i ∧ x.dn.length = x.i ∧ x.sc.length + nodTs (l.drop x.i) ≤ sc0.length + nodTs l ∧ x.hs.length + cntTs sortB (datN m) (l.drop x.i) ≤ hs0.length + cntTs sortB (datN m) l ∧
  funT sortB pre (datN m) l (decide (ns.length + 1 = l.length)) ns [] sc0 hs0 = (x.A ++ (funT sortB pre (datN m) (l.drop x.i) (decide (ns.length + 1 = l.length)) (ns.drop x.i) x.dn x.sc x.hs).1, (funT sortB pre (datN m) (l.drop x.i) (decide (ns.length + 1 = l.length)) (ns.drop x.i) x.dn x.sc x.hs).2)
/-- The name of a parameter. -/
def nameF (g : Bool) (ns dn : List Nm) (sc : List Vr) (i : Nat) : Nm := if g = true then (ns.drop i).headD [] else freshN (vN :: (dn ++ sc.map (·.1)))
def scF (a : Ty) (n : Nm) (sc : List Vr) : List Vr := match logT sortB a with
  | some s => addVr sc (n, s)
  | none => sc
theorem FunI.step {pre : Nm} {m : Mt} {l : List Ty} {ns : List Nm} {sc0 : List Vr} {hs0 : List Ho} {x : FunI} (h : x.Ok pre m l ns sc0 hs0) (hi : x.i + 1 < l.length) :
    FunI.Ok pre m l ns sc0 hs0 ⟨x.i + 1, x.A ++ [(visT sortB pre (datN m) l[x.i] x.sc x.hs).1], x.dn ++ [nameF (decide (ns.length + 1 = l.length)) ns x.dn x.sc x.i], scF l[x.i] (nameF (decide (ns.length + 1 = l.length)) ns x.dn x.sc x.i) x.sc, (visT sortB pre (datN m) l[x.i] x.sc x.hs).2⟩ := by
  obtain ⟨i, A, dn, sc, hs⟩ := x
  obtain ⟨h1, h2, h3, h4, h5, h6⟩ := h
  simp only at *
  have d1 : l.drop i = l[i] :: l[i + 1] :: l.drop (i + 2) := by rw [List.drop_eq_getElem_cons h1, List.drop_eq_getElem_cons hi]
  have d2 : l.drop (i + 1) = l[i + 1] :: l.drop (i + 2) := List.drop_eq_getElem_cons hi
  have hsc : (scF l[i] (nameF (decide (ns.length + 1 = l.length)) ns dn sc i) sc).length ≤ sc.length + 1 := by
    unfold scF
    split
    · exact addVr_len _ _
    · omega
  have hnp := nodT_pos l[i]
  have hvl := vis_len (srt := sortB) (pre := pre) (dat := datN m) l[i] sc hs
  refine ⟨hi, by simp [h2], by simp [h3], ?_, ?_, ?_⟩
  · rw [d1] at h4
    rw [d2]
    simp only [nodTs] at h4 ⊢
    omega
  · rw [d1] at h5
    rw [d2]
    simp only [cntTs] at h5 ⊢
    omega
  · rw [h6, d1, d2, funT]
    simp only [List.tail_drop, List.append_assoc, List.cons_append, List.nil_append]
    rfl
theorem FunI.last {pre : Nm} {m : Mt} {l : List Ty} {ns : List Nm} {sc0 : List Vr} {hs0 : List Ho} {i : Nat} {A : List Ty} {dn : List Nm} {sc : List Vr} {hs : List Ho} (h : FunI.Ok pre m l ns sc0 hs0 ⟨i, A, dn, sc, hs⟩) (h1 : i < l.length) (hi : i + 1 = l.length) :
    funT sortB pre (datN m) l (decide (ns.length + 1 = l.length)) ns [] sc0 hs0 = (A ++ [(visT sortB pre (datN m) l[i] sc hs).1], dn, (visT sortB pre (datN m) l[i] sc hs).2) := by
  obtain ⟨_, h2, h3, h4, h5, h6⟩ := h
  simp only at h6
  have d1 : l.drop i = [l[i]] := by rw [List.drop_eq_getElem_cons h1, List.drop_of_length_le (by omega)]
  rw [h6, d1, funT]
end Go.Proofs.YtmjpdmkgmlhfaaaDoor
