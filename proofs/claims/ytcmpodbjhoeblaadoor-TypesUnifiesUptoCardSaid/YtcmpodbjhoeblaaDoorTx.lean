/- Types in place of type variables: the walks, and the statement TypesSubsts. No condition. -/
import Derived.Test.YtcmpodbjhoeblaaDoorZD
set_option linter.unusedVariables false
set_option linter.unusedSimpArgs false
set_option linter.unusedSectionVars false
namespace Go.Proofs.YtcmpodbjhoeblaaDoor
open Go Go.VM
set_option maxRecDepth 100000
set_option maxHeartbeats 8000000
variable {G : GT}
/-- A type with a further refinement. -/
def joinT (t : Ty) (p : Pr) : Ty := if zpB p || decide (t.op = 6) then t else if zpB t.pred then ⟨t.op, t.name, t.args, t.names, p, t.preds⟩ else ⟨t.op, t.name, t.args, t.names, ⟨15, [], 0, [t.pred, p]⟩, t.preds⟩
/-- The type for a variable. -/
def pickT (ns : List Nm) (by_ : List Ty) (op : Int) (nm : Nm) : Option Ty := if op = 5 ∧ 0 ≤ findI nm ns 0 then by_[(findI nm ns 0).toNat]? else none
mutual
def subT (ns : List Nm) (by_ : List Ty) : Ty → Ty
  | ⟨op, nm, l, ms, p, ps⟩ => match pickT ns by_ op nm with
    | some u => joinT u p
    | none => ⟨op, nm, subTs ns by_ l, ms, p, ps⟩
def subTs (ns : List Nm) (by_ : List Ty) : List Ty → List Ty
  | [] => []
  | t :: r => subT ns by_ t :: subTs ns by_ r
end
theorem subTs_eq (ns : List Nm) (by_ : List Ty) : ∀ l, subTs ns by_ l = l.map (subT ns by_)
  | [] => by simp [subTs]
  | t :: r => by simp [subTs, subTs_eq ns by_ r]
theorem subT_eq (ns : List Nm) (by_ : List Ty) (t : Ty) : subT ns by_ t = match pickT ns by_ t.op t.name with
    | some u => joinT u t.pred
    | none => ⟨t.op, t.name, t.args.map (subT ns by_), t.names, t.pred, t.preds⟩ := by
  cases t
  rw [subT, subTs_eq]
theorem pickT_nil (op : Int) (nm : Nm) : pickT [] [] op nm = none := by
  unfold pickT
  split <;> rfl
mutual
theorem subT_nil : ∀ t : Ty, subT [] [] t = t
  | ⟨op, nm, l, ms, p, ps⟩ => by
    have := subTs_nil l
    rw [subT, pickT_nil]
    simp only [this]
theorem subTs_nil : ∀ l : List Ty, subTs [] [] l = l
  | [] => by simp [subTs]
  | t :: r => by
    have h1 := subT_nil t
    have h2 := subTs_nil r
    simp only [subTs, h1, h2]
end
theorem find_range (s : Nm) (l : List Nm) : findI s l 0 < 0 ∨ (0 ≤ findI s l 0 ∧ findI s l 0 < l.length) := by
  suffices h : ∀ (l : List Nm) (i : Nat), findI s l i < 0 ∨ ((i : Int) ≤ findI s l i ∧ findI s l i < i + l.length) by
    have := h l 0
    simpa using this
  intro l
  induction l with
  | nil => intro i; left; simp [findI]
  | cons k r ih =>
    intro i
    unfold findI
    split
    · right; simp; omega
    · rcases ih (i + 1) with h | ⟨h1, h2⟩
      · left; exact h
      · right; simp at h1 h2 ⊢; omega
theorem joinT_plain {t : Ty} {p : Pr} (h : zpB p = true ∨ t.op = 6) : joinT t p = t := by
  unfold joinT
  rcases h with h | h <;> simp [h]
theorem ent_r19_joined : VM.Enters Tryd.prog 51 := VM.Enters.mk Tryd.func51 rfl
theorem r19_joined_cs (t : Ty) (p : Pr) (h1 : nodP p ≤ 900000000) (h2 : nodP t.pred ≤ 900000000) : CS Tryd.prog G 51 [.agg (tyD t), .agg (prD p)] (.d (.agg (tyD (joinT t p)))) none := by
  have e1 := r7_Same_cs (G := G) p zeroP h1
  have e2 := r7_Same_cs (G := G) t.pred zeroP h2
  rw [samP_zero] at e1 e2
  simp [zeroP] at e1 e2
  refine CS.of_VK Tryd.func51 rfl Tryd.ntmps51 rfl ?_
  simp
  refine callK.mk ent_r7_Same (CS.args e1 (by simp)) ?_
  cases hz : zpB p
  · by_cases h6 : t.op = 6
    · simp [h6, joinT_plain]
    · simp [h6]
      refine callK.mk ent_r7_Same (CS.args e2 (by simp)) ?_
      cases hy : zpB t.pred
      · simp [joinT, hz, hy, h6]
      · simp [joinT, hz, hy, h6]
  · simp [joinT, hz]
end Go.Proofs.YtcmpodbjhoeblaaDoor
