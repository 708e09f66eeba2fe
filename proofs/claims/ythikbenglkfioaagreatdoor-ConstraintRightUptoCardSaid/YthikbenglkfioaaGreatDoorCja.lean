/- Constraints: what the checks compute, plain. No condition. -/
import Derived.Test.YthikbenglkfioaaGreatDoorPo
import Derived.Test.YthikbenglkfioaaGreatDoorZA
import Derived.Test.YthikbenglkfioaaGreatDoorCg
set_option linter.unusedVariables false
set_option linter.unusedSimpArgs false
set_option linter.unusedSectionVars false
namespace Go.Proofs.YthikbenglkfioaaGreatDoor
open Go Go.VM
set_option maxRecDepth 100000
set_option maxHeartbeats 8000000
/-- The fields of the kind. -/
def formedB (op : Int) (nm s : Nm) (p : Pr) (t : Int) (len : Nat) : Bool :=
  if op = 1 then decide (nm = []) && (decide (s = []) && (decide (p = zerP) && decide (t = 0)))
  else if op = 2 then decide (t = 0) && (decide (len = 1) && (decide (s = []) || !decide (nm = [])))
  else if op = 3 then decide (nm = []) && (decide (s = []) && decide (len = 0)) else false
/-- The environment below a constraint. -/
def withE (v : EnvL) (op : Int) (nm s : Nm) : EnvL := if op = 2 ∧ nm ≠ [] then ⟨v.vars ++ [(nm, s)], v.syms, v.holes⟩ else v
mutual
/-- The first error of a constraint below an environment. -/
def chkC (v : EnvL) : Cn → Int
  | ⟨op, nm, s, p, t, l⟩ => if formedB op nm s p t l.length then (if envE (withE v op nm s) = 0 then (if boolE (withE v op nm s) p = 0 then chkCs (withE v op nm s) l else boolE (withE v op nm s) p) else envE (withE v op nm s)) else 1
def chkCs (v : EnvL) : List Cn → Int
  | [] => 0
  | c :: r => if chkC v c = 0 then chkCs v r else chkC v c
end
theorem chkC_eq (v : EnvL) (c : Cn) : chkC v c = if formedB c.op c.name c.sort c.pred c.tag c.kids.length then (if envE (withE v c.op c.name c.sort) = 0 then (if boolE (withE v c.op c.name c.sort) c.pred = 0 then chkCs (withE v c.op c.name c.sort) c.kids else boolE (withE v c.op c.name c.sort) c.pred) else envE (withE v c.op c.name c.sort)) else 1 := by
  cases c; rw [chkC]
def chkTop (v : EnvL) (c : Cn) : Int := if envE v = 0 then chkC v c else envE v
theorem chkCs_at {v : EnvL} {l : List Cn} {i : Nat} (h : i < l.length) : chkCs v (l.drop i) = if chkC v l[i] = 0 then chkCs v (l.drop (i + 1)) else chkC v l[i] := by
  rw [List.drop_eq_getElem_cons h, chkCs]
/-! ### An accepted environment is small -/
theorem sortE_not (s : Nm) : ¬ sortE s = 0 → sortE s = 11 := by unfold sortE; split <;> simp
theorem symE_args {y : SymL} (h : symE y = 0) : y.args.length ≤ 6 := by
  unfold symE at h
  split at h
  · split at h
    · rename_i h2; exact h2.2
    · simp at h
  · simp at h
theorem symsGo_all : ∀ (l : List SymL) (seen : List Nm), symsGo seen l = 0 → ∀ y ∈ l, y.args.length ≤ 6
  | [], _, _, y, h => by cases h
  | a :: r, seen, h, y, hy => by
    unfold symsGo at h
    split at h
    · rename_i h0
      split at h
      · simp at h
      · rcases List.mem_cons.1 hy with rfl | hy
        · exact symE_args h0
        · exact symsGo_all r _ h y hy
    · rename_i h0
      exact absurd h h0
theorem varsE_len {l : List (Nm × Nm)} (h : varsE l = 0) : l.length ≤ 24 := by
  unfold varsE at h
  split at h
  · simp at h
  · omega
theorem holesGo_all : ∀ (l : List HoleL) (seen : List Nm), holesGo seen l = 0 → ∀ y ∈ l, y.params.length ≤ 24
  | [], _, _, y, h => by cases h
  | a :: r, seen, h, y, hy => by
    unfold holesGo at h
    split at h
    · simp at h
    · split at h
      · simp at h
      · split at h
        · simp at h
        · split at h
          · rename_i h0
            rcases List.mem_cons.1 hy with rfl | hy
            · exact varsE_len h0
            · exact holesGo_all r _ h y hy
          · rename_i h0
            exact absurd h h0
theorem fitE_of {v : EnvL} (h : envE v = 0) : FitE v := by
  unfold envE at h
  split at h
  · rename_i h1
    split at h
    · rename_i h2
      have h1' := varsE_len h1
      unfold symsE at h2
      split at h2
      · simp at h2
      · unfold holesE at h
        split at h
        · simp at h
        · refine ⟨by omega, by omega, fun y hy => ?_, by omega, fun y hy => ?_⟩
          · have := symsGo_all _ _ h2 y hy; omega
          · have := holesGo_all _ _ h y hy; omega
    · rename_i h2
      exact absurd h h2
  · rename_i h1
    exact absurd h h1
theorem varsC_vr (l : List Vr) : varsC l = l.map vrC := rfl
end Go.Proofs.YthikbenglkfioaaGreatDoor
