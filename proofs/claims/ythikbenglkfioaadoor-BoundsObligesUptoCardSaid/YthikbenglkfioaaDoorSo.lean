/- sort.With entries that are kept. No condition. -/
import Derived.Test.YthikbenglkfioaaDoorSm
set_option linter.unusedVariables false
set_option linter.unusedSimpArgs false
set_option linter.unusedSectionVars false
namespace Go.Proofs.YthikbenglkfioaaDoor
open Go Go.VM
set_option maxRecDepth 100000
set_option maxHeartbeats 4000000
variable {G : GT}
theorem setKeyD_new {k v : D} : ∀ {es : List (D × D)}, (∀ e ∈ es, eqCell k e.1 = some false) → setKeyD k v es = some (es ++ [(k, v)])
  | [], _ => rfl
  | (k', v') :: r, h => by
    unfold setKeyD
    rw [h (k', v') (.head _)]
    simp [setKeyD_new fun e he => h e (.tail _ he)]
theorem delKeyD_last {k v : D} (hk : eqCell k k = some true) : ∀ {es : List (D × D)}, (∀ e ∈ es, eqCell k e.1 = some false) → delKeyD k (es ++ [(k, v)]) = some es
  | [], _ => by
    simp only [List.nil_append]
    unfold delKeyD
    rw [hk]
  | (k', v') :: r, h => by
    simp only [List.cons_append]
    unfold delKeyD
    rw [h (k', v') (.head _)]
    simp [delKeyD_last hk fun e he => h e (.tail _ he)]
/-- The entries of the variables that are kept, by their places. -/
def keptE (n : List UInt8) : Nat → List (List UInt8 × List UInt8) → List (D × D)
  | _, [] => []
  | i, y :: r => if y.1 = n then keptE n (i + 1) r else (.int .i64 i, .agg (varC y)) :: keptE n (i + 1) r
theorem keptE_app (n : List UInt8) (y : List UInt8 × List UInt8) : ∀ (a : List (List UInt8 × List UInt8)) (i : Nat), keptE n i (a ++ [y]) = keptE n i a ++ if y.1 = n then [] else [(.int .i64 ((i + a.length : Nat) : Int), .agg (varC y))]
  | [], i => by simp only [List.nil_append, keptE]; split <;> simp
  | x :: r, i => by
    simp only [List.cons_append, keptE]
    have h : i + 1 + r.length = i + (x :: r).length := by simp; omega
    split
    · rw [keptE_app n y r (i + 1), h]
    · rw [keptE_app n y r (i + 1), h]; rfl
theorem keptE_key (n : List UInt8) : ∀ (a : List (List UInt8 × List UInt8)) (i : Nat), ∀ e ∈ keptE n i a, ∃ j : Nat, i ≤ j ∧ j < i + a.length ∧ e.1 = .int .i64 j
  | [], i, e, h => by simp [keptE] at h
  | x :: r, i, e, h => by
    simp only [keptE] at h
    have rest : e ∈ keptE n (i + 1) r → ∃ j : Nat, i ≤ j ∧ j < i + (x :: r).length ∧ e.1 = .int .i64 j := fun h => by
      obtain ⟨j, h1, h2, h3⟩ := keptE_key n r (i + 1) e h
      exact ⟨j, by omega, by simp; omega, h3⟩
    split at h
    · exact rest h
    · rcases List.mem_cons.1 h with rfl | h
      · exact ⟨i, Nat.le_refl _, by simp, rfl⟩
      · exact rest h
theorem keptE_none (n : List UInt8) (k : Nat) : ∀ (a : List (List UInt8 × List UInt8)) (i : Nat), k < i → findKeyD (.int .i64 k) (keptE n i a) = some none
  | [], i, _ => rfl
  | x :: r, i, h => by
    simp only [keptE]
    split
    · exact keptE_none n k r (i + 1) (by omega)
    · unfold findKeyD
      have : ((k : Int) == (i : Int)) = false := by simp; omega
      simp only [eqCell, if_true, this]
      exact keptE_none n k r (i + 1) (by omega)
theorem keptE_find (n : List UInt8) : ∀ (a : List (List UInt8 × List UInt8)) (i j : Nat) (h : j < a.length), findKeyD (.int .i64 ((i + j : Nat) : Int)) (keptE n i a) = some (if a[j].1 = n then none else some (.agg (varC a[j])))
  | x :: r, i, 0, _ => by
    simp only [keptE, Nat.add_zero, List.getElem_cons_zero]
    split
    · rw [keptE_none n i r (i + 1) (by omega)]
    · unfold findKeyD
      simp [eqCell]
  | x :: r, i, j + 1, h => by
    have ih := keptE_find n r (i + 1) j (by simpa using h)
    have he : i + 1 + j = i + (j + 1) := by omega
    rw [he] at ih
    simp only [keptE, List.getElem_cons_succ]
    split
    · exact ih
    · unfold findKeyD
      have : (((i + (j + 1) : Nat) : Int) == (i : Int)) = false := by simp; omega
      simp only [eqCell, if_true, this]
      exact ih
end Go.Proofs.YthikbenglkfioaaDoor
