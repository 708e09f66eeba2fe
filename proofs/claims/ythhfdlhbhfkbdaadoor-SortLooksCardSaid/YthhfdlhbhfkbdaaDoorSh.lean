/- Environments: variables. No condition. -/
import Derived.Test.YthhfdlhbhfkbdaaDoorSg
set_option linter.unusedVariables false
set_option linter.unusedSimpArgs false
set_option linter.unusedSectionVars false
namespace Go.Proofs.YthhfdlhbhfkbdaaDoor
open Go Go.VM
set_option maxRecDepth 100000
set_option maxHeartbeats 4000000
variable {G : GT}
/-- A set of names, as a map's entries. -/
def seenE (l : List (List UInt8)) : List (D × D) := l.map fun s => (.str s, .bool true)
theorem seenE_find (s : List UInt8) : ∀ l, findKeyD (.str s) (seenE l) = some (if s ∈ l then some (.bool true) else none)
  | [] => rfl
  | k :: r => by
    have ih := seenE_find s r
    simp only [seenE, List.map_cons] at ih ⊢
    unfold findKeyD
    by_cases h : s = k
    · simp [eqCell, h]
    · simp [eqCell, h, ih]
theorem seenE_set (s : List UInt8) : ∀ l, ¬ s ∈ l → setKeyD (.str s) (.bool true) (seenE l) = some (seenE (l ++ [s]))
  | [], _ => rfl
  | k :: r, h => by
    have ih := seenE_set s r (fun h' => h (.tail _ h'))
    have hk : ¬ s = k := fun h' => h (h' ▸ .head _)
    simp only [seenE, List.map_cons, List.cons_append] at ih ⊢
    unfold setKeyD
    simp [eqCell, hk, ih]
attribute [simp] seenE_find
/-- The cells of a variable. -/
def varC (x : List UInt8 × List UInt8) : List D := [.str x.1, .str x.2]
def varsC (l : List (List UInt8 × List UInt8)) : List (List D) := l.map varC
theorem varsC_len (l : List (List UInt8 × List UInt8)) : (varsC l).length = l.length := by simp [varsC]
theorem varsC_getE {l : List (List UInt8 × List UInt8)} {i : Nat} (h : i < (varsC l).length) : (varsC l)[i] = [.str (l[i]'(by rw [← varsC_len l]; exact h)).1, .str (l[i]'(by rw [← varsC_len l]; exact h)).2] := by simp [varsC, varC]
attribute [simp] varsC_len varsC_getE
/-- A name of a variable. -/
def vnB (n : List UInt8) : Bool := decide (n = [118]) || coreB n
def varsGo (seen : List (List UInt8)) : List (List UInt8 × List UInt8) → Int
  | [] => 0
  | x :: r => if vnB x.1 = false then 3 else if x.1 ∈ seen then 4 else if sortB x.2 = false then 11 else varsGo (seen ++ [x.1]) r
def varsE (l : List (List UInt8 × List UInt8)) : Int := if 24 < l.length then 7 else varsGo [] l
theorem varsGo_step {seen : List (List UInt8)} {l : List (List UInt8 × List UInt8)} {i : Nat} (h : i < l.length) :
    varsGo seen (l.drop i) = if vnB l[i].1 = false then 3 else if l[i].1 ∈ seen then 4 else if sortB l[i].2 = false then 11 else varsGo (seen ++ [l[i].1]) (l.drop (i + 1)) := by
  rw [List.drop_eq_getElem_cons h]
  rfl
theorem ent_s_vars : Enters Tryd.prog 36 := Enters.mk Tryd.func36 rfl
theorem s_vars_cs (hG : G 0 = some kwCells) (l : List (List UInt8 × List UInt8)) : CS Tryd.prog G 36 [.sl (varsC l)] (.d (.int .i64 (varsE l))) none := by
  refine CS.of_VK Tryd.func36 rfl Tryd.ntmps36 rfl ?_
  by_cases hl : 24 < l.length
  · simp [hl, varsE]
  simp [hl]
  have hE : varsE l = varsGo [] l := by simp [varsE, hl]
  refine SW.loopF (ι := { x : Nat × List (List UInt8) // x.1 ≤ l.length ∧ varsE l = varsGo x.2 (l.drop x.1) }) (fun x => [(13, .d (.int .i64 x.1.1))]) (fun x => [(10, .map (seenE x.1.2))]) (fun _ => []) (fun x => l.length - x.1.1) ⟨(0, []), by simp, by simpa using hE⟩ (by simp [seenE]) ?_
  rintro ⟨⟨i, seen⟩, hi, he⟩
  simp only at hi he
  by_cases hlt : i < l.length
  · have hw := wrap64s (show i < 9223372036854775807 by omega)
    rw [varsGo_step hlt] at he
    obtain ⟨n, so, hx⟩ : ∃ n so, l[i] = (n, so) := ⟨_, _, rfl⟩
    rw [hx] at he
    simp only at he
    by_cases hv : n = [118]
    rotate_left
    simp [hlt, hx, hv]
    refine callK.mk ent_n_Core (n_Core_cs hG _) ?_
    cases hc : coreB n
    · simp [errName, he, vnB, hv, hc]
    simp [errName]
    have hvn : vnB n = true := by simp [vnB, hc]
    rotate_left
    have hvn : vnB n = true := by simp [vnB, hv]
    subst hv
    simp [hlt, hx]
    all_goals
      simp only [hvn, Bool.true_eq_false, if_false] at he
    by_cases hm : [118] ∈ seen
    · simp [hm]
      simp [he, hm]
    · simp [hm, seenE_set]
      refine callK.mk ent_s_Check (s_Check_cs hG _) ?_
      cases g1 : sortB so
      · simp [sortE, g1, he, hm]
      · simp [sortE, g1]
        exact Again.mk ⟨(i + 1, seen ++ [[118]]), hlt, by simpa [hm, g1] using he⟩ (by simp [hw]) (by simp; omega)
    by_cases hm : n ∈ seen
    · simp [hm]
      simp [he, hm]
    · simp [hm, seenE_set]
      refine callK.mk ent_s_Check (s_Check_cs hG _) ?_
      cases g1 : sortB so
      · simp [sortE, g1, he, hm]
      · simp [sortE, g1]
        exact Again.mk ⟨(i + 1, seen ++ [n]), hlt, by simpa [hm, g1] using he⟩ (by simp [hw]) (by simp; omega)
  · simp [hlt]
    rw [he, List.drop_of_length_le (by omega)]
    rfl
end Go.Proofs.YthhfdlhbhfkbdaaDoor
