/- Environments: symbols and holes, and the reference's lists. No condition. -/
import Derived.Test.YthhfdlhbhfkbdaaDoorSh
set_option linter.unusedVariables false
set_option linter.unusedSimpArgs false
set_option linter.unusedSectionVars false
namespace Go.Proofs.YthhfdlhbhfkbdaaDoor
open Go Go.VM
set_option maxRecDepth 100000
set_option maxHeartbeats 4000000
variable {G : GT}
theorem ent_r6_known : Enters Tryd.prog 58 := Enters.mk Tryd.func58 rfl
theorem r6_known_cs (l : List (List UInt8)) (s : List UInt8) (hl : l.length ≤ 1000000) : CS Tryd.prog G 58 [.sl (strs l), .str s] (.d (.bool (decide (s ∈ l)))) none := by
  refine CS.of_VK Tryd.func58 rfl Tryd.ntmps58 rfl ?_
  simp
  refine SW.loopF (ι := { i : Nat // i ≤ l.length ∧ decide (s ∈ l) = (l.drop i).any fun k => decide (k = s) }) (fun i => [(5, .d (.int .i64 i.1))]) (fun _ => []) (fun _ => []) (fun i => l.length - i.1) ⟨0, by simp [List.any_eq]⟩ (by simp) ?_
  rintro ⟨i, hi, he⟩
  by_cases hlt : i < l.length
  · have hw := wrap64s (show i < 9223372036854775807 by omega)
    by_cases hk : l[i] = s
    · simp [hlt, hk]
      simpa using any_stop he hlt (by simp [hk])
    · simp [hlt, hk]
      exact Again.mk ⟨i + 1, hlt, any_step he hlt (by simp [hk])⟩ (by simp [hw]) (by simp; omega)
  · simp [hlt]
    simpa using any_end he hlt
theorem ent_r6_vars : Enters Tryd.prog 39 := Enters.mk Tryd.func39 rfl
theorem r6_vars_cs (l : List (List UInt8 × List UInt8)) : CS Tryd.prog G 39 [.sl (varsC l)] (.d (.int .i64 (varsE l))) none := by
  refine CS.of_VK Tryd.func39 rfl Tryd.ntmps39 rfl ?_
  by_cases hl : 24 < l.length
  · simp [hl, varsE]
  simp [hl]
  have hE : varsE l = varsGo [] l := by simp [varsE, hl]
  refine SW.loopF (ι := { x : Nat × List (List UInt8) // x.1 ≤ l.length ∧ x.2.length ≤ x.1 ∧ varsE l = varsGo x.2 (l.drop x.1) }) (fun x => [(3, .d (.sl (strs x.1.2))), (4, .d (.int .i64 x.1.1))]) (fun _ => []) (fun _ => [(9, [.t 3])]) (fun x => l.length - x.1.1) ⟨(0, []), by simp, by simp, by simpa using hE⟩ (by simp [strs]) ?_
  rintro ⟨⟨i, seen⟩, hi, hsl, he⟩
  simp only at hi he hsl
  by_cases hlt : i < l.length
  · have hw := wrap64s (show i < 9223372036854775807 by omega)
    rw [varsGo_step hlt] at he
    obtain ⟨n, so, hx⟩ : ∃ n so, l[i] = (n, so) := ⟨_, _, rfl⟩
    rw [hx] at he
    simp only at he
    have hsz : (seen.length + 1) * 17 ≤ 140737488355328 := by omega
    by_cases hv : n = [118]
    rotate_left
    simp [hlt, hx, hv]
    refine callK.mk ent_r4_Core (r4_Core_cs _) ?_
    cases hc : coreB n
    · simp [errName, he, vnB, hv, hc]
    simp [hlt, hx, errName]
    have hvn : vnB n = true := by simp [vnB, hc]
    rotate_left
    have hvn : vnB n = true := by simp [vnB, hv]
    simp [hlt, hx, hv]
    rw [← hv]
    all_goals
      simp only [hvn, Bool.true_eq_false, if_false] at he
      refine callK.mk ent_r6_known (r6_known_cs seen n (by omega)) ?_
      by_cases hm : n ∈ seen
      · simp [hm]
        simp [he, hm]
      · simp [hlt, hx, hm, hsz]
        refine callK.mk ent_r6_Check (r6_Check_cs _) ?_
        cases g1 : sortB so
        · simp [sortE, g1, he, hm]
        · simp [sortE, g1]
          exact Again.mk ⟨(i + 1, seen ++ [n]), hlt, by simp; omega, by simpa [hm, g1] using he⟩ (by simp [hw]) (by simp; omega)
  · simp [hlt]
    rw [he, List.drop_of_length_le (by omega)]
    rfl
def symsC (l : List SymL) : List (List D) := l.map symC
theorem symsC_len (l : List SymL) : (symsC l).length = l.length := by simp [symsC]
theorem symsC_getE {l : List SymL} {i : Nat} (h : i < (symsC l).length) : (symsC l)[i] = [.str (l[i]'(by rw [← symsC_len l]; exact h)).name, .sl (strs (l[i]'(by rw [← symsC_len l]; exact h)).args), .str (l[i]'(by rw [← symsC_len l]; exact h)).res] := by simp [symsC, symC]
attribute [simp] symsC_len symsC_getE
def symsGo (seen : List (List UInt8)) : List SymL → Int
  | [] => 0
  | y :: r => if symE y = 0 then (if y.name ∈ seen then 4 else symsGo (seen ++ [y.name]) r) else symE y
def symsE (l : List SymL) : Int := if 64 < l.length then 7 else symsGo [] l
theorem symsGo_step {seen : List (List UInt8)} {l : List SymL} {i : Nat} (h : i < l.length) :
    symsGo seen (l.drop i) = if symE l[i] = 0 then (if l[i].name ∈ seen then 4 else symsGo (seen ++ [l[i].name]) (l.drop (i + 1))) else symE l[i] := by
  rw [List.drop_eq_getElem_cons h]
  rfl
theorem ent_s_syms : Enters Tryd.prog 37 := Enters.mk Tryd.func37 rfl
theorem s_syms_cs (hG : G 0 = some kwCells) (l : List SymL) : CS Tryd.prog G 37 [.sl (symsC l)] (.d (.int .i64 (symsE l))) none := by
  refine CS.of_VK Tryd.func37 rfl Tryd.ntmps37 rfl ?_
  by_cases hl : 64 < l.length
  · simp [hl, symsE]
  simp [hl]
  have hE : symsE l = symsGo [] l := by simp [symsE, hl]
  refine SW.loopF (ι := { x : Nat × List (List UInt8) // x.1 ≤ l.length ∧ symsE l = symsGo x.2 (l.drop x.1) }) (fun x => [(13, .d (.int .i64 x.1.1))]) (fun x => [(10, .map (seenE x.1.2))]) (fun _ => []) (fun x => l.length - x.1.1) ⟨(0, []), by simp, by simpa using hE⟩ (by simp [seenE]) ?_
  rintro ⟨⟨i, seen⟩, hi, he⟩
  simp only at hi he
  by_cases hlt : i < l.length
  · have hw := wrap64s (show i < 9223372036854775807 by omega)
    rw [symsGo_step hlt] at he
    simp [hlt]
    refine callK.mk ent_s_Sym (s_Sym_cs hG l[i]) ?_
    by_cases h0 : symE l[i] = 0
    · simp [h0]
      by_cases hm : l[i].name ∈ seen
      · simp [hm]
        simp [he, h0, hm]
      · simp [hm, seenE_set]
        exact Again.mk ⟨(i + 1, seen ++ [l[i].name]), hlt, by simpa [hm, h0] using he⟩ (by simp [hw]) (by simp; omega)
    · simp [h0]
      simp [he, h0]
  · simp [hlt]
    rw [he, List.drop_of_length_le (by omega)]
    rfl
theorem ent_r6_syms : Enters Tryd.prog 40 := Enters.mk Tryd.func40 rfl
theorem r6_syms_cs (l : List SymL) : CS Tryd.prog G 40 [.sl (symsC l)] (.d (.int .i64 (symsE l))) none := by
  refine CS.of_VK Tryd.func40 rfl Tryd.ntmps40 rfl ?_
  by_cases hl : 64 < l.length
  · simp [hl, symsE]
  simp [hl]
  have hE : symsE l = symsGo [] l := by simp [symsE, hl]
  refine SW.loopF (ι := { x : Nat × List (List UInt8) // x.1 ≤ l.length ∧ x.2.length ≤ x.1 ∧ symsE l = symsGo x.2 (l.drop x.1) }) (fun x => [(3, .d (.sl (strs x.1.2))), (4, .d (.int .i64 x.1.1))]) (fun _ => []) (fun _ => [(9, [.t 3])]) (fun x => l.length - x.1.1) ⟨(0, []), by simp, by simp, by simpa using hE⟩ (by simp [strs]) ?_
  rintro ⟨⟨i, seen⟩, hi, hsl, he⟩
  simp only at hi he hsl
  by_cases hlt : i < l.length
  · have hw := wrap64s (show i < 9223372036854775807 by omega)
    have hsz : (seen.length + 1) * 17 ≤ 140737488355328 := by omega
    rw [symsGo_step hlt] at he
    simp [hlt]
    refine callK.mk ent_r6_Sym (r6_Sym_cs l[i]) ?_
    by_cases h0 : symE l[i] = 0
    · simp [h0, hlt]
      refine callK.mk ent_r6_known (r6_known_cs seen l[i].name (by omega)) ?_
      by_cases hm : l[i].name ∈ seen
      · simp [hm]
        simp [he, h0, hm]
      · simp [hlt, hm, hsz]
        exact Again.mk ⟨(i + 1, seen ++ [l[i].name]), hlt, by simp; omega, by simpa [hm, h0] using he⟩ (by simp [hw]) (by simp; omega)
    · simp [h0]
      simp [he, h0]
  · simp [hlt]
    rw [he, List.drop_of_length_le (by omega)]
    rfl
end Go.Proofs.YthhfdlhbhfkbdaaDoor
