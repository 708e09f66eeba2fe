/- Names: the reference's core names. No condition. -/
import Derived.Test.YthhfdlhbhfkbdaaDoorSe
set_option linter.unusedVariables false
set_option linter.unusedSimpArgs false
set_option linter.unusedSectionVars false
namespace Go.Proofs.YthhfdlhbhfkbdaaDoor
open Go Go.VM
set_option maxRecDepth 100000
set_option maxHeartbeats 4000000
variable {G : GT}
theorem ent_r4_Core : Enters Tryd.prog 33 := Enters.mk Tryd.func33 rfl
theorem r4_Core_cs (s : List UInt8) : CS Tryd.prog G 33 [.str s] (.d (.int .i64 (errName (coreB s)))) none := by
  refine CS.of_VK Tryd.func33 rfl Tryd.ntmps33 rfl ?_
  by_cases hl : 120 < s.length
  · have : ¬ s.length ≤ 120 := by omega
    simp [hl, coreB, this, errName]
  · have hl' : s.length ≤ 120 := by omega
    simp [hl]
    refine callK.mk ent_r4_parts (r4_parts_cs _ (by omega)) ?_
    have hplen : (partsL s).length ≤ s.length + 1 := partsL_len s
    cases hps : partsL s with
    | nil => exact absurd hps (partsL_ne s)
    | cons p ps =>
      rw [hps] at hplen
      have hcore : coreB s = ((nameB p || titleB p || (decide (p = [118]) && !ps.isEmpty)) && ps.all partB) := by simp [coreB, hl', hps]
      have hfail : (nameB p || titleB p || (decide (p = [118]) && !ps.isEmpty)) = false → coreB s = false := fun h => by rw [hcore, h]; rfl
      have hgo : (nameB p || titleB p || (decide (p = [118]) && !ps.isEmpty)) = true → coreB s = ps.all partB := fun h => by rw [hcore, h]; rfl
      have hs2 : strs (p :: ps) = [.str p] :: strs ps := rfl
      have hps' : ps.length ≤ 121 := by simp at hplen; omega
      simp [hs2]
      refine callK.mk ent_r4_Check (r4_Check_cs _) ?_
      cases h1 : nameB p
      rotate_left
      simp [errName]
      replace hgo := hgo (by simp [h1])
      rotate_left
      simp [errName]
      refine callK.mk ent_r4_Title (r4_Title_cs _) ?_
      cases h2 : titleB p
      rotate_left
      simp [errName]
      replace hgo := hgo (by simp [h1, h2])
      rotate_left 2
      by_cases h3 : p = [118]
      rotate_left
      · simp [h3, errName]
        rw [hfail (by rw [h1, h2]; simp [h3])]
      rotate_left 2
      rcases Nat.eq_zero_or_pos ps.length with h4 | h4
      · have h4' : ps = [] := List.eq_nil_of_length_eq_zero h4
        simp [h3, h4', errName]
        rw [hfail (by rw [h1, h2]; simp [h4'])]
      have h4' : ps.isEmpty = false := by cases ps <;> simp at *
      have h5 : ¬ ps = [] := by rintro rfl; simp at h4
      have h6 : ¬ ((ps.length : Int) + 1 = 1) := by omega
      simp [h3, h5, h6, errName]
      replace hgo := hgo (by rw [h1, h2]; simp [h3, h4'])
      all_goals
        refine SW.loopF (ι := { i : Nat // i ≤ ps.length ∧ coreB s = (ps.drop i).all partB }) (fun i => [(37, .d (.int .i64 i.1))]) (fun _ => []) (fun _ => []) (fun i => ps.length - i.1) ⟨0, by simp, by simpa using hgo⟩ (by simp [*]) ?_
        rintro ⟨i, hi, he⟩
        by_cases hlt : i < ps.length
        · have hw := wrap64s (show i < 9223372036854775807 by omega)
          simp [hlt]
          refine callK.mk ent_r4_part (r4_part_cs _) ?_
          cases g1 : partB ps[i]
          · simp
            rw [all_stop he hlt g1]
          · simp
            exact Again.mk ⟨i + 1, hlt, all_step he hlt g1⟩ (by simp [hw]) (by simp; omega)
        · simp [hlt]
          rw [all_end he hlt]
end Go.Proofs.YthhfdlhbhfkbdaaDoor
