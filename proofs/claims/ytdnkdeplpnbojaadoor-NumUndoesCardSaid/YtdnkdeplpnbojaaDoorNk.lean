/- The statement NumUndoes. No condition. -/
import Derived.Test.YtdnkdeplpnbojaaDoorNm
import Derived.Test.YtdnkdeplpnbojaaDoorNg
set_option linter.unusedVariables false
set_option linter.unusedSimpArgs false
set_option linter.unusedSectionVars false
namespace Go.Proofs.YtdnkdeplpnbojaaDoor
open Go Go.VM
set_option maxRecDepth 100000
set_option maxHeartbeats 8000000
theorem addZ_comm (a b : Int) : addZ b a = addZ a b := by unfold addZ; rw [Int.add_comm, Bool.and_comm]
theorem mulZ_comm (a b : Int) : mulZ b a = mulZ a b := by unfold mulZ; rw [Int.mul_comm, Bool.and_comm]
theorem chk_cases (n : Int) (ok : Bool) : chk n ok = (0, false) ∨ (chk n ok = (n, true) ∧ ok = true ∧ inB n = true) := by
  unfold chk
  cases ok <;> cases h : inB n <;> simp
theorem add_cases (a b : Int) : addZ a b = (0, false) ∨ (addZ a b = (a + b, true) ∧ subZ (a + b) b = (a, true)) := by
  rcases chk_cases (a + b) (inB a && inB b) with h | ⟨h1, h2, h3⟩
  · exact .inl h
  · simp only [Bool.and_eq_true] at h2
    exact .inr ⟨h1, by simp [subZ, chk, h2, h3, Int.add_sub_cancel]⟩
theorem mul_cases (a b : Int) : mulZ a b = (0, false) ∨ (mulZ a b = (a * b, true) ∧ (¬ b = 0 → divZ (a * b) b = (a, true))) := by
  rcases chk_cases (a * b) (inB a && inB b) with h | ⟨h1, h2, h3⟩
  · exact .inl h
  · simp only [Bool.and_eq_true] at h2
    refine .inr ⟨h1, fun hb => ?_⟩
    have e1 : (a * b).tmod b = 0 := Int.tmod_eq_zero_of_dvd ⟨a, Int.mul_comm _ _⟩
    simp [divZ, dOk, h2, h3, hb, quoZ, adjB, e1, Int.mul_tdiv_cancel a hb]
theorem l1_NumUndoes_cs (a b : Int) : CS Tryd.prog G0 8 [.int .i64 a, .int .i64 b] (.d (.bool true)) none := by
  refine CS.of_VK Tryd.func8 rfl Tryd.ntmps8 rfl ?_
  simp
  refine callK.mk ent_m_Add (m_Add_cs _ _) ?_
  simp
  refine callK.mk ent_m_Add (m_Add_cs _ _) ?_
  simp
  refine callK.mk ent_m_Mul (m_Mul_cs _ _) ?_
  simp
  refine callK.mk ent_m_Mul (m_Mul_cs _ _) ?_
  rcases add_cases a b with h1 | ⟨h1, h2⟩
  · rcases mul_cases a b with h3 | ⟨h3, h4⟩
    · simp [addZ_comm a b, mulZ_comm a b, h1, h3]
      refine callK.mk ent_l1_alive (l1_alive_cs ) ?_
      simp
    · by_cases hb : b = 0
      · simp [addZ_comm a b, mulZ_comm a b, h1, h3, eq_true hb]
        refine callK.mk ent_l1_alive (l1_alive_cs ) ?_
        simp
      · simp [addZ_comm a b, mulZ_comm a b, h1, h3, hb]
        refine callK.mk ent_m_Div (m_Div_cs _ _) ?_
        simp [h4 hb]
        refine callK.mk ent_l1_alive (l1_alive_cs ) ?_
        simp
  · rcases mul_cases a b with h3 | ⟨h3, h4⟩
    · simp [addZ_comm a b, mulZ_comm a b, h1, h3]
      refine callK.mk ent_m_Sub (m_Sub_cs _ _) ?_
      simp [h2]
      refine callK.mk ent_l1_alive (l1_alive_cs ) ?_
      simp
    · by_cases hb : b = 0
      · simp [addZ_comm a b, mulZ_comm a b, h1, h3, eq_true hb]
        refine callK.mk ent_m_Sub (m_Sub_cs _ _) ?_
        simp [h2, eq_true hb]
        refine callK.mk ent_l1_alive (l1_alive_cs ) ?_
        simp
      · simp [addZ_comm a b, mulZ_comm a b, h1, h3, hb]
        refine callK.mk ent_m_Sub (m_Sub_cs _ _) ?_
        simp [h2, hb]
        refine callK.mk ent_m_Div (m_Div_cs _ _) ?_
        simp [h4 hb]
        refine callK.mk ent_l1_alive (l1_alive_cs ) ?_
        simp
theorem numUndoes_all (xs : List D) (h : FitsAll Tryd.prog [3, 3] xs) : CS Tryd.prog G0 8 xs (.d (.bool true)) none := by
  match xs, h with
  | [x, y], ⟨h1, h2, _⟩ =>
    obtain ⟨a, rfl, ha⟩ := fit_int h1
    obtain ⟨b, rfl, hb⟩ := fit_int h2
    exact l1_NumUndoes_cs a b
end Go.Proofs.YtdnkdeplpnbojaaDoor
