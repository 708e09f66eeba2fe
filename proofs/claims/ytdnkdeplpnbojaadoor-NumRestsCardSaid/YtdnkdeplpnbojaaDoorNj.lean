/- The statement NumRests. No condition. -/
import Derived.Test.YtdnkdeplpnbojaaDoorNm
import Derived.Test.YtdnkdeplpnbojaaDoorNg
set_option linter.unusedVariables false
set_option linter.unusedSimpArgs false
set_option linter.unusedSectionVars false
namespace Go.Proofs.YtdnkdeplpnbojaaDoor
open Go Go.VM
set_option maxRecDepth 100000
set_option maxHeartbeats 8000000
theorem l1_NumRests_cs (a b : Int) : CS Tryd.prog G0 5 [.int .i64 a, .int .i64 b] (.d (.bool true)) none := by
  refine CS.of_VK Tryd.func5 rfl Tryd.ntmps5 rfl ?_
  simp
  refine callK.mk ent_m_Div (m_Div_cs _ _) ?_
  simp
  refine callK.mk ent_m_Mod (m_Mod_cs _ _) ?_
  cases hd : dOk a b
  · simp [divZ, modZ, hd]
    refine callK.mk ent_m_In (m_In_cs _) ?_
    cases ha : inB a
    · simp
      refine callK.mk ent_l1_alive (l1_alive_cs ) ?_
      simp
    simp
    refine callK.mk ent_m_In (m_In_cs _) ?_
    cases hb : inB b
    · simp
      refine callK.mk ent_l1_alive (l1_alive_cs ) ?_
      simp
    have hz : b = 0 := by simpa [dOk, ha, hb] using hd
    simp [hz]
    refine callK.mk ent_l1_alive (l1_alive_cs ) ?_
    simp
  · have hz : ¬ b = 0 := by simp [dOk] at hd; exact hd.2
    have ha : inB a = true := by simp [dOk] at hd; exact hd.1.1
    have hb : inB b = true := by simp [dOk] at hd; exact hd.1.2
    have h1 := inB_iff.1 ha
    have h2 := inB_iff.1 hb
    obtain ⟨q, r, e1, e2, e3, e4, e5, e6, e7⟩ := tm_parts a b hz
    have hm : b * quoZ a b + remZ a b = a := by
      unfold quoZ remZ
      rw [e1, e2]
      split
      · rw [Int.mul_sub, Int.mul_one]; omega
      · omega
    have hr : (remZ a b).natAbs < b.natAbs ∧ (remZ a b = 0 ∨ (remZ a b < 0 ↔ b < 0)) := by
      unfold remZ
      rw [e2]
      split
      · rename_i h
        simp [adjB] at h
        omega
      · rename_i h
        simp [adjB] at h
        omega
    obtain ⟨hr1, hr2⟩ := hr
    have w1 : IntKind.i64.wrap (b * quoZ a b) = b * quoZ a b := wrap64 (by omega)
    have w2 : IntKind.i64.wrap (b * quoZ a b + remZ a b) = a := by rw [hm]; exact wrap64 (by omega)
    simp [divZ, modZ, hd, w1, w2]
    by_cases g1 : remZ a b = 0
    · by_cases g2 : 0 < b
      · simp [g1, g2]
        refine callK.mk ent_l1_alive (l1_alive_cs ) ?_
        simp
      · have g3 : b < 0 := by omega
        simp [g1, g2, g3]
        refine callK.mk ent_l1_alive (l1_alive_cs ) ?_
        simp
    · by_cases g2 : 0 < b
      · have g3 : ¬ b < 0 := by omega
        have g4 : ¬ remZ a b < 0 := by omega
        have g5 : remZ a b < b := by omega
        simp [g1, g2, g3, g4, g5]
        refine callK.mk ent_l1_alive (l1_alive_cs ) ?_
        simp
      · have g3 : b < 0 := by omega
        have g4 : remZ a b < 0 := by omega
        have g5 : b < remZ a b := by omega
        simp [g1, g2, g3, g4, g5]
        refine callK.mk ent_l1_alive (l1_alive_cs ) ?_
        simp
theorem numRests_all (xs : List D) (h : FitsAll Tryd.prog [3, 3] xs) : CS Tryd.prog G0 5 xs (.d (.bool true)) none := by
  match xs, h with
  | [x, y], ⟨h1, h2, _⟩ =>
    obtain ⟨a, rfl, ha⟩ := fit_int h1
    obtain ⟨b, rfl, hb⟩ := fit_int h2
    exact l1_NumRests_cs a b
end Go.Proofs.YtdnkdeplpnbojaaDoor
