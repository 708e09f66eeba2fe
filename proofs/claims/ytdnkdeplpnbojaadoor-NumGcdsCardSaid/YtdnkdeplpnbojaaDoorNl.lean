/- The statement NumGcds. No condition. -/
import Derived.Test.YtdnkdeplpnbojaaDoorNm
import Derived.Test.YtdnkdeplpnbojaaDoorNg
set_option linter.unusedVariables false
set_option linter.unusedSimpArgs false
set_option linter.unusedSectionVars false
namespace Go.Proofs.YtdnkdeplpnbojaaDoor
open Go Go.VM
set_option maxRecDepth 100000
set_option maxHeartbeats 8000000
theorem gcd_facts {a b : Int} (ha : -1099511627776 ≤ a ∧ a ≤ 1099511627776) (hb : -1099511627776 ≤ b ∧ b ≤ 1099511627776) (h0 : ¬ (a = 0 ∧ b = 0)) : 1 ≤ gcdZ a b ∧ a.tmod (gcdZ a b) = 0 ∧ b.tmod (gcdZ a b) = 0 ∧ gcdZ b a = gcdZ a b ∧ ∀ d : Int, a.tmod d = 0 → b.tmod d = 0 → (gcdZ a b).tmod d = 0 := by
  have ea : (absZ a).natAbs = a.natAbs := by unfold absZ; rw [if_neg (by omega)]; rfl
  have eb : (absZ b).natAbs = b.natAbs := by unfold absZ; rw [if_neg (by omega)]; rfl
  have hg : gcdZ a b = ((Nat.gcd a.natAbs b.natAbs : Nat) : Int) := by unfold gcdZ; rw [ea, eb]
  have hg' : gcdZ b a = ((Nat.gcd b.natAbs a.natAbs : Nat) : Int) := by unfold gcdZ; rw [ea, eb]
  rw [hg, hg']
  refine ⟨?_, ?_, ?_, ?_, fun d h1 h2 => ?_⟩
  · have : 0 < Nat.gcd a.natAbs b.natAbs := by
      rcases Nat.eq_zero_or_pos a.natAbs with h | h
      · rw [h, Nat.gcd_zero_left]; omega
      · exact Nat.gcd_pos_of_pos_left _ h
    omega
  · exact Int.tmod_eq_zero_of_dvd (Int.natAbs_dvd_natAbs.1 (by rw [Int.natAbs_natCast]; exact Nat.gcd_dvd_left _ _))
  · exact Int.tmod_eq_zero_of_dvd (Int.natAbs_dvd_natAbs.1 (by rw [Int.natAbs_natCast]; exact Nat.gcd_dvd_right _ _))
  · rw [Nat.gcd_comm]
  · refine Int.tmod_eq_zero_of_dvd (Int.natAbs_dvd_natAbs.1 ?_)
    rw [Int.natAbs_natCast]
    exact Nat.dvd_gcd (Int.natAbs_dvd_natAbs.2 (Int.dvd_of_tmod_eq_zero h1)) (Int.natAbs_dvd_natAbs.2 (Int.dvd_of_tmod_eq_zero h2))
theorem l1_NumGcds_cs (a b d : Int) : CS Tryd.prog G0 6 [.int .i64 a, .int .i64 b, .int .i64 d] (.d (.bool true)) none := by
  refine CS.of_VK Tryd.func6 rfl Tryd.ntmps6 rfl ?_
  by_cases g1 : a < -1099511627776
  · simp [g1]
    refine callK.mk ent_l1_alive (l1_alive_cs ) ?_
    simp
  by_cases g2 : 1099511627776 < a
  · simp [g1, g2]
    refine callK.mk ent_l1_alive (l1_alive_cs ) ?_
    simp
  by_cases g3 : b < -1099511627776
  · simp [g1, g2, g3]
    refine callK.mk ent_l1_alive (l1_alive_cs ) ?_
    simp
  by_cases g4 : 1099511627776 < b
  · simp [g1, g2, g3, g4]
    refine callK.mk ent_l1_alive (l1_alive_cs ) ?_
    simp
  by_cases g5 : a = 0 ∧ b = 0
  · obtain ⟨g5, g6⟩ := g5
    subst g5 g6
    simp
    refine callK.mk ent_l1_alive (l1_alive_cs ) ?_
    simp
  by_cases g6 : d < 1
  · by_cases g7 : a = 0
    · have g8 : ¬ b = 0 := fun e => g5 ⟨g7, e⟩
      subst g7
      simp [g3, g4, g8, g6]
      refine callK.mk ent_l1_alive (l1_alive_cs ) ?_
      simp
    · simp [g1, g2, g3, g4, g7, g6]
      refine callK.mk ent_l1_alive (l1_alive_cs ) ?_
      simp
  obtain ⟨f1, f2, f3, f4, f5⟩ := gcd_facts (a := a) (b := b) ⟨by omega, by omega⟩ ⟨by omega, by omega⟩ g5
  have f0 : ¬ gcdZ a b < 1 := by omega
  have fz : ¬ gcdZ a b = 0 := by omega
  have fd : ¬ d = 0 := by omega
  have hIa : I64 a := ⟨by omega, by omega⟩
  have hIb : I64 b := ⟨by omega, by omega⟩
  by_cases g7 : a = 0
  · have g8 : ¬ b = 0 := fun e => g5 ⟨g7, e⟩
    have g7' := eq_true g7
    simp [g1, g2, g3, g4, g7', g8, g6]
    refine callK.mk ent_m_Gcd (m_Gcd_cs _ _ hIa hIb) ?_
    simp [f0, fz, f2, f3]
    refine callK.mk ent_m_Gcd (m_Gcd_cs _ _ hIb hIa) ?_
    simp [f4, fd]
    by_cases t1 : a.tmod d = 0
    · by_cases t2 : b.tmod d = 0
      · have t3 := f5 d t1 t2
        simp [t1, t2, t3, fd]
        refine callK.mk ent_l1_alive (l1_alive_cs ) ?_
        simp
      · simp [t1, t2, fd]
        refine callK.mk ent_l1_alive (l1_alive_cs ) ?_
        simp
    · simp [t1, fd]
      refine callK.mk ent_l1_alive (l1_alive_cs ) ?_
      simp
  simp [g1, g2, g3, g4, g7, g6]
  refine callK.mk ent_m_Gcd (m_Gcd_cs _ _ hIa hIb) ?_
  simp [f0, fz, f2, f3]
  refine callK.mk ent_m_Gcd (m_Gcd_cs _ _ hIb hIa) ?_
  simp [f4, fd]
  by_cases t1 : a.tmod d = 0
  · by_cases t2 : b.tmod d = 0
    · have t3 := f5 d t1 t2
      simp [t1, t2, t3, fd]
      refine callK.mk ent_l1_alive (l1_alive_cs ) ?_
      simp
    · simp [t1, t2, fd]
      refine callK.mk ent_l1_alive (l1_alive_cs ) ?_
      simp
  · simp [t1, fd]
    refine callK.mk ent_l1_alive (l1_alive_cs ) ?_
    simp
theorem numGcds_all (xs : List D) (h : FitsAll Tryd.prog [3, 3, 3] xs) : CS Tryd.prog G0 6 xs (.d (.bool true)) none := by
  match xs, h with
  | [x, y, z], ⟨h1, h2, h3, _⟩ =>
    obtain ⟨a, rfl, ha⟩ := fit_int h1
    obtain ⟨b, rfl, hb⟩ := fit_int h2
    obtain ⟨c, rfl, hc⟩ := fit_int h3
    exact l1_NumGcds_cs a b c
end Go.Proofs.YtdnkdeplpnbojaaDoor
