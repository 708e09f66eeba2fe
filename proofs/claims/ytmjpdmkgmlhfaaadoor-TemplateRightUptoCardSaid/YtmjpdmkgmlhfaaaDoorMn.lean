/- Template: Scope. No condition. -/
import Derived.Test.YtmjpdmkgmlhfaaaDoorMm
set_option linter.unusedVariables false
set_option linter.unusedSimpArgs false
set_option linter.unusedSectionVars false
namespace Go.Proofs.YtmjpdmkgmlhfaaaDoor
open Go Go.VM
set_option maxRecDepth 100000
set_option maxHeartbeats 8000000
variable {G : GT}
theorem ent_template_Scope : VM.Enters Tryd.prog 17 := VM.Enters.mk Tryd.func17 rfl
theorem t_Scope_cs (hG : G 0 = some kwCells) (l : List Vr) (hl : l.length ≤ 1000000) : CS Tryd.prog G 17 [.sl (l.map vrC)] (.d (.sl ((scopN l).map vrC))) none := by
  refine CS.of_VK Tryd.func17 rfl Tryd.ntmps17 rfl ?_
  simp
  refine SW.loopF (ι := { x : Nat × List Vr // x.1 ≤ l.length ∧ x.2.length ≤ x.1 ∧ keepV l = x.2 ++ keepV (l.drop x.1) }) (fun x => [(3, .d (.sl (x.1.2.map vrC))), (10, .d (.int .i64 x.1.1))]) (fun _ => []) (fun _ => [(76, [.t 3])]) (fun x => l.length - x.1.1) ⟨(0, []), by simp⟩ (by simp) ?_
  rintro ⟨⟨i, out⟩, hi, hol, hk⟩
  simp only at hi hol hk
  by_cases hlt : i < l.length
  · have hg := vrs_get hlt
    have hw := wrap64s (show i < 9223372036854775807 by omega)
    have hkd := keepV_drop hlt
    have hcf := conF_ch (G := G) scope1_eq l[i] (l.drop (i + 1)) (by simp; omega)
    have hi1 : i + 1 ≤ l.length := hlt
    simp [hlt, hg, hw, hi1]
    refine callHK.mk ent_conF hcf [(100000, 5)] (by simp [xH]) (by simp; rw [List.take_of_length_le (by simp)]) (by simp [xH]) (by simp; rfl) (by simp) ?_
    simp [xH]
    refine callK.mk ent_template_known (t_known_cs hG _) ?_
    cases hkn : knB l[i].2
    · rw [hkn] at hkd
      simp only [Bool.and_false, Bool.false_eq_true, if_false] at hkd
      simp
      exact Again.mk ⟨(i + 1, out), by omega, by simp; omega, by simp only; rw [hk, hkd]⟩ (by simp [hw]) (by simp; omega)
    · cases hlb : laterB l[i].1 (l.drop (i + 1))
      · rw [hkn, hlb] at hkd
        simp only [Bool.not_false, Bool.and_true, if_true] at hkd
        simp
        refine stepK_len (by omega) ?_
        simp
        exact Again.mk ⟨(i + 1, out ++ [l[i]]), by omega, by simp; omega, by simp only; rw [hk, hkd]; simp⟩ (by simp [hw]) (by simp; omega)
      · rw [hkn, hlb] at hkd
        simp only [Bool.not_true, Bool.false_and, Bool.false_eq_true, if_false] at hkd
        simp
        exact Again.mk ⟨(i + 1, out), by omega, by simp; omega, by simp only; rw [hk, hkd]⟩ (by simp [hw]) (by simp; omega)
  · have hie : i = l.length := by omega
    subst hie
    have hke : keepV l = out := by rw [hk]; simp [keepV]
    have hsc : scopN l = out.drop (out.length - 23) := by rw [scopN, hke]
    rw [hsc]
    simp
    have hw1 : IntKind.i64.wrap ((out.length : Int) - 23) = (out.length : Int) - 23 := wrap64 (by omega)
    by_cases h23 : 23 < out.length
    · have h0 : (0 : Int) < (out.length : Int) - 23 := by omega
      have hw2 : IntKind.i64.wrap ((out.length : Int) - 23) = ((out.length - 23 : Nat) : Int) := by rw [hw1]; omega
      have h2 : 0 < out.length - 23 := by omega
      simp [hw2, h2, h23]
      rw [List.take_of_length_le (by simp)]
      exact (WkLL_refl _).mpr trivial
    · have h0 : ¬ (0 : Int) < (out.length : Int) - 23 := by omega
      have h1 : out.length - 23 = 0 := by omega
      simp [hw1, h0, h1, h23]
end Go.Proofs.YtmjpdmkgmlhfaaaDoor
