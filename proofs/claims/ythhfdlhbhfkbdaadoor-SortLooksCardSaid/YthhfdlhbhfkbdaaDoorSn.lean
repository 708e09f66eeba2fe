/- The statements' own bounds: short, light. No condition. -/
import Derived.Test.YthhfdlhbhfkbdaaDoorSm
import Derived.Test.YthhfdlhbhfkbdaaDoorSnY
set_option linter.unusedVariables false
set_option linter.unusedSimpArgs false
set_option linter.unusedSectionVars false
namespace Go.Proofs.YthhfdlhbhfkbdaaDoor
open Go Go.VM
set_option maxRecDepth 100000
set_option maxHeartbeats 4000000
variable {G : GT}
def shortX (x : List UInt8 × List UInt8) : Bool := decide (x.1.length ≤ 300) && decide (x.2.length ≤ 300)
def shortV (l : List (List UInt8 × List UInt8)) : Bool := l.all shortX
theorem ent_l6_short : Enters Tryd.prog 29 := Enters.mk Tryd.func29 rfl
theorem l6_short_cs (l : List (List UInt8 × List UInt8)) (hl : l.length ≤ 1000000) : CS Tryd.prog G 29 [.sl (varsC l)] (.d (.bool (shortV l))) none := by
  refine CS.of_VK Tryd.func29 rfl Tryd.ntmps29 rfl ?_
  simp
  refine SW.loopF (ι := { i : Nat // i ≤ l.length ∧ shortV l = (l.drop i).all shortX }) (fun i => [(3, .d (.int .i64 i.1))]) (fun _ => []) (fun _ => []) (fun i => l.length - i.1) ⟨0, by simp [shortV]⟩ (by simp) ?_
  rintro ⟨i, hi, he⟩
  by_cases hlt : i < l.length
  · have hw := wrap64s (show i < 9223372036854775807 by omega)
    by_cases h1 : 300 < l[i].1.length
    · simp [hlt, h1]
      rw [all_stop he hlt (by simp [shortX]; omega)]
    · by_cases h2 : 300 < l[i].2.length
      · simp [hlt, h1, h2]
        rw [all_stop he hlt (by simp [shortX]; omega)]
      · simp [hlt, h1, h2]
        exact Again.mk ⟨i + 1, hlt, all_step he hlt (by simp [shortX]; omega)⟩ (by simp [hw]) (by simp; omega)
  · simp [hlt]
    rw [all_end he hlt]
def shortH (h : HoleL) : Bool := decide (h.name.length ≤ 300) && decide (h.params.length ≤ 26) && shortV h.params
def lightB (v : EnvL) : Bool := decide (v.vars.length ≤ 26) && decide (v.syms.length ≤ 66) && decide (v.holes.length ≤ 42) && shortV v.vars && v.syms.all shortY && v.holes.all shortH
theorem ent_l6_light : Enters Tryd.prog 16 := Enters.mk Tryd.func16 rfl
theorem l6_light_cs (v : EnvL) : CS Tryd.prog G 16 [.agg (envC v)] (.d (.bool (lightB v))) none := by
  obtain ⟨vs, ss, hs⟩ := v
  refine CS.of_VK Tryd.func16 rfl Tryd.ntmps16 rfl ?_
  by_cases h1 : 26 < vs.length
  · have : ¬ vs.length ≤ 26 := by omega
    simp [envC, h1, lightB, this]
  by_cases h2 : 66 < ss.length
  · have : ¬ ss.length ≤ 66 := by omega
    simp [envC, h1, h2, lightB, this]
  by_cases h3 : 42 < hs.length
  · have : ¬ hs.length ≤ 42 := by omega
    simp [envC, h1, h2, h3, lightB, this]
  have a1 : vs.length ≤ 26 := by omega
  have a2 : ss.length ≤ 66 := by omega
  have a3 : hs.length ≤ 42 := by omega
  simp [envC, h1, h2, h3]
  refine callK.mk ent_l6_short (l6_short_cs vs (by omega)) ?_
  cases h4 : shortV vs
  · simp [lightB, h4]
  simp
  have hE : lightB ⟨vs, ss, hs⟩ = (ss.all shortY && hs.all shortH) := by simp [lightB, a1, a2, a3, h4]
  refine SW.loopF (ι := { i : Nat // i ≤ ss.length ∧ ss.all shortY = (ss.drop i).all shortY }) (fun i => [(3, .d (.int .i64 i.1))]) (fun _ => [(1, .cells [.sl (varsC vs), .sl (symsC ss), .sl (holesC hs)])]) (fun _ => []) (fun i => ss.length - i.1) ⟨0, by simp⟩ (by simp) ?_
  rintro ⟨i, hi, he⟩
  by_cases hlt : i < ss.length
  · have hw := wrap64s (show i < 9223372036854775807 by omega)
    simp [hlt]
    refine callK.mk ent_l6_shortSym (l6_shortSym_cs ss[i]) ?_
    cases h5 : shortY ss[i]
    · simp
      rw [hE, all_stop he hlt h5]
      rfl
    · simp
      exact Again.mk ⟨i + 1, hlt, all_step he hlt h5⟩ (by simp [hw]) (by simp; omega)
  · simp [hlt]
    have hss := all_end he hlt
    refine SW.loopF (ι := { i : Nat // i ≤ hs.length ∧ hs.all shortH = (hs.drop i).all shortH }) (fun i => [(4, .d (.int .i64 i.1))]) (fun _ => [(1, .cells [.sl (varsC vs), .sl (symsC ss), .sl (holesC hs)])]) (fun _ => []) (fun i => hs.length - i.1) ⟨0, by simp⟩ (by simp) ?_
    rintro ⟨i, hi, he⟩
    by_cases hlt : i < hs.length
    · have hw := wrap64s (show i < 9223372036854775807 by omega)
      by_cases h6 : 300 < hs[i].name.length
      · simp [hlt, h6]
        rw [hE, all_stop he hlt (by simp [shortH]; omega)]
        simp
      by_cases h7 : 26 < hs[i].params.length
      · simp [hlt, h6, h7]
        rw [hE, all_stop he hlt (by simp [shortH]; omega)]
        simp
      simp [hlt, h6, h7]
      refine callK.mk ent_l6_short (l6_short_cs hs[i].params (by omega)) ?_
      have b1 : hs[i].name.length ≤ 300 := by omega
      have b2 : hs[i].params.length ≤ 26 := by omega
      cases h8 : shortV hs[i].params
      · simp
        rw [hE, all_stop he hlt (by simp [shortH, h8])]
        simp
      · simp
        exact Again.mk ⟨i + 1, hlt, all_step he hlt (by simp [shortH, h8, b1, b2])⟩ (by simp [hw]) (by simp; omega)
    · simp [hlt]
      rw [hE, hss, all_end he hlt]
      rfl
end Go.Proofs.YthhfdlhbhfkbdaaDoor
