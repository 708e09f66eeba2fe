/- Numbers: the reference's product; what comes in. No condition. -/
import Derived.Test.YtdnkdeplpnbojaaDoorNb
import Derived.Test.YtdnkdeplpnbojaaDoorFit
set_option linter.unusedVariables false
set_option linter.unusedSimpArgs false
set_option linter.unusedSectionVars false
namespace Go.Proofs.YtdnkdeplpnbojaaDoor
open Go Go.VM
set_option maxRecDepth 100000
set_option maxHeartbeats 8000000
variable {G : GT}
theorem fit_int {d : D} (h : FitsV Tryd.prog 3 d) : ∃ n, d = .int .i64 n ∧ I64 n := by
  obtain ⟨n, rfl, hn⟩ := fitsV_int tu3 h
  refine ⟨n, rfl, ?_⟩
  simp [Lit.wf] at hn
  unfold I64
  simpa [IntKind.min, IntKind.max, IntKind.bits, IntKind.signed] using hn
theorem r1_Mul_cs (a b : Int) : CS Tryd.prog G 31 [.int .i64 a, .int .i64 b] (.tup [.int .i64 (mulZ a b).1, .bool (mulZ a b).2]) none := by
  refine CS.of_VK Tryd.func31 rfl Tryd.ntmps31 rfl ?_
  simp
  refine callK.mk ent_r1_In (r1_In_cs _) ?_
  cases ha : inB a
  · simp [mulZ, chk, ha]
  simp
  refine callK.mk ent_r1_In (r1_In_cs _) ?_
  cases hb : inB b
  · simp [mulZ, chk, ha, hb]
  have h1 := inB_iff.1 ha
  have h2 := inB_iff.1 hb
  by_cases z1 : a = 0
  · subst z1
    simp [mulZ, chk, ha, hb]
  by_cases z2 : b = 0
  · subst z2
    simp [z1, mulZ, chk, ha, hb]
  simp [z1, z2]
  have hfit : (1000000000000 : Int).tdiv (b.natAbs : Int) < (a.natAbs : Int) ↔ inB (a * b) = false := by rw [Int.mul_comm]; exact mul_fit hb ha z2 z1
  have wa : IntKind.i64.wrap (-a) = -a := wrap64 (by omega)
  have wb : IntKind.i64.wrap (-b) = -b := wrap64 (by omega)
  by_cases na : a < 0 <;> by_cases nb : b < 0 <;> simp [-Int.tdiv_neg, na, nb, wa, wb, z2]
  · have ea : -a = (a.natAbs : Int) := by omega
    have eb : -b = (b.natAbs : Int) := by omega
    have hq : IntKind.i64.wrap ((1000000000000 : Int).tdiv (-b)) = (1000000000000 : Int).tdiv (-b) := by
      rw [eb]
      refine wrap64 ?_
      have e1 : (1000000000000 : Int).tdiv (b.natAbs : Int) = ((1000000000000 / b.natAbs : Nat) : Int) := rfl
      rw [e1]
      have := Nat.div_le_self 1000000000000 b.natAbs
      generalize 1000000000000 / b.natAbs = q at *
      omega
    by_cases hf : (1000000000000 : Int).tdiv (-b) < -a
    · have hf' : inB (a * b) = false := hfit.1 (by rw [← ea, ← eb]; exact hf)
      simp [-Int.tdiv_neg, hq, hf, hf', mulZ, chk, ha, hb]
    · have hf' : inB (a * b) = true := by
        cases h : inB (a * b)
        · exact absurd (by rw [ea, eb]; exact hfit.2 h) hf
        · rfl
      have h3 := inB_iff.1 hf'
      have w0 := wrap64 (show -9223372036854775808 ≤ a * b ∧ a * b ≤ 9223372036854775807 by omega)
      simp [-Int.tdiv_neg, hq, hf, hf', w0, mulZ, chk, ha, hb]
  · have ea : -a = (a.natAbs : Int) := by omega
    have eb : b = (b.natAbs : Int) := by omega
    have hq : IntKind.i64.wrap ((1000000000000 : Int).tdiv (b)) = (1000000000000 : Int).tdiv (b) := by
      rw [eb]
      refine wrap64 ?_
      have e1 : (1000000000000 : Int).tdiv (b.natAbs : Int) = ((1000000000000 / b.natAbs : Nat) : Int) := rfl
      rw [e1]
      have := Nat.div_le_self 1000000000000 b.natAbs
      generalize 1000000000000 / b.natAbs = q at *
      omega
    by_cases hf : (1000000000000 : Int).tdiv (b) < -a
    · have hf' : inB (a * b) = false := hfit.1 (by rw [← ea, ← eb]; exact hf)
      simp [-Int.tdiv_neg, hq, hf, hf', mulZ, chk, ha, hb]
    · have hf' : inB (a * b) = true := by
        cases h : inB (a * b)
        · exact absurd (by rw [ea, eb]; exact hfit.2 h) hf
        · rfl
      have h3 := inB_iff.1 hf'
      have w0 := wrap64 (show -9223372036854775808 ≤ a * b ∧ a * b ≤ 9223372036854775807 by omega)
      simp [-Int.tdiv_neg, hq, hf, hf', w0, mulZ, chk, ha, hb]
  · have ea : a = (a.natAbs : Int) := by omega
    have eb : -b = (b.natAbs : Int) := by omega
    have hq : IntKind.i64.wrap ((1000000000000 : Int).tdiv (-b)) = (1000000000000 : Int).tdiv (-b) := by
      rw [eb]
      refine wrap64 ?_
      have e1 : (1000000000000 : Int).tdiv (b.natAbs : Int) = ((1000000000000 / b.natAbs : Nat) : Int) := rfl
      rw [e1]
      have := Nat.div_le_self 1000000000000 b.natAbs
      generalize 1000000000000 / b.natAbs = q at *
      omega
    by_cases hf : (1000000000000 : Int).tdiv (-b) < a
    · have hf' : inB (a * b) = false := hfit.1 (by rw [← ea, ← eb]; exact hf)
      simp [-Int.tdiv_neg, hq, hf, hf', mulZ, chk, ha, hb]
    · have hf' : inB (a * b) = true := by
        cases h : inB (a * b)
        · exact absurd (by rw [ea, eb]; exact hfit.2 h) hf
        · rfl
      have h3 := inB_iff.1 hf'
      have w0 := wrap64 (show -9223372036854775808 ≤ a * b ∧ a * b ≤ 9223372036854775807 by omega)
      simp [-Int.tdiv_neg, hq, hf, hf', w0, mulZ, chk, ha, hb]
  · have ea : a = (a.natAbs : Int) := by omega
    have eb : b = (b.natAbs : Int) := by omega
    have hq : IntKind.i64.wrap ((1000000000000 : Int).tdiv (b)) = (1000000000000 : Int).tdiv (b) := by
      rw [eb]
      refine wrap64 ?_
      have e1 : (1000000000000 : Int).tdiv (b.natAbs : Int) = ((1000000000000 / b.natAbs : Nat) : Int) := rfl
      rw [e1]
      have := Nat.div_le_self 1000000000000 b.natAbs
      generalize 1000000000000 / b.natAbs = q at *
      omega
    by_cases hf : (1000000000000 : Int).tdiv (b) < a
    · have hf' : inB (a * b) = false := hfit.1 (by rw [← ea, ← eb]; exact hf)
      simp [-Int.tdiv_neg, hq, hf, hf', mulZ, chk, ha, hb]
    · have hf' : inB (a * b) = true := by
        cases h : inB (a * b)
        · exact absurd (by rw [ea, eb]; exact hfit.2 h) hf
        · rfl
      have h3 := inB_iff.1 hf'
      have w0 := wrap64 (show -9223372036854775808 ≤ a * b ∧ a * b ≤ 9223372036854775807 by omega)
      simp [-Int.tdiv_neg, hq, hf, hf', w0, mulZ, chk, ha, hb]
end Go.Proofs.YtdnkdeplpnbojaaDoor
