/- Numbers: bounds, sums, differences, products. No condition. -/
import Derived.Test.YtdnkdeplpnbojaaDoorTy
import Derived.Test.YtdnkdeplpnbojaaDoorVmJ
set_option linter.unusedVariables false
set_option linter.unusedSimpArgs false
set_option linter.unusedSectionVars false
namespace Go.Proofs.YtdnkdeplpnbojaaDoor
open Go Go.VM
set_option maxRecDepth 100000
set_option maxHeartbeats 4000000
variable {G : GT}
/-- A number that an int holds. -/
def I64 (n : Int) : Prop := -9223372036854775808 ≤ n ∧ n ≤ 9223372036854775807
theorem wrap64 {n : Int} (h : -9223372036854775808 ≤ n ∧ n ≤ 9223372036854775807) : IntKind.i64.wrap n = n := by
  unfold IntKind.wrap
  simp [IntKind.bits, IntKind.signed]
  omega
theorem wrap64s {i : Nat} (h : i < 9223372036854775807) : IntKind.i64.wrap ((i : Int) + 1) = ((i + 1 : Nat) : Int) := by rw [wrap64 (by omega)]; simp
def inB (n : Int) : Bool := decide (-1000000000000 ≤ n) && decide (n ≤ 1000000000000)
theorem inB_iff {n : Int} : inB n = true ↔ -1000000000000 ≤ n ∧ n ≤ 1000000000000 := by simp [inB]
theorem ent_m_In : VM.Enters Tryd.prog 25 := VM.Enters.mk Tryd.func25 rfl
theorem ent_r1_In : VM.Enters Tryd.prog 32 := VM.Enters.mk Tryd.func32 rfl
theorem ent_m_checked : VM.Enters Tryd.prog 51 := VM.Enters.mk Tryd.func51 rfl
theorem ent_r1_result : VM.Enters Tryd.prog 53 := VM.Enters.mk Tryd.func53 rfl
theorem ent_m_abs : VM.Enters Tryd.prog 49 := VM.Enters.mk Tryd.func49 rfl
theorem m_In_cs (n : Int) : CS Tryd.prog G 25 [.int .i64 n] (.d (.bool (inB n))) none := by
  refine CS.of_VK Tryd.func25 rfl Tryd.ntmps25 rfl ?_
  by_cases h : -1000000000000 ≤ n <;> simp [inB, h]
theorem r1_In_cs (n : Int) : CS Tryd.prog G 32 [.int .i64 n] (.d (.bool (inB n))) none := by
  refine CS.of_VK Tryd.func32 rfl Tryd.ntmps32 rfl ?_
  by_cases h : -1000000000000 ≤ n <;> simp [inB, h]
/-- A number, if it is right and in bounds. -/
def chk (n : Int) (ok : Bool) : Int × Bool := if ok && inB n then (n, true) else (0, false)
theorem m_checked_cs (n : Int) (ok : Bool) : CS Tryd.prog G 51 [.int .i64 n, .bool ok] (.tup [.int .i64 (chk n ok).1, .bool (chk n ok).2]) none := by
  refine CS.of_VK Tryd.func51 rfl Tryd.ntmps51 rfl ?_
  cases ok
  · simp [chk]
  · simp
    refine callK.mk ent_m_In (m_In_cs _) ?_
    cases h : inB n <;> simp [chk, h]
theorem r1_result_cs (n : Int) (ok : Bool) : CS Tryd.prog G 53 [.int .i64 n, .bool ok] (.tup [.int .i64 (chk n ok).1, .bool (chk n ok).2]) none := by
  refine CS.of_VK Tryd.func53 rfl Tryd.ntmps53 rfl ?_
  cases ok
  · simp [chk]
  · simp
    refine callK.mk ent_r1_In (r1_In_cs _) ?_
    cases h : inB n <;> simp [chk, h]
def addZ (a b : Int) : Int × Bool := chk (a + b) (inB a && inB b)
def subZ (a b : Int) : Int × Bool := chk (a - b) (inB a && inB b)
def mulZ (a b : Int) : Int × Bool := chk (a * b) (inB a && inB b)
theorem ent_m_Add : VM.Enters Tryd.prog 26 := VM.Enters.mk Tryd.func26 rfl
theorem ent_m_Sub : VM.Enters Tryd.prog 28 := VM.Enters.mk Tryd.func28 rfl
theorem ent_m_Mul : VM.Enters Tryd.prog 30 := VM.Enters.mk Tryd.func30 rfl
theorem ent_r1_Add : VM.Enters Tryd.prog 27 := VM.Enters.mk Tryd.func27 rfl
theorem ent_r1_Sub : VM.Enters Tryd.prog 29 := VM.Enters.mk Tryd.func29 rfl
theorem ent_r1_Mul : VM.Enters Tryd.prog 31 := VM.Enters.mk Tryd.func31 rfl
theorem m_Add_cs (a b : Int) : CS Tryd.prog G 26 [.int .i64 a, .int .i64 b] (.tup [.int .i64 (addZ a b).1, .bool (addZ a b).2]) none := by
  refine CS.of_VK Tryd.func26 rfl Tryd.ntmps26 rfl ?_
  simp
  refine callK.mk ent_m_In (m_In_cs _) ?_
  cases ha : inB a
  · simp [addZ, chk, ha]
  simp
  refine callK.mk ent_m_In (m_In_cs _) ?_
  cases hb : inB b
  · simp [addZ, chk, ha, hb]
  have h1 := inB_iff.1 ha
  have h2 := inB_iff.1 hb
  simp [wrap64 (show -9223372036854775808 ≤ a + b ∧ a + b ≤ 9223372036854775807 by omega)]
  refine callK.mk ent_m_checked (m_checked_cs _ _) ?_
  simp [addZ, ha, hb]
theorem m_Sub_cs (a b : Int) : CS Tryd.prog G 28 [.int .i64 a, .int .i64 b] (.tup [.int .i64 (subZ a b).1, .bool (subZ a b).2]) none := by
  refine CS.of_VK Tryd.func28 rfl Tryd.ntmps28 rfl ?_
  simp
  refine callK.mk ent_m_In (m_In_cs _) ?_
  cases ha : inB a
  · simp [subZ, chk, ha]
  simp
  refine callK.mk ent_m_In (m_In_cs _) ?_
  cases hb : inB b
  · simp [subZ, chk, ha, hb]
  have h1 := inB_iff.1 ha
  have h2 := inB_iff.1 hb
  simp [wrap64 (show -9223372036854775808 ≤ a - b ∧ a - b ≤ 9223372036854775807 by omega)]
  refine callK.mk ent_m_checked (m_checked_cs _ _) ?_
  simp [subZ, ha, hb]
theorem r1_Add_cs (a b : Int) : CS Tryd.prog G 27 [.int .i64 a, .int .i64 b] (.tup [.int .i64 (addZ a b).1, .bool (addZ a b).2]) none := by
  refine CS.of_VK Tryd.func27 rfl Tryd.ntmps27 rfl ?_
  simp
  refine callK.mk ent_r1_In (r1_In_cs _) ?_
  cases ha : inB a
  · simp
    refine callK.mk ent_r1_result (r1_result_cs _ _) ?_
    simp [addZ, chk, ha]
  simp
  refine callK.mk ent_r1_In (r1_In_cs _) ?_
  cases hb : inB b
  · simp
    refine callK.mk ent_r1_result (r1_result_cs _ _) ?_
    simp [addZ, chk, ha, hb]
  have h1 := inB_iff.1 ha
  have h2 := inB_iff.1 hb
  simp [wrap64 (show -9223372036854775808 ≤ a + b ∧ a + b ≤ 9223372036854775807 by omega)]
  refine callK.mk ent_r1_result (r1_result_cs _ _) ?_
  simp [addZ, ha, hb]
theorem r1_Sub_cs (a b : Int) : CS Tryd.prog G 29 [.int .i64 a, .int .i64 b] (.tup [.int .i64 (subZ a b).1, .bool (subZ a b).2]) none := by
  refine CS.of_VK Tryd.func29 rfl Tryd.ntmps29 rfl ?_
  simp
  refine callK.mk ent_r1_In (r1_In_cs _) ?_
  cases ha : inB a
  · simp
    refine callK.mk ent_r1_result (r1_result_cs _ _) ?_
    simp [subZ, chk, ha]
  simp
  refine callK.mk ent_r1_In (r1_In_cs _) ?_
  cases hb : inB b
  · simp
    refine callK.mk ent_r1_result (r1_result_cs _ _) ?_
    simp [subZ, chk, ha, hb]
  have h1 := inB_iff.1 ha
  have h2 := inB_iff.1 hb
  simp [wrap64 (show -9223372036854775808 ≤ a - b ∧ a - b ≤ 9223372036854775807 by omega)]
  refine callK.mk ent_r1_result (r1_result_cs _ _) ?_
  simp [subZ, ha, hb]
/-- The absolute value; the least int counts as the greatest number. -/
def absZ (n : Int) : Int := if n = -9223372036854775808 then 1000000000000 else n.natAbs
theorem absZ_in {n : Int} (h : inB n = true) : absZ n = n.natAbs := by
  have := inB_iff.1 h
  unfold absZ
  rw [if_neg (by omega)]
theorem m_abs_cs (n : Int) (h : I64 n) : CS Tryd.prog G 49 [.int .i64 n] (.d (.int .i64 (absZ n))) none := by
  refine CS.of_VK Tryd.func49 rfl Tryd.ntmps49 rfl ?_
  unfold I64 at h
  by_cases h0 : 0 ≤ n
  · have : absZ n = n := by unfold absZ; rw [if_neg (by omega)]; omega
    simp [h0, this]
  · by_cases h1 : n = -9223372036854775808
    · subst h1
      have hw : IntKind.i64.wrap 9223372036854775808 = -9223372036854775808 := by decide
      simp [absZ, hw]
    · have hw : IntKind.i64.wrap (0 - n) = -n := by rw [wrap64 (by omega)]; omega
      have : absZ n = -n := by unfold absZ; rw [if_neg h1]; omega
      simp at hw
      have h2 : ¬ 0 < n := by omega
      simp [h0, hw, h2, this]
theorem mul_fit {a b : Int} (ha : inB a = true) (hb : inB b = true) (h0 : ¬ a = 0) (h1 : ¬ b = 0) :
    (1000000000000 : Int).tdiv (a.natAbs : Int) < (b.natAbs : Int) ↔ inB (a * b) = false := by
  have e1 : (1000000000000 : Int).tdiv (a.natAbs : Int) = ((1000000000000 / a.natAbs : Nat) : Int) := rfl
  rw [e1, Int.ofNat_lt, Nat.div_lt_iff_lt_mul (by omega), ← Nat.mul_comm, ← Int.natAbs_mul]
  have : inB (a * b) = false ↔ ¬ inB (a * b) = true := by simp
  rw [this, inB_iff]
  omega
theorem m_Mul_cs (a b : Int) : CS Tryd.prog G 30 [.int .i64 a, .int .i64 b] (.tup [.int .i64 (mulZ a b).1, .bool (mulZ a b).2]) none := by
  refine CS.of_VK Tryd.func30 rfl Tryd.ntmps30 rfl ?_
  simp
  refine callK.mk ent_m_In (m_In_cs _) ?_
  cases ha : inB a
  · simp [mulZ, chk, ha]
  simp
  refine callK.mk ent_m_In (m_In_cs _) ?_
  cases hb : inB b
  · simp [mulZ, chk, ha, hb]
  have h1 := inB_iff.1 ha
  have h2 := inB_iff.1 hb
  by_cases z1 : a = 0
  · subst z1
    simp [mulZ, chk, ha, hb]
  by_cases z2 : b = 0
  · subst z2
    simp [z1, mulZ, chk, ha, hb]
  simp [z1, z2]
  refine callK.mk ent_m_abs (m_abs_cs _ ⟨by omega, by omega⟩) ?_
  simp
  refine callK.mk ent_m_abs (m_abs_cs _ ⟨by omega, by omega⟩) ?_
  rw [absZ_in ha, absZ_in hb]
  have hz : ¬ (a.natAbs : Int) = 0 := by omega
  have hq : IntKind.i64.wrap ((1000000000000 : Int).tdiv (a.natAbs : Int)) = (1000000000000 : Int).tdiv (a.natAbs : Int) := by
    refine wrap64 ?_
    have e1 : (1000000000000 : Int).tdiv (a.natAbs : Int) = ((1000000000000 / a.natAbs : Nat) : Int) := rfl
    rw [e1]
    have := Nat.div_le_self 1000000000000 a.natAbs
    generalize 1000000000000 / a.natAbs = q at *
    omega
  have hfit := mul_fit ha hb z1 z2
  by_cases hf : (1000000000000 : Int).tdiv (a.natAbs : Int) < (b.natAbs : Int)
  · have hf' := hfit.1 hf
    simp [z1, hz, hq, hf, mulZ, chk, hf']
  · have hf' : inB (a * b) = true := by
      cases h : inB (a * b)
      · exact absurd (hfit.2 h) hf
      · rfl
    have h3 := inB_iff.1 hf'
    simp [z1, hz, hq, hf, wrap64 (show -9223372036854775808 ≤ a * b ∧ a * b ≤ 9223372036854775807 by omega)]
    refine callK.mk ent_m_checked (m_checked_cs _ _) ?_
    simp [mulZ, ha, hb]
end Go.Proofs.YtdnkdeplpnbojaaDoor
