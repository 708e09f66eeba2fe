/- Numbers: quotients, rests, greatest common divisors. No condition. -/
import Derived.Test.YtdnkdeplpnbojaaDoorNa
set_option linter.unusedVariables false
set_option linter.unusedSimpArgs false
set_option linter.unusedSectionVars false
namespace Go.Proofs.YtdnkdeplpnbojaaDoor
open Go Go.VM
set_option maxRecDepth 100000
set_option maxHeartbeats 4000000
variable {G : GT}
theorem tm_parts (a b : Int) (hb : ¬ b = 0) : ∃ q r, a.tdiv b = q ∧ a.tmod b = r ∧ b * q + r = a ∧ r.natAbs < b.natAbs ∧ q.natAbs ≤ a.natAbs ∧ (0 ≤ a → 0 ≤ r) ∧ (a ≤ 0 → r ≤ 0) := by
  refine ⟨_, _, rfl, rfl, Int.mul_tdiv_add_tmod a b, ?_, ?_, Int.tmod_nonneg b, fun h => ?_⟩
  · rw [Int.natAbs_tmod]
    exact Nat.mod_lt _ (by omega)
  · rw [Int.natAbs_tdiv]
    exact Nat.div_le_self _ _
  · have := Int.tmod_nonneg (a := -a) b (by omega)
    rw [Int.neg_tmod] at this
    omega
def adjB (b r : Int) : Bool := decide (¬ r = 0) && (decide (r < 0) != decide (b < 0))
def quoZ (a b : Int) : Int := if adjB b (a.tmod b) then a.tdiv b - 1 else a.tdiv b
def remZ (a b : Int) : Int := if adjB b (a.tmod b) then a.tmod b + b else a.tmod b
def dOk (a b : Int) : Bool := inB a && inB b && !decide (b = 0)
def divZ (a b : Int) : Int × Bool := if dOk a b then (quoZ a b, true) else (0, false)
def modZ (a b : Int) : Int × Bool := if dOk a b then (remZ a b, true) else (0, false)
theorem ent_m_divide : VM.Enters Tryd.prog 48 := VM.Enters.mk Tryd.func48 rfl
theorem ent_m_Div : VM.Enters Tryd.prog 14 := VM.Enters.mk Tryd.func14 rfl
theorem ent_m_Mod : VM.Enters Tryd.prog 16 := VM.Enters.mk Tryd.func16 rfl
theorem ent_r1_Div : VM.Enters Tryd.prog 15 := VM.Enters.mk Tryd.func15 rfl
theorem ent_r1_Mod : VM.Enters Tryd.prog 17 := VM.Enters.mk Tryd.func17 rfl
theorem m_divide_cs (a b : Int) : CS Tryd.prog G 48 [.int .i64 a, .int .i64 b] (.tup [.int .i64 (divZ a b).1, .int .i64 (modZ a b).1, .bool (dOk a b)]) none := by
  refine CS.of_VK Tryd.func48 rfl Tryd.ntmps48 rfl ?_
  simp
  refine callK.mk ent_m_In (m_In_cs _) ?_
  cases ha : inB a
  · simp [divZ, modZ, dOk, ha]
  simp
  refine callK.mk ent_m_In (m_In_cs _) ?_
  cases hb : inB b
  · simp [divZ, modZ, dOk, ha, hb]
  have h1 := inB_iff.1 ha
  have h2 := inB_iff.1 hb
  by_cases hz : b = 0
  · subst hz
    simp [divZ, modZ, dOk]
  have hd : dOk a b = true := by simp [dOk, ha, hb, hz]
  obtain ⟨q, r, e1, e2, e3, e4, e5, e6, e7⟩ := tm_parts a b hz
  have w1 : IntKind.i64.wrap q = q := wrap64 (by omega)
  simp [hz]
  refine ⟨lexOk.mk (by kernel_rfl), ?_⟩
  simp [hz, e1, e2, w1]
  have w2 : IntKind.i64.wrap (q - 1) = q - 1 := wrap64 (by omega)
  have w3 : IntKind.i64.wrap (r + b) = r + b := wrap64 (by omega)
  by_cases g1 : r = 0
  · simp [g1, divZ, modZ, hd, quoZ, remZ, adjB, e1, e2]
  · by_cases g2 : r < 0 <;> by_cases g3 : b < 0 <;> simp [g1, g2, g3, w2, w3, divZ, modZ, hd, quoZ, remZ, adjB, e1, e2]
theorem m_Div_cs (a b : Int) : CS Tryd.prog G 14 [.int .i64 a, .int .i64 b] (.tup [.int .i64 (divZ a b).1, .bool (divZ a b).2]) none := by
  refine CS.of_VK Tryd.func14 rfl Tryd.ntmps14 rfl ?_
  simp
  refine callK.mk ent_m_divide (m_divide_cs a b) ?_
  cases h : dOk a b <;> simp [divZ, h]
theorem m_Mod_cs (a b : Int) : CS Tryd.prog G 16 [.int .i64 a, .int .i64 b] (.tup [.int .i64 (modZ a b).1, .bool (modZ a b).2]) none := by
  refine CS.of_VK Tryd.func16 rfl Tryd.ntmps16 rfl ?_
  simp
  refine callK.mk ent_m_divide (m_divide_cs a b) ?_
  cases h : dOk a b <;> simp [modZ, h]
theorem r1_Div_cs (a b : Int) : CS Tryd.prog G 15 [.int .i64 a, .int .i64 b] (.tup [.int .i64 (divZ a b).1, .bool (divZ a b).2]) none := by
  refine CS.of_VK Tryd.func15 rfl Tryd.ntmps15 rfl ?_
  simp
  refine callK.mk ent_r1_In (r1_In_cs _) ?_
  cases ha : inB a
  · simp [divZ, dOk, ha]
  simp
  refine callK.mk ent_r1_In (r1_In_cs _) ?_
  cases hb : inB b
  · simp [divZ, dOk, ha, hb]
  have h1 := inB_iff.1 ha
  have h2 := inB_iff.1 hb
  by_cases hz : b = 0
  · subst hz
    simp [divZ, dOk]
  have hd : dOk a b = true := by simp [dOk, ha, hb, hz]
  obtain ⟨q, r, e1, e2, e3, e4, e5, e6, e7⟩ := tm_parts a b hz
  have w1 : IntKind.i64.wrap q = q := wrap64 (by omega)
  have hp : q * b = b * q := Int.mul_comm _ _
  generalize hm : b * q = m at *
  have w4 : IntKind.i64.wrap m = m := wrap64 (by omega)
  have w2 : IntKind.i64.wrap (q - 1) = q - 1 := wrap64 (by omega)
  simp [hz, e1, w1, hp, w4]
  by_cases g1 : m = a
  · have : r = 0 := by omega
    simp [g1, divZ, hd, quoZ, adjB, e1, e2, this]
  · have g0 : ¬ r = 0 := by omega
    have g4 : r < 0 ↔ a < 0 := by omega
    by_cases g2 : a < 0 <;> by_cases g3 : b < 0 <;> simp [g1, g2, g3, w2, divZ, hd, quoZ, adjB, e1, e2, g0, g4]
theorem r1_Mod_cs (a b : Int) : CS Tryd.prog G 17 [.int .i64 a, .int .i64 b] (.tup [.int .i64 (modZ a b).1, .bool (modZ a b).2]) none := by
  refine CS.of_VK Tryd.func17 rfl Tryd.ntmps17 rfl ?_
  simp
  refine callK.mk ent_r1_Div (r1_Div_cs a b) ?_
  cases hd : dOk a b
  · simp [divZ, modZ, hd]
  simp [divZ, hd]
  have hz : ¬ b = 0 := by simp [dOk] at hd; exact hd.2
  have ha : inB a = true := by simp [dOk] at hd; exact hd.1.1
  have hb : inB b = true := by simp [dOk] at hd; exact hd.1.2
  have h1 := inB_iff.1 ha
  have h2 := inB_iff.1 hb
  obtain ⟨q, r, e1, e2, e3, e4, e5, e6, e7⟩ := tm_parts a b hz
  have hm : b * quoZ a b = a - remZ a b := by
    unfold quoZ remZ
    rw [e1, e2]
    split
    · rw [Int.mul_sub, Int.mul_one]; omega
    · omega
  have hr : (remZ a b).natAbs ≤ b.natAbs := by
    unfold remZ
    rw [e2]
    split
    · rename_i h
      simp [adjB] at h
      omega
    · omega
  have w1 : IntKind.i64.wrap (a - remZ a b) = a - remZ a b := wrap64 (by omega)
  have w2 : a - (a - remZ a b) = remZ a b := by omega
  have w3 : IntKind.i64.wrap (remZ a b) = remZ a b := wrap64 (by omega)
  simp [hm, w1, w2, w3, modZ, hd]
/-- The greatest common divisor. -/
def gcdZ (a b : Int) : Int := ((Nat.gcd (absZ a).natAbs (absZ b).natAbs : Nat) : Int)
theorem absZ_bound {n : Int} (h : I64 n) : 0 ≤ absZ n ∧ absZ n ≤ 9223372036854775807 := by
  unfold I64 at h
  unfold absZ
  split <;> omega
theorem ent_m_Gcd : VM.Enters Tryd.prog 18 := VM.Enters.mk Tryd.func18 rfl
theorem ent_r1_size : VM.Enters Tryd.prog 50 := VM.Enters.mk Tryd.func50 rfl
theorem ent_r1_Gcd : VM.Enters Tryd.prog 19 := VM.Enters.mk Tryd.func19 rfl
theorem m_Gcd_cs (a b : Int) (ha : I64 a) (hb : I64 b) : CS Tryd.prog G 18 [.int .i64 a, .int .i64 b] (.d (.int .i64 (gcdZ a b))) none := by
  refine CS.of_VK Tryd.func18 rfl Tryd.ntmps18 rfl ?_
  simp
  refine callK.mk ent_m_abs (m_abs_cs _ ha) ?_
  simp
  refine callK.mk ent_m_abs (m_abs_cs _ hb) ?_
  simp
  obtain ⟨x, hx⟩ : ∃ x : Nat, absZ a = x := ⟨(absZ a).toNat, by have := absZ_bound ha; omega⟩
  obtain ⟨y, hy⟩ : ∃ y : Nat, absZ b = y := ⟨(absZ b).toNat, by have := absZ_bound hb; omega⟩
  have bx := absZ_bound ha
  have hy' := absZ_bound hb
  have hg : gcdZ a b = (Nat.gcd x y : Nat) := by unfold gcdZ; rw [hx, hy]; rfl
  rw [hx, hy, hg]
  refine SW.loopF (ι := { p : Nat × Nat // Nat.gcd p.1 p.2 = Nat.gcd x y ∧ p.1 ≤ 9223372036854775807 ∧ p.2 ≤ 9223372036854775807 }) (fun p => [(0, .d (.int .i64 (p.1.1 : Int))), (1, .d (.int .i64 (p.1.2 : Int)))]) (fun _ => []) (fun _ => []) (fun p => p.1.2) ⟨(x, y), by simp; omega⟩ (by simp) ?_
  rintro ⟨⟨u, v⟩, h1, h2, h3⟩
  simp only at h1 h2 h3
  by_cases hv : v = 0
  · subst hv
    simp at h1
    simp [h1]
  · simp [hv]
    refine ⟨lexOk.mk (by kernel_rfl), ?_⟩
    have hlt : u % v < v := Nat.mod_lt _ (by omega)
    exact Again.mk ⟨(v, u % v), by rw [← h1, Nat.gcd_comm u v, Nat.gcd_rec v u, Nat.gcd_comm], by omega, by omega⟩ (by simp [show (u : Int).tmod (v : Int) = ((u % v : Nat) : Int) from rfl]) (by simpa using hlt)
theorem r1_size_cs (n : Int) (h : I64 n) : CS Tryd.prog G 50 [.int .i64 n] (.d (.int .i64 (absZ n))) none := by
  refine CS.of_VK Tryd.func50 rfl Tryd.ntmps50 rfl ?_
  unfold I64 at h
  by_cases h1 : n = -9223372036854775808
  · subst h1
    simp [absZ]
  · by_cases h0 : n < 0
    · have hw : IntKind.i64.wrap (-n) = -n := wrap64 (by omega)
      have : absZ n = -n := by unfold absZ; rw [if_neg h1]; omega
      simp [h1, h0, hw, this]
    · have : absZ n = n := by unfold absZ; rw [if_neg (by omega)]; omega
      simp [h1, h0, this]
theorem r1_Gcd_cs (a b : Int) (ha : I64 a) (hb : I64 b) : CS Tryd.prog G 19 [.int .i64 a, .int .i64 b] (.d (.int .i64 (gcdZ a b))) none := by
  refine CS.of_VK Tryd.func19 rfl Tryd.ntmps19 rfl ?_
  simp
  refine callK.mk ent_r1_size (r1_size_cs _ ha) ?_
  simp
  refine callK.mk ent_r1_size (r1_size_cs _ hb) ?_
  simp
  obtain ⟨x, hx⟩ : ∃ x : Nat, absZ a = x := ⟨(absZ a).toNat, by have := absZ_bound ha; omega⟩
  obtain ⟨y, hy⟩ : ∃ y : Nat, absZ b = y := ⟨(absZ b).toNat, by have := absZ_bound hb; omega⟩
  have bx := absZ_bound ha
  have hy' := absZ_bound hb
  have hg : gcdZ a b = (Nat.gcd x y : Nat) := by unfold gcdZ; rw [hx, hy]; rfl
  rw [hx, hy, hg]
  refine SW.loopF (ι := { p : Nat × Nat // Nat.gcd p.1 p.2 = Nat.gcd x y ∧ p.1 ≤ 9223372036854775807 ∧ p.2 ≤ 9223372036854775807 }) (fun p => [(0, .d (.int .i64 (p.1.1 : Int))), (1, .d (.int .i64 (p.1.2 : Int)))]) (fun _ => []) (fun _ => []) (fun p => p.1.2) ⟨(x, y), by simp; omega⟩ (by simp) ?_
  rintro ⟨⟨u, v⟩, h1, h2, h3⟩
  simp only at h1 h2 h3
  by_cases hv : v = 0
  · subst hv
    simp at h1
    simp [h1]
  · have hv0 : 0 < v := by omega
    simp [hv, hv0]
    have hlt : u % v < v := Nat.mod_lt _ (by omega)
    exact Again.mk ⟨(v, u % v), by rw [← h1, Nat.gcd_comm u v, Nat.gcd_rec v u, Nat.gcd_comm], by omega, by omega⟩ (by simp [show (u : Int).tmod (v : Int) = ((u % v : Nat) : Int) from rfl]) (by simpa using hlt)
end Go.Proofs.YtdnkdeplpnbojaaDoor
