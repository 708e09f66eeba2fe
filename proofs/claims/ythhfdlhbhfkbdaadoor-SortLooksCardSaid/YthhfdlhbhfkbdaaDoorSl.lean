/- Environments: equality, in the reference. No condition. -/
import Derived.Test.YthhfdlhbhfkbdaaDoorSk
set_option linter.unusedVariables false
set_option linter.unusedSimpArgs false
set_option linter.unusedSectionVars false
namespace Go.Proofs.YthhfdlhbhfkbdaaDoor
open Go Go.VM
set_option maxRecDepth 100000
set_option maxHeartbeats 4000000
variable {G : GT}
/-- Two lists of one length, compared place by place from i on. -/
theorem eq_step {α : Type} {a b : List α} {i : Nat} {p : Prop} (hl : a.length = b.length) (he : p = (a.drop i = b.drop i)) (h : i < a.length) (hb : i < b.length) : (a[i] = b[i] → p = (a.drop (i + 1) = b.drop (i + 1))) ∧ (¬ a[i] = b[i] → ¬ p) := by
  rw [List.drop_eq_getElem_cons h, List.drop_eq_getElem_cons hb] at he
  constructor
  · intro hx
    rw [he, hx]
    exact propext ⟨fun h => (List.cons.inj h).2, fun h => by rw [h]⟩
  · intro hx hp
    rw [he] at hp
    exact hx (List.cons.inj hp).1
theorem cast_eq_cast (n m : Nat) : ((n : Int) = (m : Int)) = (n = m) := propext Int.ofNat_inj
attribute [simp] cast_eq_cast
theorem eq_end {α : Type} {a b : List α} {i : Nat} {p : Prop} (hl : a.length = b.length) (he : p = (a.drop i = b.drop i)) (h : ¬ i < a.length) : p := by
  rw [he, List.drop_of_length_le (by omega), List.drop_of_length_le (by omega)]
theorem ent_r6_SameSorts : Enters Tryd.prog 44 := Enters.mk Tryd.func44 rfl
theorem r6_SameSorts_cs (a b : List (List UInt8)) (hl : a.length ≤ 1000000) : CS Tryd.prog G 44 [.sl (strs a), .sl (strs b)] (.d (.bool (decide (a = b)))) none := by
  refine CS.of_VK Tryd.func44 rfl Tryd.ntmps44 rfl ?_
  by_cases h1 : a.length = b.length
  · simp [h1]
    refine SW.loopF (ι := { i : Nat // i ≤ a.length ∧ (a = b) = (a.drop i = b.drop i) }) (fun i => [(5, .d (.int .i64 i.1))]) (fun _ => []) (fun _ => []) (fun i => a.length - i.1) ⟨0, by simp⟩ (by simp) ?_
    rintro ⟨i, hi, he⟩
    by_cases hlt : i < a.length
    · have hw := wrap64s (show i < 9223372036854775807 by omega)
      have hlb : i < b.length := by omega
      obtain ⟨h2, h3⟩ := eq_step h1 he hlt hlb
      by_cases hx : a[i] = b[i]
      · simp [hlt, hlb, hx]
        exact ⟨lexOk.mk (by kernel_rfl), Again.mk ⟨i + 1, hlt, h2 hx⟩ (by simp [hw]) (by simp; omega)⟩
      · simp [hlt, hlb, hx]
        exact ⟨lexOk.mk (by kernel_rfl), h3 hx⟩
    · have hlb : ¬ i < b.length := by omega
      simp [hlt, hlb]
      exact eq_end h1 he hlt
  · have : ¬ a = b := fun h => h1 (by rw [h])
    simp [h1, this]
theorem ent_r6_SameVars : Enters Tryd.prog 45 := Enters.mk Tryd.func45 rfl
theorem r6_SameVars_cs (a b : List (List UInt8 × List UInt8)) (hl : a.length ≤ 1000000) : CS Tryd.prog G 45 [.sl (varsC a), .sl (varsC b)] (.d (.bool (decide (a = b)))) none := by
  refine CS.of_VK Tryd.func45 rfl Tryd.ntmps45 rfl ?_
  by_cases h1 : a.length = b.length
  · simp [h1]
    refine SW.loopF (ι := { i : Nat // i ≤ a.length ∧ (a = b) = (a.drop i = b.drop i) }) (fun i => [(5, .d (.int .i64 i.1))]) (fun _ => []) (fun _ => []) (fun i => a.length - i.1) ⟨0, by simp⟩ (by simp) ?_
    rintro ⟨i, hi, he⟩
    by_cases hlt : i < a.length
    · have hw := wrap64s (show i < 9223372036854775807 by omega)
      have hlb : i < b.length := by omega
      obtain ⟨h2, h3⟩ := eq_step h1 he hlt hlb
      by_cases hx : a[i] = b[i]
      · simp [hlt, hlb, hx]
        exact ⟨lexOk.mk (by kernel_rfl), Again.mk ⟨i + 1, hlt, h2 hx⟩ (by simp [hw]) (by simp; omega)⟩
      · have hx' : ¬ (a[i].1 = b[i].1 ∧ a[i].2 = b[i].2) := fun h => hx (Prod.ext h.1 h.2)
        have hx2 : (!decide (a[i].1 = b[i].1) || !decide (a[i].2 = b[i].2)) = true := by
          by_cases q : a[i].1 = b[i].1
          · have : ¬ a[i].2 = b[i].2 := fun h => hx' ⟨q, h⟩
            simp [this]
          · simp [q]
        simp [hlt, hlb, hx2]
        exact ⟨lexOk.mk (by kernel_rfl), h3 hx⟩
    · have hlb : ¬ i < b.length := by omega
      simp [hlt, hlb]
      exact eq_end h1 he hlt
  · have : ¬ a = b := fun h => h1 (by rw [h])
    simp [h1, this]
theorem SymL.ext_iff (a b : SymL) : a = b ↔ a.name = b.name ∧ a.args = b.args ∧ a.res = b.res := by
  cases a; cases b; simp
theorem HoleL.ext_iff (a b : HoleL) : a = b ↔ a.name = b.name ∧ a.params = b.params := by
  cases a; cases b; simp
instance : DecidableEq SymL := fun a b => decidable_of_iff _ (SymL.ext_iff a b).symm
instance : DecidableEq HoleL := fun a b => decidable_of_iff _ (HoleL.ext_iff a b).symm
theorem ent_r6_SameSym : Enters Tryd.prog 25 := Enters.mk Tryd.func25 rfl
theorem r6_SameSym_cs (a b : SymL) (hl : a.args.length ≤ 1000000) : CS Tryd.prog G 25 [.agg (symC a), .agg (symC b)] (.d (.bool (decide (a = b)))) none := by
  obtain ⟨n1, a1, r1⟩ := a
  obtain ⟨n2, a2, r2⟩ := b
  simp only at hl
  refine CS.of_VK Tryd.func25 rfl Tryd.ntmps25 rfl ?_
  by_cases h1 : n1 = n2
  · simp [symC, h1]
    refine callK.mk ent_r6_SameSorts (r6_SameSorts_cs a1 a2 hl) ?_
    by_cases h2 : a1 = a2
    · simp [h2]
    · simp [h2]
  · simp [symC, h1]
theorem ent_r6_SameHole : Enters Tryd.prog 26 := Enters.mk Tryd.func26 rfl
theorem r6_SameHole_cs (a b : HoleL) (hl : a.params.length ≤ 1000000) : CS Tryd.prog G 26 [.agg (holeC a), .agg (holeC b)] (.d (.bool (decide (a = b)))) none := by
  obtain ⟨n1, a1⟩ := a
  obtain ⟨n2, a2⟩ := b
  simp only at hl
  refine CS.of_VK Tryd.func26 rfl Tryd.ntmps26 rfl ?_
  by_cases h1 : n1 = n2
  · simp [holeC, h1]
    refine callK.mk ent_r6_SameVars (r6_SameVars_cs a1 a2 hl) ?_
    simp
  · simp [holeC, h1]
theorem ent_r6_SameHoles : Enters Tryd.prog 46 := Enters.mk Tryd.func46 rfl
theorem r6_SameHoles_cs (a b : List HoleL) (hl : a.length ≤ 1000000) (ha : ∀ h ∈ a, h.params.length ≤ 1000000) : CS Tryd.prog G 46 [.sl (holesC a), .sl (holesC b)] (.d (.bool (decide (a = b)))) none := by
  refine CS.of_VK Tryd.func46 rfl Tryd.ntmps46 rfl ?_
  by_cases h1 : a.length = b.length
  · simp [h1]
    refine SW.loopF (ι := { i : Nat // i ≤ a.length ∧ (a = b) = (a.drop i = b.drop i) }) (fun i => [(5, .d (.int .i64 i.1))]) (fun _ => []) (fun _ => []) (fun i => a.length - i.1) ⟨0, by simp⟩ (by simp) ?_
    rintro ⟨i, hi, he⟩
    by_cases hlt : i < a.length
    · have hw := wrap64s (show i < 9223372036854775807 by omega)
      have hlb : i < b.length := by omega
      obtain ⟨h2, h3⟩ := eq_step h1 he hlt hlb
      simp [hlt, hlb]
      refine ⟨lexOk.mk (by kernel_rfl), ?_⟩
      refine callK.mk ent_r6_SameHole (r6_SameHole_cs a[i] b[i] (ha _ (List.getElem_mem hlt))) ?_
      by_cases hx : a[i] = b[i]
      · simp [hx]
        exact Again.mk ⟨i + 1, hlt, h2 hx⟩ (by simp [hw]) (by simp; omega)
      · simp [hx]
        exact h3 hx
    · have hlb : ¬ i < b.length := by omega
      simp [hlt, hlb]
      exact eq_end h1 he hlt
  · have : ¬ a = b := fun h => h1 (by rw [h])
    simp [h1, this]
end Go.Proofs.YthhfdlhbhfkbdaaDoor
