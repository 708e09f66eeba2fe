/- Tokens, the reference: the token with which a text begins; the walk. No condition. -/
import Derived.Test.YtoiokobokencdaaDoorLh
set_option linter.unusedVariables false
set_option linter.unusedSimpArgs false
set_option linter.unusedSectionVars false
namespace Go.Proofs.YtoiokobokencdaaDoor
open Go Go.VM
set_option maxRecDepth 100000
set_option maxHeartbeats 8000000
variable {G : GT}
theorem tw_all (p : UInt8 → Bool) {s : List UInt8} {i : Nat} (hi : i ≤ s.length) (h : ∀ b ∈ s.take i, p b = true) : i ≤ (s.takeWhile p).length := by
  have e : s = s.take i ++ s.drop i := (List.take_append_drop i s).symm
  rw [e, List.takeWhile_append_of_pos h, List.length_append, List.length_take]
  omega
def kind5 (c : UInt8) : Int := if smU c then 1 else if caU c then 2 else if dgU c then 3 else 4
def first5 (c : UInt8) (r : List UInt8) : List D := [.int .i64 (kind5 c), .str (firstT numL (c :: r)).2.1, .int .i64 (firstT numL (c :: r)).2.2.1, .int .i64 0]
theorem ent_r5_first : VM.Enters Tryd.prog 20 := VM.Enters.mk Tryd.func20 rfl
theorem r5_first_cs (c : UInt8) (r : List UInt8) (hl : (c :: r).length ≤ 900000000) : CS Tryd.prog G 20 [.str (c :: r)] (.tup [.agg (first5 c r), .bool (firstT numL (c :: r)).2.2.2]) none := by
  have hfr : first5 c r = [.int .i64 (kind5 c), .str (firstT numL (c :: r)).2.1, .int .i64 (firstT numL (c :: r)).2.2.1, .int .i64 0] := rfl
  rw [hfr]
  obtain ⟨s, hs⟩ : ∃ s, c :: r = s := ⟨_, rfl⟩
  have h0 : 1 ≤ s.length := by rw [← hs]; simp
  have h0' : 0 < s.length := h0
  have t01 : s.take 1 = [c] := by rw [← hs]; rfl
  have hc0 : s[0] = c := by subst hs; rfl
  have hf : firstT numL s = if smU c then (1, s.takeWhile inU, 0, true) else if caU c then (2, s.takeWhile inU, 0, true)
    else if dgU c then (3, s.takeWhile dgU, (numL (s.takeWhile dgU)).1, (numL (s.takeWhile dgU)).2)
    else if signT s = [] then (0, [], 0, false) else (4, signT s, 0, true) := by subst hs; rfl
  rw [hs] at hl ⊢
  clear hs hfr
  refine CS.of_VK Tryd.func20 rfl Tryd.ntmps20 rfl ?_
  simp [h0', hc0]
  refine callK.mk ent_r5_small (r5_small_cs c) ?_
  by_cases h1 : smU c = true
  · have hp1 := in_sm h1
    simp [h1]
    refine SW.loopF (ι := { i : Nat // i ≤ s.length ∧ 1 ≤ i ∧ ∀ b ∈ s.take i, inU b = true }) (fun i => [(4, .d (.int .i64 i.1))]) (fun _ => [(2, .cells [.d (.int .i64 0), .d (.str []), .d (.int .i64 0), .d (.int .i64 0)])]) (fun _ => []) (fun i => s.length - i.1) ⟨1, h0, Nat.le_refl _, fun b hb => by rw [t01] at hb; simp at hb; rw [hb]; exact hp1⟩ (by simp) ?_
    rintro ⟨i, hi, hi1, hn⟩
    try simp only at hi hi1 hn
    have hle := tw_all inU hi hn
    by_cases hlt : i < s.length
    · have hw := wrap64s (show i < 9223372036854775807 by omega)
      simp [hlt]
      refine callK.mk ent_r5_inside (r5_inside_cs s[i]) ?_
      by_cases hin : inU s[i] = true
      · simp [hin]
        refine Again.mk ⟨i + 1, hlt, by omega, fun b hb => ?_⟩ (by simp [hw]) (by simp; omega)
        rw [List.take_succ_eq_append_getElem hlt] at hb
        rcases List.mem_append.1 hb with hb | hb
        · exact hn b hb
        · simp at hb; rw [hb]; exact hin
      · have hst := takeWhile_stop hlt hn (by simpa using hin)
        have htk : s.take i = s.takeWhile inU := by rw [← take_tw inU s, hst]
        simp [hin, h0', hc0]
        refine callK.mk ent_r5_small (r5_small_cs c) ?_
        simp [h1, hi, htk, hf, kind5]
    · have : i = s.length := by omega
      subst this
      rw [List.take_length] at hn
      have htk : s.takeWhile inU = s := takeWhile_all hn
      simp [h0', hc0]
      refine callK.mk ent_r5_small (r5_small_cs c) ?_
      simp [h1, htk, hf, kind5]
  simp [h1, h0', hc0]
  refine callK.mk ent_r5_capital (r5_capital_cs c) ?_
  by_cases h2 : caU c = true
  · have hp1 := in_ca h2
    simp [h2]
    refine SW.loopF (ι := { i : Nat // i ≤ s.length ∧ 1 ≤ i ∧ ∀ b ∈ s.take i, inU b = true }) (fun i => [(4, .d (.int .i64 i.1))]) (fun _ => [(2, .cells [.d (.int .i64 0), .d (.str []), .d (.int .i64 0), .d (.int .i64 0)])]) (fun _ => []) (fun i => s.length - i.1) ⟨1, h0, Nat.le_refl _, fun b hb => by rw [t01] at hb; simp at hb; rw [hb]; exact hp1⟩ (by simp) ?_
    rintro ⟨i, hi, hi1, hn⟩
    try simp only at hi hi1 hn
    have hle := tw_all inU hi hn
    by_cases hlt : i < s.length
    · have hw := wrap64s (show i < 9223372036854775807 by omega)
      simp [hlt]
      refine callK.mk ent_r5_inside (r5_inside_cs s[i]) ?_
      by_cases hin : inU s[i] = true
      · simp [hin]
        refine Again.mk ⟨i + 1, hlt, by omega, fun b hb => ?_⟩ (by simp [hw]) (by simp; omega)
        rw [List.take_succ_eq_append_getElem hlt] at hb
        rcases List.mem_append.1 hb with hb | hb
        · exact hn b hb
        · simp at hb; rw [hb]; exact hin
      · have hst := takeWhile_stop hlt hn (by simpa using hin)
        have htk : s.take i = s.takeWhile inU := by rw [← take_tw inU s, hst]
        simp [hin, h0', hc0]
        refine callK.mk ent_r5_small (r5_small_cs c) ?_
        simp [h1, h2, hi, htk, hf, kind5]
    · have : i = s.length := by omega
      subst this
      rw [List.take_length] at hn
      have htk : s.takeWhile inU = s := takeWhile_all hn
      simp [h0', hc0]
      refine callK.mk ent_r5_small (r5_small_cs c) ?_
      simp [h1, h2, htk, hf, kind5]
  simp [h2, h0', hc0]
  refine callK.mk ent_r5_digit (r5_digit_cs c) ?_
  by_cases h3 : dgU c = true
  · have hp1 := h3
    simp [h3]
    refine SW.loopF (ι := { i : Nat // i ≤ s.length ∧ 1 ≤ i ∧ ∀ b ∈ s.take i, dgU b = true }) (fun i => [(4, .d (.int .i64 i.1))]) (fun _ => [(2, .cells [.d (.int .i64 0), .d (.str []), .d (.int .i64 0), .d (.int .i64 0)])]) (fun _ => []) (fun i => s.length - i.1) ⟨1, h0, Nat.le_refl _, fun b hb => by rw [t01] at hb; simp at hb; rw [hb]; exact hp1⟩ (by simp) ?_
    rintro ⟨i, hi, hi1, hn⟩
    try simp only at hi hi1 hn
    have hle := tw_all dgU hi hn
    have hdig : ∀ b ∈ s.takeWhile dgU, isDg b = true := fun b hb => by rw [← dg_isDg]; exact tw_mem hb
    have hdl := tw_le dgU s
    by_cases hlt : i < s.length
    · have hw := wrap64s (show i < 9223372036854775807 by omega)
      simp [hlt]
      refine callK.mk ent_r5_digit (r5_digit_cs s[i]) ?_
      by_cases hin : dgU s[i] = true
      · simp [hin]
        refine Again.mk ⟨i + 1, hlt, by omega, fun b hb => ?_⟩ (by simp [hw]) (by simp; omega)
        rw [List.take_succ_eq_append_getElem hlt] at hb
        rcases List.mem_append.1 hb with hb | hb
        · exact hn b hb
        · simp at hb; rw [hb]; exact hin
      · have hst := takeWhile_stop hlt hn (by simpa using hin)
        have htk : s.take i = s.takeWhile dgU := by rw [← take_tw dgU s, hst]
        simp [hin, hi, htk]
        refine callK.mk ent_r5_value (r5_value_cs (s.takeWhile dgU) hdig (by omega)) ?_
        simp [h1, h2, h3, hi, htk, hf, kind5]
    · have : i = s.length := by omega
      subst this
      rw [List.take_length] at hn
      have htk : s.takeWhile dgU = s := takeWhile_all hn
      simp
      refine callK.mk ent_r5_value (r5_value_cs s (fun b hb => by rw [← dg_isDg]; exact hn b hb) hl) ?_
      simp [h1, h2, h3, htk, hf, kind5]
  simp [h3]
  refine callK.mk ent_r5_sign (r5_sign_cs s hl) ?_
  by_cases h4 : signT s = []
  · simp [h1, h2, h3, h4, hf, kind5]
  · simp [h1, h2, h3, h4, hf, kind5]
end Go.Proofs.YtoiokobokencdaaDoor
