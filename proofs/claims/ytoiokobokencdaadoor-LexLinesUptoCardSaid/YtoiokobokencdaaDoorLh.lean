/- Tokens, the reference: value, sign; the walks. No condition. -/
import Derived.Test.YtoiokobokencdaaDoorLd
set_option linter.unusedVariables false
set_option linter.unusedSimpArgs false
set_option linter.unusedSectionVars false
namespace Go.Proofs.YtoiokobokencdaaDoor
open Go Go.VM
set_option maxRecDepth 100000
set_option maxHeartbeats 8000000
variable {G : GT}
theorem ent_r5_small : VM.Enters Tryd.prog 35 := VM.Enters.mk Tryd.func35 rfl
theorem ent_r5_capital : VM.Enters Tryd.prog 36 := VM.Enters.mk Tryd.func36 rfl
theorem ent_r5_digit : VM.Enters Tryd.prog 38 := VM.Enters.mk Tryd.func38 rfl
theorem ent_r5_inside : VM.Enters Tryd.prog 37 := VM.Enters.mk Tryd.func37 rfl
theorem r5_small_cs (c : UInt8) : CS Tryd.prog G 35 [.int .u8 c.toNat] (.d (.bool (smU c))) none := by
  refine CS.of_VK Tryd.func35 rfl Tryd.ntmps35 rfl ?_
  rw [← sm_u8]
  by_cases h : (97 : Int) ≤ c.toNat <;> simp [h, smI]
theorem r5_capital_cs (c : UInt8) : CS Tryd.prog G 36 [.int .u8 c.toNat] (.d (.bool (caU c))) none := by
  refine CS.of_VK Tryd.func36 rfl Tryd.ntmps36 rfl ?_
  rw [← ca_u8]
  by_cases h : (65 : Int) ≤ c.toNat <;> simp [h, caI]
theorem r5_digit_cs (c : UInt8) : CS Tryd.prog G 38 [.int .u8 c.toNat] (.d (.bool (dgU c))) none := by
  refine CS.of_VK Tryd.func38 rfl Tryd.ntmps38 rfl ?_
  rw [← dg_u8]
  by_cases h : (48 : Int) ≤ c.toNat <;> simp [h, dgI]
theorem r5_inside_cs (c : UInt8) : CS Tryd.prog G 37 [.int .u8 c.toNat] (.d (.bool (inU c))) none := by
  refine CS.of_VK Tryd.func37 rfl Tryd.ntmps37 rfl ?_
  simp
  refine callK.mk ent_r5_small (r5_small_cs c) ?_
  by_cases h1 : smU c = true
  · simp [h1, inU]
  · simp [h1]
    refine callK.mk ent_r5_capital (r5_capital_cs c) ?_
    by_cases h2 : caU c = true
    · simp [h2, inU]
    · simp [h2]
      refine callK.mk ent_r5_digit (r5_digit_cs c) ?_
      by_cases h3 : dgU c = true
      · simp [h3, inU]
      · by_cases h4 : c.toNat = 95
        · have h5 : (c.toNat : Int) = 95 := by omega
          simp [h1, h2, h3, inU, h4]
        · have h5 : ¬ (c.toNat : Int) = 95 := by omega
          simp [h1, h2, h3, inU, h4]
/-! ### The value of digits -/
theorem valN_takeLe {s : List UInt8} : ∀ {i : Nat}, i ≤ s.length → valN (s.take i) ≤ valN s := fun {i} hi => by
  have h : ∀ (l : List UInt8) (a b : Nat), a ≤ b → a ≤ valF b l := by
    intro l
    induction l with
    | nil => intro a b h; exact h
    | cons c r ih =>
      intro a b h
      exact ih a (10 * b + (c.toNat - 48)) (by omega)
  have e : valN s = valF (valN (s.take i)) (s.drop i) := by
    conv => lhs; rw [← List.take_append_drop i s]
    unfold valN valF
    rw [List.foldl_append]
  rw [e]
  exact h _ _ _ (Nat.le_refl _)
theorem ent_r5_value : VM.Enters Tryd.prog 39 := VM.Enters.mk Tryd.func39 rfl
theorem r5_value_cs (s : List UInt8) (hs : ∀ c ∈ s, isDg c = true) (hl : s.length ≤ 900000000) : CS Tryd.prog G 39 [.str s] (.tup [.int .i64 (numL s).1, .bool (numL s).2]) none := by
  refine CS.of_VK Tryd.func39 rfl Tryd.ntmps39 rfl ?_
  simp
  refine SW.loopF (ι := { i : Nat // i ≤ s.length ∧ valN (s.take i) ≤ 1000000000000 }) (fun i => [(4, .d (.int .i64 (valN (s.take i.1) : Nat))), (5, .d (.int .i64 i.1))]) (fun _ => []) (fun _ => []) (fun i => s.length - i.1) ⟨0, by simp [valN_nil]⟩ (by simp [valN_nil]) ?_
  rintro ⟨i, hi, hv⟩
  try simp only at hi hv
  by_cases hlt : i < s.length
  · have hw := wrap64s (show i < 9223372036854775807 by omega)
    have hd := hs _ (List.getElem_mem hlt)
    have hdd := isDg_iff.1 hd
    have hu := u8sub hd
    have hst := valN_take hlt
    have hw1 : IntKind.i64.wrap (10 * ((valN (s.take i) : Nat) : Int)) = 10 * ((valN (s.take i) : Nat) : Int) := wrap64 (by omega)
    have hw2 : IntKind.i64.wrap (10 * ((valN (s.take i) : Nat) : Int) + ((s[i].toNat - 48 : Nat) : Int)) = ((valN (s.take (i + 1)) : Nat) : Int) := by rw [hst, wrap64 (by omega)]; omega
    by_cases hbig : 1000000000000 < valN (s.take (i + 1))
    · have h1 : ¬ valN s ≤ 1000000000000 := by
        have := valN_takeLe (s := s) (i := i + 1) hlt
        omega
      have h2 : (1000000000000 : Int) < (valN (s.take (i + 1)) : Nat) := by omega
      simp [hlt, hw1, hu, hw2, h2, numL, h1]
    · have h2 : ¬ (1000000000000 : Int) < (valN (s.take (i + 1)) : Nat) := by omega
      simp [hlt, hw1, hu, hw2, h2]
      exact Again.mk ⟨i + 1, hlt, by omega⟩ (by simp [hw]) (by simp; omega)
  · have : i = s.length := by omega
    subst this
    rw [List.take_length] at hv
    simp [numL, hv]
/-! ### Signs -/
theorem ent_r5_signs : VM.Enters Tryd.prog 47 := VM.Enters.mk Tryd.func47 rfl
theorem r5_signs_cs : CS Tryd.prog G 47 [] (.d (.sl (signsL.map fun t => [D.str t]))) none := by
  refine CS.of_VK Tryd.func47 rfl Tryd.ntmps47 rfl ?_
  have h31 : List.range 31 = [0, 1, 2, 3, 4, 5, 6, 7, 8, 9, 10, 11, 12, 13, 14, 15, 16, 17, 18, 19, 20, 21, 22, 23, 24, 25, 26, 27, 28, 29, 30] := rfl
  simp [signsL, h31]
theorem ent_r5_sign : VM.Enters Tryd.prog 40 := VM.Enters.mk Tryd.func40 rfl
theorem r5_sign_cs (s : List UInt8) (hl : s.length ≤ 900000000) : CS Tryd.prog G 40 [.str s] (.d (.str (signT s))) none := by
  refine CS.of_VK Tryd.func40 rfl Tryd.ntmps40 rfl ?_
  simp
  refine callK.mk ent_r5_signs r5_signs_cs ?_
  have hlen : (signsL.map fun t => [D.str t]).length = signsL.length := by simp
  have hsl : signsL.length = 31 := rfl
  simp
  refine SW.loopF (ι := { i : Nat // i ≤ signsL.length ∧ ∀ t ∈ signsL.take i, t.isPrefixOf s = false }) (fun i => [(4, .d (.int .i64 i.1))]) (fun _ => []) (fun _ => []) (fun i => signsL.length - i.1) ⟨0, by simp⟩ (by simp) ?_
  rintro ⟨i, hi, hn⟩
  try simp only at hi hn
  by_cases hlt : i < signsL.length
  · have hw2 := wrap64s (show i < 9223372036854775807 by omega)
    have hnext : ∀ (hp : signsL[i].isPrefixOf s = false), ∀ t ∈ signsL.take (i + 1), t.isPrefixOf s = false := fun hp t ht => by
      rw [List.take_succ_eq_append_getElem hlt] at ht
      rcases List.mem_append.1 ht with ht | ht
      · exact hn t ht
      · simp at ht; rw [ht]; exact hp
    simp [hlt]
    try refine ⟨lexOk.mk (by kernel_rfl), ?_⟩
    have hpre := Lib.hasPrefix_of_take s signsL[i]
    unfold Lib.hasPrefix at hpre
    by_cases hle : signsL[i].length ≤ s.length
    · by_cases he : s.take signsL[i].length = signsL[i]
      · have hp : signsL[i].isPrefixOf s = true := by rw [← hpre]; simp [hle, he]
        have hsg := sign_at hlt hn hp
        simp [hle, he, hsg, hlt]
      · have hp : signsL[i].isPrefixOf s = false := by rw [← hpre]; simp [he]
        simp [hle, he, hlt]
        exact Again.mk ⟨i + 1, hlt, hnext hp⟩ (by simp [hw2]) (by simp; omega)
    · have hp : signsL[i].isPrefixOf s = false := by rw [← hpre]; simp [hle]
      simp [hle, hlt]
      exact Again.mk ⟨i + 1, hlt, hnext hp⟩ (by simp [hw2]) (by simp; omega)
  · have : i = signsL.length := by omega
    subst this
    rw [List.take_length] at hn
    have hsg := sign_none hn
    simp [hsg]
end Go.Proofs.YtoiokobokencdaaDoor
