/- Joined texts. Tokens, the reference: value, sign; the walks. Tokens, the reference: the token with which a text begins; the walk. Tokens, the reference: Tokens, Same; the walks. No condition. -/
import Derived.Test.YtlglfkdjlbcpjaaGreatDoorZB
import Derived.Test.YtlglfkdjlbcpjaaGreatDoorZC
section
set_option linter.unusedVariables false
set_option linter.unusedSimpArgs false
set_option linter.unusedSectionVars false
namespace Go.Proofs.YtlglfkdjlbcpjaaGreatDoor
open Go Go.VM
set_option maxRecDepth 100000
set_option maxHeartbeats 8000000
variable {G : GT}
theorem ent_r5_small : VM.Enters Tryz.prog 98 := VM.Enters.mk Tryz.func98 rfl
theorem ent_r5_capital : VM.Enters Tryz.prog 99 := VM.Enters.mk Tryz.func99 rfl
theorem ent_r5_digit : VM.Enters Tryz.prog 101 := VM.Enters.mk Tryz.func101 rfl
theorem ent_r5_inside : VM.Enters Tryz.prog 100 := VM.Enters.mk Tryz.func100 rfl
theorem r5_small_cs (c : UInt8) : CS Tryz.prog G 98 [.int .u8 c.toNat] (.d (.bool (smU c))) none := by
  refine CS.of_VK Tryz.func98 rfl Tryz.ntmps98 rfl ?_
  rw [← sm_u8]
  by_cases h : (97 : Int) ≤ c.toNat <;> simp [h, smI]
theorem r5_capital_cs (c : UInt8) : CS Tryz.prog G 99 [.int .u8 c.toNat] (.d (.bool (caU c))) none := by
  refine CS.of_VK Tryz.func99 rfl Tryz.ntmps99 rfl ?_
  rw [← ca_u8]
  by_cases h : (65 : Int) ≤ c.toNat <;> simp [h, caI]
theorem r5_digit_cs (c : UInt8) : CS Tryz.prog G 101 [.int .u8 c.toNat] (.d (.bool (dgU c))) none := by
  refine CS.of_VK Tryz.func101 rfl Tryz.ntmps101 rfl ?_
  rw [← dg_u8]
  by_cases h : (48 : Int) ≤ c.toNat <;> simp [h, dgI]
theorem r5_inside_cs (c : UInt8) : CS Tryz.prog G 100 [.int .u8 c.toNat] (.d (.bool (inU c))) none := by
  refine CS.of_VK Tryz.func100 rfl Tryz.ntmps100 rfl ?_
  simp
  refine callK.mk ent_r5_small (r5_small_cs c) ?_
  by_cases h1 : smU c = true
  · simp [h1, inU]
  · simp [h1]
    refine callK.mk ent_r5_capital (r5_capital_cs c) ?_
    by_cases h2 : caU c = true
    · simp [h2, inU]
    · simp [h2]
      refine callK.mk ent_r5_digit (r5_digit_cs c) ?_
      by_cases h3 : dgU c = true
      · simp [h3, inU]
      · by_cases h4 : c.toNat = 95
        · have h5 : (c.toNat : Int) = 95 := by omega
          simp [h1, h2, h3, inU, h4]
        · have h5 : ¬ (c.toNat : Int) = 95 := by omega
          simp [h1, h2, h3, inU, h4]
/-! ### The value of digits -/
theorem valN_takeLe {s : List UInt8} : ∀ {i : Nat}, i ≤ s.length → valN (s.take i) ≤ valN s := fun {i} hi => by
  have h : ∀ (l : List UInt8) (a b : Nat), a ≤ b → a ≤ valF b l := by
    intro l
    induction l with
    | nil => intro a b h; exact h
    | cons c r ih =>
      intro a b h
      exact ih a (10 * b + (c.toNat - 48)) (by omega)
  have e : valN s = valF (valN (s.take i)) (s.drop i) := by
    conv => lhs; rw [← List.take_append_drop i s]
    unfold valN valF
    rw [List.foldl_append]
  rw [e]
  exact h _ _ _ (Nat.le_refl _)
theorem ent_r5_value : VM.Enters Tryz.prog 102 := VM.Enters.mk Tryz.func102 rfl
theorem r5_value_cs (s : List UInt8) (hs : ∀ c ∈ s, isDg c = true) (hl : s.length ≤ 900000000) : CS Tryz.prog G 102 [.str s] (.tup [.int .i64 (numL s).1, .bool (numL s).2]) none := by
  refine CS.of_VK Tryz.func102 rfl Tryz.ntmps102 rfl ?_
  simp
  refine SW.loopF (ι := { i : Nat // i ≤ s.length ∧ valN (s.take i) ≤ 1000000000000 }) (fun i => [(4, .d (.int .i64 (valN (s.take i.1) : Nat))), (5, .d (.int .i64 i.1))]) (fun _ => []) (fun _ => []) (fun i => s.length - i.1) ⟨0, by simp [valN_nil]⟩ (by simp [valN_nil]) ?_
  rintro ⟨i, hi, hv⟩
  try simp only at hi hv
  by_cases hlt : i < s.length
  · have hw := wrap64s (show i < 9223372036854775807 by omega)
    have hd := hs _ (List.getElem_mem hlt)
    have hdd := isDg_iff.1 hd
    have hu := u8sub hd
    have hst := valN_take hlt
    have hw1 : IntKind.i64.wrap (10 * ((valN (s.take i) : Nat) : Int)) = 10 * ((valN (s.take i) : Nat) : Int) := wrap64 (by omega)
    have hw2 : IntKind.i64.wrap (10 * ((valN (s.take i) : Nat) : Int) + ((s[i].toNat - 48 : Nat) : Int)) = ((valN (s.take (i + 1)) : Nat) : Int) := by rw [hst, wrap64 (by omega)]; omega
    by_cases hbig : 1000000000000 < valN (s.take (i + 1))
    · have h1 : ¬ valN s ≤ 1000000000000 := by
        have := valN_takeLe (s := s) (i := i + 1) hlt
        omega
      have h2 : (1000000000000 : Int) < (valN (s.take (i + 1)) : Nat) := by omega
      simp [hlt, hw1, hu, hw2, h2, numL, h1]
    · have h2 : ¬ (1000000000000 : Int) < (valN (s.take (i + 1)) : Nat) := by omega
      simp [hlt, hw1, hu, hw2, h2]
      exact Again.mk ⟨i + 1, hlt, by omega⟩ (by simp [hw]) (by simp; omega)
  · have : i = s.length := by omega
    subst this
    rw [List.take_length] at hv
    simp [numL, hv]
/-! ### Signs -/
theorem ent_r5_signs : VM.Enters Tryz.prog 128 := VM.Enters.mk Tryz.func128 rfl
theorem r5_signs_cs : CS Tryz.prog G 128 [] (.d (.sl (signsL.map fun t => [D.str t]))) none := by
  refine CS.of_VK Tryz.func128 rfl Tryz.ntmps128 rfl ?_
  have h31 : List.range 31 = [0, 1, 2, 3, 4, 5, 6, 7, 8, 9, 10, 11, 12, 13, 14, 15, 16, 17, 18, 19, 20, 21, 22, 23, 24, 25, 26, 27, 28, 29, 30] := rfl
  simp [signsL, h31]
theorem ent_r5_sign : VM.Enters Tryz.prog 103 := VM.Enters.mk Tryz.func103 rfl
theorem r5_sign_cs (s : List UInt8) (hl : s.length ≤ 900000000) : CS Tryz.prog G 103 [.str s] (.d (.str (signT s))) none := by
  refine CS.of_VK Tryz.func103 rfl Tryz.ntmps103 rfl ?_
  simp
  refine callK.mk ent_r5_signs r5_signs_cs ?_
  have hlen : (signsL.map fun t => [D.str t]).length = signsL.length := by simp
  have hsl : signsL.length = 31 := rfl
  simp
  refine SW.loopF (ι := { i : Nat // i ≤ signsL.length ∧ ∀ t ∈ signsL.take i, t.isPrefixOf s = false }) (fun i => [(4, .d (.int .i64 i.1))]) (fun _ => []) (fun _ => []) (fun i => signsL.length - i.1) ⟨0, by simp⟩ (by simp) ?_
  rintro ⟨i, hi, hn⟩
  try simp only at hi hn
  by_cases hlt : i < signsL.length
  · have hw2 := wrap64s (show i < 9223372036854775807 by omega)
    have hnext : ∀ (hp : signsL[i].isPrefixOf s = false), ∀ t ∈ signsL.take (i + 1), t.isPrefixOf s = false := fun hp t ht => by
      rw [List.take_succ_eq_append_getElem hlt] at ht
      rcases List.mem_append.1 ht with ht | ht
      · exact hn t ht
      · simp at ht; rw [ht]; exact hp
    simp [hlt]
    try refine ⟨lexOk.mk (by kernel_rfl), ?_⟩
    have hpre := Lib.hasPrefix_of_take s signsL[i]
    unfold Lib.hasPrefix at hpre
    by_cases hle : signsL[i].length ≤ s.length
    · by_cases he : s.take signsL[i].length = signsL[i]
      · have hp : signsL[i].isPrefixOf s = true := by rw [← hpre]; simp [hle, he]
        have hsg := sign_at hlt hn hp
        simp [hle, he, hsg, hlt]
      · have hp : signsL[i].isPrefixOf s = false := by rw [← hpre]; simp [he]
        simp [hle, he, hlt]
        exact Again.mk ⟨i + 1, hlt, hnext hp⟩ (by simp [hw2]) (by simp; omega)
    · have hp : signsL[i].isPrefixOf s = false := by rw [← hpre]; simp [hle]
      simp [hle, hlt]
      exact Again.mk ⟨i + 1, hlt, hnext hp⟩ (by simp [hw2]) (by simp; omega)
  · have : i = signsL.length := by omega
    subst this
    rw [List.take_length] at hn
    have hsg := sign_none hn
    simp [hsg]
end Go.Proofs.YtlglfkdjlbcpjaaGreatDoor
end

section
set_option linter.unusedVariables false
set_option linter.unusedSimpArgs false
set_option linter.unusedSectionVars false
namespace Go.Proofs.YtlglfkdjlbcpjaaGreatDoor
open Go Go.VM
set_option maxRecDepth 100000
set_option maxHeartbeats 8000000
variable {G : GT}
theorem tw_all (p : UInt8 → Bool) {s : List UInt8} {i : Nat} (hi : i ≤ s.length) (h : ∀ b ∈ s.take i, p b = true) : i ≤ (s.takeWhile p).length := by
  have e : s = s.take i ++ s.drop i := (List.take_append_drop i s).symm
  rw [e, List.takeWhile_append_of_pos h, List.length_append, List.length_take]
  omega
def kind5 (c : UInt8) : Int := if smU c then 1 else if caU c then 2 else if dgU c then 3 else 4
def first5 (c : UInt8) (r : List UInt8) : List D := [.int .i64 (kind5 c), .str (firstT numL (c :: r)).2.1, .int .i64 (firstT numL (c :: r)).2.2.1, .int .i64 0]
theorem ent_r5_first : VM.Enters Tryz.prog 67 := VM.Enters.mk Tryz.func67 rfl
theorem r5_first_cs (c : UInt8) (r : List UInt8) (hl : (c :: r).length ≤ 900000000) : CS Tryz.prog G 67 [.str (c :: r)] (.tup [.agg (first5 c r), .bool (firstT numL (c :: r)).2.2.2]) none := by
  have hfr : first5 c r = [.int .i64 (kind5 c), .str (firstT numL (c :: r)).2.1, .int .i64 (firstT numL (c :: r)).2.2.1, .int .i64 0] := rfl
  rw [hfr]
  obtain ⟨s, hs⟩ : ∃ s, c :: r = s := ⟨_, rfl⟩
  have h0 : 1 ≤ s.length := by rw [← hs]; simp
  have h0' : 0 < s.length := h0
  have t01 : s.take 1 = [c] := by rw [← hs]; rfl
  have hc0 : s[0] = c := by subst hs; rfl
  have hf : firstT numL s = if smU c then (1, s.takeWhile inU, 0, true) else if caU c then (2, s.takeWhile inU, 0, true)
    else if dgU c then (3, s.takeWhile dgU, (numL (s.takeWhile dgU)).1, (numL (s.takeWhile dgU)).2)
    else if signT s = [] then (0, [], 0, false) else (4, signT s, 0, true) := by subst hs; rfl
  rw [hs] at hl ⊢
  clear hs hfr
  refine CS.of_VK Tryz.func67 rfl Tryz.ntmps67 rfl ?_
  simp [h0', hc0]
  refine callK.mk ent_r5_small (r5_small_cs c) ?_
  by_cases h1 : smU c = true
  · have hp1 := in_sm h1
    simp [h1]
    refine SW.loopF (ι := { i : Nat // i ≤ s.length ∧ 1 ≤ i ∧ ∀ b ∈ s.take i, inU b = true }) (fun i => [(4, .d (.int .i64 i.1))]) (fun _ => [(2, .cells [.d (.int .i64 0), .d (.str []), .d (.int .i64 0), .d (.int .i64 0)])]) (fun _ => []) (fun i => s.length - i.1) ⟨1, h0, Nat.le_refl _, fun b hb => by rw [t01] at hb; simp at hb; rw [hb]; exact hp1⟩ (by simp) ?_
    rintro ⟨i, hi, hi1, hn⟩
    try simp only at hi hi1 hn
    have hle := tw_all inU hi hn
    by_cases hlt : i < s.length
    · have hw := wrap64s (show i < 9223372036854775807 by omega)
      simp [hlt]
      refine callK.mk ent_r5_inside (r5_inside_cs s[i]) ?_
      by_cases hin : inU s[i] = true
      · simp [hin]
        refine Again.mk ⟨i + 1, hlt, by omega, fun b hb => ?_⟩ (by simp [hw]) (by simp; omega)
        rw [List.take_succ_eq_append_getElem hlt] at hb
        rcases List.mem_append.1 hb with hb | hb
        · exact hn b hb
        · simp at hb; rw [hb]; exact hin
      · have hst := takeWhile_stop hlt hn (by simpa using hin)
        have htk : s.take i = s.takeWhile inU := by rw [← take_tw inU s, hst]
        simp [hin, h0', hc0]
        refine callK.mk ent_r5_small (r5_small_cs c) ?_
        simp [h1, hi, htk, hf, kind5]
    · have : i = s.length := by omega
      subst this
      rw [List.take_length] at hn
      have htk : s.takeWhile inU = s := takeWhile_all hn
      simp [h0', hc0]
      refine callK.mk ent_r5_small (r5_small_cs c) ?_
      simp [h1, htk, hf, kind5]
  simp [h1, h0', hc0]
  refine callK.mk ent_r5_capital (r5_capital_cs c) ?_
  by_cases h2 : caU c = true
  · have hp1 := in_ca h2
    simp [h2]
    refine SW.loopF (ι := { i : Nat // i ≤ s.length ∧ 1 ≤ i ∧ ∀ b ∈ s.take i, inU b = true }) (fun i => [(4, .d (.int .i64 i.1))]) (fun _ => [(2, .cells [.d (.int .i64 0), .d (.str []), .d (.int .i64 0), .d (.int .i64 0)])]) (fun _ => []) (fun i => s.length - i.1) ⟨1, h0, Nat.le_refl _, fun b hb => by rw [t01] at hb; simp at hb; rw [hb]; exact hp1⟩ (by simp) ?_
    rintro ⟨i, hi, hi1, hn⟩
    try simp only at hi hi1 hn
    have hle := tw_all inU hi hn
    by_cases hlt : i < s.length
    · have hw := wrap64s (show i < 9223372036854775807 by omega)
      simp [hlt]
      refine callK.mk ent_r5_inside (r5_inside_cs s[i]) ?_
      by_cases hin : inU s[i] = true
      · simp [hin]
        refine Again.mk ⟨i + 1, hlt, by omega, fun b hb => ?_⟩ (by simp [hw]) (by simp; omega)
        rw [List.take_succ_eq_append_getElem hlt] at hb
        rcases List.mem_append.1 hb with hb | hb
        · exact hn b hb
        · simp at hb; rw [hb]; exact hin
      · have hst := takeWhile_stop hlt hn (by simpa using hin)
        have htk : s.take i = s.takeWhile inU := by rw [← take_tw inU s, hst]
        simp [hin, h0', hc0]
        refine callK.mk ent_r5_small (r5_small_cs c) ?_
        simp [h1, h2, hi, htk, hf, kind5]
    · have : i = s.length := by omega
      subst this
      rw [List.take_length] at hn
      have htk : s.takeWhile inU = s := takeWhile_all hn
      simp [h0', hc0]
      refine callK.mk ent_r5_small (r5_small_cs c) ?_
      simp [h1, h2, htk, hf, kind5]
  simp [h2, h0', hc0]
  refine callK.mk ent_r5_digit (r5_digit_cs c) ?_
  by_cases h3 : dgU c = true
  · have hp1 := h3
    simp [h3]
    refine SW.loopF (ι := { i : Nat // i ≤ s.length ∧ 1 ≤ i ∧ ∀ b ∈ s.take i, dgU b = true }) (fun i => [(4, .d (.int .i64 i.1))]) (fun _ => [(2, .cells [.d (.int .i64 0), .d (.str []), .d (.int .i64 0), .d (.int .i64 0)])]) (fun _ => []) (fun i => s.length - i.1) ⟨1, h0, Nat.le_refl _, fun b hb => by rw [t01] at hb; simp at hb; rw [hb]; exact hp1⟩ (by simp) ?_
    rintro ⟨i, hi, hi1, hn⟩
    try simp only at hi hi1 hn
    have hle := tw_all dgU hi hn
    have hdig : ∀ b ∈ s.takeWhile dgU, isDg b = true := fun b hb => by rw [← dg_isDg]; exact tw_mem hb
    have hdl := tw_le dgU s
    by_cases hlt : i < s.length
    · have hw := wrap64s (show i < 9223372036854775807 by omega)
      simp [hlt]
      refine callK.mk ent_r5_digit (r5_digit_cs s[i]) ?_
      by_cases hin : dgU s[i] = true
      · simp [hin]
        refine Again.mk ⟨i + 1, hlt, by omega, fun b hb => ?_⟩ (by simp [hw]) (by simp; omega)
        rw [List.take_succ_eq_append_getElem hlt] at hb
        rcases List.mem_append.1 hb with hb | hb
        · exact hn b hb
        · simp at hb; rw [hb]; exact hin
      · have hst := takeWhile_stop hlt hn (by simpa using hin)
        have htk : s.take i = s.takeWhile dgU := by rw [← take_tw dgU s, hst]
        simp [hin, hi, htk]
        refine callK.mk ent_r5_value (r5_value_cs (s.takeWhile dgU) hdig (by omega)) ?_
        simp [h1, h2, h3, hi, htk, hf, kind5]
    · have : i = s.length := by omega
      subst this
      rw [List.take_length] at hn
      have htk : s.takeWhile dgU = s := takeWhile_all hn
      simp
      refine callK.mk ent_r5_value (r5_value_cs s (fun b hb => by rw [← dg_isDg]; exact hn b hb) hl) ?_
      simp [h1, h2, h3, htk, hf, kind5]
  simp [h3]
  refine callK.mk ent_r5_sign (r5_sign_cs s hl) ?_
  by_cases h4 : signT s = []
  · simp [h1, h2, h3, h4, hf, kind5]
  · simp [h1, h2, h3, h4, hf, kind5]
end Go.Proofs.YtlglfkdjlbcpjaaGreatDoor
end

section
set_option linter.unusedVariables false
set_option linter.unusedSimpArgs false
set_option linter.unusedSectionVars false
namespace Go.Proofs.YtlglfkdjlbcpjaaGreatDoor
open Go Go.VM
set_option maxRecDepth 100000
set_option maxHeartbeats 8000000
variable {G : GT}
theorem ent_r5_Tokens : VM.Enters Tryz.prog 41 := VM.Enters.mk Tryz.func41 rfl
theorem r5_Tokens_cs (s : List UInt8) (hl : s.length ≤ 900000000) : CS Tryz.prog G 41 [.str s] (.tup (if 40000 < s.length then [.nils, .int .i64 0, .int .i64 7] else
    [tokD (lexG numL s 0 1 false), .int .i64 (tokN (lexG numL s 0 1 false)), .int .i64 (tokF (lexG numL s 0 1 false))])) none := by
  obtain ⟨res, hres⟩ : ∃ x, lexG numL s 0 1 false = x := ⟨_, rfl⟩
  rw [hres]
  refine CS.of_VK Tryz.func41 rfl Tryz.ntmps41 rfl ?_
  by_cases hlong : 40000 < s.length
  · have h2 : (40000 : Int) < s.length := by omega
    simp [hlong, h2]
  have h2 : ¬ (40000 : Int) < s.length := by omega
  simp [hlong, h2]
  refine SW.loopF (ι := { x : Nat × List Tok × Int × Bool // x.1 ≤ s.length ∧ 1 ≤ x.2.2.1 ∧ x.2.2.1 ≤ x.1 + 1 ∧ x.2.1.length ≤ x.1 ∧ preR x.2.1 (lexG numL (s.drop x.1) 0 x.2.2.1 x.2.2.2) = res })
    (fun x => [(5, .d (.sl (toks x.1.2.1))), (6, .d (.int .i64 x.1.2.2.1)), (7, .d (.bool x.1.2.2.2)), (8, .d (.int .i64 x.1.1))]) (fun _ => []) (fun _ => [(46, [.t 5])]) (fun x => s.length - x.1.1) ⟨(0, [], 1, false), by refine ⟨by simp, by simp, by simp, by simp, ?_⟩; simp only [List.drop_zero]; rw [hres]; cases res <;> rfl⟩ (by simp) ?_
  rintro ⟨⟨i, out, ln, cm⟩, hi, hln, hb, ho, hR⟩
  try simp only at hi hln hb ho hR
  by_cases hlt : i < s.length
  · have hQ : preR out (lexG numL (s.drop i) 0 ln cm) = res := hR
    have hdrop : s.drop i = s[i] :: s.drop (i + 1) := List.drop_eq_getElem_cons hlt
    have hw := wrap64s (show i < 9223372036854775807 by omega)
    have hwl : IntKind.i64.wrap (ln + 1) = ln + 1 := wrap64 (by omega)
    have c10 := nat_u8 s[i] 10 (by omega)
    have c32 := nat_u8 s[i] 32 (by omega)
    have c9 := nat_u8 s[i] 9 (by omega)
    have c35 := nat_u8 s[i] 35 (by omega)
    simp at c10 c32 c9 c35
    have hle := Nat.le_of_lt hlt
    rw [hdrop, lexG] at hQ
    by_cases h10 : s[i] = 10
    · have e := c10.2 h10
      rw [if_pos h10] at hQ
      simp [hlt, e]
      exact Again.mk ⟨(i + 1, out, ln + 1, false), hlt, by simp only; omega, by simp only; omega, by simp only; omega, hQ⟩ (by simp [hw, hwl]) (by simp; omega)
    have e : ¬ s[i].toNat = 10 := fun h => h10 (c10.1 h)
    rw [if_neg h10] at hQ
    simp [hlt, e]
    cases cm with
    | true =>
      rw [if_pos (.inl rfl)] at hQ
      try simp [hlt]
      exact Again.mk ⟨(i + 1, out, ln, true), hlt, by simp only; omega, by simp only; omega, by simp only; omega, hQ⟩ (by simp [hw]) (by simp; omega)
    | false =>
      try simp [hlt]
      by_cases h32 : s[i] = 32
      · have e2 := c32.2 h32
        rw [if_pos (.inr (.inl h32))] at hQ
        simp [e2]
        exact Again.mk ⟨(i + 1, out, ln, false), hlt, by simp only; omega, by simp only; omega, by simp only; omega, hQ⟩ (by simp [hw]) (by simp; omega)
      have e2 : ¬ s[i].toNat = 32 := fun h => h32 (c32.1 h)
      simp [e2, hlt]
      by_cases h9 : s[i] = 9
      · have e3 := c9.2 h9
        rw [if_pos (.inr (.inr h9))] at hQ
        simp [e3]
        exact Again.mk ⟨(i + 1, out, ln, false), hlt, by simp only; omega, by simp only; omega, by simp only; omega, hQ⟩ (by simp [hw]) (by simp; omega)
      have e3 : ¬ s[i].toNat = 9 := fun h => h9 (c9.1 h)
      simp [e3, hlt]
      rw [if_neg (by simp [h32, h9])] at hQ
      by_cases h35 : s[i] = 35
      · have e4 := c35.2 h35
        rw [if_pos h35] at hQ
        simp [e4]
        exact Again.mk ⟨(i + 1, out, ln, true), hlt, by simp only; omega, by simp only; omega, by simp only; omega, hQ⟩ (by simp [hw]) (by simp; omega)
      have e4 : ¬ s[i].toNat = 35 := fun h => h35 (c35.1 h)
      have hQ2 : preR out (lexG numL (s[i] :: s.drop (i + 1)) 0 ln false) = res := by rw [← hdrop]; exact hR
      rw [lexG_first ln h10 h32 h9 h35] at hQ2
      have hdl : (s.drop (i + 1)).length = s.length - (i + 1) := by simp
      obtain ⟨r, hr⟩ : ∃ r, s.drop (i + 1) = r := ⟨_, rfl⟩
      obtain ⟨c, hc⟩ : ∃ c, s[i] = c := ⟨_, rfl⟩
      rw [hr, hc] at hQ2 hdrop
      rw [hr] at hdl
      simp [e4, hle, hdrop]
      refine callK.mk ent_r5_first (r5_first_cs c r (by simp; omega)) ?_
      obtain ⟨ff, hff⟩ : ∃ ff, firstT numL (c :: r) = ff := ⟨_, rfl⟩
      have hok := @first_ok numL (c :: r)
      rw [hff] at hQ2 hok
      obtain ⟨k, tx, m, ok⟩ := ff
      simp only at hQ2 hok
      cases ok with
      | false =>
        have er : res = .error ln := by rw [← hQ2]; rfl
        simp [hff, first5, er, tokD, tokN, tokF]
      | true =>
        obtain ⟨p1, p2, _⟩ := hok rfl
        have hle2 := p2.length_le
        have hpos : 0 < tx.length := List.length_pos_iff.2 p1
        simp only [List.length_cons] at hle2
        have hk : kind5 c = k := by
          have := hff
          unfold firstT at this
          unfold kind5
          by_cases q1 : smU c = true
          · simp [q1] at this ⊢; exact this.1
          by_cases q2 : caU c = true
          · simp [q1, q2] at this ⊢; exact this.1
          by_cases q3 : dgU c = true
          · simp [q1, q2, q3] at this ⊢; exact this.1
          by_cases q4 : signT (c :: r) = []
          · simp [q1, q2, q3, q4] at this
          · simp [q1, q2, q3, q4] at this ⊢; exact this.1
        have hsz : (out.length + 1) * 41 ≤ 140737488355328 := by omega
        have hwt : IntKind.i64.wrap ((i : Int) + tx.length) = ((i + tx.length : Nat) : Int) := by rw [wrap64 (by omega)]; simp
        simp [hff, first5, hsz, hk]
        have hR2 : preR (out ++ [⟨k, tx, m, ln⟩]) (lexG numL (s.drop (i + tx.length)) 0 ln false) = res := by
          rw [← List.drop_drop, hdrop, ← hQ2, if_pos rfl]
          generalize lexG numL ((c :: r).drop tx.length) 0 ln false = y
          cases y with
          | ok l => simp [preR]
          | error e => rfl
        refine Again.mk ⟨(i + tx.length, out ++ [⟨k, tx, m, ln⟩], ln, false), ?_⟩ (by simp [toks_snoc, hwt]) (by simp; omega)
        refine ⟨by simp only; omega, by simp only; omega, by simp only; omega, by simp only [List.length_append, List.length_cons, List.length_nil]; omega, hR2⟩
  · have : i = s.length := by omega
    subst this
    rw [List.drop_length, lexG] at hR
    have e : res = .ok (out ++ [⟨0, [], 0, ln⟩]) := by rw [← hR]; rfl
    have hsz : (out.length + 1) * 41 ≤ 140737488355328 := by omega
    simp [e, tokD, tokN, tokF, toks_snoc, hsz]
/-! ### The same tokens -/
theorem tok_eq (a b : Tok) : (tokE a = tokE b) ↔ a = b := by
  constructor
  · intro h
    simp only [tokE, List.cons.injEq, D.int.injEq, D.str.injEq, true_and, and_true] at h
    cases a; cases b
    simp at h ⊢
    exact h
  · rintro rfl; rfl
theorem tok_ne {x y : Tok} (h : ¬ x = y) : (!decide (x.kind = y.kind) || (!decide (x.text = y.text) || (!decide (x.n = y.n) || !decide (x.line = y.line)))) = true := by
  obtain ⟨a, b, c, d⟩ := x
  obtain ⟨a', b', c', d'⟩ := y
  simp only [Tok.mk.injEq, not_and] at h
  by_cases k1 : a = a'
  · by_cases k2 : b = b'
    · by_cases k3 : c = c'
      · have k4 := h k1 k2 k3
        simp [k4]
      · simp [k3]
    · simp [k2]
  · simp [k1]
theorem same_step {a b : List Tok} {i : Nat} (ha : i < a.length) (hb : i < b.length) (h : a.take i = b.take i) (he : a[i] = b[i]) : a.take (i + 1) = b.take (i + 1) := by
  rw [List.take_succ_eq_append_getElem ha, List.take_succ_eq_append_getElem hb, h, he]
end Go.Proofs.YtlglfkdjlbcpjaaGreatDoor
end
