/- Tokens: the token with which a text begins; the walk. No condition. -/
import Derived.Test.YtoiokobokencdaaDoorLc
set_option linter.unusedVariables false
set_option linter.unusedSimpArgs false
set_option linter.unusedSectionVars false
namespace Go.Proofs.YtoiokobokencdaaDoor
open Go Go.VM
set_option maxRecDepth 100000
set_option maxHeartbeats 8000000
variable {G : GT}
def sgCells : List D := [.sl (signsL.map fun t => [D.str t])]
theorem sm_u8 (b : UInt8) : smI b.toNat = smU b := by
  rw [Bool.eq_iff_iff]; simp only [smI, smU, Bool.and_eq_true, decide_eq_true_eq]; omega
theorem ca_u8 (b : UInt8) : caI b.toNat = caU b := by
  rw [Bool.eq_iff_iff]; simp only [caI, caU, Bool.and_eq_true, decide_eq_true_eq]; omega
theorem dg_u8 (b : UInt8) : dgI b.toNat = dgU b := by
  rw [Bool.eq_iff_iff]; simp only [dgI, dgU, Bool.and_eq_true, decide_eq_true_eq]; omega
theorem in_u8 (b : UInt8) : inI b.toNat = inU b := by
  unfold inI inU
  rw [sm_u8, ca_u8, dg_u8]
  congr 1
  simp only [decide_eq_decide]
  omega
theorem in_hi {c : Int} (h : 128 ≤ c) : inI c = false := by
  simp only [inI, smI, caI, dgI, Bool.or_eq_false_iff, Bool.and_eq_false_iff, decide_eq_false_iff_not]
  omega
theorem dg_hi {c : Int} (h : 128 ≤ c) : dgI c = false := by
  simp only [dgI, Bool.and_eq_false_iff, decide_eq_false_iff_not]
  omega
theorem take_tw (p : UInt8 → Bool) (s : List UInt8) : s.take (s.takeWhile p).length = s.takeWhile p := by
  have h := List.takeWhile_prefix (l := s) p
  exact (List.prefix_iff_eq_take.1 h).symm
theorem tw_le (p : UInt8 → Bool) (s : List UInt8) : (s.takeWhile p).length ≤ s.length := (List.takeWhile_prefix (l := s) p).length_le
theorem w32 (c : UInt8) : IntKind.i32.wrap (c.toNat : Int) = c.toNat := by
  have := c.toNat_lt
  unfold IntKind.wrap
  simp [IntKind.bits, IntKind.signed]
  omega
theorem dg_isDg (c : UInt8) : dgU c = isDg c := by
  rw [Bool.eq_iff_iff]; simp only [dgU, isDg, Bool.and_eq_true, decide_eq_true_eq]
theorem tw_mem {p : UInt8 → Bool} : ∀ {s : List UInt8} {b : UInt8}, b ∈ s.takeWhile p → p b = true
  | [], b, h => by simp at h
  | c :: r, b, h => by
    rw [List.takeWhile_cons] at h
    split at h
    · rename_i hc
      rcases List.mem_cons.1 h with rfl | h
      · exact hc
      · exact tw_mem h
    · cases h
def firstC (s : List UInt8) : List D := [.int .i64 (firstT numL s).1, .str (firstT numL s).2.1, .int .i64 (firstT numL s).2.2.1, .int .i64 0]
theorem span_in (s : List UInt8) : CH Tryd.prog G 29 ⟨[.d (.str s), .fn 30], [], []⟩ ⟨[.d (.int .i64 (s.takeWhile inU).length)], [], []⟩ := lex_span_ch 30 inI inU ent_lex_inner lex_inner_cs in_u8 (fun _ => in_hi) s
theorem span_dg (s : List UInt8) : CH Tryd.prog G 29 ⟨[.d (.str s), .fn 32], [], []⟩ ⟨[.d (.int .i64 (s.takeWhile dgU).length)], [], []⟩ := lex_span_ch 32 dgI dgU ent_lex_digit lex_digit_cs dg_u8 (fun _ => dg_hi) s
theorem sign_at {s : List UInt8} {i : Nat} (h : i < signsL.length) (hn : ∀ t ∈ signsL.take i, t.isPrefixOf s = false) (hp : signsL[i].isPrefixOf s = true) : signT s = signsL[i] := by
  have e : signsL = signsL.take i ++ signsL[i] :: signsL.drop (i + 1) := by rw [← List.drop_eq_getElem_cons h, List.take_append_drop]
  generalize signsL[i] = x at e hp ⊢
  unfold signT
  rw [e, List.find?_append]
  have h0 : (signsL.take i).find? (fun t => t.isPrefixOf s) = none := List.find?_eq_none.2 fun t ht => by rw [hn t ht]; simp
  rw [h0]
  simp [List.find?_cons, hp]
theorem sign_none {s : List UInt8} (hn : ∀ t ∈ signsL, t.isPrefixOf s = false) : signT s = [] := by
  unfold signT
  rw [List.find?_eq_none.2 fun t ht => by rw [hn t ht]; simp]
  rfl
theorem sign_ne : ∀ t ∈ signsL, t ≠ [] := by decide
theorem ent_span : VM.Enters Tryd.prog 29 := VM.Enters.mk Tryd.func29 rfl
theorem ent_lex_first : VM.Enters Tryd.prog 19 := VM.Enters.mk Tryd.func19 rfl
theorem lex_first_cs (hS : G 0 = some sgCells) (c : UInt8) (r : List UInt8) (hl : (c :: r).length ≤ 900000000) : CS Tryd.prog G 19 [.str (c :: r)] (.tup [.agg (firstC (c :: r)), .bool (firstT numL (c :: r)).2.2.2]) none := by
  obtain ⟨s, hs⟩ : ∃ s, c :: r = s := ⟨_, rfl⟩
  have h0 : 0 < s.length := by rw [← hs]; simp
  have hc0 : s[0] = c := by subst hs; rfl
  have hf : firstT numL s = if smU c then (1, s.takeWhile inU, 0, true) else if caU c then (2, s.takeWhile inU, 0, true)
    else if dgU c then (3, s.takeWhile dgU, (numL (s.takeWhile dgU)).1, (numL (s.takeWhile dgU)).2)
    else if signT s = [] then (0, [], 0, false) else (4, signT s, 0, true) := by subst hs; rfl
  rw [hs] at hl ⊢
  clear hs
  have hw := w32 c
  have l1 := tw_le inU s
  have l2 := tw_le dgU s
  have t1 := take_tw inU s
  have t2 := take_tw dgU s
  refine CS.of_VK Tryd.func19 rfl Tryd.ntmps19 rfl ?_
  simp [h0, hc0, hw]
  refine callK.mk ent_lex_small (lex_small_cs (c.toNat : Int)) ?_
  rw [sm_u8]
  by_cases h1 : smU c = true
  · simp [h1]
    refine callHK.ro ent_span (span_in s) [] (by simp) (by simp) (by simp) (by simp) (by simp) ?_
    simp [l1, t1, firstC, hf, h1]
  simp [h1]
  refine callK.mk ent_lex_capital (lex_capital_cs (c.toNat : Int)) ?_
  rw [ca_u8]
  by_cases h2 : caU c = true
  · simp [h2]
    refine callHK.ro ent_span (span_in s) [] (by simp) (by simp) (by simp) (by simp) (by simp) ?_
    simp [l1, t1, firstC, hf, h1, h2]
  simp [h2]
  refine callK.mk ent_lex_digit (lex_digit_cs (c.toNat : Int)) ?_
  rw [dg_u8]
  by_cases h3 : dgU c = true
  · simp [h3]
    refine callHK.ro ent_span (span_dg s) [] (by simp) (by simp) (by simp) (by simp) (by simp) ?_
    simp [l2, t2]
    refine callK.mk ent_lex_number (lex_number_cs (s.takeWhile dgU) (fun b hb => by rw [← dg_isDg]; exact tw_mem hb)) ?_
    simp [firstC, hf, h1, h2, h3]
  simp [h3, hS, sgCells]
  have hlen : (signsL.map fun t => [D.str t]).length = signsL.length := by simp
  refine SW.loopF (ι := { i : Nat // i ≤ signsL.length ∧ ∀ t ∈ signsL.take i, t.isPrefixOf s = false }) (fun i => [(47, .d (.int .i64 i.1))]) (fun _ => [(2, .cells [.d (.int .i64 0), .d (.str []), .d (.int .i64 0), .d (.int .i64 0)])]) (fun _ => []) (fun i => signsL.length - i.1) ⟨0, by simp⟩ (by simp) ?_
  rintro ⟨i, hi, hn⟩
  try simp only at hi hn
  by_cases hlt : i < signsL.length
  · have hsl : signsL.length = 31 := rfl
    have hw2 := wrap64s (show i < 9223372036854775807 by omega)
    have hg : (signsL.map fun t => [D.str t])[i]? = some [.str signsL[i]] := by simp [hlt]
    simp [hlt, hg]
    refine callK.mk ent_HasPrefix (HasPrefix_cs s signsL[i]) ?_
    by_cases hp : signsL[i].isPrefixOf s = true
    · have hsg := sign_at hlt hn hp
      have hne := sign_ne _ (List.getElem_mem hlt)
      simp [hp, firstC, hf, h1, h2, h3, hsg, hne]
    · have hp' : signsL[i].isPrefixOf s = false := Bool.eq_false_iff.2 hp
      simp [hp']
      refine Again.mk ⟨i + 1, hlt, fun t ht => ?_⟩ (by simp [hw2]) (by simp; omega)
      rw [List.take_succ_eq_append_getElem hlt] at ht
      rcases List.mem_append.1 ht with ht | ht
      · exact hn t ht
      · simp at ht; rw [ht]; exact hp'
  · have : i = signsL.length := by omega
    subst this
    rw [List.take_length] at hn
    have hsg := sign_none hn
    simp [firstC, hf, h1, h2, h3, hsg]
end Go.Proofs.YtoiokobokencdaaDoor
