/- Names: the reference. No condition. -/
import Derived.Test.YthhfdlhbhfkbdaaDoorSc
set_option linter.unusedVariables false
set_option linter.unusedSimpArgs false
set_option linter.unusedSectionVars false
namespace Go.Proofs.YthhfdlhbhfkbdaaDoor
open Go Go.VM
set_option maxRecDepth 100000
set_option maxHeartbeats 4000000
variable {G : GT}

/-- The texts of a list, as elements of a slice. -/
def strs (l : List (List UInt8)) : List (List D) := l.map fun s => [.str s]
theorem strs_len (l : List (List UInt8)) : (strs l).length = l.length := by simp [strs]
theorem strs_getE {l : List (List UInt8)} {i : Nat} (h : i < (strs l).length) : (strs l)[i] = [.str (l[i]'(by rw [← strs_len l]; exact h))] := by simp [strs]
theorem strs_one (l : List (List UInt8)) : (∀ x, x ∈ strs l → x.length = 1) = True := by simp [strs]
theorem strs_app (l : List (List UInt8)) (s : List UInt8) : strs (l ++ [s]) = strs l ++ [[.str s]] := by simp [strs]
attribute [simp] strs_len strs_getE strs_one strs_app
theorem strs_get {l : List (List UInt8)} {i : Nat} (h : i < l.length) : (strs l)[i]? = some [.str l[i]] := by simp [strs, h]
def findI (s : List UInt8) : List (List UInt8) → Nat → Int
  | [], _ => -1
  | k :: r, i => if k = s then i else findI s r (i + 1)
theorem findI_step {s : List UInt8} {l : List (List UInt8)} {i j : Nat} (h : i < l.length) : findI s (l.drop i) j = if l[i] = s then (j : Int) else findI s (l.drop (i + 1)) (j + 1) := by
  rw [List.drop_eq_getElem_cons h]
  rfl
theorem findI_any (s : List UInt8) : ∀ (l : List (List UInt8)) (i : Nat), decide (0 ≤ findI s l i) = l.any fun k => decide (k = s)
  | [], i => by simp [findI]
  | k :: r, i => by
    unfold findI
    by_cases h : k = s
    · simp [h]
    · simp [h, findI_any s r]
theorem ent_r4_Find : Enters Tryd.prog 67 := Enters.mk Tryd.func67 rfl
theorem r4_Find_cs (l : List (List UInt8)) (s : List UInt8) (hl : l.length ≤ 1000000) : CS Tryd.prog G 67 [.sl (strs l), .str s] (.d (.int .i64 (findI s l 0))) none := by
  refine CS.of_VK Tryd.func67 rfl Tryd.ntmps67 rfl ?_
  simp [strs_len]
  refine SW.loopF (ι := { i : Nat // i ≤ l.length ∧ findI s l 0 = findI s (l.drop i) i }) (fun i => [(8, .d (.int .i64 i.1))]) (fun _ => []) (fun _ => []) (fun i => l.length - i.1) ⟨0, by simp⟩ (by simp) ?_
  rintro ⟨i, hi, he⟩
  by_cases hlt : i < l.length
  · have hg := strs_get hlt
    rw [findI_step hlt] at he
    by_cases hk : l[i] = s
    · simp [hlt, strs_len, hg, hk]
      rw [if_pos hk] at he
      rw [he]
    · simp [hlt, strs_len, hg, hk]
      rw [if_neg hk] at he
      exact Again.mk ⟨i + 1, hlt, he⟩ (by simp [wrap64s (show i < 9223372036854775807 by omega)]) (by simp; omega)
  · simp [hlt]
    rw [he, List.drop_of_length_le (by omega)]
    rfl
theorem ent_r4_keywords : Enters Tryd.prog 68 := Enters.mk Tryd.func68 rfl
theorem r4_keywords_cs : CS Tryd.prog G 68 [] (.d (.sl (strs kwL))) none := by
  refine CS.of_VK Tryd.func68 rfl Tryd.ntmps68 rfl ?_
  simp [show List.range 42 = [0, 1, 2, 3, 4, 5, 6, 7, 8, 9, 10, 11, 12, 13, 14, 15, 16, 17, 18, 19, 20, 21, 22, 23, 24, 25, 26, 27, 28, 29, 30, 31, 32, 33, 34, 35, 36, 37, 38, 39, 40, 41] from rfl]
  simp [strs, kwL]
theorem ent_r4_Keyword : Enters Tryd.prog 60 := Enters.mk Tryd.func60 rfl
theorem r4_Keyword_cs (s : List UInt8) : CS Tryd.prog G 60 [.str s] (.d (.bool (kwB s))) none := by
  refine CS.of_VK Tryd.func60 rfl Tryd.ntmps60 rfl ?_
  simp
  refine callK.mk ent_r4_keywords r4_keywords_cs ?_
  simp
  refine callK.mk ent_r4_Find (r4_Find_cs kwL s (by decide)) ?_
  have := findI_any s kwL 0
  simp
  simp [kwB, ← this]
theorem ent_r4_Check : Enters Tryd.prog 49 := Enters.mk Tryd.func49 rfl
theorem r4_Check_cs (s : List UInt8) : CS Tryd.prog G 49 [.str s] (.d (.int .i64 (errName (nameB s)))) none := by
  refine CS.of_VK Tryd.func49 rfl Tryd.ntmps49 rfl ?_
  by_cases hl1 : s.length < 1
  · have : sizedB s = false := by simp [sizedB]; omega
    simp [hl1, nameB, this, errName]
  by_cases hl2 : 24 < s.length
  · have : sizedB s = false := by simp [sizedB]; omega
    simp [hl1, hl2, nameB, this, errName]
  have hz : sizedB s = true := by simp [sizedB]; omega
  have h0 : 0 < s.length := by omega
  simp [hl1, hl2, h0]
  refine callK.mk ent_r4_small (r4_small_cs _) ?_
  cases h1 : smallB s[0].toNat
  · simp [nameB, headB_get h0, h1, errName]
  simp
  refine callK.mk ent_r4_Keyword (r4_Keyword_cs _) ?_
  cases h2 : kwB s
  · simp
    have hb : nameB s = all8 wdB s := by simp [nameB, hz, headB_get h0, h1, h2]
    refine SW.loopF (ι := { i : Nat // i ≤ s.length ∧ all8 wdB s = all8 wdB (s.drop i) }) (fun i => [(24, .d (.int .i64 i.1))]) (fun _ => []) (fun _ => []) (fun i => s.length - i.1) ⟨0, by simp⟩ (by simp) ?_
    rintro ⟨i, hi, he⟩
    by_cases hlt : i < s.length
    · have hw := wrap64s (show i < 9223372036854775807 by omega)
      simp [hlt]
      refine callK.mk ent_r4_small (r4_small_cs _) ?_
      cases h1 : smallB s[i].toNat
      · simp [hlt]
        refine callK.mk ent_r4_digit (r4_digit_cs _) ?_
        cases h3 : digB s[i].toNat
        · by_cases h4 : s[i].toNat = 95
          · simp [hlt, h4]
            exact Again.mk ⟨i + 1, hlt, all8_step he hlt (by simp [wdB, h4])⟩ (by simp [hw]) (by simp; omega)
          · simp [hlt, h4]
            rw [hb, all8_stop he hlt (by simp [wdB, h1, h3]; omega)]
            rfl
        · simp [hlt]
          exact Again.mk ⟨i + 1, hlt, all8_step he hlt (by simp [wdB, h3])⟩ (by simp [hw]) (by simp; omega)
      · simp [hlt]
        exact Again.mk ⟨i + 1, hlt, all8_step he hlt (by simp [wdB, h1])⟩ (by simp [hw]) (by simp; omega)
    · simp [hlt]
      rw [hb, all8_end he hlt]
      rfl
  · simp [nameB, h2, errName]
theorem ent_r4_Title : Enters Tryd.prog 50 := Enters.mk Tryd.func50 rfl
theorem r4_Title_cs (s : List UInt8) : CS Tryd.prog G 50 [.str s] (.d (.int .i64 (errName (titleB s)))) none := by
  refine CS.of_VK Tryd.func50 rfl Tryd.ntmps50 rfl ?_
  by_cases hl1 : s.length < 1
  · have : sizedB s = false := by simp [sizedB]; omega
    simp [hl1, titleB, this, errName]
  by_cases hl2 : 24 < s.length
  · have : sizedB s = false := by simp [sizedB]; omega
    simp [hl1, hl2, titleB, this, errName]
  have hz : sizedB s = true := by simp [sizedB]; omega
  have h0 : 0 < s.length := by omega
  simp [hl1, hl2, h0]
  refine callK.mk ent_r4_capital (r4_capital_cs _) ?_
  cases h1 : capB s[0].toNat
  · simp [titleB, headB_get h0, h1, errName]
  by_cases e1 : s = [73, 110, 116]
  · simp [titleB, e1, errName]
  by_cases e2 : s = [66, 111, 111, 108]
  · simp [titleB, e2, errName]
  by_cases e3 : s = [67, 101, 108, 108]
  · simp [titleB, e3, errName]
  by_cases e4 : s = [70, 117, 110]
  · simp [titleB, e4, errName]
  simp [e1, e2, e3, e4]
  have hb : titleB s = all8 anB s := by simp [titleB, hz, headB_get h0, h1, e1, e2, e3, e4]
  refine SW.loopF (ι := { i : Nat // i ≤ s.length ∧ all8 anB s = all8 anB (s.drop i) }) (fun i => [(36, .d (.int .i64 i.1))]) (fun _ => []) (fun _ => []) (fun i => s.length - i.1) ⟨0, by simp⟩ (by simp) ?_
  rintro ⟨i, hi, he⟩
  by_cases hlt : i < s.length
  · have hw := wrap64s (show i < 9223372036854775807 by omega)
    simp [hlt]
    refine callK.mk ent_r4_small (r4_small_cs _) ?_
    cases h1 : smallB s[i].toNat
    · simp [hlt]
      refine callK.mk ent_r4_capital (r4_capital_cs _) ?_
      cases h2 : capB s[i].toNat
      · simp [hlt]
        refine callK.mk ent_r4_digit (r4_digit_cs _) ?_
        cases h3 : digB s[i].toNat
        · simp [hlt]
          rw [hb, all8_stop he hlt (by simp [anB, h1, h2, h3])]
          rfl
        · simp [hlt]
          exact Again.mk ⟨i + 1, hlt, all8_step he hlt (by simp [anB, h3])⟩ (by simp [hw]) (by simp; omega)
      · simp [hlt]
        exact Again.mk ⟨i + 1, hlt, all8_step he hlt (by simp [anB, h2])⟩ (by simp [hw]) (by simp; omega)
    · simp [hlt]
      exact Again.mk ⟨i + 1, hlt, all8_step he hlt (by simp [anB, h1])⟩ (by simp [hw]) (by simp; omega)
  · simp [hlt]
    rw [hb, all8_end he hlt]
    rfl
end Go.Proofs.YthhfdlhbhfkbdaaDoor
