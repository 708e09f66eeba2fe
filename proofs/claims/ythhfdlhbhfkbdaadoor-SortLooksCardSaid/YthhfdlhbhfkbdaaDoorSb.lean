/- Names: keywords, names, titles. No condition. -/
import Derived.Test.YthhfdlhbhfkbdaaDoorSa
set_option linter.unusedVariables false
set_option linter.unusedSimpArgs false
set_option linter.unusedSectionVars false
namespace Go.Proofs.YthhfdlhbhfkbdaaDoor
open Go Go.VM
set_option maxRecDepth 100000
variable {G : GT}

def kwL : List (List UInt8) := [[97, 110, 100], [97, 115, 115, 117, 109, 101], [98, 111, 111, 108], [98, 111, 117, 110, 100], [99, 97, 115, 101], [99, 101, 108, 108], [99, 108, 97, 115, 115], [100, 97, 116, 97], [100, 101, 102], [100, 105, 118], [101, 108, 115, 101], [101, 110, 100], [102, 97, 108, 115, 101], [102, 111, 114, 97, 108, 108], [102, 117, 110], [103, 101, 116], [105, 102], [105, 110], [105, 110, 115, 116], [105, 110, 116], [105, 110, 118, 97, 114, 105, 97, 110, 116], [108, 101, 116], [109, 97, 116, 99, 104], [109, 101, 97, 115, 117, 114, 101], [109, 101, 116, 114, 105, 99], [109, 111, 100], [109, 117], [110, 101, 119], [110, 111, 116], [111, 102], [111, 114], [113, 117, 97, 108], [114, 101, 102, 108, 101, 99, 116], [115, 101, 116], [116, 104, 101, 110], [116, 114, 117, 101], [117, 115, 101], [118], [118, 97, 108], [116, 97, 103], [119, 104, 101, 114, 101], [119, 105, 116, 104]]
def kwB (s : List UInt8) : Bool := kwL.any fun k => decide (k = s)
/-- The cells of the table of keywords. -/
def kwCells : List D := kwL.map D.str
theorem kwL_len : kwL.length = 42 := rfl
theorem ent_n_Keyword : Enters Tryd.prog 64 := Enters.mk Tryd.func64 rfl
theorem n_Keyword_cs (hG : G 0 = some kwCells) (s : List UInt8) : CS Tryd.prog G 64 [.str s] (.d (.bool (kwB s))) none := by
  refine CS.of_VK Tryd.func64 rfl Tryd.ntmps64 rfl ?_
  have hlen : kwCells.length = 42 := rfl
  have htake : List.take 42 kwCells = kwCells := by rw [← hlen, List.take_length]
  simp [hG, hlen, htake]
  refine SW.loopF (ι := { i : Nat // i ≤ 42 ∧ kwB s = (kwL.drop i).any fun k => decide (k = s) }) (fun i => [(6, .d (.int .i64 i.1))]) (fun _ => []) (fun _ => []) (fun i => 42 - i.1) ⟨0, by simp [kwB]⟩ (by simp) ?_
  rintro ⟨i, hi, he⟩
  by_cases hlt : i < 42
  · have hl : i < kwL.length := hlt
    have hget : kwCells[i]? = some (.str kwL[i]) := by simp [kwCells, hl]
    have hget2 : kwCells[i]'(by rw [hlen]; exact hlt) = .str kwL[i] := by simp [kwCells]
    by_cases hk : kwL[i] = s
    · simp [hlt, hlen, hget, hget2, hk]
      exact any_stop he hl (by simp [hk])
    · simp [hlt, hlen, hget, hget2, hk]
      exact Again.mk ⟨i + 1, hlt, any_step he hl (by simp [hk])⟩ (by simp [wrap64s (show i < 9223372036854775807 by omega)]) (by simp; omega)
  · simp [hlt]
    exact any_end he hlt

theorem lt_or_nil (s : List UInt8) : s = [] ∨ 0 < s.length := by cases s <;> simp
def headB (p : Int → Bool) (s : List UInt8) : Bool := match s with
  | [] => false
  | c :: _ => p c.toNat
theorem headB_get {p : Int → Bool} {s : List UInt8} (h : 0 < s.length) : headB p s = p s[0].toNat := by
  cases s with
  | nil => simp at h
  | cons c s => rfl
def nameB (s : List UInt8) : Bool := sizedB s && headB smallB s && !kwB s && all8 wdB s
theorem ent_n_name : Enters Tryd.prog 53 := Enters.mk Tryd.func53 rfl
theorem n_name_cs (hG : G 0 = some kwCells) (s : List UInt8) : CS Tryd.prog G 53 [.str s] (.d (.bool (nameB s))) none := by
  refine CS.of_VK Tryd.func53 rfl Tryd.ntmps53 rfl ?_
  simp
  refine callK.mk ent_n_sized (n_sized_cs _) ?_
  cases hz : sizedB s
  · simp [nameB, hz]
  · have hl : 1 ≤ s.length ∧ s.length ≤ 24 := by simpa [sizedB] using hz
    have h0 : 0 < s.length := by omega
    simp [h0]
    refine callK.mk ent_n_small (n_small_cs _) ?_
    cases h1 : smallB s[0].toNat
    · simp [nameB, headB_get h0, h1]
    · simp
      refine callK.mk ent_n_Keyword (n_Keyword_cs hG _) ?_
      cases h2 : kwB s
      · simp
        have hb : nameB s = all8 wdB s := by simp [nameB, hz, headB_get h0, h1, h2]
        refine SW.loopF (ι := { i : Nat // 1 ≤ i ∧ i ≤ s.length ∧ all8 wdB s = all8 wdB (s.drop i) }) (fun i => [(3, .d (.int .i64 i.1))]) (fun _ => []) (fun _ => []) (fun i => s.length - i.1) ⟨1, Nat.le_refl _, hl.1, all8_step (i := 0) rfl h0 (by simp [wdB, h1])⟩ (by simp) ?_
        rintro ⟨i, hi1, hi, he⟩
        by_cases hlt : i < s.length
        · have hw := wrap64s (show i < 9223372036854775807 by omega)
          simp [hlt]
          refine callK.mk ent_n_small (n_small_cs _) ?_
          cases h1 : smallB s[i].toNat
          · simp [hlt]
            refine callK.mk ent_n_digit (n_digit_cs _) ?_
            cases h3 : digB s[i].toNat
            · by_cases h4 : s[i].toNat = 95
              · simp [hlt, h4]
                exact Again.mk ⟨i + 1, by omega, hlt, all8_step he hlt (by simp [wdB, h4])⟩ (by simp [hw]) (by simp; omega)
              · simp [hlt, h4]
                rw [hb]
                exact all8_stop he hlt (by simp [wdB, h1, h3]; omega)
            · simp [hlt]
              exact Again.mk ⟨i + 1, by omega, hlt, all8_step he hlt (by simp [wdB, h3])⟩ (by simp [hw]) (by simp; omega)
          · simp [hlt]
            exact Again.mk ⟨i + 1, by omega, hlt, all8_step he hlt (by simp [wdB, h1])⟩ (by simp [hw]) (by simp; omega)
        · simp [hlt]
          rw [hb]
          exact all8_end he hlt
      · simp [nameB, h2]
theorem ent_n_title : Enters Tryd.prog 54 := Enters.mk Tryd.func54 rfl
def titleB (s : List UInt8) : Bool := sizedB s && headB capB s && all8 anB s && !decide (s = [73, 110, 116]) && !decide (s = [66, 111, 111, 108]) && !decide (s = [67, 101, 108, 108]) && !decide (s = [70, 117, 110])
theorem n_title_cs (s : List UInt8) : CS Tryd.prog G 54 [.str s] (.d (.bool (titleB s))) none := by
  refine CS.of_VK Tryd.func54 rfl Tryd.ntmps54 rfl ?_
  simp
  refine callK.mk ent_n_sized (n_sized_cs _) ?_
  cases hz : sizedB s
  · simp [titleB, hz]
  · have hl : 1 ≤ s.length ∧ s.length ≤ 24 := by simpa [sizedB] using hz
    have h0 : 0 < s.length := by omega
    simp [h0]
    refine callK.mk ent_n_capital (n_capital_cs _) ?_
    cases h1 : capB s[0].toNat
    · simp [titleB, headB_get h0, h1]
    · simp
      refine callK.mk ent_n_alphanumeric (n_alphanumeric_cs _ (by omega)) ?_
      cases h2 : all8 anB s
      · simp [titleB, h2]
      · by_cases e1 : s = [73, 110, 116]
        · simp [titleB, e1]
        by_cases e2 : s = [66, 111, 111, 108]
        · simp [titleB, e2]
        by_cases e3 : s = [67, 101, 108, 108]
        · simp [titleB, e3]
        simp [titleB, hz, headB_get h0, h1, h2, e1, e2, e3]
/-- What stands ahead of the first point, and what behind. -/
def cutL : List UInt8 → List UInt8 × List UInt8 × Bool
  | [] => ([], [], false)
  | c :: r => if c.toNat = 46 then ([], r, true) else (c :: (cutL r).1, (cutL r).2)
theorem ent_n_cut : Enters Tryd.prog 52 := Enters.mk Tryd.func52 rfl
theorem cutL_at : ∀ (s : List UInt8) (i : Nat), (∀ j (h : j < s.length), j < i → s[j].toNat ≠ 46) → i ≤ s.length → cutL s = (s.take i ++ (cutL (s.drop i)).1, (cutL (s.drop i)).2)
  | s, 0, _, _ => by simp
  | [], i + 1, _, h => by simp at h
  | c :: r, i + 1, hj, h => by
    have h0 := hj 0 (by simp) (by omega)
    simp at h0 h
    have ih := cutL_at r i (fun j h hji => by have := hj (j + 1) (by simp; omega) (by omega); simpa using this) h
    simp [cutL, h0, ih]
theorem n_cut_cs (s : List UInt8) (hs : s.length ≤ 1000000) : CS Tryd.prog G 52 [.str s] (.tup [.str (cutL s).1, .str (cutL s).2.1, .bool (cutL s).2.2]) none := by
  refine CS.of_VK Tryd.func52 rfl Tryd.ntmps52 rfl ?_
  simp
  refine SW.loopF (ι := { i : Nat // i ≤ s.length ∧ ∀ j (h : j < s.length), j < i → s[j].toNat ≠ 46 }) (fun i => [(5, .d (.int .i64 i.1))]) (fun _ => []) (fun _ => []) (fun i => s.length - i.1) ⟨0, by simp⟩ (by simp) ?_
  rintro ⟨i, hi, he⟩
  have hcut := cutL_at s i he hi
  by_cases hlt : i < s.length
  · by_cases h4 : s[i].toNat = 46
    · have hw : IntKind.i64.wrap ((i : Int) + 1) = ((i + 1 : Nat) : Int) := wrap64s (by omega)
      rw [List.drop_eq_getElem_cons hlt] at hcut
      simp only [cutL, h4, if_true] at hcut
      have h1 : i + 1 ≤ s.length := hlt
      simp [hlt, h4, hcut, hw, hi, h1]
      exact lexOk.mk (by kernel_rfl)
    · simp [hlt, h4]
      refine Again.mk ⟨i + 1, hlt, fun j h hj => ?_⟩ (by simp [wrap64s (show i < 9223372036854775807 by omega)]) (by simp; omega)
      by_cases hji : j = i
      · subst hji; exact h4
      · exact he j h (by omega)
  · have : i = s.length := by omega
    subst this
    rw [List.drop_length] at hcut
    simp [cutL] at hcut
    simp [hlt, hcut]
end Go.Proofs.YthhfdlhbhfkbdaaDoor
