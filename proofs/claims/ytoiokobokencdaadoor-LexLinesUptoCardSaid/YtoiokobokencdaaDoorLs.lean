/- Tokens: how many lines they have, plain. No condition. -/
import Derived.Test.YtoiokobokencdaaDoorLn
import Derived.Test.YtoiokobokencdaaDoorLk
set_option linter.unusedVariables false
set_option linter.unusedSimpArgs false
set_option linter.unusedSectionVars false
namespace Go.Proofs.YtoiokobokencdaaDoor
open Go Go.VM
set_option maxRecDepth 100000
set_option maxHeartbeats 4000000
/-- How often the line changes at a token that is not the end's. -/
def chg : List Tok → Int → Nat
  | [], _ => 0
  | t :: r, p => (if t.kind ≠ 0 ∧ p < t.line then 1 else 0) + chg r t.line
theorem linesT_ok {l : List Tok} {ln : Int} (h : OkT numL l ln) : ∀ (acc : List Int) (p : Int), (∀ z ∈ acc, z ≤ p) → (p ∈ acc ∨ p < ln) → p ≤ ln → (linesT l acc).length = acc.length + chg l p := by
  induction h with
  | fin ln L hle =>
    intro acc p _ _ _
    simp [linesT, chg]
  | cons t r ln hle h2 h3 ih =>
    intro acc p ha hp hpl
    have hk := first_kind (num := numL) (s := t.text) (by rw [h2])
    rw [h2] at hk
    simp only at hk
    have hk0 : ¬ t.kind = 0 := by omega
    rw [linesT, if_neg hk0, chg]
    by_cases hlt : p < t.line
    · have hm : t.line ∉ acc := fun hm => by have := ha _ hm; omega
      rw [insZ, if_neg hm, if_pos ⟨hk0, hlt⟩, ih (acc ++ [t.line]) t.line (fun z hz => by
        rcases List.mem_append.1 hz with hz | hz
        · have := ha z hz; omega
        · simp at hz; omega) (.inl (by simp)) (Int.le_refl _)]
      simp only [List.length_append, List.length_cons, List.length_nil]
      omega
    · have e : p = t.line := by omega
      have hm : t.line ∈ acc := by
        rcases hp with hp | hp
        · rw [← e]; exact hp
        · omega
      rw [insZ, if_pos hm, if_neg (fun h => hlt h.2), ih acc t.line (fun z hz => by have := ha z hz; omega) (.inl hm) (Int.le_refl _)]
      omega
/-- One word a line. -/
def xsT : Nat → List UInt8
  | 0 => []
  | n + 1 => [120, 49, 10] ++ xsT n
theorem xsT_snoc : ∀ n, xsT (n + 1) = xsT n ++ [120, 49, 10]
  | 0 => rfl
  | n + 1 => by
    show [120, 49, 10] ++ xsT (n + 1) = ([120, 49, 10] ++ xsT n) ++ [120, 49, 10]
    rw [xsT_snoc n]
    simp
theorem xsT_len : ∀ n, (xsT n).length = 3 * n
  | 0 => rfl
  | n + 1 => by
    rw [xsT]
    simp only [List.length_append, List.length_cons, List.length_nil, xsT_len n]
    omega
def xsK : Nat → Int → List Tok
  | 0, ln => [⟨0, [], 0, ln⟩]
  | n + 1, ln => ⟨1, [120, 49], 0, ln⟩ :: xsK n (ln + 1)
theorem xs_lex : ∀ (n : Nat) (ln : Int), lexG numL (xsT n) 0 ln false = .ok (xsK n ln)
  | 0, ln => by simp [xsT, xsK, lexG]
  | n + 1, ln => by
    have ih := xs_lex n (ln + 1)
    have hf : firstT numL (120 :: 49 :: 10 :: xsT n) = (1, [120, 49], 0, true) := by
      have h1 : smU 120 = true := by decide
      have h2 : inU 120 = true := by decide
      have h3 : inU 49 = true := by decide
      have h4 : inU 10 = false := by decide
      simp [firstT, h1, h2, h3, h4, List.takeWhile]
    rw [xsT, xsK]
    show lexG numL (120 :: 49 :: 10 :: xsT n) 0 ln false = _
    rw [lexG, hf]
    rw [if_neg (by decide), if_neg (by decide), if_neg (by decide)]
    simp only [if_true]
    show (match lexG numL (49 :: 10 :: xsT n) 1 ln false with | .ok l => _ | .error e => _) = _
    rw [lexG, lexG, if_pos rfl, ih]
theorem xsK_len : ∀ (n : Nat) (ln : Int), (xsK n ln).length = n + 1
  | 0, ln => rfl
  | n + 1, ln => by rw [xsK, List.length_cons, xsK_len n]
theorem xsK_chg : ∀ (n : Nat) (ln p : Int), p < ln → chg (xsK n ln) p = n
  | 0, ln, p, _ => by simp [xsK, chg]
  | n + 1, ln, p, h => by
    rw [xsK, chg, xsK_chg n (ln + 1) ln (by omega)]
    simp [h]
    omega
theorem OkT_tail {t : Tok} {r : List Tok} {q : Int} (h : OkT numL (t :: r) q) : q ≤ t.line ∧ (r = [] ∨ OkT numL r t.line) := by
  cases h with
  | fin _ _ hle => exact ⟨hle, .inl rfl⟩
  | cons _ _ _ h1 _ h3 => exact ⟨h1, .inr h3⟩
end Go.Proofs.YtoiokobokencdaaDoor
