/- Tokens: the text of tokens in two steps, as the reference takes them: plain. No condition. -/
import Derived.Test.YtoiokobokencdaaDoorLo
set_option linter.unusedVariables false
set_option linter.unusedSimpArgs false
set_option linter.unusedSectionVars false
namespace Go.Proofs.YtoiokobokencdaaDoor
open Go Go.VM
set_option maxRecDepth 100000
set_option maxHeartbeats 4000000
/-- The forms and the orders. -/
def chkT : List Tok → Int → Int
  | [], _ => 0
  | t :: r, ln => if formedB t = false ∨ (t.kind = 0 ∧ r ≠ []) then 6 else if t.line < ln then 9 else chkT r t.line
/-- The text, if it is short enough. -/
def bldT : List Tok → Int → Bool → List UInt8 → Option (List UInt8)
  | [], _, _, buf => if 40000 < buf.length then none else some buf
  | t :: r, ln, f, buf => if 40000 < t.line - ln ∨ 40000 < buf.length then none else bldT r t.line false (buf ++ pieceT t ln f)
theorem bldT_long {buf : List UInt8} (h : 40000 < buf.length) : ∀ (l : List Tok) (ln : Int) (f : Bool), bldT l ln f buf = none
  | [], ln, f => by rw [bldT, if_pos h]
  | t :: r, ln, f => by rw [bldT, if_pos (.inr h)]
def endT (c : Int) (long : Bool) (o : Option (List UInt8)) : List UInt8 × Int :=
  if c ≠ 0 then ([], c) else if long = true then ([], 7) else match o with
    | none => ([], 7)
    | some b => (b, 0)
theorem textW_eq : ∀ (l : List Tok) (ln : Int) (f long : Bool) (buf : List UInt8), (long = false → buf.length ≤ 40000) → textW l ln f long buf = endT (chkT l ln) long (bldT l ln f buf)
  | [], ln, f, long, buf, h => by
    cases long with
    | true => simp [textW, endT, chkT]
    | false =>
      have := h rfl
      have h2 : ¬ 40000 < buf.length := by omega
      simp [textW, endT, chkT, bldT, h2]
  | t :: r, ln, f, long, buf, h => by
    rw [textW, chkT, right_formed]
    by_cases hf : formedB t = false ∨ (t.kind = 0 ∧ r ≠ [])
    · have hr : (formedB t && (!decide (t.kind = 0) || r.isEmpty)) = false := by
        rcases hf with h1 | ⟨h1, h2⟩
        · simp [h1]
        · cases r with
          | nil => exact absurd rfl h2
          | cons a b => simp [h1]
      rw [if_pos hr, if_pos hf]
      simp [endT]
    · have hf' := hf
      simp only [not_or, not_and, Bool.not_eq_false, ne_eq, Decidable.not_not] at hf'
      have hr : (formedB t && (!decide (t.kind = 0) || r.isEmpty)) = true := by
        rw [hf'.1]
        by_cases hk : t.kind = 0
        · have := hf'.2 hk
          simp [this]
        · simp [hk]
      rw [if_neg (by rw [hr]; simp), if_neg hf]
      by_cases ho : t.line < ln
      · rw [if_pos ho, if_pos ho]
        simp [endT]
      · rw [if_neg ho, if_neg ho]
        cases long with
        | true =>
          rw [if_pos (.inl rfl), textW_eq r t.line false true buf (by simp)]
          simp [endT]
        | false =>
          have hb := h rfl
          by_cases hbig : 40000 < t.line - ln
          · rw [if_pos (.inr hbig), textW_eq r t.line false true buf (by simp), bldT, if_pos (.inl hbig)]
            simp [endT]
          · rw [if_neg (by simp [hbig]), textW_eq r t.line false _ (buf ++ pieceT t ln f) (by simp), bldT, if_neg (by simp only [not_or]; exact ⟨hbig, by omega⟩)]
            by_cases hl : 40000 < (buf ++ pieceT t ln f).length
            · rw [bldT_long hl]
              simp only [endT, hl, decide_true, if_true]
              split <;> rfl
            · simp only [endT, hl, decide_false, Bool.false_eq_true, if_false]
end Go.Proofs.YtoiokobokencdaaDoor
