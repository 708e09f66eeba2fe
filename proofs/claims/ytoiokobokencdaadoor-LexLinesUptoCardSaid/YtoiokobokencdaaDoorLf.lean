/- Tokens: right, Same; the walks. No condition. -/
import Derived.Test.YtoiokobokencdaaDoorLe
set_option linter.unusedVariables false
set_option linter.unusedSimpArgs false
set_option linter.unusedSectionVars false
namespace Go.Proofs.YtoiokobokencdaaDoor
open Go Go.VM
set_option maxRecDepth 100000
set_option maxHeartbeats 8000000
variable {G : GT}
def rightB (t : Tok) (last : Bool) : Bool :=
  if t.line < 1 then false else if t.kind = 0 then last && decide (t.text = []) && decide (t.n = 0)
  else if t.text = [] then false else decide (firstT numL t.text = (t.kind, t.text, t.n, true))
theorem ent_lex_right : VM.Enters Tryd.prog 21 := VM.Enters.mk Tryd.func21 rfl
theorem lex_right_cs (hS : G 0 = some sgCells) (t : Tok) (last : Bool) (hl : t.text.length ≤ 900000000) : CS Tryd.prog G 21 [.agg (tokE t), .bool last] (.d (.bool (rightB t last))) none := by
  obtain ⟨k, tx, n, ln⟩ := t
  simp only at hl
  simp only [tokE]
  refine CS.of_VK Tryd.func21 rfl Tryd.ntmps21 rfl ?_
  by_cases h1 : ln < 1
  · simp [h1, rightB]
  simp [h1]
  by_cases h2 : k = 0
  · subst h2
    cases last <;> simp [rightB, h1]
    cases tx <;> simp
  simp [h2]
  cases tx with
  | nil => simp [rightB, h1, h2]
  | cons c r =>
    simp
    refine callK.mk ent_lex_first (lex_first_cs hS c r hl) ?_
    obtain ⟨ff, hff⟩ : ∃ ff, firstT numL (c :: r) = ff := ⟨_, rfl⟩
    obtain ⟨k2, tx2, m2, ok⟩ := ff
    cases ok <;> simp [rightB, h1, h2, hff, firstC]
end Go.Proofs.YtoiokobokencdaaDoor
