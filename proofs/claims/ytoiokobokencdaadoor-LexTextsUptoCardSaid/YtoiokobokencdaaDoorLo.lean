/- Tokens, the reference: formed; the walk. No condition. -/
import Derived.Test.YtoiokobokencdaaDoorLj
set_option linter.unusedVariables false
set_option linter.unusedSimpArgs false
set_option linter.unusedSectionVars false
namespace Go.Proofs.YtoiokobokencdaaDoor
open Go Go.VM
set_option maxRecDepth 100000
set_option maxHeartbeats 8000000
variable {G : GT}
theorem kind5_ok {c : UInt8} {r : List UInt8} (h : (firstT numL (c :: r)).2.2.2 = true) : kind5 c = (firstT numL (c :: r)).1 := by
  unfold firstT at h ⊢
  unfold kind5
  by_cases q1 : smU c = true
  · simp [q1]
  by_cases q2 : caU c = true
  · simp [q1, q2]
  by_cases q3 : dgU c = true
  · simp [q1, q2, q3]
  by_cases q4 : signT (c :: r) = []
  · simp [q1, q2, q3, q4] at h
  · simp [q1, q2, q3, q4]
def formedB (t : Tok) : Bool :=
  if t.line < 1 then false else if t.kind = 0 then decide (t.text = []) && decide (t.n = 0)
  else if t.text = [] then false else decide (firstT numL t.text = (t.kind, t.text, t.n, true))
theorem right_formed (t : Tok) (last : Bool) : rightB t last = (formedB t && (!decide (t.kind = 0) || last)) := by
  unfold rightB formedB
  by_cases h1 : t.line < 1
  · simp [h1]
  by_cases h2 : t.kind = 0
  · cases last <;> simp [h1, h2]
  · simp [h1, h2]
theorem ent_r5_formed : VM.Enters Tryd.prog 27 := VM.Enters.mk Tryd.func27 rfl
theorem r5_formed_cs (t : Tok) (hl : t.text.length ≤ 900000000) : CS Tryd.prog G 27 [.agg (tokE t)] (.d (.bool (formedB t))) none := by
  obtain ⟨k, tx, n, ln⟩ := t
  simp only at hl
  simp only [tokE]
  refine CS.of_VK Tryd.func27 rfl Tryd.ntmps27 rfl ?_
  by_cases h1 : ln < 1
  · simp [h1, formedB]
  simp [h1]
  by_cases h2 : k = 0
  · subst h2
    cases tx <;> simp [formedB, h1]
  simp [h2]
  cases tx with
  | nil => simp [formedB, h1, h2]
  | cons c r =>
    simp
    refine callK.mk ent_r5_first (r5_first_cs c r hl) ?_
    have hk := @kind5_ok c r
    obtain ⟨ff, hff⟩ : ∃ ff, firstT numL (c :: r) = ff := ⟨_, rfl⟩
    rw [hff] at hk
    obtain ⟨k2, tx2, m2, ok⟩ := ff
    cases ok with
    | false => simp [formedB, h1, h2, hff, first5]
    | true =>
      have hk2 : kind5 c = k2 := hk rfl
      simp [hff, first5, hk2]
      by_cases q1 : k2 = k
      · simp [q1]
        by_cases q2 : tx2 = c :: r
        · simp [q2, formedB, h1, h2, hff, q1]
        · simp [q2, formedB, h1, h2, hff, q1]
      · simp [q1, formedB, h1, h2, hff]
end Go.Proofs.YtoiokobokencdaaDoor
