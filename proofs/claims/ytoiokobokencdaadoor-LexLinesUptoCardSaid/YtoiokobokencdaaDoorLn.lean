/- Tokens: how many lines; the walk. No condition. -/
import Derived.Test.YtoiokobokencdaaDoorLj
set_option linter.unusedVariables false
set_option linter.unusedSimpArgs false
set_option linter.unusedSectionVars false
namespace Go.Proofs.YtoiokobokencdaaDoor
open Go Go.VM
set_option maxRecDepth 100000
set_option maxHeartbeats 8000000
variable {G : GT}
def insZ (z : Int) (l : List Int) : List Int := if z ∈ l then l else l ++ [z]
/-- The different lines of the tokens other than the end's. -/
def linesT : List Tok → List Int → List Int
  | [], acc => acc
  | t :: r, acc => linesT r (if t.kind = 0 then acc else insZ t.line acc)
def zsE (l : List Int) : List (D × D) := l.map fun z => (.int .i64 z, .bool true)
@[simp] theorem zsE_len (l : List Int) : (zsE l).length = l.length := by simp [zsE]
theorem zsE_set (z : Int) : ∀ l : List Int, setKeyD (.int .i64 z) (.bool true) (zsE l) = some (zsE (insZ z l))
  | [] => by simp [zsE, setKeyD, insZ]
  | a :: r => by
    have ih := zsE_set z r
    by_cases h : a = z
    · subst h
      simp [zsE, setKeyD, insZ, eqCell]
    · have h2 : ¬ z = a := fun e => h e.symm
      have h3 : (z == a) = false := by simpa using h2
      simp only [zsE, List.map_cons] at ih ⊢
      simp only [setKeyD, eqCell, if_true, h3, ih]
      by_cases hm : z ∈ r
      · simp [insZ, hm]
      · simp [insZ, hm, h2]
theorem ent_lex_Lines : VM.Enters Tryd.prog 13 := VM.Enters.mk Tryd.func13 rfl
theorem lex_Lines_cs (l : List Tok) (hl : l.length ≤ 900000000) : CS Tryd.prog G 13 [.sl (toks l)] (.d (.int .i64 (linesT l []).length)) none := by
  obtain ⟨res, hres⟩ : ∃ x, linesT l [] = x := ⟨_, rfl⟩
  rw [hres]
  refine CS.of_VK Tryd.func13 rfl Tryd.ntmps13 rfl ?_
  simp
  refine SW.loopF (ι := { x : Nat × List Int // x.1 ≤ l.length ∧ linesT (l.drop x.1) x.2 = res }) (fun x => [(9, .d (.int .i64 x.1.1))]) (fun x => [(6, .map (zsE x.1.2))]) (fun _ => []) (fun x => l.length - x.1.1) ⟨(0, []), by simp [hres]⟩ (by simp [zsE]) ?_
  rintro ⟨⟨i, acc⟩, hi, hR⟩
  try simp only at hi hR
  by_cases hlt : i < l.length
  · have hw := wrap64s (show i < 9223372036854775807 by omega)
    have hQ : linesT (l.drop i) acc = res := hR
    rw [List.drop_eq_getElem_cons hlt, linesT] at hQ
    by_cases hk : l[i].kind = 0
    · rw [if_pos hk] at hQ
      simp [hlt, toks_getE, hk]
      exact Again.mk ⟨(i + 1, acc), hlt, hQ⟩ (by simp [hw]) (by simp; omega)
    · rw [if_neg hk] at hQ
      simp [hlt, toks_getE, hk, zsE_set]
      exact Again.mk ⟨(i + 1, insZ l[i].line acc), hlt, hQ⟩ (by simp [hw]) (by simp; omega)
  · have : i = l.length := by omega
    subst this
    rw [List.drop_length, linesT] at hR
    simp [hR]
end Go.Proofs.YtoiokobokencdaaDoor
