/- The statement LexTokens: its function gives true. No condition. -/
import Derived.Test.YtoiokobokencdaaDoorLj
import Derived.Test.YtoiokobokencdaaDoorFit
import Derived.Test.YtoiokobokencdaaDoorUp
set_option linter.unusedVariables false
set_option linter.unusedSimpArgs false
set_option linter.unusedSectionVars false
namespace Go.Proofs.YtoiokobokencdaaDoor
open Go Go.VM
set_option maxRecDepth 100000
set_option maxHeartbeats 8000000
def G0 : GT := fun g => if g = 0 then some sgCells else none
theorem G0_sg : G0 0 = some sgCells := rfl
def tokL : Except Int (List Tok) → List Tok
  | .ok l => l
  | .error _ => []
theorem tokD_wk (e : Except Int (List Tok)) : WkD (tokD e) (.sl (toks (tokL e))) := by
  cases e with
  | ok l => exact .refl _
  | error e => exact .nils
theorem lexG_len1 (s : List UInt8) (l : List Tok) (h : lexG numL s 0 1 false = .ok l) : l.length ≤ s.length + 1 := by
  have key : ∀ (s : List UInt8) (k : Nat) (ln : Int) (cm : Bool) (l : List Tok), lexG numL s k ln cm = .ok l → l.length ≤ s.length + 1 := by
    intro s
    induction s with
    | nil => intro k ln cm l h; simp [lexG] at h; rw [← h]; simp
    | cons c r ih =>
      intro k ln cm l h
      cases k with
      | succ k => rw [lexG] at h; have := ih _ _ _ _ h; simp only [List.length_cons]; omega
      | zero =>
        rw [lexG] at h
        split at h
        · have := ih _ _ _ _ h; simp only [List.length_cons]; omega
        · split at h
          · have := ih _ _ _ _ h; simp only [List.length_cons]; omega
          · split at h
            · have := ih _ _ _ _ h; simp only [List.length_cons]; omega
            · split at h
              · split at h
                · rename_i l2 hl2
                  cases h
                  have := ih _ _ _ _ hl2
                  simp only [List.length_cons]; omega
                · cases h
              · cases h
  exact key s 0 1 false l h
theorem tokL_len (s : List UInt8) : (tokL (lexG numL s 0 1 false)).length ≤ s.length + 1 := by
  cases h : lexG numL s 0 1 false with
  | ok l => exact lexG_len1 s l h
  | error e => simp [tokL]
/-! ### The examples -/
theorem aw1 : lexG numL [120, 60, 61, 62, 121, 32, 35, 32, 122] 0 1 false = .ok [⟨1, [120], 0, 1⟩, ⟨4, [60, 61, 62], 0, 1⟩, ⟨1, [121], 0, 1⟩, ⟨0, [], 0, 1⟩] := by rfl
theorem aw2 : lexG numL [97, 10, 98, 32, 36] 0 1 false = .error 2 := by rfl
theorem aw3 : lexG numL [49, 48, 48, 48, 48, 48, 48, 48, 48, 48, 48, 48, 49] 0 1 false = .error 1 := by rfl
theorem aw4 : textW [⟨1, [97], 0, 1⟩, ⟨3, [51], 3, 2⟩, ⟨0, [], 0, 2⟩] 1 true false [] = ([97, 10, 51], 0) := by rfl
theorem ent_l5_awake : VM.Enters Tryd.prog 8 := VM.Enters.mk Tryd.func8 rfl
theorem l5_awake_cs : CS Tryd.prog G0 8 [] (.d (.bool true)) none := by
  have h1 := lex_Tokens_cs G0_sg [120, 60, 61, 62, 121, 32, 35, 32, 122] (by decide)
  have h2 := lex_Tokens_cs G0_sg [97, 10, 98, 32, 36] (by decide)
  have h3 := lex_Tokens_cs G0_sg [49, 48, 48, 48, 48, 48, 48, 48, 48, 48, 48, 48, 49] (by decide)
  have h4 := lex_Text_cs G0_sg [⟨1, [97], 0, 1⟩, ⟨3, [51], 3, 2⟩, ⟨0, [], 0, 2⟩] (by decide) (by simp [I64])
  rw [aw1] at h1
  rw [aw2] at h2
  rw [aw3] at h3
  rw [aw4] at h4
  simp [tokD, tokN, tokF, toks, tokE] at h1 h2 h3 h4
  have hr3 : List.range 3 = [0, 1, 2] := rfl
  refine CS.of_VK Tryd.func8 rfl Tryd.ntmps8 rfl ?_
  simp
  refine callK.mk ent_lex_Tokens h1 ?_
  simp
  refine callK.mk ent_lex_Tokens h2 ?_
  simp
  refine callK.mk ent_lex_Tokens h3 ?_
  simp [hr3]
  refine callK.mk ent_lex_Text h4 ?_
  simp
/-! ### LexTokens -/
theorem ent_l5_LexTokens : VM.Enters Tryd.prog 3 := VM.Enters.mk Tryd.func3 rfl
theorem l5_LexTokens_cs (s : List UInt8) (hl : s.length ≤ 100000000) : CS Tryd.prog G0 3 [.str s] (.d (.bool true)) none := by
  have hsame := CS.args (r5_Same_cs (G := G0) (tokL (lexG numL s 0 1 false)) (tokL (lexG numL s 0 1 false)) (by have := tokL_len s; omega)) (ds := [tokD (lexG numL s 0 1 false), tokD (lexG numL s 0 1 false)]) (by rw [WkL_cons, WkL_cons, WkL_nil]; exact ⟨tokD_wk _, tokD_wk _, trivial⟩)
  have hsame0 := CS.args (r5_Same_cs (G := G0) [] [] (by simp)) (ds := [.nils, .nils]) (by simp)
  have h1 := lex_Tokens_cs G0_sg s (by omega)
  have h2 := r5_Tokens_cs (G := G0) s (by omega)
  refine CS.of_VK Tryd.func3 rfl Tryd.ntmps3 rfl ?_
  by_cases hlong : 40000 < s.length
  · have e1 : (3000 : Int) < s.length := by omega
    have e2 : ¬ (s.length : Int) ≤ 40000 := by omega
    rw [if_pos hlong] at h1 h2
    simp [e1, e2]
    refine callK.mk ent_lex_Tokens h1 ?_
    simp
    refine callK.mk ent_r5_Tokens h2 ?_
    simp
    refine callK.mk ent_r5_Same hsame0 ?_
    simp
    refine callK.mk ent_l5_awake (l5_awake_cs ) ?_
    simp
  rw [if_neg hlong] at h1 h2
  by_cases hmid : 3000 < s.length
  · have e1 : (3000 : Int) < s.length := by omega
    have e2 : (s.length : Int) ≤ 40000 := by omega
    simp [e1, e2]
    refine callK.mk ent_l5_awake (l5_awake_cs ) ?_
    simp
  have e1 : ¬ (3000 : Int) < s.length := by omega
  simp [e1]
  refine callK.mk ent_lex_Tokens h1 ?_
  simp
  refine callK.mk ent_r5_Tokens h2 ?_
  simp
  refine callK.mk ent_r5_Same hsame ?_
  simp
  refine callK.mk ent_l5_awake (l5_awake_cs ) ?_
  simp
theorem lexTokens_all (xs : List D) (h : FitsAll Tryd.prog [9] xs) (hsz : szL xs ≤ 1048576) : CS Tryd.prog G0 3 xs (.d (.bool true)) none := by
  match xs, h with
  | [a], ⟨h1, _⟩ =>
    obtain ⟨s, rfl, _⟩ := fitsV_str tu9 h1
    simp only [szL, szD] at hsz
    exact l5_LexTokens_cs s (by omega)
end Go.Proofs.YtoiokobokencdaaDoor
