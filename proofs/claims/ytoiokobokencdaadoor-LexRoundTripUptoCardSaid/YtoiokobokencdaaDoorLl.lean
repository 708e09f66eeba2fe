/- The statement LexRoundTrip: its function gives true. No condition. -/
import Derived.Test.YtoiokobokencdaaDoorLk
set_option linter.unusedVariables false
set_option linter.unusedSimpArgs false
set_option linter.unusedSectionVars false
namespace Go.Proofs.YtoiokobokencdaaDoor
open Go Go.VM
set_option maxRecDepth 100000
set_option maxHeartbeats 8000000
theorem lexG_bd : ∀ (s : List UInt8) (k : Nat) (ln : Int) (cm : Bool) (l : List Tok), lexG numL s k ln cm = .ok l → ∀ t ∈ l, ln ≤ t.line ∧ t.line ≤ ln + s.length ∧ t.text.length ≤ s.length
  | [], k, ln, cm, l, h => by
    simp [lexG] at h
    rw [← h]
    simp
  | c :: r, k + 1, ln, cm, l, h => by
    rw [lexG] at h
    intro t ht
    have := lexG_bd r k ln cm l h t ht
    simp only [List.length_cons]; omega
  | c :: r, 0, ln, cm, l, h => by
    rw [lexG] at h
    intro t ht
    split at h
    · have := lexG_bd r 0 _ _ l h t ht
      simp only [List.length_cons]; omega
    · split at h
      · have := lexG_bd r 0 _ _ l h t ht
        simp only [List.length_cons]; omega
      · split at h
        · have := lexG_bd r 0 _ _ l h t ht
          simp only [List.length_cons]; omega
        · split at h
          · rename_i hok
            split at h
            · rename_i l2 hl2
              cases h
              rcases List.mem_cons.1 ht with rfl | ht
              · have := (first_ok hok).2.1.length_le
                simp only [List.length_cons] at this ⊢
                omega
              · have := lexG_bd r _ _ _ l2 hl2 t ht
                simp only [List.length_cons]; omega
            · cases h
          · cases h
theorem OkT_ne {l : List Tok} {ln : Int} (h : OkT numL l ln) : l ≠ [] := by cases h <;> simp
theorem OkT_last {l : List Tok} {ln : Int} (h : OkT numL l ln) : ∃ pre L, l = pre ++ [⟨0, [], 0, L⟩] := by
  induction h with
  | fin ln L _ => exact ⟨[], L, rfl⟩
  | cons t r ln _ _ _ ih =>
    obtain ⟨pre, L, rfl⟩ := ih
    exact ⟨t :: pre, L, rfl⟩
theorem textW_ok {l : List Tok} {ln : Int} (h : OkT numL l ln) : 1 ≤ ln → ∀ (f : Bool) (buf : List UInt8), (buf ++ textG l ln f).length ≤ 40000 → textW l ln f false buf = (buf ++ textG l ln f, 0) := by
  induction h with
  | fin ln L hle =>
    intro h1 f buf hb
    simp only [textG, List.append_nil] at hb ⊢
    have hp : ((L - ln).toNat : Int) ≤ 40000 := by
      simp only [pieceT, List.length_append, List.length_replicate] at hb
      omega
    have hr : rightB ⟨0, [], 0, L⟩ true = true := by
      have : ¬ L < 1 := by omega
      simp [rightB, this]
    rw [textW, if_neg (by simp [hr]), if_neg (by simp only; omega), if_neg (by simp only [not_or]; exact ⟨by simp, by omega⟩)]
    have : decide (40000 < (buf ++ pieceT ⟨0, [], 0, L⟩ ln f).length) = false := by simp only [decide_eq_false_iff_not]; omega
    rw [this, textW]
    simp
  | cons t r ln hle hf hr ih =>
    intro h1 f buf hb
    have hok : (firstT numL t.text).2.2.2 = true := by rw [hf]
    have hk := first_kind hok
    rw [hf] at hk
    simp only at hk
    have hne : t.text ≠ [] := fun e => by rw [e] at hok; simp [firstT] at hok
    have hrt : rightB t r.isEmpty = true := by
      have h2 : ¬ t.line < 1 := by omega
      have h3 : ¬ t.kind = 0 := by omega
      simp [rightB, h2, h3, hne, hf]
    simp only [textG] at hb ⊢
    rw [← List.append_assoc] at hb ⊢
    have hb2 : (buf ++ pieceT t ln f).length ≤ 40000 := by rw [List.length_append] at hb; omega
    have hp : ((t.line - ln).toNat : Int) ≤ 40000 := by
      simp only [pieceT, List.length_append, List.length_replicate] at hb2
      omega
    rw [textW, if_neg (by simp [hrt]), if_neg (by omega), if_neg (by simp only [not_or]; exact ⟨by simp, by omega⟩)]
    have : decide (40000 < (buf ++ pieceT t ln f).length) = false := by simp only [decide_eq_false_iff_not]; omega
    rw [this]
    exact ih (by omega) false _ hb
theorem ent_l5_LexRoundTrip : VM.Enters Tryd.prog 4 := VM.Enters.mk Tryd.func4 rfl
theorem l5_LexRoundTrip_cs (s : List UInt8) (hl : s.length ≤ 100000000) : CS Tryd.prog G0 4 [.str s] (.d (.bool true)) none := by
  refine CS.of_VK Tryd.func4 rfl Tryd.ntmps4 rfl ?_
  by_cases hbig : 3000 < s.length
  · have e1 : (3000 : Int) < s.length := by omega
    simp [e1]
    refine callK.mk ent_l5_awake (l5_awake_cs ) ?_
    simp
  have e1 : ¬ (3000 : Int) < s.length := by omega
  have h1 := lex_Tokens_cs G0_sg s (by omega)
  rw [if_neg (by omega)] at h1
  simp [e1]
  refine callK.mk ent_lex_Tokens h1 ?_
  cases hx : lexG numL s 0 1 false with
  | error e =>
    have he := lexG_err s 0 1 false e hx
    simp [tokD, tokN, tokF, he]
    refine callK.mk ent_l5_awake (l5_awake_cs ) ?_
    simp
  | ok l =>
    have hok := lexG_ok s 0 1 false l hx
    have hbd := lexG_bd s 0 1 false l hx
    have hlen := lexG_len1 s l hx
    have htl := lexG_len s 0 1 false true l (by omega) hx
    have hne := OkT_ne hok
    obtain ⟨pre, L, hpre⟩ := OkT_last hok
    obtain ⟨tx, htx⟩ : ∃ tx, textG l 1 true = tx := ⟨_, rfl⟩
    have hW : textW l 1 true false [] = (tx, 0) := by
      rw [textW_ok hok (by omega) true [] (by simp; omega), htx]
      rfl
    have hT : lexG numL tx 0 1 false = .ok l := by rw [← htx]; exact lex_text hok true
    rw [htx] at htl
    have h2 := lex_Text_cs G0_sg l (by omega) (fun t ht => by have := hbd t ht; unfold I64; exact ⟨by omega, by omega⟩)
    rw [hW] at h2
    have h3 := lex_Tokens_cs G0_sg tx (by omega)
    rw [if_neg (by omega), hT] at h3
    simp [tokD, tokN, tokF] at h3
    have hpos : 0 < l.length := List.length_pos_iff.2 hne
    have hw1 : IntKind.i64.wrap ((l.length : Int) - 1) = ((l.length - 1 : Nat) : Int) := by rw [wrap64 (by omega)]; omega
    have hlast : l[l.length - 1].kind = 0 := by
      have : l[l.length - 1]? = some ⟨0, [], 0, L⟩ := by rw [hpre]; simp
      have h5 : l[l.length - 1] = ⟨0, [], 0, L⟩ := by
        rw [List.getElem?_eq_getElem (by omega)] at this
        exact Option.some.inj this
      rw [h5]
    have hne2 : ¬ l.length = 0 := by omega
    have hlt : l.length - 1 < l.length := by omega
    simp [tokD, tokN, tokF]
    refine callK.mk ent_lex_Text h2 ?_
    simp [hw1, hlt, hne, toks_getE, hlast]
    refine callK.mk ent_lex_Tokens h3 ?_
    simp
    refine callK.mk ent_lex_Text h2 ?_
    simp
    refine callK.mk ent_r5_Same (r5_Same_cs l l (by omega)) ?_
    simp
    refine callK.mk ent_l5_awake (l5_awake_cs ) ?_
    simp
theorem lexRoundTrip_all (xs : List D) (h : FitsAll Tryd.prog [9] xs) (hsz : szL xs ≤ 1048576) : CS Tryd.prog G0 4 xs (.d (.bool true)) none := by
  match xs, h with
  | [a], ⟨h1, _⟩ =>
    obtain ⟨s, rfl, _⟩ := fitsV_str tu9 h1
    simp only [szL, szD] at hsz
    exact l5_LexRoundTrip_cs s (by omega)
end Go.Proofs.YtoiokobokencdaaDoor
