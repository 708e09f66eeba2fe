/- The statement LexBlanks: its function gives true. No condition. -/
import Derived.Test.YtoiokobokencdaaDoorLk
set_option linter.unusedVariables false
set_option linter.unusedSimpArgs false
set_option linter.unusedSectionVars false
namespace Go.Proofs.YtoiokobokencdaaDoor
open Go Go.VM
set_option maxRecDepth 100000
set_option maxHeartbeats 8000000
variable {G : GT}
theorem stepK_cat {P : Program} {q : Bool} {x : Out} {c : Prop} [Decidable c] {dst : Option Tmp} {all : Array Oper} {rest : List Oper} {k : List KI} {Q : Exit → St → Prop} (hc : c) (h : stepK P G q (some x) dst all rest k Q) : stepK P G q (if c then some x else none) dst all rest k Q := by
  rw [if_pos hc]
  exact h
def blanksT (s remark : List UInt8) : List UInt8 := [32, 9, 35, 32] ++ remark ++ [10] ++ (s ++ ([9, 32, 35] ++ remark))
theorem lex_blanks (s remark : List UInt8) (h1 : ∀ b ∈ remark, b ≠ 10) (h2 : ∀ b ∈ s, b ≠ 35) : lexG numL (blanksT s remark) 0 1 false = shiftR 1 (lexG numL s 0 1 false) := by
  unfold blanksT
  rw [lex_front remark _ 1 h1, lex_tail (tl := [9, 32, 35] ++ remark) (fun b hb => by simp at hb; rw [← hb]; decide) (fun ln => lex_behind remark ln h1) s 0 (1 + 1) h2 (by omega), lexG_shift]
theorem lexG_bd1 : ∀ (s : List UInt8) (k : Nat) (ln : Int) (cm : Bool) (l : List Tok), lexG numL s k ln cm = .ok l → ∀ t ∈ l, ln ≤ t.line ∧ t.line ≤ ln + s.length
  | [], k, ln, cm, l, h => by
    simp [lexG] at h
    rw [← h]
    simp
  | c :: r, k + 1, ln, cm, l, h => by
    rw [lexG] at h
    intro t ht
    have := lexG_bd1 r k ln cm l h t ht
    simp only [List.length_cons]; omega
  | c :: r, 0, ln, cm, l, h => by
    rw [lexG] at h
    intro t ht
    split at h
    · have := lexG_bd1 r 0 _ _ l h t ht
      simp only [List.length_cons]; omega
    · split at h
      · have := lexG_bd1 r 0 _ _ l h t ht
        simp only [List.length_cons]; omega
      · split at h
        · have := lexG_bd1 r 0 _ _ l h t ht
          simp only [List.length_cons]; omega
        · split at h
          · split at h
            · rename_i l2 hl2
              cases h
              rcases List.mem_cons.1 ht with rfl | ht
              · simp only [List.length_cons]; omega
              · have := lexG_bd1 r _ _ _ l2 hl2 t ht
                simp only [List.length_cons]; omega
            · cases h
          · cases h
theorem lexG_err1 : ∀ (s : List UInt8) (k : Nat) (ln : Int) (cm : Bool) (e : Int), lexG numL s k ln cm = .error e → e ≤ ln + s.length
  | [], k, ln, cm, e, h => by simp [lexG] at h
  | c :: r, k + 1, ln, cm, e, h => by
    rw [lexG] at h
    have := lexG_err1 r k ln cm e h
    simp only [List.length_cons]; omega
  | c :: r, 0, ln, cm, e, h => by
    rw [lexG] at h
    split at h
    · have := lexG_err1 r 0 _ _ e h
      simp only [List.length_cons]; omega
    · split at h
      · have := lexG_err1 r 0 _ _ e h
        simp only [List.length_cons]; omega
      · split at h
        · have := lexG_err1 r 0 _ _ e h
          simp only [List.length_cons]; omega
        · split at h
          · split at h
            · cases h
            · rename_i e2 he2
              cases h
              have := lexG_err1 r _ _ _ e he2
              simp only [List.length_cons]; omega
          · cases h
            simp only [List.length_cons]; omega
theorem ent_l5_LexBlanks : VM.Enters Tryd.prog 5 := VM.Enters.mk Tryd.func5 rfl
theorem l5_LexBlanks_cs (s remark : List UInt8) (hl : s.length ≤ 100000000) (hl2 : remark.length ≤ 100000000) : CS Tryd.prog G0 5 [.str s, .str remark] (.d (.bool true)) none := by
  refine CS.of_VK Tryd.func5 rfl Tryd.ntmps5 rfl ?_
  by_cases hbig : 3000 < s.length
  · have e1 : (3000 : Int) < s.length := by omega
    simp [e1, hbig]
    refine callK.mk ent_l5_awake (l5_awake_cs ) ?_
    simp
  have e1 : ¬ (3000 : Int) < s.length := by omega
  simp [e1, hbig]
  by_cases hbig2 : 100 < remark.length
  · have e2 : (100 : Int) < remark.length := by omega
    simp [e2, hbig2]
    refine callK.mk ent_l5_awake (l5_awake_cs ) ?_
    simp
  have e2 : ¬ (100 : Int) < remark.length := by omega
  simp [e2, hbig2]
  refine SW.loopF (ι := { i : Nat // i ≤ remark.length ∧ ∀ b ∈ remark.take i, b ≠ 10 }) (fun i => [(5, .d (.int .i64 i.1))]) (fun _ => []) (fun _ => []) (fun i => remark.length - i.1) ⟨0, by simp⟩ (by simp) ?_
  rintro ⟨i, hi, hn⟩
  try simp only at hi hn
  by_cases hlt : i < remark.length
  · have hw := wrap64s (show i < 9223372036854775807 by omega)
    have c10 := nat_u8 remark[i] 10 (by omega)
    simp at c10
    by_cases h10 : remark[i] = 10
    · have e := c10.2 h10
      simp [hlt, e]
      refine callK.mk ent_l5_awake (l5_awake_cs ) ?_
      simp
    · have e : ¬ remark[i].toNat = 10 := fun h => h10 (c10.1 h)
      simp [hlt, e]
      refine Again.mk ⟨i + 1, hlt, fun b hb => ?_⟩ (by simp [hw]) (by simp; omega)
      rw [List.take_succ_eq_append_getElem hlt] at hb
      rcases List.mem_append.1 hb with hb | hb
      · exact hn b hb
      · simp at hb; rw [hb]; exact h10
  have hri : i = remark.length := by omega
  subst hri
  rw [List.take_length] at hn
  simp
  refine SW.loopF (ι := { i : Nat // i ≤ s.length ∧ ∀ b ∈ s.take i, b ≠ 35 }) (fun i => [(6, .d (.int .i64 i.1))]) (fun _ => []) (fun _ => []) (fun i => s.length - i.1) ⟨0, by simp⟩ (by simp) ?_
  rintro ⟨i, hi2, hn2⟩
  try simp only at hi2 hn2
  by_cases hlt : i < s.length
  · have hw := wrap64s (show i < 9223372036854775807 by omega)
    have c35 := nat_u8 s[i] 35 (by omega)
    simp at c35
    by_cases h35 : s[i] = 35
    · have e := c35.2 h35
      simp [hlt, e]
      refine callK.mk ent_l5_awake (l5_awake_cs ) ?_
      simp
    · have e : ¬ s[i].toNat = 35 := fun h => h35 (c35.1 h)
      simp [hlt, e]
      refine Again.mk ⟨i + 1, hlt, fun b hb => ?_⟩ (by simp [hw]) (by simp; omega)
      rw [List.take_succ_eq_append_getElem hlt] at hb
      rcases List.mem_append.1 hb with hb | hb
      · exact hn2 b hb
      · simp at hb; rw [hb]; exact h35
  have hsi : i = s.length := by omega
  subst hsi
  rw [List.take_length] at hn2
  have h1 := lex_Tokens_cs G0_sg s (by omega)
  rw [if_neg (by omega)] at h1
  have h2 := lex_Tokens_cs G0_sg (blanksT s remark) (by simp [blanksT]; omega)
  rw [if_neg (by simp [blanksT]; omega), lex_blanks s remark hn hn2] at h2
  simp
  refine callK.mk ent_lex_Tokens h1 ?_
  simp
  repeat (refine stepK_cat (by omega) ?_; simp)
  simp [blanksT] at h2
  refine callK.mk ent_lex_Tokens h2 ?_
  cases hx : lexG numL s 0 1 false with
  | error e =>
    have he1 := lexG_err1 s 0 1 false e hx
    have he2 := lexG_err s 0 1 false e hx
    have hw : IntKind.i64.wrap (e + 1) = e + 1 := wrap64 (by omega)
    simp [tokD, tokN, tokF, shiftR, hw]
    refine SW.loopF (ι := Unit) (fun _ => [(13, .d (.int .i64 0))]) (fun _ => []) (fun _ => []) (fun _ => 0) () (by simp) ?_
    intro _
    simp
    refine callK.mk ent_l5_awake (l5_awake_cs ) ?_
    simp
  | ok l =>
    have hbd := lexG_bd1 s 0 1 false l hx
    have hlen := lexG_len1 s l hx
    simp [tokD, tokN, tokF, shiftR]
    refine SW.loopF (ι := { i : Nat // i ≤ l.length }) (fun i => [(13, .d (.int .i64 i.1))]) (fun _ => []) (fun _ => []) (fun i => l.length - i.1) ⟨0, by simp⟩ (by simp) ?_
    rintro ⟨i, hi3⟩
    try simp only at hi3
    by_cases hlt : i < l.length
    · have hw := wrap64s (show i < 9223372036854775807 by omega)
      have hb := hbd l[i] (List.getElem_mem hlt)
      have hw2 : IntKind.i64.wrap (l[i].line + 1 - 1) = l[i].line := by rw [show l[i].line + 1 - 1 = l[i].line by omega, wrap64 (by omega)]
      simp [hlt, toks_getE, shiftT]
      try refine ⟨lexOk.mk (by kernel_rfl), ?_⟩
      try simp [hlt, toks_getE, shiftT, hw2]
      have hw3 : IntKind.i64.wrap l[i].line = l[i].line := wrap64 (by omega)
      simp [hw3]
      exact Again.mk ⟨i + 1, hlt⟩ (by simp [hw]) (by simp; omega)
    · have : i = l.length := by omega
      subst this
      simp
      refine callK.mk ent_l5_awake (l5_awake_cs ) ?_
      simp
theorem lexBlanks_all (xs : List D) (h : FitsAll Tryd.prog [9, 9] xs) (hsz : szL xs ≤ 1048576) : CS Tryd.prog G0 5 xs (.d (.bool true)) none := by
  match xs, h with
  | [a, b], ⟨h1, h2, _⟩ =>
    obtain ⟨s, rfl, _⟩ := fitsV_str tu9 h1
    obtain ⟨r, rfl, _⟩ := fitsV_str tu9 h2
    simp only [szL, szD] at hsz
    exact l5_LexBlanks_cs s r (by omega) (by omega)
end Go.Proofs.YtoiokobokencdaaDoor
