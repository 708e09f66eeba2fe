/- The statement LexTexts: its function gives true. No condition. -/
import Derived.Test.YtoiokobokencdaaDoorLr
import Derived.Test.YtoiokobokencdaaDoorLs
set_option linter.unusedVariables false
set_option linter.unusedSimpArgs false
set_option linter.unusedSectionVars false
namespace Go.Proofs.YtoiokobokencdaaDoor
open Go Go.VM
set_option maxRecDepth 100000
set_option maxHeartbeats 8000000
variable {G : GT}
/-- A line that a token before has, or the end. -/
def knownT (l : List Tok) (t : Tok) (k : Nat) : Prop := t.kind = 0 ∨ ∃ x ∈ l.take k, x.kind ≠ 0 ∧ x.line = t.line
instance (l : List Tok) (t : Tok) (k : Nat) : Decidable (knownT l t k) := inferInstanceAs (Decidable (_ ∨ _))
theorem knownT_succ {l : List Tok} {t : Tok} {k : Nat} (h : k < l.length) : knownT l t (k + 1) ↔ knownT l t k ∨ (l[k].kind ≠ 0 ∧ l[k].line = t.line) := by
  unfold knownT
  rw [List.take_succ_eq_append_getElem h]
  simp only [List.mem_append, List.mem_singleton]
  constructor
  · rintro (h | ⟨x, hx | rfl, h1, h2⟩)
    · exact .inl (.inl h)
    · exact .inl (.inr ⟨x, hx, h1, h2⟩)
    · exact .inr ⟨h1, h2⟩
  · rintro ((h | ⟨x, hx, h1, h2⟩) | ⟨h1, h2⟩)
    · exact .inl h
    · exact .inr ⟨x, .inl hx, h1, h2⟩
    · exact .inr ⟨_, .inr rfl, h1, h2⟩
def accOk (l : List Tok) (i : Nat) (acc : List Int) : Prop := ∀ z, z ∈ acc ↔ ∃ x ∈ l.take i, x.kind ≠ 0 ∧ x.line = z
theorem accOk_step {l : List Tok} {i : Nat} {acc : List Int} (h : accOk l i acc) (hi : i < l.length) : accOk l (i + 1) (if l[i].kind = 0 then acc else insZ l[i].line acc) := by
  intro z
  rw [List.take_succ_eq_append_getElem hi]
  have hz := h z
  by_cases hk : l[i].kind = 0
  · rw [if_pos hk, hz]
    constructor
    · rintro ⟨x, hx, h1⟩; exact ⟨x, List.mem_append_left _ hx, h1⟩
    · rintro ⟨x, hx, h1⟩
      rcases List.mem_append.1 hx with hx | hx
      · exact ⟨x, hx, h1⟩
      · rw [List.mem_singleton.1 hx] at h1; exact absurd hk h1.1
  · rw [if_neg hk]
    have hm : z ∈ insZ l[i].line acc ↔ z ∈ acc ∨ l[i].line = z := by
      unfold insZ
      split
      · rename_i hin
        constructor
        · exact .inl
        · rintro (h | rfl)
          · exact h
          · exact hin
      · simp [eq_comm]
    rw [hm, hz]
    constructor
    · rintro (⟨x, hx, h1⟩ | h1)
      · exact ⟨x, List.mem_append_left _ hx, h1⟩
      · exact ⟨l[i], List.mem_append_right _ (.head _), hk, h1⟩
    · rintro ⟨x, hx, h1⟩
      rcases List.mem_append.1 hx with hx | hx
      · exact .inl ⟨x, hx, h1⟩
      · rw [List.mem_singleton.1 hx] at h1; exact .inr h1.2
theorem known_acc {l : List Tok} {i : Nat} {acc : List Int} (h : accOk l i acc) (hi : i < l.length) : knownT l l[i] i ↔ (l[i].kind = 0 ∨ l[i].line ∈ acc) := by
  rw [h l[i].line]; rfl
theorem acc_len {l : List Tok} : ∀ {i : Nat} {acc : List Int}, (linesT (l.drop i) acc).length = (linesT (l.drop i) acc).length := rfl
theorem insZ_le (z : Int) (acc : List Int) : (insZ z acc).length ≤ acc.length + 1 := by
  unfold insZ; split <;> simp
theorem ent_r5_Lines : VM.Enters Tryd.prog 17 := VM.Enters.mk Tryd.func17 rfl
theorem r5_Lines_cs (l : List Tok) (hl : l.length ≤ 900000000) : CS Tryd.prog G 17 [.sl (toks l)] (.d (.int .i64 (linesT l []).length)) none := by
  obtain ⟨res, hres⟩ : ∃ x, linesT l [] = x := ⟨_, rfl⟩
  rw [hres]
  refine CS.of_VK Tryd.func17 rfl Tryd.ntmps17 rfl ?_
  simp
  refine SW.loopF (ι := { x : Nat × List Int // x.1 ≤ l.length ∧ linesT (l.drop x.1) x.2 = res ∧ accOk l x.1 x.2 ∧ x.2.length ≤ x.1 }) (fun x => [(3, .d (.int .i64 x.1.2.length)), (4, .d (.int .i64 x.1.1))]) (fun _ => []) (fun _ => []) (fun x => l.length - x.1.1) ⟨(0, []), by simp [hres, accOk]⟩ (by simp) ?_
  rintro ⟨⟨i, acc⟩, hi, hR, hA, hal⟩
  try simp only at hi hR hA hal
  by_cases hlt : i < l.length
  rotate_left
  · have : i = l.length := by omega
    subst this
    rw [List.drop_length, linesT] at hR
    simp [hR]
  have hw := wrap64s (show i < 9223372036854775807 by omega)
  have hwa := wrap64s (show acc.length < 9223372036854775807 by omega)
  have hQ : linesT (l.drop i) acc = res := hR
  have hdrop : l.drop i = l[i] :: l.drop (i + 1) := List.drop_eq_getElem_cons hlt
  rw [hdrop, linesT] at hQ
  have hA2 := accOk_step hA hlt
  have hka := known_acc hA hlt
  simp [hlt, toks_getE]
  refine SW.loopF (ι := { k : Nat // k ≤ i }) (fun k => [(5, .d (.bool (decide (knownT l l[i] k.1)))), (6, .d (.int .i64 k.1))]) (fun _ => []) (fun _ => []) (fun k => i - k.1) ⟨0, by omega⟩ (by simp [knownT]) ?_
  rintro ⟨k, hk⟩
  try simp only at hk
  by_cases hki : k < i
  · have hkl : k < l.length := by omega
    have hwk := wrap64s (show k < 9223372036854775807 by omega)
    have hs := knownT_succ (l := l) (t := l[i]) hkl
    by_cases h1 : knownT l l[i] k
    · have h2 : knownT l l[i] (k + 1) := hs.2 (.inl h1)
      simp [hki, hlt, toks_getE, h1]
      try refine ⟨lexOk.mk (by kernel_rfl), ?_⟩
      try simp [hki, hlt, hkl, toks_getE, h1]
      exact Again.mk ⟨k + 1, hki⟩ (by simp [hwk, h2]) (by simp; omega)
    · simp [hki, hlt, toks_getE, h1]
      try refine ⟨lexOk.mk (by kernel_rfl), ?_⟩
      try simp [hki, hlt, hkl, toks_getE, h1]
      by_cases h3 : l[k].kind = 0
      · have h2 : ¬ knownT l l[i] (k + 1) := fun h => by
          rcases hs.1 h with h | h
          · exact h1 h
          · exact h.1 h3
        simp [h3, hlt, hkl, toks_getE]
        exact Again.mk ⟨k + 1, hki⟩ (by simp [hwk, h2]) (by simp; omega)
      · by_cases h4 : l[k].line = l[i].line
        · have h2 : knownT l l[i] (k + 1) := hs.2 (.inr ⟨h3, h4⟩)
          simp [h3, hlt, hkl, toks_getE, h4]
          exact Again.mk ⟨k + 1, hki⟩ (by simp [hwk, h2]) (by simp; omega)
        · have h2 : ¬ knownT l l[i] (k + 1) := fun h => by
            rcases hs.1 h with h | h
            · exact h1 h
            · exact h4 h.2
          simp [h3, hlt, hkl, toks_getE, h4]
          exact Again.mk ⟨k + 1, hki⟩ (by simp [hwk, h2]) (by simp; omega)
  have hki2 : k = i := by omega
  subst hki2
  by_cases h1 : knownT l l[k] k
  · have he : (if l[k].kind = 0 then acc else insZ l[k].line acc) = acc := by
      rcases hka.1 h1 with h | h
      · rw [if_pos h]
      · simp [insZ, h]
    rw [he] at hQ hA2
    simp [h1]
    exact Again.mk ⟨(k + 1, acc), hlt, hQ, hA2, by simp only; omega⟩ (by simp [hw]) (by simp; omega)
  · have h5 : ¬ l[k].kind = 0 := fun h => h1 (hka.2 (.inl h))
    have h6 : l[k].line ∉ acc := fun h => h1 (hka.2 (.inr h))
    rw [if_neg h5, insZ, if_neg h6] at hQ hA2
    simp [h1]
    exact Again.mk ⟨(k + 1, acc ++ [l[k].line]), hlt, hQ, hA2, by simp; omega⟩ (by simp [hw, hwa]) (by simp; omega)
def fewT (l : List Tok) : Prop := l.length ≤ 200 ∧ ∀ t ∈ l, t.text.length ≤ 300
instance (l : List Tok) : Decidable (fewT l) := inferInstanceAs (Decidable (_ ∧ _))
theorem ent_l5_few : VM.Enters Tryd.prog 14 := VM.Enters.mk Tryd.func14 rfl
theorem l5_few_cs (l : List Tok) (hl : l.length ≤ 900000000) : CS Tryd.prog G 14 [.sl (toks l)] (.d (.bool (decide (fewT l)))) none := by
  refine CS.of_VK Tryd.func14 rfl Tryd.ntmps14 rfl ?_
  simp
  refine SW.loopF (ι := { i : Nat // i ≤ l.length ∧ i ≤ 200 ∧ ∀ t ∈ l.take i, t.text.length ≤ 300 }) (fun i => [(3, .d (.int .i64 i.1))]) (fun _ => []) (fun _ => []) (fun i => l.length - i.1) ⟨0, by simp⟩ (by simp) ?_
  rintro ⟨i, hi, hi2, hn⟩
  try simp only at hi hi2 hn
  by_cases hlt : i < l.length
  rotate_left
  · have : i = l.length := by omega
    subst this
    rw [List.take_length] at hn
    have hf : fewT l := ⟨hi2, hn⟩
    simp [hf]
  have hw := wrap64s (show i < 9223372036854775807 by omega)
  by_cases h200 : 200 ≤ i
  · have e : (200 : Int) ≤ (i : Int) := by omega
    have hf : ¬ fewT l := fun h => by have := h.1; omega
    simp [hlt, e, hf]
  have e : ¬ (200 : Int) ≤ (i : Int) := by omega
  simp [hlt, e, toks_getE]
  by_cases hbig : 300 < l[i].text.length
  · have e2 : (300 : Int) < l[i].text.length := by omega
    have hf : ¬ fewT l := fun h => by have := h.2 _ (List.getElem_mem hlt); omega
    simp [hbig, e2, hf]
  · have e2 : ¬ (300 : Int) < l[i].text.length := by omega
    simp [hbig, e2]
    refine Again.mk ⟨i + 1, hlt, by show i + 1 ≤ 200; omega, fun t ht => ?_⟩ (by simp [hw]) (by simp; omega)
    rw [List.take_succ_eq_append_getElem hlt] at ht
    rcases List.mem_append.1 ht with ht | ht
    · exact hn t ht
    · rw [List.mem_singleton.1 ht]; omega
theorem ent_l5_LexTexts : VM.Enters Tryd.prog 7 := VM.Enters.mk Tryd.func7 rfl
theorem l5_LexTexts_cs (a b : List Tok) (ha : a.length ≤ 900000000) (hb : b.length ≤ 900000000) (ht : ∀ t ∈ a, I64 t.line) : CS Tryd.prog G0 7 [.sl (toks a), .sl (toks b)] (.d (.bool true)) none := by
  refine CS.of_VK Tryd.func7 rfl Tryd.ntmps7 rfl ?_
  simp
  refine callK.mk ent_l5_few (l5_few_cs a ha) ?_
  by_cases hfa : fewT a
  rotate_left
  · simp [hfa]
    refine callK.mk ent_l5_awake (l5_awake_cs ) ?_
    simp
  simp [hfa]
  refine callK.mk ent_l5_few (l5_few_cs b hb) ?_
  by_cases hfb : fewT b
  rotate_left
  · simp [hfb]
    refine callK.mk ent_l5_awake (l5_awake_cs ) ?_
    simp
  have ht2 : ∀ t ∈ a, t.text.length ≤ 900000000 ∧ I64 t.line := fun t h => ⟨by have := hfa.2 t h; omega, ht t h⟩
  simp [hfb]
  refine callK.mk ent_lex_Text (lex_Text_cs G0_sg a ha ht2) ?_
  simp
  refine callK.mk ent_r5_Text (r5_Text_cs a ha ht2) ?_
  simp
  refine callK.mk ent_lex_Same (lex_Same_cs a b ha) ?_
  simp
  refine callK.mk ent_r5_Same (r5_Same_cs a b ha) ?_
  simp
  refine callK.mk ent_lex_Same (lex_Same_cs a a ha) ?_
  simp
  refine callK.mk ent_lex_Lines (lex_Lines_cs a ha) ?_
  simp
  refine callK.mk ent_r5_Lines (r5_Lines_cs a ha) ?_
  simp
  refine callK.mk ent_l5_awake (l5_awake_cs ) ?_
  simp
theorem fits_tok {ds : List D} (h : FitsT Tryd.prog 33 ds) : ∃ t : Tok, ds = tokE t ∧ I64 t.line := by
  obtain ⟨x0, x1, x2, x3, rfl, h0, h1, h2, h3⟩ := inv33 h
  obtain ⟨k, h0, _⟩ := fits_int tu31 h0
  obtain ⟨s, h1, _⟩ := fits_str tu9 h1
  obtain ⟨n, h2, _⟩ := fits_int tu3 h2
  obtain ⟨m, h3, hm⟩ := fits_int tu3 h3
  cases h0; cases h1; cases h2; cases h3
  refine ⟨⟨k, s, n, m⟩, rfl, ?_⟩
  have e1 : IntKind.i64.min = -9223372036854775808 := rfl
  have e2 : IntKind.i64.max = 9223372036854775807 := rfl
  simp [Lit.wf, e1, e2] at hm
  unfold I64
  omega
theorem fitV_toks {d : D} (h : FitsV Tryd.prog 23 d) : ∃ l, d = .sl (toks l) ∧ ∀ t ∈ l, I64 t.line := by
  obtain ⟨es, rfl, _, hb⟩ := fitsV_sl ty_elem23 h
  have key : ∀ es : List (List D), (∀ x ∈ es, FitsT Tryd.prog 33 x) → ∃ l, es = toks l ∧ ∀ t ∈ l, I64 t.line := by
    intro es
    induction es with
    | nil => intro _; exact ⟨[], rfl, by simp⟩
    | cons x r ih =>
      intro hx
      obtain ⟨t, rfl, ht⟩ := fits_tok (hx x (.head _))
      obtain ⟨l, rfl, hl⟩ := ih fun y hy => hx y (.tail _ hy)
      refine ⟨t :: l, rfl, fun u hu => ?_⟩
      rcases List.mem_cons.1 hu with rfl | hu
      · exact ht
      · exact hl u hu
  obtain ⟨l, rfl, hl⟩ := key es hb
  exact ⟨l, rfl, hl⟩
theorem toks_sz : ∀ l : List Tok, l.length ≤ szLL (toks l)
  | [] => by simp [toks, szLL]
  | t :: r => by
    have := toks_sz r
    simp only [toks, List.map_cons, szLL, List.length_cons] at this ⊢
    simp only [tokE, szL, szD]
    omega
theorem lexTexts_all (xs : List D) (h : FitsAll Tryd.prog [23, 23] xs) (hsz : szL xs ≤ 1048576) : CS Tryd.prog G0 7 xs (.d (.bool true)) none := by
  match xs, h with
  | [a, b], ⟨h1, h2, _⟩ =>
    obtain ⟨l, rfl, hl⟩ := fitV_toks h1
    obtain ⟨m, rfl, _⟩ := fitV_toks h2
    simp only [szL, szD] at hsz
    have e1 := toks_sz l
    have e2 := toks_sz m
    exact l5_LexTexts_cs l m (by omega) (by omega) hl
end Go.Proofs.YtoiokobokencdaaDoor
