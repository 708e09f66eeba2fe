/- Tokens, the reference: Text; the walk. No condition. -/
import Derived.Test.YtoiokobokencdaaDoorLq
set_option linter.unusedVariables false
set_option linter.unusedSimpArgs false
set_option linter.unusedSectionVars false
namespace Go.Proofs.YtoiokobokencdaaDoor
open Go Go.VM
set_option maxRecDepth 100000
set_option maxHeartbeats 8000000
variable {G : GT}
theorem stepK_cat2 {P : Program} {q : Bool} {x : Out} {c : Prop} [Decidable c] {dst : Option Tmp} {all : Array Oper} {rest : List Oper} {k : List KI} {Q : Exit → St → Prop} (hc : c) (h : stepK P G q (some x) dst all rest k Q) : stepK P G q (if c then some x else none) dst all rest k Q := by
  rw [if_pos hc]
  exact h
theorem ent_r5_Text : VM.Enters Tryd.prog 15 := VM.Enters.mk Tryd.func15 rfl
theorem r5_Text_cs (l : List Tok) (hl : l.length ≤ 900000000) (ht : ∀ t ∈ l, t.text.length ≤ 900000000 ∧ I64 t.line) :
    CS Tryd.prog G 15 [.sl (toks l)] (.tup [.str (textW l 1 true false []).1, .int .i64 (textW l 1 true false []).2]) none := by
  rw [textW_eq l 1 true false [] (by simp)]
  obtain ⟨chk, hchk⟩ : ∃ x, chkT l 1 = x := ⟨_, rfl⟩
  obtain ⟨o, hoo⟩ : ∃ x, bldT l 1 true [] = x := ⟨_, rfl⟩
  rw [hchk, hoo]
  refine CS.of_VK Tryd.func15 rfl Tryd.ntmps15 rfl ?_
  simp
  refine SW.loopF (ι := { x : Nat × Int // x.1 ≤ l.length ∧ 1 ≤ x.2 ∧ chkT (l.drop x.1) x.2 = chk }) (fun x => [(4, .d (.int .i64 x.1.2)), (5, .d (.int .i64 x.1.1))]) (fun _ => []) (fun _ => []) (fun x => l.length - x.1.1) ⟨(0, 1), by simp [hchk]⟩ (by simp) ?_
  rintro ⟨⟨i, ln⟩, hi, hln, hR⟩
  try simp only at hi hln hR
  by_cases hlt : i < l.length
  · have hw := wrap64s (show i < 9223372036854775807 by omega)
    have hw1 : IntKind.i64.wrap ((l.length : Int) - 1) = l.length - 1 := wrap64 (by omega)
    have hQ : chkT (l.drop i) ln = chk := hR
    obtain ⟨htx, htl⟩ := ht _ (List.getElem_mem hlt)
    have hne : (l.drop (i + 1) ≠ []) ↔ (i : Int) < (l.length : Int) - 1 := by
      rw [ne_eq, List.drop_eq_nil_iff]
      omega
    rw [List.drop_eq_getElem_cons hlt, chkT] at hQ
    simp only [hne] at hQ
    simp [hlt, toks_getE]
    refine callK.mk ent_r5_formed (r5_formed_cs l[i] htx) ?_
    by_cases hf : formedB l[i] = false
    · rw [if_pos (.inl hf)] at hQ
      simp [hf, ← hQ, endT]
    have hf' : formedB l[i] = true := by simpa using hf
    simp [hf', hlt, toks_getE]
    by_cases hk : l[i].kind = 0
    · by_cases hla : (i : Int) < (l.length : Int) - 1
      · rw [if_pos (.inr ⟨hk, hla⟩)] at hQ
        simp [hk, hw1, hla, ← hQ, endT]
      · rw [if_neg (by simp [hf', hla])] at hQ
        simp [hk, hw1, hla, hlt, toks_getE]
        by_cases ho : l[i].line < ln
        · rw [if_pos ho] at hQ
          simp [ho, ← hQ, endT]
        · rw [if_neg ho] at hQ
          simp [ho, hlt, toks_getE]
          exact Again.mk ⟨(i + 1, l[i].line), hlt, by simp only; omega, hQ⟩ (by simp [hw]) (by simp; omega)
    · rw [if_neg (by simp [hf', hk])] at hQ
      simp [hk, hlt, toks_getE]
      by_cases ho : l[i].line < ln
      · rw [if_pos ho] at hQ
        simp [ho, ← hQ, endT]
      · rw [if_neg ho] at hQ
        simp [ho, hlt, toks_getE]
        exact Again.mk ⟨(i + 1, l[i].line), hlt, by simp only; omega, hQ⟩ (by simp [hw]) (by simp; omega)
  have hil : i = l.length := by omega
  subst hil
  have hc0 : chk = 0 := by rw [← hR, List.drop_length, chkT]
  rw [hc0] at hchk
  simp only [hc0, endT]
  simp
  refine SW.loopF (ι := { x : Nat × Int × List UInt8 // x.1 ≤ l.length ∧ 1 ≤ x.2.1 ∧ chkT (l.drop x.1) x.2.1 = 0 ∧ bldT (l.drop x.1) x.2.1 (decide (x.1 = 0)) x.2.2 = o }) (fun x => [(4, .d (.int .i64 x.1.2.1)), (6, .d (.str x.1.2.2)), (7, .d (.int .i64 x.1.1))]) (fun _ => []) (fun _ => []) (fun x => l.length - x.1.1) ⟨(0, 1, []), by simp [hchk, hoo]⟩ (by simp) ?_
  rintro ⟨⟨i, ln, buf⟩, hi, hln, hC, hR⟩
  try simp only at hi hln hC hR
  by_cases hlt : i < l.length
  rotate_left
  · have hil : i = l.length := by omega
    subst hil
    rw [List.drop_length, bldT] at hR
    by_cases hb : 40000 < buf.length
    · rw [if_pos hb] at hR
      have hb2 : (40000 : Int) < buf.length := by omega
      simp [hb, hb2, ← hR]
    · rw [if_neg hb] at hR
      have hb2 : ¬ (40000 : Int) < buf.length := by omega
      simp [hb, hb2, ← hR]
  have hw := wrap64s (show i < 9223372036854775807 by omega)
  obtain ⟨htx, htl⟩ := ht _ (List.getElem_mem hlt)
  rw [List.drop_eq_getElem_cons hlt, chkT] at hC
  have hQ : bldT (l.drop i) ln (decide (i = 0)) buf = o := hR
  rw [List.drop_eq_getElem_cons hlt, bldT] at hQ
  have hle : ln ≤ l[i].line ∧ chkT (l.drop (i + 1)) l[i].line = 0 := by
    by_cases h1 : formedB l[i] = false ∨ (l[i].kind = 0 ∧ l.drop (i + 1) ≠ [])
    · rw [if_pos h1] at hC; simp at hC
    · rw [if_neg h1] at hC
      by_cases h2 : l[i].line < ln
      · rw [if_pos h2] at hC; simp at hC
      · rw [if_neg h2] at hC
        exact ⟨by omega, hC⟩
  obtain ⟨hle, hC2⟩ := hle
  have hwd : IntKind.i64.wrap (l[i].line - ln) = l[i].line - ln := wrap64 (by have := htl.2; unfold I64 at htl; omega)
  obtain ⟨n, hn⟩ : ∃ n : Nat, l[i].line - ln = n := ⟨(l[i].line - ln).toNat, by omega⟩
  have hln2 : l[i].line = ln + n := by omega
  rw [hn] at hwd
  by_cases hbig : 40000 < n
  · rw [if_pos (.inl (by omega))] at hQ
    have hb2 : (40000 : Int) < (n : Int) := by omega
    simp [hlt, toks_getE, hn, hwd, hb2, ← hQ]
  have hb2 : ¬ (40000 : Int) < (n : Int) := by omega
  by_cases hbl : 40000 < buf.length
  · rw [if_pos (.inr hbl)] at hQ
    have hb3 : (40000 : Int) < buf.length := by omega
    simp [hlt, toks_getE, hn, hwd, hb2, hb3, ← hQ]
  have hb3 : ¬ (40000 : Int) < buf.length := by omega
  rw [if_neg (by simp only [not_or]; exact ⟨by omega, hbl⟩)] at hQ
  have hpc : pieceT l[i] ln (decide (i = 0)) = List.replicate n 10 ++ (if n = 0 ∧ 0 < i ∧ l[i].kind ≠ 0 then [32] else []) ++ l[i].text := by
    unfold pieceT
    have e1 : (l[i].line - ln).toNat = n := by omega
    have e2 : (l[i].line = ln ∧ decide (i = 0) = false ∧ l[i].kind ≠ 0) ↔ (n = 0 ∧ 0 < i ∧ l[i].kind ≠ 0) := by
      simp only [decide_eq_false_iff_not]
      constructor <;> rintro ⟨a, b, c⟩ <;> exact ⟨by omega, by omega, c⟩
    rw [e1]
    by_cases h : n = 0 ∧ 0 < i ∧ l[i].kind ≠ 0
    · rw [if_pos h, if_pos (e2.2 h)]
    · rw [if_neg h, if_neg fun h2 => h (e2.1 h2)]
  rw [hpc] at hQ
  have hnz : decide (i + 1 = 0) = false := by simp
  simp [hlt, toks_getE, hn, hwd, hb2, hb3]
  by_cases hi0 : i = 0
  · have hi1 : ¬ 0 < i := by omega
    simp [hi1]
    refine SW.loopF (ι := { k : Nat // k ≤ n }) (fun k => [(4, .d (.int .i64 (ln + (k.1 : Nat)))), (6, .d (.str (buf ++ List.replicate k.1 10)))]) (fun _ => []) (fun _ => []) (fun k => n - k.1) ⟨0, by omega⟩ (by simp) ?_
    rintro ⟨k, hk⟩
    try simp only at hk
    by_cases hkn : k < n
    · have hlk : ln + (k : Int) < l[i].line := by omega
      have hwk : IntKind.i64.wrap (ln + (k : Int) + 1) = ln + ((k + 1 : Nat) : Int) := by rw [wrap64 (by have := htl.2; unfold I64 at htl; omega)]; omega
      simp [hlt, toks_getE, hlk]
      repeat (refine stepK_cat2 (by omega) ?_; simp)
      exact Again.mk ⟨k + 1, hkn⟩ (by simp [hwk, List.replicate_succ']; try omega) (by simp; omega)
    have hkn2 : k = n := by omega
    subst hkn2
    have hlk : ¬ ln + (k : Int) < l[i].line := by omega
    simp [hlt, toks_getE, hlk]
    repeat (refine stepK_cat2 (by first | omega | (simp; omega)) ?_; simp)
    refine Again.mk ⟨(i + 1, l[i].line, buf ++ List.replicate k 10 ++ l[i].text), hlt, by simp only; omega, hC2, ?_⟩ (by simp [hw, hln2]) (by simp; omega)
    simp only [hnz]
    rw [← hQ]
    simp [hi1]
  have hi1 : 0 < i := by omega
  by_cases hn0 : n = 0
  rotate_left
  · have hl1 : ¬ l[i].line = ln := by omega
    simp [hi1, hlt, toks_getE, hl1]
    refine SW.loopF (ι := { k : Nat // k ≤ n }) (fun k => [(4, .d (.int .i64 (ln + (k.1 : Nat)))), (6, .d (.str (buf ++ List.replicate k.1 10)))]) (fun _ => []) (fun _ => []) (fun k => n - k.1) ⟨0, by omega⟩ (by simp) ?_
    rintro ⟨k, hk⟩
    try simp only at hk
    by_cases hkn : k < n
    · have hlk : ln + (k : Int) < l[i].line := by omega
      have hwk : IntKind.i64.wrap (ln + (k : Int) + 1) = ln + ((k + 1 : Nat) : Int) := by rw [wrap64 (by have := htl.2; unfold I64 at htl; omega)]; omega
      simp [hlt, toks_getE, hlk]
      repeat (refine stepK_cat2 (by omega) ?_; simp)
      exact Again.mk ⟨k + 1, hkn⟩ (by simp [hwk, List.replicate_succ']; try omega) (by simp; omega)
    have hkn2 : k = n := by omega
    subst hkn2
    have hlk : ¬ ln + (k : Int) < l[i].line := by omega
    simp [hlt, toks_getE, hlk]
    repeat (refine stepK_cat2 (by first | omega | (simp; omega)) ?_; simp)
    refine Again.mk ⟨(i + 1, l[i].line, buf ++ List.replicate k 10 ++ l[i].text), hlt, by simp only; omega, hC2, ?_⟩ (by simp [hw, hln2]) (by simp; omega)
    simp only [hnz]
    rw [← hQ]
    simp [hn0]
  have hl1 : l[i].line = ln := by omega
  by_cases hk0 : l[i].kind = 0
  · simp [hi1, hlt, toks_getE, hl1, hk0]
    refine SW.loopF (ι := { k : Nat // k ≤ n }) (fun k => [(4, .d (.int .i64 (ln + (k.1 : Nat)))), (6, .d (.str (buf ++ List.replicate k.1 10)))]) (fun _ => []) (fun _ => []) (fun k => n - k.1) ⟨0, by omega⟩ (by simp) ?_
    rintro ⟨k, hk⟩
    try simp only at hk
    by_cases hkn : k < n
    · have hlk : ln + (k : Int) < l[i].line := by omega
      have hwk : IntKind.i64.wrap (ln + (k : Int) + 1) = ln + ((k + 1 : Nat) : Int) := by rw [wrap64 (by have := htl.2; unfold I64 at htl; omega)]; omega
      simp [hlt, toks_getE, hlk]
      repeat (refine stepK_cat2 (by omega) ?_; simp)
      exact Again.mk ⟨k + 1, hkn⟩ (by simp [hwk, List.replicate_succ']; try omega) (by simp; omega)
    have hkn2 : k = n := by omega
    subst hkn2
    have hlk : ¬ ln + (k : Int) < l[i].line := by omega
    simp [hlt, toks_getE, hlk]
    repeat (refine stepK_cat2 (by first | omega | (simp; omega)) ?_; simp)
    refine Again.mk ⟨(i + 1, l[i].line, buf ++ List.replicate k 10 ++ l[i].text), hlt, by simp only; omega, hC2, ?_⟩ (by simp [hw, hln2]) (by simp; omega)
    simp only [hnz]
    rw [← hQ]
    simp [hk0]
  · simp [hi1, hlt, toks_getE, hl1, hk0]
    repeat (refine stepK_cat2 (by omega) ?_; simp)
    refine SW.loopF (ι := { k : Nat // k ≤ n }) (fun k => [(4, .d (.int .i64 (ln + (k.1 : Nat)))), (6, .d (.str (buf ++ [32] ++ List.replicate k.1 10)))]) (fun _ => []) (fun _ => []) (fun k => n - k.1) ⟨0, by omega⟩ (by simp) ?_
    rintro ⟨k, hk⟩
    try simp only at hk
    by_cases hkn : k < n
    · have hlk : ln + (k : Int) < l[i].line := by omega
      have hwk : IntKind.i64.wrap (ln + (k : Int) + 1) = ln + ((k + 1 : Nat) : Int) := by rw [wrap64 (by have := htl.2; unfold I64 at htl; omega)]; omega
      simp [hlt, toks_getE, hlk]
      repeat (refine stepK_cat2 (by omega) ?_; simp)
      exact Again.mk ⟨k + 1, hkn⟩ (by simp [hwk, List.replicate_succ']; try omega) (by simp; omega)
    have hkn2 : k = n := by omega
    subst hkn2
    have hlk : ¬ ln + (k : Int) < l[i].line := by omega
    simp [hlt, toks_getE, hlk]
    repeat (refine stepK_cat2 (by first | omega | (simp; omega)) ?_; simp)
    refine Again.mk ⟨(i + 1, l[i].line, buf ++ [32] ++ List.replicate k 10 ++ l[i].text), hlt, by simp only; omega, hC2, ?_⟩ (by simp [hw, hln2]) (by simp; omega)
    simp only [hnz]
    rw [← hQ]
    simp [hn0, hi1, hk0]
end Go.Proofs.YtoiokobokencdaaDoor
