/- Tokens: Text; the walk. No condition. -/
import Derived.Test.YtoiokobokencdaaDoorLf
import Derived.Test.YtoiokobokencdaaDoorBe
set_option linter.unusedVariables false
set_option linter.unusedSimpArgs false
set_option linter.unusedSectionVars false
namespace Go.Proofs.YtoiokobokencdaaDoor
open Go Go.VM
set_option maxRecDepth 100000
set_option maxHeartbeats 8000000
variable {G : GT}
/-- The text of tokens, from a line on, behind what is written. -/
def textW : List Tok → Int → Bool → Bool → List UInt8 → List UInt8 × Int
  | [], _, _, long, buf => if long then ([], 7) else (buf, 0)
  | t :: r, ln, f, long, buf =>
    if rightB t r.isEmpty = false then ([], 6) else if t.line < ln then ([], 9)
    else if long = true ∨ 40000 < t.line - ln then textW r t.line false true buf
    else textW r t.line false (decide (40000 < (buf ++ pieceT t ln f).length)) (buf ++ pieceT t ln f)
theorem ent_WriteString : VM.Enters Tryd.prog 22 := VM.Enters.mk Tryd.func22 rfl
theorem ent_WriteByte : VM.Enters Tryd.prog 24 := VM.Enters.mk Tryd.func24 rfl
theorem ent_Len : VM.Enters Tryd.prog 25 := VM.Enters.mk Tryd.func25 rfl
theorem ent_String : VM.Enters Tryd.prog 26 := VM.Enters.mk Tryd.func26 rfl
theorem rep10 (n : Nat) : Lib.repeatL [10] n = List.replicate n 10 := by
  have := Lib.repeatL_replicate 10 1 n
  simpa using this
theorem toks_getE {l : List Tok} {i : Nat} (h : i < (toks l).length) : (toks l)[i] = [.int .i64 (l[i]'(by simpa using h)).kind, .str (l[i]'(by simpa using h)).text, .int .i64 (l[i]'(by simpa using h)).n, .int .i64 (l[i]'(by simpa using h)).line] := by simp [toks, tokE]
theorem toks_get {l : List Tok} {i : Nat} (h : i < l.length) : (toks l)[i]? = some [.int .i64 l[i].kind, .str l[i].text, .int .i64 l[i].n, .int .i64 l[i].line] := by simp [toks, tokE, h]
theorem ent_lex_Text : VM.Enters Tryd.prog 12 := VM.Enters.mk Tryd.func12 rfl
theorem lex_Text_cs (hS : G 0 = some sgCells) (l : List Tok) (hl : l.length ≤ 900000000) (ht : ∀ t ∈ l, t.text.length ≤ 900000000 ∧ I64 t.line) :
    CS Tryd.prog G 12 [.sl (toks l)] (.tup [.str (textW l 1 true false []).1, .int .i64 (textW l 1 true false []).2]) none := by
  obtain ⟨res, hres⟩ : ∃ x, textW l 1 true false [] = x := ⟨_, rfl⟩
  rw [hres]
  refine CS.of_VK Tryd.func12 rfl Tryd.ntmps12 rfl ?_
  simp
  refine SW.loopF (ι := { x : Nat × Int × Bool × List UInt8 × Bool // x.1 ≤ l.length ∧ 1 ≤ x.2.1 ∧ (x.2.2.1 = false → x.2.2.2.1.length ≤ 40000) ∧ textW (l.drop x.1) x.2.1 (decide (x.1 = 0)) x.2.2.1 x.2.2.2.1 = res })
    (fun x => [(5, .d (.int .i64 x.1.2.1)), (6, .d (.bool x.1.2.2.1)), (12, .d (.int .i64 x.1.1))]) (fun x => [(4, .bld 45 x.1.2.2.2.2 (byteE x.1.2.2.2.1))]) (fun _ => [bOwn 4]) (fun x => l.length - x.1.1) ⟨(0, 1, false, [], false), by simp [hres]⟩ (by simp [byteE]) ?_
  rintro ⟨⟨i, ln, long, buf, u⟩, hi, hln, hbuf, hR⟩
  try simp only at hi hln hbuf hR
  by_cases hlt : i < l.length
  · have hg := toks_get hlt
    have hw := wrap64s (show i < 9223372036854775807 by omega)
    have hw1 : IntKind.i64.wrap ((l.length : Int) - 1) = l.length - 1 := wrap64 (by omega)
    obtain ⟨htx, htl⟩ := ht _ (List.getElem_mem hlt)
    have hdrop : l.drop i = l[i] :: l.drop (i + 1) := List.drop_eq_getElem_cons hlt
    have hlast : decide ((i : Int) = (l.length : Int) - 1) = (l.drop (i + 1)).isEmpty := by
      rw [Bool.eq_iff_iff]
      simp
      omega
    have hQ : textW (l.drop i) ln (decide (i = 0)) long buf = res := hR
    rw [hdrop] at hQ
    simp [hlt, toks_getE, hw1]
    refine callK.mk ent_lex_right (lex_right_cs hS l[i] _ htx) ?_
    rw [hlast]
    by_cases hrt : rightB l[i] (l.drop (i + 1)).isEmpty = true
    rotate_left
    · have hrf : rightB l[i] (l.drop (i + 1)).isEmpty = false := by simpa using hrt
      have e : res = ([], 6) := by rw [← hQ, textW, if_pos hrf]
      simp [hrf, e]
    by_cases hor : l[i].line < ln
    · have e : res = ([], 9) := by rw [← hQ, textW, if_neg (by rw [hrt]; simp), if_pos hor]
      simp [hrt, hor, e]
    have hw2 : IntKind.i64.wrap (l[i].line - ln) = l[i].line - ln := wrap64 (by have := htl.2; unfold I64 at htl; omega)
    rw [textW, if_neg (by rw [hrt]; simp), if_neg hor] at hQ
    have hnz : decide (i + 1 = 0) = false := by simp
    simp [hrt, hor, hw2]
    cases long with
    | true =>
      rw [if_pos (.inl rfl)] at hQ
      simp
      exact Again.mk ⟨(i + 1, l[i].line, true, buf, u), hlt, by simp only; omega, by simp, by simp only [hnz]; exact hQ⟩ (by cases u <;> simp [hw]) (by simp; omega)
    | false =>
      by_cases hbig : 40000 < l[i].line - ln
      · rw [if_pos (.inr hbig)] at hQ
        simp [hbig]
        exact Again.mk ⟨(i + 1, l[i].line, true, buf, u), hlt, by simp only; omega, by simp, by simp only [hnz]; exact hQ⟩ (by cases u <;> simp [hw]) (by simp; omega)
      rw [if_neg (by simp [hbig])] at hQ
      have hb := hbuf rfl
      obtain ⟨n, hn⟩ : ∃ n : Nat, l[i].line - ln = n := ⟨(l[i].line - ln).toNat, by omega⟩
      have hn2 : ¬ (40000 : Int) < (n : Int) := by omega
      have hpc : pieceT l[i] ln (decide (i = 0)) = List.replicate n 10 ++ (if n = 0 ∧ 0 < i ∧ l[i].kind ≠ 0 then [32] else []) ++ l[i].text := by
        unfold pieceT
        have e1 : (l[i].line - ln).toNat = n := by omega
        have e2 : (l[i].line = ln ∧ decide (i = 0) = false ∧ l[i].kind ≠ 0) ↔ (n = 0 ∧ 0 < i ∧ l[i].kind ≠ 0) := by
          simp only [decide_eq_false_iff_not]
          constructor <;> rintro ⟨a, b, c⟩ <;> exact ⟨by omega, by omega, c⟩
        rw [e1]
        by_cases h : n = 0 ∧ 0 < i ∧ l[i].kind ≠ 0
        · rw [if_pos h, if_pos (e2.2 h)]
        · rw [if_neg h, if_neg fun h2 => h (e2.1 h2)]
      rw [hpc] at hQ
      simp [hn, hn2]
      refine callK.mk ent_Repeat (Repeat_cs [10] n (by simp; omega) (by omega)) ?_
      rw [rep10]
      simp
      cases u
      ·
        refine callHK.mk ent_WriteString (WriteString_ch false buf (List.replicate n 10) (by simp; omega)) [(100000, 4)] (by simp) (by simp) (by simp) (by simp; rfl) (by simp) ?_
        simp
        by_cases hn0 : n = 0
        · subst hn0
          by_cases hi0 : i = 0
          · have hi1 : ¬ 0 < i := by omega
            simp [hi1]
            refine callHK.mk ent_WriteString (WriteString_ch true (buf) l[i].text (by first | omega | (simp; omega))) [(100000, 4)] (by simp) (by simp) (by simp) (by simp; rfl) (by simp) ?_
            simp
            refine callHK.mk ent_Len (Len_ch true (buf ++ l[i].text)) [(100000, 4)] (by simp) (by simp) (by simp) (by simp; rfl) (by simp) ?_
            simp
            refine Again.mk ⟨(i + 1, l[i].line, decide (40000 < (buf ++ l[i].text).length), buf ++ l[i].text, true), hlt, by simp only; omega, by simp, ?_⟩ (by simp [hw] <;> omega) (by simp; omega)
            simp only [hnz]
            rw [← hQ]
            simp [hi1]
          · have hi1 : 0 < i := by omega
            by_cases hk : l[i].kind = 0
            · simp [hi1, hk]
              refine callHK.mk ent_WriteString (WriteString_ch true (buf) l[i].text (by first | omega | (simp; omega))) [(100000, 4)] (by simp) (by simp) (by simp) (by simp; rfl) (by simp) ?_
              simp
              refine callHK.mk ent_Len (Len_ch true (buf ++ l[i].text)) [(100000, 4)] (by simp) (by simp) (by simp) (by simp; rfl) (by simp) ?_
              simp
              refine Again.mk ⟨(i + 1, l[i].line, decide (40000 < (buf ++ l[i].text).length), buf ++ l[i].text, true), hlt, by simp only; omega, by simp, ?_⟩ (by simp [hw] <;> omega) (by simp; omega)
              simp only [hnz]
              rw [← hQ]
              simp [hk]
            · simp [hi1, hk]
              refine callHK.mk ent_WriteByte (WriteByte_ch true buf 32 (by omega)) [(100000, 4)] (by simp) (by simp) (by simp) (by simp; rfl) (by simp) ?_
              simp
              refine callHK.mk ent_WriteString (WriteString_ch true (buf ++ [32]) l[i].text (by first | omega | (simp; omega))) [(100000, 4)] (by simp) (by simp) (by simp) (by simp; rfl) (by simp) ?_
              simp
              refine callHK.mk ent_Len (Len_ch true (buf ++ [32] ++ l[i].text)) [(100000, 4)] (by simp) (by simp) (by simp) (by simp; rfl) (by simp) ?_
              simp
              refine Again.mk ⟨(i + 1, l[i].line, decide (40000 < (buf ++ [32] ++ l[i].text).length), buf ++ [32] ++ l[i].text, true), hlt, by simp only; omega, by simp, ?_⟩ (by simp [hw] <;> omega) (by simp; omega)
              simp only [hnz]
              rw [← hQ]
              simp [hk, hi1]
        · have hn3 : ¬ (n : Int) = 0 := by omega
          simp [hn0]
          refine callHK.mk ent_WriteString (WriteString_ch true (buf ++ List.replicate n 10) l[i].text (by first | omega | (simp; omega))) [(100000, 4)] (by simp) (by simp) (by simp) (by simp; rfl) (by simp) ?_
          simp
          refine callHK.mk ent_Len (Len_ch true (buf ++ List.replicate n 10 ++ l[i].text)) [(100000, 4)] (by simp) (by simp) (by simp) (by simp; rfl) (by simp) ?_
          simp
          refine Again.mk ⟨(i + 1, l[i].line, decide (40000 < (buf ++ List.replicate n 10 ++ l[i].text).length), buf ++ List.replicate n 10 ++ l[i].text, true), hlt, by simp only; omega, by simp, ?_⟩ (by simp [hw] <;> omega) (by simp; omega)
          simp only [hnz]
          rw [← hQ]
          simp [hn0]
      ·
        refine callHK.mk ent_WriteString (WriteString_ch true buf (List.replicate n 10) (by simp; omega)) [(100000, 4)] (by simp) (by simp) (by simp) (by simp; rfl) (by simp) ?_
        simp
        by_cases hn0 : n = 0
        · subst hn0
          by_cases hi0 : i = 0
          · have hi1 : ¬ 0 < i := by omega
            simp [hi1]
            refine callHK.mk ent_WriteString (WriteString_ch true (buf) l[i].text (by first | omega | (simp; omega))) [(100000, 4)] (by simp) (by simp) (by simp) (by simp; rfl) (by simp) ?_
            simp
            refine callHK.mk ent_Len (Len_ch true (buf ++ l[i].text)) [(100000, 4)] (by simp) (by simp) (by simp) (by simp; rfl) (by simp) ?_
            simp
            refine Again.mk ⟨(i + 1, l[i].line, decide (40000 < (buf ++ l[i].text).length), buf ++ l[i].text, true), hlt, by simp only; omega, by simp, ?_⟩ (by simp [hw] <;> omega) (by simp; omega)
            simp only [hnz]
            rw [← hQ]
            simp [hi1]
          · have hi1 : 0 < i := by omega
            by_cases hk : l[i].kind = 0
            · simp [hi1, hk]
              refine callHK.mk ent_WriteString (WriteString_ch true (buf) l[i].text (by first | omega | (simp; omega))) [(100000, 4)] (by simp) (by simp) (by simp) (by simp; rfl) (by simp) ?_
              simp
              refine callHK.mk ent_Len (Len_ch true (buf ++ l[i].text)) [(100000, 4)] (by simp) (by simp) (by simp) (by simp; rfl) (by simp) ?_
              simp
              refine Again.mk ⟨(i + 1, l[i].line, decide (40000 < (buf ++ l[i].text).length), buf ++ l[i].text, true), hlt, by simp only; omega, by simp, ?_⟩ (by simp [hw] <;> omega) (by simp; omega)
              simp only [hnz]
              rw [← hQ]
              simp [hk]
            · simp [hi1, hk]
              refine callHK.mk ent_WriteByte (WriteByte_ch true buf 32 (by omega)) [(100000, 4)] (by simp) (by simp) (by simp) (by simp; rfl) (by simp) ?_
              simp
              refine callHK.mk ent_WriteString (WriteString_ch true (buf ++ [32]) l[i].text (by first | omega | (simp; omega))) [(100000, 4)] (by simp) (by simp) (by simp) (by simp; rfl) (by simp) ?_
              simp
              refine callHK.mk ent_Len (Len_ch true (buf ++ [32] ++ l[i].text)) [(100000, 4)] (by simp) (by simp) (by simp) (by simp; rfl) (by simp) ?_
              simp
              refine Again.mk ⟨(i + 1, l[i].line, decide (40000 < (buf ++ [32] ++ l[i].text).length), buf ++ [32] ++ l[i].text, true), hlt, by simp only; omega, by simp, ?_⟩ (by simp [hw] <;> omega) (by simp; omega)
              simp only [hnz]
              rw [← hQ]
              simp [hk, hi1]
        · have hn3 : ¬ (n : Int) = 0 := by omega
          simp [hn0]
          refine callHK.mk ent_WriteString (WriteString_ch true (buf ++ List.replicate n 10) l[i].text (by first | omega | (simp; omega))) [(100000, 4)] (by simp) (by simp) (by simp) (by simp; rfl) (by simp) ?_
          simp
          refine callHK.mk ent_Len (Len_ch true (buf ++ List.replicate n 10 ++ l[i].text)) [(100000, 4)] (by simp) (by simp) (by simp) (by simp; rfl) (by simp) ?_
          simp
          refine Again.mk ⟨(i + 1, l[i].line, decide (40000 < (buf ++ List.replicate n 10 ++ l[i].text).length), buf ++ List.replicate n 10 ++ l[i].text, true), hlt, by simp only; omega, by simp, ?_⟩ (by simp [hw] <;> omega) (by simp; omega)
          simp only [hnz]
          rw [← hQ]
          simp [hn0]
  · have : i = l.length := by omega
    subst this
    rw [List.drop_length, textW] at hR
    cases long with
    | true =>
      have e : res = ([], 7) := by rw [← hR]; rfl
      simp [e]
    | false =>
      have e : res = (buf, 0) := by rw [← hR]; rfl
      simp
      cases u
      · refine callHK.mk ent_String (String_ch false buf) [(100000, 4)] (by simp) (by simp) (by simp) (by simp; rfl) (by simp) ?_
        simp [e]
      · refine callHK.mk ent_String (String_ch true buf) [(100000, 4)] (by simp) (by simp) (by simp) (by simp; rfl) (by simp) ?_
        simp [e]
end Go.Proofs.YtoiokobokencdaaDoor
