/- Tokens: Tokens; the walk. No condition. -/
import Derived.Test.YtoiokobokencdaaDoorLd
set_option linter.unusedVariables false
set_option linter.unusedSimpArgs false
set_option linter.unusedSectionVars false
namespace Go.Proofs.YtoiokobokencdaaDoor
open Go Go.VM
set_option maxRecDepth 100000
set_option maxHeartbeats 8000000
variable {G : GT}
def tokE (t : Tok) : List D := [.int .i64 t.kind, .str t.text, .int .i64 t.n, .int .i64 t.line]
def toks (l : List Tok) : List (List D) := l.map tokE
@[simp] theorem toks_len (l : List Tok) : (toks l).length = l.length := by simp [toks]
@[simp] theorem toks_nil : toks [] = [] := rfl
@[simp] theorem toks_all (l : List Tok) : ((toks l).all fun c => c.length == 4) = true := by simp [toks, tokE]
theorem toks_snoc (l : List Tok) (t : Tok) : toks (l ++ [t]) = toks l ++ [[.int .i64 t.kind, .str t.text, .int .i64 t.n, .int .i64 t.line]] := by simp [toks, tokE]
theorem lexG_skip : ∀ (s : List UInt8) (n : Nat) (cm : Bool) (ln : Int), lexG numL s 0 (ln + n) cm = lexG numL (skipG s n cm).1 0 (ln + (skipG s n cm).2) false
  | [], n, cm, ln => by simp [skipG, lexG]
  | c :: r, n, cm, ln => by
    unfold skipG
    split
    · rename_i h
      rw [← lexG_skip r (n + 1) false ln, lexG, if_pos h]
      congr 1
      omega
    · rename_i h
      split
      · rename_i h2
        rw [← lexG_skip r n cm ln]
        conv => lhs; rw [lexG]
        rw [if_neg h, if_pos h2]
      · rename_i h2
        split
        · rename_i h3
          rw [← lexG_skip r n true ln]
          conv => lhs; rw [lexG]
          rw [if_neg h, if_neg h2, if_pos h3]
        · simp only [not_or, Bool.not_eq_true] at h2
          rw [h2.1]
theorem skipG_sum : ∀ (s : List UInt8) (n : Nat) (cm : Bool), (skipG s n cm).2 + (skipG s n cm).1.length ≤ n + s.length
  | [], n, cm => by simp [skipG]
  | c :: r, n, cm => by
    unfold skipG
    split
    · have := skipG_sum r (n + 1) false; simp only [List.length_cons]; omega
    · split
      · have := skipG_sum r n cm; simp only [List.length_cons]; omega
      · split
        · have := skipG_sum r n true; simp only [List.length_cons]; omega
        · simp only [List.length_cons]; omega
theorem skip_head : ∀ (s : List UInt8) (n : Nat) (cm : Bool) (c : UInt8) (r : List UInt8), (skipG s n cm).1 = c :: r → c ≠ 10 ∧ c ≠ 32 ∧ c ≠ 9 ∧ c ≠ 35
  | [], n, cm, c, r, h => by simp [skipG] at h
  | a :: s, n, cm, c, r, h => by
    unfold skipG at h
    split at h
    · exact skip_head s _ _ c r h
    · rename_i h1
      split at h
      · exact skip_head s _ _ c r h
      · rename_i h2
        split at h
        · exact skip_head s _ _ c r h
        · rename_i h3
          simp only [not_or] at h2
          cases h
          exact ⟨h1, h2.2.1, h2.2.2, h3⟩
def preR (out : List Tok) : Except Int (List Tok) → Except Int (List Tok)
  | .ok l => .ok (out ++ l)
  | .error e => .error e
def tokD : Except Int (List Tok) → D
  | .ok l => .sl (toks l)
  | .error _ => .nils
def tokN : Except Int (List Tok) → Int
  | .ok _ => 0
  | .error e => e
def tokF : Except Int (List Tok) → Int
  | .ok _ => 0
  | .error _ => 14
theorem ent_lex_Tokens : VM.Enters Tryd.prog 9 := VM.Enters.mk Tryd.func9 rfl
theorem lex_Tokens_cs (hS : G 0 = some sgCells) (s : List UInt8) (hl : s.length ≤ 900000000) : CS Tryd.prog G 9 [.str s] (.tup (if 40000 < s.length then [.nils, .int .i64 0, .int .i64 7] else
    [tokD (lexG numL s 0 1 false), .int .i64 (tokN (lexG numL s 0 1 false)), .int .i64 (tokF (lexG numL s 0 1 false))])) none := by
  obtain ⟨res, hres⟩ : ∃ x, lexG numL s 0 1 false = x := ⟨_, rfl⟩
  rw [hres]
  refine CS.of_VK Tryd.func9 rfl Tryd.ntmps9 rfl ?_
  by_cases hlong : 40000 < s.length
  · have h2 : (40000 : Int) < s.length := by omega
    simp [hlong, h2]
  have h2 : ¬ (40000 : Int) < s.length := by omega
  simp [hlong, h2]
  refine SW.loopF (ι := { x : List UInt8 × List Tok × Int // x.1.length ≤ s.length ∧ 1 ≤ x.2.2 ∧ x.2.2 + x.1.length ≤ s.length + 1 ∧ x.2.1.length + x.1.length ≤ s.length ∧ preR x.2.1 (lexG numL x.1 0 x.2.2 false) = res }) (fun x => [(0, .d (.str x.1.1)), (5, .d (.sl (toks x.1.2.1))), (6, .d (.int .i64 x.1.2.2))]) (fun _ => []) (fun _ => [(33, [.t 5])]) (fun x => x.1.1.length) ⟨(s, [], 1), by refine ⟨Nat.le_refl _, by simp, by simp; omega, by simp, ?_⟩; simp only; rw [hres]; cases res <;> rfl⟩ (by simp) ?_
  rintro ⟨⟨t, out, ln⟩, ht, hln, hb, ho, hR⟩
  try simp only at ht hln hb ho hR
  obtain ⟨q1, q2⟩ := skipG_le t 0 false
  have q3 := skipG_sum t 0 false
  have hsk := lexG_skip t 0 false ln
  have hhd := skip_head t 0 false
  simp
  refine callK.mk ent_lex_skip (lex_skip_cs t (by omega)) ?_
  obtain ⟨⟨rest, n⟩, hrn⟩ : ∃ x, skipG t 0 false = x := ⟨_, rfl⟩
  rw [hrn] at hsk hhd q1 q2 q3
  simp only [Int.natCast_zero, Int.add_zero] at hsk
  simp only at hsk hhd q1 q2 q3
  rw [hsk] at hR
  have hw : IntKind.i64.wrap (ln + n) = ln + n := wrap64 (by omega)
  have hsz : (out.length + 1) * 41 ≤ 140737488355328 := by omega
  simp [hrn, hw]
  cases rest with
  | nil =>
    have e : res = .ok (out ++ [⟨0, [], 0, ln + n⟩]) := by rw [← hR]; rfl
    simp [e, tokD, tokN, tokF, toks_snoc, hsz]
  | cons c r =>
    obtain ⟨g1, g2, g3, g4⟩ := hhd c r rfl
    rw [lexG_first (ln + n) g1 g2 g3 g4] at hR
    simp
    refine callK.mk ent_lex_first (lex_first_cs hS c r (by omega)) ?_
    obtain ⟨ff, hff⟩ : ∃ ff, firstT numL (c :: r) = ff := ⟨_, rfl⟩
    have hok := @first_ok numL (c :: r)
    rw [hff] at hR hok
    obtain ⟨k, tx, m, ok⟩ := ff
    simp only at hR hok
    cases ok with
    | false =>
      have e : res = .error (ln + n) := by rw [← hR]; rfl
      simp [hff, firstC, e, tokD, tokN, tokF]
    | true =>
      obtain ⟨p1, p2, _⟩ := hok rfl
      have hle := p2.length_le
      have hpos : 0 < tx.length := List.length_pos_iff.2 p1
      simp only [List.length_cons] at hle q2 q3
      simp [hff, firstC, hsz, hle]
      have hR2 : preR (out ++ [⟨k, tx, m, ln + n⟩]) (lexG numL ((c :: r).drop tx.length) 0 (ln + n) false) = res := by
        rw [← hR, if_pos rfl]
        generalize lexG numL ((c :: r).drop tx.length) 0 (ln + n) false = y
        cases y with
        | ok l => simp [preR]
        | error e => rfl
      have hdl : ((c :: r).drop tx.length).length = r.length + 1 - tx.length := by simp
      refine Again.mk ⟨((c :: r).drop tx.length, out ++ [⟨k, tx, m, ln + n⟩], ln + n), ?_⟩ (by simp [toks_snoc]) (by simp only [hdl]; omega)
      refine ⟨by simp only [hdl]; omega, by simp only; omega, by simp only [hdl]; omega, by simp only [hdl, List.length_append, List.length_cons, List.length_nil]; omega, hR2⟩
end Go.Proofs.YtoiokobokencdaaDoor
