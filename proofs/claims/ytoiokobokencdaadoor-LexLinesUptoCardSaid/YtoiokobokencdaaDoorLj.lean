/- Tokens, the reference: Tokens, Same; the walks. No condition. -/
import Derived.Test.YtoiokobokencdaaDoorLi
import Derived.Test.YtoiokobokencdaaDoorLg
set_option linter.unusedVariables false
set_option linter.unusedSimpArgs false
set_option linter.unusedSectionVars false
namespace Go.Proofs.YtoiokobokencdaaDoor
open Go Go.VM
set_option maxRecDepth 100000
set_option maxHeartbeats 8000000
variable {G : GT}
theorem ent_r5_Tokens : VM.Enters Tryd.prog 10 := VM.Enters.mk Tryd.func10 rfl
theorem r5_Tokens_cs (s : List UInt8) (hl : s.length ≤ 900000000) : CS Tryd.prog G 10 [.str s] (.tup (if 40000 < s.length then [.nils, .int .i64 0, .int .i64 7] else
    [tokD (lexG numL s 0 1 false), .int .i64 (tokN (lexG numL s 0 1 false)), .int .i64 (tokF (lexG numL s 0 1 false))])) none := by
  obtain ⟨res, hres⟩ : ∃ x, lexG numL s 0 1 false = x := ⟨_, rfl⟩
  rw [hres]
  refine CS.of_VK Tryd.func10 rfl Tryd.ntmps10 rfl ?_
  by_cases hlong : 40000 < s.length
  · have h2 : (40000 : Int) < s.length := by omega
    simp [hlong, h2]
  have h2 : ¬ (40000 : Int) < s.length := by omega
  simp [hlong, h2]
  refine SW.loopF (ι := { x : Nat × List Tok × Int × Bool // x.1 ≤ s.length ∧ 1 ≤ x.2.2.1 ∧ x.2.2.1 ≤ x.1 + 1 ∧ x.2.1.length ≤ x.1 ∧ preR x.2.1 (lexG numL (s.drop x.1) 0 x.2.2.1 x.2.2.2) = res })
    (fun x => [(5, .d (.sl (toks x.1.2.1))), (6, .d (.int .i64 x.1.2.2.1)), (7, .d (.bool x.1.2.2.2)), (8, .d (.int .i64 x.1.1))]) (fun _ => []) (fun _ => [(33, [.t 5])]) (fun x => s.length - x.1.1) ⟨(0, [], 1, false), by refine ⟨by simp, by simp, by simp, by simp, ?_⟩; simp only [List.drop_zero]; rw [hres]; cases res <;> rfl⟩ (by simp) ?_
  rintro ⟨⟨i, out, ln, cm⟩, hi, hln, hb, ho, hR⟩
  try simp only at hi hln hb ho hR
  by_cases hlt : i < s.length
  · have hQ : preR out (lexG numL (s.drop i) 0 ln cm) = res := hR
    have hdrop : s.drop i = s[i] :: s.drop (i + 1) := List.drop_eq_getElem_cons hlt
    have hw := wrap64s (show i < 9223372036854775807 by omega)
    have hwl : IntKind.i64.wrap (ln + 1) = ln + 1 := wrap64 (by omega)
    have c10 := nat_u8 s[i] 10 (by omega)
    have c32 := nat_u8 s[i] 32 (by omega)
    have c9 := nat_u8 s[i] 9 (by omega)
    have c35 := nat_u8 s[i] 35 (by omega)
    simp at c10 c32 c9 c35
    have hle := Nat.le_of_lt hlt
    rw [hdrop, lexG] at hQ
    by_cases h10 : s[i] = 10
    · have e := c10.2 h10
      rw [if_pos h10] at hQ
      simp [hlt, e]
      exact Again.mk ⟨(i + 1, out, ln + 1, false), hlt, by simp only; omega, by simp only; omega, by simp only; omega, hQ⟩ (by simp [hw, hwl]) (by simp; omega)
    have e : ¬ s[i].toNat = 10 := fun h => h10 (c10.1 h)
    rw [if_neg h10] at hQ
    simp [hlt, e]
    cases cm with
    | true =>
      rw [if_pos (.inl rfl)] at hQ
      try simp [hlt]
      exact Again.mk ⟨(i + 1, out, ln, true), hlt, by simp only; omega, by simp only; omega, by simp only; omega, hQ⟩ (by simp [hw]) (by simp; omega)
    | false =>
      try simp [hlt]
      by_cases h32 : s[i] = 32
      · have e2 := c32.2 h32
        rw [if_pos (.inr (.inl h32))] at hQ
        simp [e2]
        exact Again.mk ⟨(i + 1, out, ln, false), hlt, by simp only; omega, by simp only; omega, by simp only; omega, hQ⟩ (by simp [hw]) (by simp; omega)
      have e2 : ¬ s[i].toNat = 32 := fun h => h32 (c32.1 h)
      simp [e2, hlt]
      by_cases h9 : s[i] = 9
      · have e3 := c9.2 h9
        rw [if_pos (.inr (.inr h9))] at hQ
        simp [e3]
        exact Again.mk ⟨(i + 1, out, ln, false), hlt, by simp only; omega, by simp only; omega, by simp only; omega, hQ⟩ (by simp [hw]) (by simp; omega)
      have e3 : ¬ s[i].toNat = 9 := fun h => h9 (c9.1 h)
      simp [e3, hlt]
      rw [if_neg (by simp [h32, h9])] at hQ
      by_cases h35 : s[i] = 35
      · have e4 := c35.2 h35
        rw [if_pos h35] at hQ
        simp [e4]
        exact Again.mk ⟨(i + 1, out, ln, true), hlt, by simp only; omega, by simp only; omega, by simp only; omega, hQ⟩ (by simp [hw]) (by simp; omega)
      have e4 : ¬ s[i].toNat = 35 := fun h => h35 (c35.1 h)
      have hQ2 : preR out (lexG numL (s[i] :: s.drop (i + 1)) 0 ln false) = res := by rw [← hdrop]; exact hR
      rw [lexG_first ln h10 h32 h9 h35] at hQ2
      have hdl : (s.drop (i + 1)).length = s.length - (i + 1) := by simp
      obtain ⟨r, hr⟩ : ∃ r, s.drop (i + 1) = r := ⟨_, rfl⟩
      obtain ⟨c, hc⟩ : ∃ c, s[i] = c := ⟨_, rfl⟩
      rw [hr, hc] at hQ2 hdrop
      rw [hr] at hdl
      simp [e4, hle, hdrop]
      refine callK.mk ent_r5_first (r5_first_cs c r (by simp; omega)) ?_
      obtain ⟨ff, hff⟩ : ∃ ff, firstT numL (c :: r) = ff := ⟨_, rfl⟩
      have hok := @first_ok numL (c :: r)
      rw [hff] at hQ2 hok
      obtain ⟨k, tx, m, ok⟩ := ff
      simp only at hQ2 hok
      cases ok with
      | false =>
        have er : res = .error ln := by rw [← hQ2]; rfl
        simp [hff, first5, er, tokD, tokN, tokF]
      | true =>
        obtain ⟨p1, p2, _⟩ := hok rfl
        have hle2 := p2.length_le
        have hpos : 0 < tx.length := List.length_pos_iff.2 p1
        simp only [List.length_cons] at hle2
        have hk : kind5 c = k := by
          have := hff
          unfold firstT at this
          unfold kind5
          by_cases q1 : smU c = true
          · simp [q1] at this ⊢; exact this.1
          by_cases q2 : caU c = true
          · simp [q1, q2] at this ⊢; exact this.1
          by_cases q3 : dgU c = true
          · simp [q1, q2, q3] at this ⊢; exact this.1
          by_cases q4 : signT (c :: r) = []
          · simp [q1, q2, q3, q4] at this
          · simp [q1, q2, q3, q4] at this ⊢; exact this.1
        have hsz : (out.length + 1) * 41 ≤ 140737488355328 := by omega
        have hwt : IntKind.i64.wrap ((i : Int) + tx.length) = ((i + tx.length : Nat) : Int) := by rw [wrap64 (by omega)]; simp
        simp [hff, first5, hsz, hk]
        have hR2 : preR (out ++ [⟨k, tx, m, ln⟩]) (lexG numL (s.drop (i + tx.length)) 0 ln false) = res := by
          rw [← List.drop_drop, hdrop, ← hQ2, if_pos rfl]
          generalize lexG numL ((c :: r).drop tx.length) 0 ln false = y
          cases y with
          | ok l => simp [preR]
          | error e => rfl
        refine Again.mk ⟨(i + tx.length, out ++ [⟨k, tx, m, ln⟩], ln, false), ?_⟩ (by simp [toks_snoc, hwt]) (by simp; omega)
        refine ⟨by simp only; omega, by simp only; omega, by simp only; omega, by simp only [List.length_append, List.length_cons, List.length_nil]; omega, hR2⟩
  · have : i = s.length := by omega
    subst this
    rw [List.drop_length, lexG] at hR
    have e : res = .ok (out ++ [⟨0, [], 0, ln⟩]) := by rw [← hR]; rfl
    have hsz : (out.length + 1) * 41 ≤ 140737488355328 := by omega
    simp [e, tokD, tokN, tokF, toks_snoc, hsz]
/-! ### The same tokens -/
theorem tok_eq (a b : Tok) : (tokE a = tokE b) ↔ a = b := by
  constructor
  · intro h
    simp only [tokE, List.cons.injEq, D.int.injEq, D.str.injEq, true_and, and_true] at h
    cases a; cases b
    simp at h ⊢
    exact h
  · rintro rfl; rfl
theorem tok_ne {x y : Tok} (h : ¬ x = y) : (!decide (x.kind = y.kind) || (!decide (x.text = y.text) || (!decide (x.n = y.n) || !decide (x.line = y.line)))) = true := by
  obtain ⟨a, b, c, d⟩ := x
  obtain ⟨a', b', c', d'⟩ := y
  simp only [Tok.mk.injEq, not_and] at h
  by_cases k1 : a = a'
  · by_cases k2 : b = b'
    · by_cases k3 : c = c'
      · have k4 := h k1 k2 k3
        simp [k4]
      · simp [k3]
    · simp [k2]
  · simp [k1]
theorem same_step {a b : List Tok} {i : Nat} (ha : i < a.length) (hb : i < b.length) (h : a.take i = b.take i) (he : a[i] = b[i]) : a.take (i + 1) = b.take (i + 1) := by
  rw [List.take_succ_eq_append_getElem ha, List.take_succ_eq_append_getElem hb, h, he]
theorem ent_r5_Same : VM.Enters Tryd.prog 11 := VM.Enters.mk Tryd.func11 rfl
theorem r5_Same_cs (a b : List Tok) (ha : a.length ≤ 900000000) : CS Tryd.prog G 11 [.sl (toks a), .sl (toks b)] (.d (.bool (decide (a = b)))) none := by
  refine CS.of_VK Tryd.func11 rfl Tryd.ntmps11 rfl ?_
  by_cases hlen : a.length = b.length
  rotate_left
  · have h1 : ¬ (a.length : Int) = b.length := by omega
    have h2 : ¬ a = b := fun e => hlen (by rw [e])
    simp [hlen, h1, h2]
  simp [hlen]
  refine SW.loopF (ι := { i : Nat // i ≤ b.length ∧ a.take i = b.take i }) (fun i => [(5, .d (.int .i64 i.1))]) (fun _ => []) (fun _ => []) (fun i => b.length - i.1) ⟨0, by simp⟩ (by simp) ?_
  rintro ⟨i, hi, hn⟩
  try simp only at hi hn
  by_cases hlt : i < b.length
  · have hla : i < a.length := by omega
    have hw2 := wrap64s (show i < 9223372036854775807 by omega)
    simp [hlt, hla, hlen, toks_getE]
    try refine ⟨lexOk.mk (by kernel_rfl), ?_⟩
    try simp [hlt, hla, hlen, toks_getE]
    by_cases he : a[i] = b[i]
    · simp [he]
      exact Again.mk ⟨i + 1, hlt, same_step hla hlt hn he⟩ (by simp [hw2]) (by simp; omega)
    · have h2 : ¬ a = b := fun e => he (by subst e; rfl)
      rw [tok_ne he]
      simp [h2]
  · have : i = b.length := by omega
    subst this
    have h2 : a = b := by
      have e1 : a.take b.length = a := List.take_of_length_le (by omega)
      rw [e1, List.take_length] at hn
      exact hn
    simp [hlen, h2]
theorem ent_lex_Same : VM.Enters Tryd.prog 16 := VM.Enters.mk Tryd.func16 rfl
theorem lex_Same_cs (a b : List Tok) (ha : a.length ≤ 900000000) : CS Tryd.prog G 16 [.sl (toks a), .sl (toks b)] (.d (.bool (decide (a = b)))) none := by
  refine CS.of_VK Tryd.func16 rfl Tryd.ntmps16 rfl ?_
  by_cases hlen : a.length = b.length
  rotate_left
  · have h1 : ¬ (a.length : Int) = b.length := by omega
    have h2 : ¬ a = b := fun e => hlen (by rw [e])
    simp [hlen, h1, h2]
  simp [hlen]
  refine SW.loopF (ι := { i : Nat // i ≤ b.length ∧ a.take i = b.take i }) (fun i => [(13, .d (.int .i64 i.1))]) (fun _ => []) (fun _ => []) (fun i => b.length - i.1) ⟨0, by simp⟩ (by simp) ?_
  rintro ⟨i, hi, hn⟩
  try simp only at hi hn
  by_cases hlt : i < b.length
  · have hla : i < a.length := by omega
    have hw2 := wrap64s (show i < 9223372036854775807 by omega)
    simp [hlt, hla, hlen, toks_getE]
    try refine ⟨lexOk.mk (by kernel_rfl), ?_⟩
    try simp [hlt, hla, hlen, toks_getE]
    by_cases he : a[i] = b[i]
    · simp [he]
      exact Again.mk ⟨i + 1, hlt, same_step hla hlt hn he⟩ (by simp [hw2]) (by simp; omega)
    · have h2 : ¬ a = b := fun e => he (by subst e; rfl)
      rw [tok_ne he]
      simp [h2]
  · have : i = b.length := by omega
    subst this
    have h2 : a = b := by
      have e1 : a.take b.length = a := List.take_of_length_le (by omega)
      rw [e1, List.take_length] at hn
      exact hn
    simp [hlen, h2]
end Go.Proofs.YtoiokobokencdaaDoor
