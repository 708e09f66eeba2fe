/- Joined texts. Texts and tokens, plain: how a text is divided, the canonical text of tokens, and what follows from both. Texts and tokens, plain: reading back, blanks, lines. Runes of a text: those of one byte, and the others. No condition. -/
import Derived.Test.YtlglfkdjlbcpjaaGreatDoorZ7
import Derived.Lib.MapLaws
section
set_option linter.unusedVariables false
set_option linter.unusedSimpArgs false
set_option linter.unusedSectionVars false
namespace Go.Proofs.YtlglfkdjlbcpjaaGreatDoor
set_option maxRecDepth 100000
set_option maxHeartbeats 4000000
/-- A token. -/
structure Tok where
  kind : Int
  text : List UInt8
  n : Int
  line : Int
  deriving DecidableEq
def smU (b : UInt8) : Bool := decide (97 ≤ b.toNat ∧ b.toNat ≤ 122)
def caU (b : UInt8) : Bool := decide (65 ≤ b.toNat ∧ b.toNat ≤ 90)
def dgU (b : UInt8) : Bool := decide (48 ≤ b.toNat ∧ b.toNat ≤ 57)
def inU (b : UInt8) : Bool := smU b || caU b || dgU b || decide (b.toNat = 95)
def signsL : List (List UInt8) := [[60, 61, 62], [45, 62], [61, 62], [60, 61], [62, 61], [33, 61], [61, 61], [38, 38], [124, 124], [43], [45], [42], [47], [37], [40], [41], [123], [125], [91], [93], [60], [62], [61], [124], [44], [58], [59], [46], [33], [63], [39]]
/-- The sign with which a text begins. -/
def signT (s : List UInt8) : List UInt8 := (signsL.find? fun t => t.isPrefixOf s).getD []
/-- A blank, a tab or a line feed. -/
def sepU (b : UInt8) : Bool := decide (b = 10) || decide (b = 32) || decide (b = 9)
section
variable (num : List UInt8 → Int × Bool)
/-- The token at the beginning of a text: its kind, its text, its number, and whether there is one. -/
def firstT (s : List UInt8) : Int × List UInt8 × Int × Bool :=
  match s with
  | [] => (0, [], 0, false)
  | c :: r =>
    if smU c then (1, (c :: r).takeWhile inU, 0, true)
    else if caU c then (2, (c :: r).takeWhile inU, 0, true)
    else if dgU c then (3, (c :: r).takeWhile dgU, (num ((c :: r).takeWhile dgU)).1, (num ((c :: r).takeWhile dgU)).2)
    else if signT (c :: r) = [] then (0, [], 0, false)
    else (4, signT (c :: r), 0, true)
/-- The tokens of a text behind k further bytes of a token, or the line of an error. -/
def lexG : List UInt8 → Nat → Int → Bool → Except Int (List Tok)
  | [], _, ln, _ => .ok [⟨0, [], 0, ln⟩]
  | _ :: r, k + 1, ln, cm => lexG r k ln cm
  | c :: r, 0, ln, cm =>
    if c = 10 then lexG r 0 (ln + 1) false
    else if cm = true ∨ c = 32 ∨ c = 9 then lexG r 0 ln cm
    else if c = 35 then lexG r 0 ln true
    else if (firstT num (c :: r)).2.2.2 then
      match lexG r ((firstT num (c :: r)).2.1.length - 1) ln false with
      | .ok l => .ok (⟨(firstT num (c :: r)).1, (firstT num (c :: r)).2.1, (firstT num (c :: r)).2.2.1, ln⟩ :: l)
      | .error e => .error e
    else .error ln
variable {num}
theorem sep_in {b : UInt8} (h : sepU b = true) : inU b = false := by
  simp only [sepU, Bool.or_eq_true, decide_eq_true_eq] at h
  rcases h with (rfl | rfl) | rfl <;> decide
theorem in_sm {b : UInt8} (h : smU b = true) : inU b = true := by simp [inU, h]
theorem in_ca {b : UInt8} (h : caU b = true) : inU b = true := by simp [inU, h]
theorem in_dg {b : UInt8} (h : dgU b = true) : inU b = true := by simp [inU, h]
theorem sep_dg {b : UInt8} (h : sepU b = true) : dgU b = false := by
  cases hd : dgU b with
  | false => rfl
  | true => have := in_dg hd; rw [sep_in h] at this; cases this
theorem takeWhile_sep {p : UInt8 → Bool} {rest : List UInt8} (h : ∀ b, rest.head? = some b → p b = false) : ∀ s : List UInt8, (s ++ rest).takeWhile p = s.takeWhile p
  | [] => by
    cases rest with
    | nil => rfl
    | cons b r => simp [List.takeWhile, h b rfl]
  | c :: s => by
    simp only [List.cons_append, List.takeWhile_cons, takeWhile_sep h s]
theorem sign_nosep : ∀ t ∈ signsL, ∀ b ∈ t, sepU b = false := by decide
theorem prefix_sep : ∀ (t s rest : List UInt8), (∀ b, rest.head? = some b → sepU b = true) → (∀ b ∈ t, sepU b = false) → t.isPrefixOf (s ++ rest) = t.isPrefixOf s
  | [], s, rest, _, _ => by simp [List.isPrefixOf]
  | x :: t, [], rest, h, ht => by
    cases rest with
    | nil => rfl
    | cons b r =>
      have h1 := h b rfl
      have h2 := ht x (.head _)
      have : (x == b) = false := by
        rw [beq_eq_false_iff_ne]
        rintro rfl
        rw [h1] at h2
        cases h2
      simp [List.isPrefixOf, this]
  | x :: t, c :: s, rest, h, ht => by
    simp only [List.cons_append, List.isPrefixOf, prefix_sep t s rest h fun b hb => ht b (.tail _ hb)]
theorem find_congr {α : Type} {p q : α → Bool} : ∀ {l : List α}, (∀ x ∈ l, p x = q x) → l.find? p = l.find? q
  | [], _ => rfl
  | x :: l, h => by
    simp only [List.find?_cons, h x (.head _), find_congr fun y hy => h y (.tail _ hy)]
theorem sign_sep {s rest : List UInt8} (h : ∀ b, rest.head? = some b → sepU b = true) : signT (s ++ rest) = signT s := by
  unfold signT
  rw [find_congr fun t ht => prefix_sep t s rest h (sign_nosep t ht)]
theorem first_sep {s rest : List UInt8} (hs : s ≠ []) (h : ∀ b, rest.head? = some b → sepU b = true) : firstT num (s ++ rest) = firstT num s := by
  cases s with
  | nil => exact absurd rfl hs
  | cons c r =>
    have h1 := takeWhile_sep (p := inU) (rest := rest) (fun b hb => sep_in (h b hb)) (c :: r)
    have h2 := takeWhile_sep (p := dgU) (rest := rest) (fun b hb => sep_dg (h b hb)) (c :: r)
    have h3 := sign_sep (s := c :: r) h
    rw [List.cons_append] at h1 h2 h3 ⊢
    simp only [firstT, h1, h2, h3]
/-- What stands at the beginning of a text whose first token it is. -/
theorem sign_pre {s : List UInt8} (h : signT s ≠ []) : signT s ∈ signsL ∧ signT s <+: s := by
  unfold signT at h ⊢
  cases hf : signsL.find? fun t => t.isPrefixOf s with
  | none => rw [hf] at h; simp at h
  | some t => exact ⟨List.mem_of_find?_eq_some hf, List.isPrefixOf_iff_prefix.1 (by simpa using List.find?_some hf)⟩
theorem sign_self : ∀ t ∈ signsL, signT t = t := by decide
theorem takeWhile_pre (p : UInt8 → Bool) : ∀ s : List UInt8, s.takeWhile p <+: s := fun s => List.takeWhile_prefix p
theorem takeWhile_self (p : UInt8 → Bool) : ∀ s : List UInt8, (s.takeWhile p).takeWhile p = s.takeWhile p
  | [] => rfl
  | c :: s => by
    rw [List.takeWhile_cons]
    split
    · rename_i hc
      rw [List.takeWhile_cons, if_pos hc, takeWhile_self p s]
    · rfl
theorem takeWhile_head {p : UInt8 → Bool} {c : UInt8} {r : List UInt8} (h : p c = true) : (c :: r).takeWhile p = c :: r.takeWhile p := by rw [List.takeWhile_cons, if_pos h]
/-- A first token: its text is not empty, stands at the beginning, and is the first token of itself. -/
theorem first_ok {s : List UInt8} (h : (firstT num s).2.2.2 = true) : (firstT num s).2.1 ≠ [] ∧ (firstT num s).2.1 <+: s ∧ firstT num (firstT num s).2.1 = firstT num s := by
  cases s with
  | nil => simp [firstT] at h
  | cons c r =>
    by_cases h1 : smU c = true
    · have hw := takeWhile_head (r := r) (in_sm h1)
      have hs := takeWhile_self inU (c :: r)
      have hp := takeWhile_pre inU (c :: r)
      simp only [firstT, h1, if_true] at h ⊢
      rw [hw] at hs hp ⊢
      refine ⟨by simp, hp, ?_⟩
      simp only [firstT, h1, if_true, hs]
    · have h1 : smU c = false := by simpa using h1
      by_cases h2 : caU c = true
      · have hw := takeWhile_head (r := r) (in_ca h2)
        have hs := takeWhile_self inU (c :: r)
        have hp := takeWhile_pre inU (c :: r)
        simp only [firstT, h1, h2, if_true, Bool.false_eq_true, if_false] at h ⊢
        rw [hw] at hs hp ⊢
        refine ⟨by simp, hp, ?_⟩
        simp only [firstT, h1, h2, if_true, Bool.false_eq_true, if_false, hs]
      · have h2 : caU c = false := by simpa using h2
        by_cases h3 : dgU c = true
        · have hw := takeWhile_head (r := r) h3
          have hs := takeWhile_self dgU (c :: r)
          have hp := takeWhile_pre dgU (c :: r)
          simp only [firstT, h1, h2, h3, if_true, Bool.false_eq_true, if_false] at h ⊢
          rw [hw] at hs hp ⊢
          refine ⟨by simp, hp, ?_⟩
          simp only [firstT, h1, h2, h3, if_true, Bool.false_eq_true, if_false, hs]
        · have h3 : dgU c = false := by simpa using h3
          by_cases h4 : signT (c :: r) = []
          · simp [firstT, h1, h2, h3, h4] at h
          · obtain ⟨hm, hp⟩ := sign_pre h4
            have hself := sign_self _ hm
            simp only [firstT, h1, h2, h3, h4, Bool.false_eq_true, if_false] at h ⊢
            refine ⟨h4, hp, ?_⟩
            obtain ⟨t, ht⟩ : ∃ t, signT (c :: r) = t := ⟨_, rfl⟩
            rw [ht] at h4 hp hself ⊢
            cases t with
            | nil => exact absurd rfl h4
            | cons d t' =>
              have hd : d = c := by
                obtain ⟨u, hu⟩ := hp
                simp only [List.cons_append, List.cons.injEq] at hu
                exact hu.1
              subst hd
              simp only [firstT, h1, h2, h3, Bool.false_eq_true, if_false, hself]
              simp
/-- The first byte of a token's text is no blank and begins no comment. -/
theorem first_no {c : UInt8} {r : List UInt8} (h : c = 10 ∨ c = 32 ∨ c = 9 ∨ c = 35) : (firstT num (c :: r)).2.2.2 = false := by
  have hs : signT (c :: r) = [] := by
    rcases h with rfl | rfl | rfl | rfl <;> (simp [signT, signsL, List.find?_cons, List.isPrefixOf])
  have h1 : smU c = false := by rcases h with rfl | rfl | rfl | rfl <;> decide
  have h2 : caU c = false := by rcases h with rfl | rfl | rfl | rfl <;> decide
  have h3 : dgU c = false := by rcases h with rfl | rfl | rfl | rfl <;> decide
  simp [firstT, h1, h2, h3, hs]
theorem first_head {c : UInt8} {r : List UInt8} (h : (firstT num (c :: r)).2.2.2 = true) : c ≠ 10 ∧ c ≠ 32 ∧ c ≠ 9 ∧ c ≠ 35 := by
  refine ⟨?_, ?_, ?_, ?_⟩
  · intro e; rw [first_no (.inl e)] at h; cases h
  · intro e; rw [first_no (.inr (.inl e))] at h; cases h
  · intro e; rw [first_no (.inr (.inr (.inl e)))] at h; cases h
  · intro e; rw [first_no (.inr (.inr (.inr e)))] at h; cases h
theorem lexG_drop : ∀ (s : List UInt8) (k : Nat) (ln : Int) (cm : Bool), k ≤ s.length → lexG num s k ln cm = lexG num (s.drop k) 0 ln cm
  | [], k, ln, cm, h => by
    have : k = 0 := by simpa using h
    subst this
    rfl
  | c :: r, 0, ln, cm, _ => by rfl
  | c :: r, k + 1, ln, cm, h => by
    rw [List.drop_succ_cons]
    simp only [List.length_cons] at h
    rw [← lexG_drop r k ln cm (by omega)]
    rfl
end
end Go.Proofs.YtlglfkdjlbcpjaaGreatDoor
end

section
set_option linter.unusedVariables false
set_option linter.unusedSimpArgs false
set_option linter.unusedSectionVars false
namespace Go.Proofs.YtlglfkdjlbcpjaaGreatDoor
set_option maxRecDepth 100000
set_option maxHeartbeats 4000000
section
variable {num : List UInt8 → Int × Bool}
theorem lexG_first {c : UInt8} {r : List UInt8} (ln : Int) (h1 : c ≠ 10) (h2 : c ≠ 32) (h3 : c ≠ 9) (h4 : c ≠ 35) : lexG num (c :: r) 0 ln false = if (firstT num (c :: r)).2.2.2 then
      (match lexG num ((c :: r).drop (firstT num (c :: r)).2.1.length) 0 ln false with
      | .ok l => .ok (⟨(firstT num (c :: r)).1, (firstT num (c :: r)).2.1, (firstT num (c :: r)).2.2.1, ln⟩ :: l)
      | .error e => .error e)
    else .error ln := by
  conv => lhs; rw [lexG]
  rw [if_neg h1, if_neg (by simp [h2, h3]), if_neg h4]
  split
  · rename_i hok
    obtain ⟨q1, q2, _⟩ := first_ok hok
    obtain ⟨tx, htx⟩ : ∃ tx, (firstT num (c :: r)).2.1 = tx := ⟨_, rfl⟩
    rw [htx] at q1 q2 ⊢
    have hl : 0 < tx.length := List.length_pos_iff.2 q1
    have hle := q2.length_le
    simp only [List.length_cons] at hle
    rw [lexG_drop r (tx.length - 1) ln false (by omega)]
    have : (c :: r).drop tx.length = r.drop (tx.length - 1) := by
      conv => lhs; rw [show tx.length = (tx.length - 1) + 1 by omega]
      rfl
    rw [this]
    try rfl
  · rfl
/-- Tokens that a text is divided into, from a line on. -/
inductive OkT (num : List UInt8 → Int × Bool) : List Tok → Int → Prop
  | fin (ln l : Int) : ln ≤ l → OkT num [⟨0, [], 0, l⟩] ln
  | cons (t : Tok) (r : List Tok) (ln : Int) : ln ≤ t.line → firstT num t.text = (t.kind, t.text, t.n, true) → OkT num r t.line → OkT num (t :: r) ln
theorem OkT.mono {l : List Tok} {ln ln' : Int} (h : OkT num l ln) (hl : ln' ≤ ln) : OkT num l ln' := by
  cases h with
  | fin _ l hle => exact .fin _ _ (by omega)
  | cons t r _ h1 h2 h3 => exact .cons t r _ (by omega) h2 h3
theorem first_kind {s : List UInt8} (h : (firstT num s).2.2.2 = true) : 1 ≤ (firstT num s).1 ∧ (firstT num s).1 ≤ 4 := by
  cases s with
  | nil => simp [firstT] at h
  | cons c r =>
    simp only [firstT] at h ⊢
    split at h
    · rename_i h1; simp [h1]
    · rename_i h1
      split at h
      · rename_i h2; simp [h1, h2]
      · rename_i h2
        split at h
        · rename_i h3; simp [h1, h2, h3]
        · rename_i h3
          split at h
          · cases h
          · rename_i h4; simp [h1, h2, h3, h4]
theorem lexG_ok : ∀ (s : List UInt8) (k : Nat) (ln : Int) (cm : Bool) (l : List Tok), lexG num s k ln cm = .ok l → OkT num l ln
  | [], k, ln, cm, l, h => by
    simp only [lexG, Except.ok.injEq] at h
    subst h
    exact .fin _ _ (Int.le_refl _)
  | c :: r, k + 1, ln, cm, l, h => by
    rw [lexG] at h
    exact lexG_ok r k ln cm l h
  | c :: r, 0, ln, cm, l, h => by
    rw [lexG] at h
    split at h
    · exact (lexG_ok r 0 _ _ l h).mono (by omega)
    · split at h
      · exact lexG_ok r 0 _ _ l h
      · split at h
        · exact lexG_ok r 0 _ _ l h
        · split at h
          · rename_i hok
            split at h
            · rename_i l' hl
              simp only [Except.ok.injEq] at h
              subst h
              obtain ⟨q1, q2, q3⟩ := first_ok hok
              refine .cons _ _ _ (Int.le_refl _) ?_ (lexG_ok r _ _ _ l' hl)
              simp only
              rw [q3, ← hok]
            · cases h
          · cases h
theorem lexG_err : ∀ (s : List UInt8) (k : Nat) (ln : Int) (cm : Bool) (e : Int), lexG num s k ln cm = .error e → ln ≤ e
  | [], k, ln, cm, e, h => by simp [lexG] at h
  | c :: r, k + 1, ln, cm, e, h => by
    rw [lexG] at h
    exact lexG_err r k ln cm e h
  | c :: r, 0, ln, cm, e, h => by
    rw [lexG] at h
    split at h
    · have := lexG_err r 0 _ _ e h
      omega
    · split at h
      · exact lexG_err r 0 _ _ e h
      · split at h
        · exact lexG_err r 0 _ _ e h
        · split at h
          · split at h
            · cases h
            · rename_i e' hl
              simp only [Except.error.injEq] at h
              subst h
              exact lexG_err r _ _ _ _ hl
          · simp only [Except.error.injEq] at h
            omega
/-- What stands in front of a token, and the token. -/
def pieceT (t : Tok) (ln : Int) (first : Bool) : List UInt8 := List.replicate (t.line - ln).toNat 10 ++ (if t.line = ln ∧ first = false ∧ t.kind ≠ 0 then [32] else []) ++ t.text
def textG : List Tok → Int → Bool → List UInt8
  | [], _, _ => []
  | t :: r, ln, first => pieceT t ln first ++ textG r t.line false
theorem lexG_feeds (s : List UInt8) (cm : Bool) : ∀ (k : Nat) (ln : Int), lexG num (List.replicate k 10 ++ s) 0 ln cm = lexG num s 0 (ln + k) (if k = 0 then cm else false)
  | 0, ln => by simp
  | k + 1, ln => by
    have ih := lexG_feeds s false k (ln + 1)
    rw [List.replicate_succ, List.cons_append, lexG, if_pos rfl, ih]
    have e : ln + 1 + (k : Int) = ln + ((k + 1 : Nat) : Int) := by omega
    rw [e]
    cases k <;> simp
theorem text_head {l : List Tok} {ln : Int} (h : OkT num l ln) : ∀ b, (textG l ln false).head? = some b → sepU b = true := by
  intro b hb
  cases h with
  | fin _ l hle =>
    simp only [textG, pieceT] at hb
    cases hk : (l - ln).toNat with
    | zero => simp [hk] at hb
    | succ n => simp [hk, List.replicate_succ] at hb; subst hb; decide
  | cons t r _ h1 h2 h3 =>
    have hkd := first_kind (num := num) (s := t.text) (by rw [h2])
    rw [h2] at hkd
    simp only at hkd
    simp only [textG, pieceT] at hb
    cases hk : (t.line - ln).toNat with
    | zero =>
      have : t.line = ln := by omega
      have hne : ¬ t.kind = 0 := by omega
      simp [this, hne] at hb
      subst hb; decide
    | succ n => simp [hk, List.replicate_succ] at hb; subst hb; decide
/-- TOKENS ARE READ BACK FROM THEIR TEXT. -/
theorem lex_text {l : List Tok} {ln : Int} (h : OkT num l ln) : ∀ b : Bool, lexG num (textG l ln b) 0 ln false = .ok l := by
  induction h with
  | fin ln l hle =>
    intro b
    simp only [textG, pieceT, List.append_nil]
    rw [show (if l = ln ∧ b = false ∧ (0 : Int) ≠ 0 then [32] else ([] : List UInt8)) = [] by simp, lexG_feeds]
    simp only [lexG, Except.ok.injEq, List.cons.injEq, and_true, Tok.mk.injEq, true_and]
    omega
  | cons t r ln h1 h2 h3 ih =>
    intro b
    have hok : (firstT num t.text).2.2.2 = true := by rw [h2]
    obtain ⟨q1, q2, _⟩ := first_ok hok
    obtain ⟨c, s, hcs⟩ : ∃ c s, t.text = c :: s := by
      cases ht : t.text with
      | nil => rw [ht] at h2; simp [firstT] at h2
      | cons c s => exact ⟨c, s, rfl⟩
    obtain ⟨n1, n2, n3, n4⟩ := first_head (num := num) (c := c) (r := s) (by rw [← hcs]; exact hok)
    have hsep := text_head h3
    have hf := first_sep (num := num) (s := t.text) (rest := textG r t.line false) (by rw [hcs]; simp) hsep
    rw [h2] at hf
    have main : lexG num (t.text ++ textG r t.line false) 0 t.line false = .ok (t :: r) := by
      rw [hcs, List.cons_append, lexG_first _ n1 n2 n3 n4]
      rw [hcs, List.cons_append] at hf
      rw [hf]
      simp only [if_true]
      rw [← List.cons_append, ← hcs, List.drop_left, ih false]
    simp only [textG, pieceT, List.append_assoc]
    rw [lexG_feeds]
    have e : ln + ((t.line - ln).toNat : Int) = t.line := by omega
    rw [e]
    simp only [ite_self]
    by_cases hsp : t.line = ln ∧ b = false ∧ t.kind ≠ 0
    · rw [if_pos hsp, List.singleton_append]
      rw [lexG, if_neg (by decide), if_pos (by simp)]
      exact main
    · rw [if_neg hsp]
      exact main
theorem text_len (l : List Tok) (ln : Int) (b b' : Bool) (h : OkT num l (ln + 1)) : (textG l ln b).length ≤ 1 + (textG l (ln + 1) b').length := by
  cases h with
  | fin _ l hle =>
    simp only [textG, pieceT, List.length_append, List.length_replicate, List.length_nil]
    split <;> simp <;> omega
  | cons t r _ h1 h2 h3 =>
    simp only [textG, pieceT, List.length_append, List.length_replicate]
    rw [if_neg (by omega)]
    simp
    omega
theorem lexG_len : ∀ (s : List UInt8) (k : Nat) (ln : Int) (cm b : Bool) (l : List Tok), k ≤ s.length → lexG num s k ln cm = .ok l → (textG l ln b).length ≤ 2 * (s.length - k)
  | [], k, ln, cm, b, l, hk, h => by
    simp only [lexG, Except.ok.injEq] at h
    subst h
    simp [textG, pieceT]
  | c :: r, k + 1, ln, cm, b, l, hk, h => by
    rw [lexG] at h
    have := lexG_len r k ln cm b l (by simpa using hk) h
    simp only [List.length_cons]
    omega
  | c :: r, 0, ln, cm, b, l, hk, h => by
    simp only [List.length_cons]
    rw [lexG] at h
    split at h
    · have h1 := lexG_len r 0 _ _ b l (by omega) h
      have h2 := text_len l ln b b (lexG_ok _ _ _ _ _ h)
      omega
    · split at h
      · have := lexG_len r 0 _ _ b l (by omega) h
        omega
      · split at h
        · have := lexG_len r 0 _ _ b l (by omega) h
          omega
        · split at h
          · rename_i hok
            split at h
            · rename_i l' hl
              simp only [Except.ok.injEq] at h
              subst h
              obtain ⟨q1, q2, _⟩ := first_ok hok
              have hp : 0 < (firstT num (c :: r)).2.1.length := List.length_pos_iff.2 q1
              have hle := q2.length_le
              simp only [List.length_cons] at hle
              have := lexG_len r _ ln false false l' (by omega) hl
              simp only [textG, pieceT, List.length_append, Int.sub_self, List.length_replicate]
              have h3 : (if ln = ln ∧ b = false ∧ (firstT num (c :: r)).1 ≠ 0 then [(32 : UInt8)] else []).length ≤ 1 := by split <;> simp
              simp only at h3 ⊢
              simp
              simp at h3
              omega
            · cases h
          · cases h
/-- All lines later. -/
def shiftT (d : Int) (t : Tok) : Tok := ⟨t.kind, t.text, t.n, t.line + d⟩
def shiftR (d : Int) : Except Int (List Tok) → Except Int (List Tok)
  | .ok l => .ok (l.map (shiftT d))
  | .error e => .error (e + d)
theorem lexG_shift (d : Int) : ∀ (s : List UInt8) (k : Nat) (ln : Int) (cm : Bool), lexG num s k (ln + d) cm = shiftR d (lexG num s k ln cm)
  | [], k, ln, cm => by simp [lexG, shiftR, shiftT]
  | c :: r, k + 1, ln, cm => by
    rw [lexG, lexG]
    exact lexG_shift d r k ln cm
  | c :: r, 0, ln, cm => by
    have e : ln + d + 1 = ln + 1 + d := by omega
    conv => lhs; rw [lexG]
    conv => rhs; rw [lexG]
    rw [e, lexG_shift d r 0 (ln + 1) false, lexG_shift d r 0 ln cm, lexG_shift d r 0 ln true, lexG_shift d r _ ln false]
    split
    · rfl
    · split
      · rfl
      · split
        · rfl
        · split
          · cases lexG num r ((firstT num (c :: r)).2.1.length - 1) ln false with
            | ok l => simp [shiftR, shiftT]
            | error e => simp [shiftR]
          · simp [shiftR]
/-- What follows behind a blank, and has no token, changes nothing. -/
theorem lex_tail {tl : List UInt8} (hsep : ∀ b, tl.head? = some b → sepU b = true) (hend : ∀ ln, lexG num tl 0 ln false = .ok [⟨0, [], 0, ln⟩]) : ∀ (s : List UInt8) (k : Nat) (ln : Int), (∀ b ∈ s, b ≠ 35) → k ≤ s.length → lexG num (s ++ tl) k ln false = lexG num s k ln false
  | [], k, ln, _, hk => by
    have : k = 0 := by simpa using hk
    subst this
    rw [List.nil_append, hend]
    rfl
  | c :: r, k + 1, ln, hs, hk => by
    rw [List.cons_append, lexG, lexG]
    exact lex_tail hsep hend r k ln (fun b hb => hs b (.tail _ hb)) (by simpa using hk)
  | c :: r, 0, ln, hs, hk => by
    have hr : ∀ b ∈ r, b ≠ 35 := fun b hb => hs b (.tail _ hb)
    have hc : c ≠ 35 := hs c (.head _)
    have hf := first_sep (num := num) (s := c :: r) (rest := tl) (by simp) hsep
    rw [List.cons_append] at hf
    conv => lhs; rw [List.cons_append, lexG]
    conv => rhs; rw [lexG]
    rw [hf, lex_tail hsep hend r 0 (ln + 1) hr (by omega), lex_tail hsep hend r 0 ln hr (by omega), if_neg hc, if_neg hc]
    split
    · rfl
    · split
      · rfl
      · split
        · rename_i hok
          obtain ⟨q1, q2, _⟩ := first_ok hok
          have hle := q2.length_le
          simp only [List.length_cons] at hle
          rw [lex_tail hsep hend r _ ln hr (by omega)]
        · rfl
theorem lexG_comment : ∀ (s rest : List UInt8) (ln : Int), (∀ b ∈ s, b ≠ 10) → lexG num (s ++ rest) 0 ln true = lexG num rest 0 ln true
  | [], rest, ln, _ => rfl
  | c :: s, rest, ln, h => by
    rw [List.cons_append, lexG, if_neg (h c (.head _)), if_pos (.inl rfl)]
    exact lexG_comment s rest ln fun b hb => h b (.tail _ hb)
theorem lex_front (remark s : List UInt8) (ln : Int) (h : ∀ b ∈ remark, b ≠ 10) : lexG num ([32, 9, 35, 32] ++ remark ++ [10] ++ s) 0 ln false = lexG num s 0 (ln + 1) false := by
  simp only [List.append_assoc, List.cons_append, List.nil_append]
  rw [lexG, if_neg (by decide), if_pos (by simp), lexG, if_neg (by decide), if_pos (by simp), lexG, if_neg (by decide), if_neg (by simp), if_pos rfl, lexG, if_neg (by decide), if_pos (by simp),
    lexG_comment remark _ ln h, lexG, if_pos rfl]
theorem lex_behind (remark : List UInt8) (ln : Int) (h : ∀ b ∈ remark, b ≠ 10) : lexG num ([9, 32, 35] ++ remark) 0 ln false = .ok [⟨0, [], 0, ln⟩] := by
  simp only [List.cons_append, List.nil_append]
  rw [lexG, if_neg (by decide), if_pos (by simp), lexG, if_neg (by decide), if_pos (by simp), lexG, if_neg (by decide), if_neg (by simp), if_pos rfl]
  have := lexG_comment (num := num) remark [] ln h
  rw [List.append_nil] at this
  rw [this]
  rfl
end
end Go.Proofs.YtlglfkdjlbcpjaaGreatDoor
end

section
set_option linter.unusedVariables false
set_option linter.unusedSimpArgs false
set_option linter.unusedSectionVars false
namespace Go.Proofs.YtlglfkdjlbcpjaaGreatDoor
open Go
set_option maxRecDepth 100000
set_option maxHeartbeats 4000000
theorem ba_get {s : List UInt8} {i : Nat} (h : i < s.length) : ((⟨s.toArray⟩ : ByteArray).get! i) = s[i] := by
  show (s.toArray)[i]! = s[i]
  simp [h]
theorem ba_size (s : List UInt8) : (⟨s.toArray⟩ : ByteArray).size = s.length := by
  show s.toArray.size = s.length
  simp
theorem dec_lo {s : List UInt8} {i : Nat} (h : i < s.length) (hb : s[i].toNat < 128) : Utf8.decode ⟨s.toArray⟩ i = (s[i].toNat, 1) := by
  rw [Lib.decode_at, ba_get h]
  unfold Lib.decodeN
  rw [if_pos hb]
theorem dec_hi {s : List UInt8} {i : Nat} (h : i < s.length) (hb : 128 ≤ s[i].toNat) : 128 ≤ (Utf8.decode ⟨s.toArray⟩ i).1 ∧ 1 ≤ (Utf8.decode ⟨s.toArray⟩ i).2 ∧ i + (Utf8.decode ⟨s.toArray⟩ i).2 ≤ s.length ∧
    ∀ j, i ≤ j → j < i + (Utf8.decode ⟨s.toArray⟩ i).2 → ∃ h : j < s.length, 128 ≤ s[j].toNat := by
  rw [Lib.decode_at, ba_get h, ba_size]
  have at1 : ∀ k, i + k < s.length → ((⟨s.toArray⟩ : ByteArray).get! (i + k)) = s[i + k]! := fun k hk => by
    rw [ba_get hk]
    simp [hk]
  have two : ∀ (j : Nat) (hj : j < s.length), s[j].toNat / 64 = 2 → 128 ≤ s[j].toNat := fun j hj h => by omega
  have key : ∀ k, i + k < s.length → ((⟨s.toArray⟩ : ByteArray).get! (i + k)).toNat / 64 = 2 → ∃ h : i + k < s.length, 128 ≤ s[i + k].toNat := fun k hk h => by
    rw [ba_get hk] at h
    exact ⟨hk, two _ hk h⟩
  rcases Lib.decodeN_shape (s.length - i) s[i].toNat ((⟨s.toArray⟩ : ByteArray).get! (i + 1)).toNat ((⟨s.toArray⟩ : ByteArray).get! (i + 2)).toNat ((⟨s.toArray⟩ : ByteArray).get! (i + 3)).toNat with h1 | h1 | h1 | h1 | h1
  · omega
  · obtain ⟨a, b, c, d, e⟩ := h1
    rw [e]
    refine ⟨by simp only; omega, by simp, by simp only; omega, fun j hj hj2 => ?_⟩
    simp only at hj2
    rcases (show j = i ∨ j = i + 1 by omega) with rfl | rfl
    · exact ⟨h, hb⟩
    · exact key 1 (by omega) c
  · obtain ⟨a, b, c, d, f, g, e⟩ := h1
    rw [e]
    refine ⟨by simp only; omega, by simp, by simp only; omega, fun j hj hj2 => ?_⟩
    simp only at hj2
    rcases (show j = i ∨ j = i + 1 ∨ j = i + 2 by omega) with rfl | rfl | rfl
    · exact ⟨h, hb⟩
    · exact key 1 (by omega) c
    · exact key 2 (by omega) d
  · obtain ⟨a, b, c, d, f, g, k, e⟩ := h1
    rw [e]
    refine ⟨by simp only; omega, by simp, by simp only; omega, fun j hj hj2 => ?_⟩
    simp only at hj2
    rcases (show j = i ∨ j = i + 1 ∨ j = i + 2 ∨ j = i + 3 by omega) with rfl | rfl | rfl | rfl
    · exact ⟨h, hb⟩
    · exact key 1 (by omega) c
    · exact key 2 (by omega) d
    · exact key 3 (by omega) f
  · rw [h1]
    refine ⟨by simp, by simp, by simp only; omega, fun j hj hj2 => ?_⟩
    simp only at hj2
    rcases (show j = i by omega) with rfl
    exact ⟨h, hb⟩
end Go.Proofs.YtlglfkdjlbcpjaaGreatDoor
end
