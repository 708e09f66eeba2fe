/- Parentheses around a text, plain. No condition. -/
import Derived.Test.YtlglfkdjlbcpjaaGreatDoorQm
import Derived.Test.YtlglfkdjlbcpjaaGreatDoorZW
import Derived.Test.YtlglfkdjlbcpjaaGreatDoorZY
set_option linter.unusedVariables false
set_option linter.unusedSimpArgs false
set_option linter.unusedSectionVars false
namespace Go.Proofs.YtlglfkdjlbcpjaaGreatDoor
set_option maxRecDepth 100000
set_option maxHeartbeats 4000000
open Go Go.VM
theorem prefix_no : ∀ (t s : List UInt8), (∀ b ∈ t, b ≠ 41) → t.isPrefixOf (s ++ [41]) = t.isPrefixOf s
  | [], s, _ => by simp [List.isPrefixOf]
  | x :: t, [], h => by
    have : (x == 41) = false := beq_eq_false_iff_ne.2 (h x (.head _))
    simp [List.isPrefixOf, this]
  | x :: t, c :: s, h => by
    simp only [List.cons_append, List.isPrefixOf, prefix_no t s fun b hb => h b (.tail _ hb)]
theorem sign_tails : ∀ t ∈ signsL, ∀ b ∈ t.tail, b ≠ 41 := by decide
theorem prefix_close {t : List UInt8} (ht : ∀ b ∈ t.tail, b ≠ 41) (c : UInt8) (r : List UInt8) : t.isPrefixOf (c :: r ++ [41]) = t.isPrefixOf (c :: r) := by
  cases t with
  | nil => simp [List.isPrefixOf]
  | cons x t => simp only [List.cons_append, List.isPrefixOf, prefix_no t r ht]
theorem sign_close (c : UInt8) (r : List UInt8) : signT (c :: r ++ [41]) = signT (c :: r) := by
  unfold signT
  rw [find_congr fun t ht => prefix_close (sign_tails t ht) c r]
theorem first_close (num : List UInt8 → Int × Bool) (c : UInt8) (r : List UInt8) : firstT num (c :: r ++ [41]) = firstT num (c :: r) := by
  have h1 := takeWhile_sep (p := inU) (rest := [41]) (fun b hb => by cases hb; decide) (c :: r)
  have h2 := takeWhile_sep (p := dgU) (rest := [41]) (fun b hb => by cases hb; decide) (c :: r)
  have h3 := sign_close c r
  rw [List.cons_append] at h1 h2 h3 ⊢
  simp only [firstT, h1, h2, h3]
theorem lex_close (num : List UInt8 → Int × Bool) : ∀ (s : List UInt8) (k : Nat) (ln : Int) (l : List Tok), (∀ b ∈ s, b ≠ 35) → k ≤ s.length → lexG num s k ln false = .ok l → ∃ l0 ln', l = l0 ++ [endT ln'] ∧ lexG num (s ++ [41]) k ln false = .ok (l0 ++ [sgTk ln' [41], endT ln'])
  | [], k, ln, l, _, hk, h => by
    have : k = 0 := by simpa using hk
    subst this
    simp [lexG] at h
    subst h
    have := lx_close (num := num) (ln := ln) (r := [])
    unfold Lx at this
    exact ⟨[], ln, rfl, this⟩
  | c :: r, k + 1, ln, l, hs, hk, h => by
    rw [lexG] at h
    rw [List.cons_append, lexG]
    exact lex_close num r k ln l (fun b hb => hs b (.tail _ hb)) (by simpa using hk) h
  | c :: r, 0, ln, l, hs, _, h => by
    have hr : ∀ b ∈ r, b ≠ 35 := fun b hb => hs b (.tail _ hb)
    have hf := first_close num c r
    rw [lexG] at h
    rw [List.cons_append] at hf ⊢
    rw [lexG]
    by_cases h10 : c = 10
    · rw [if_pos h10] at h ⊢
      exact lex_close num r 0 (ln + 1) l hr (by omega) h
    rw [if_neg h10] at h ⊢
    by_cases hb : false = true ∨ c = 32 ∨ c = 9
    · rw [if_pos hb] at h ⊢
      exact lex_close num r 0 ln l hr (by omega) h
    rw [if_neg hb, if_neg (hs c (.head _))] at h ⊢
    rw [hf]
    split at h
    · rename_i hok
      rw [if_pos hok]
      split at h
      · rename_i m hm
        have hle := firstT_le num c r
        obtain ⟨l0, ln', e1, e2⟩ := lex_close num r _ ln m hr (by omega) hm
        rw [e2]
        cases h
        subst e1
        exact ⟨_ :: l0, ln', rfl, rfl⟩
      · cases h
    · cases h
/-- The first token begins as the text does. -/
theorem lex_fst {num : List UInt8 → Int × Bool} {c : UInt8} {r : List UInt8} {l : List Tok} (h1 : c ≠ 10) (h2 : c ≠ 32) (h3 : c ≠ 9) (h4 : c ≠ 35) (h45 : c ≠ 45) (h : lexG num (c :: r) 0 1 false = .ok l) : sgB l 0 [45] = false := by
  rw [lexG, if_neg h1, if_neg (by simp [h2, h3]), if_neg h4] at h
  split at h
  · rename_i hok
    split at h
    · rename_i m hm
      cases h
      obtain ⟨q1, q2, _⟩ := first_ok hok
      unfold sgB
      simp only [List.getElem?_cons_zero, Bool.and_eq_false_iff, decide_eq_false_iff_not]
      refine .inr fun e => ?_
      rw [e] at q2
      have := (List.cons_prefix_cons.1 q2).1
      exact h45 this.symm
    · cases h
  · cases h
theorem shf_mk {l0 : List Tok} {ln ln1 ln2 ln3 : Int} : Shf (l0 ++ [endT ln]) (sgTk ln1 [40] :: (l0 ++ [sgTk ln2 [41], endT ln3])) l0.length := by
  refine ⟨by simp, by simp, fun i hi => ?_, ⟨ln, by simp⟩, ⟨ln2, by simp⟩⟩
  rw [List.getElem?_cons_succ, List.getElem?_append_left hi, List.getElem?_append_left hi]
/-- What is read of tokens is read of them between parentheses. -/
theorem read_between {l0 : List Tok} {ln ln1 ln2 ln3 : Int} {p : Pr} (hr : readT (l0 ++ [endT ln]) = some (p, l0.length)) (hneg : sgB (l0 ++ [endT ln]) 0 [45] = false) : readT (sgTk ln1 [40] :: (l0 ++ [sgTk ln2 [41], endT ln3])) = some (p, l0.length + 2) :=
  read_paren (kw := kwB) (shf_mk (ln := ln) (ln1 := ln1) (ln2 := ln2) (ln3 := ln3)) hr ⟨ln1, rfl⟩ ⟨ln3, by simp⟩ hneg
theorem paren_parse {s : List UInt8} {l : List Tok} {p : Pr} {n : Nat} (hs : s.length ≤ 2000) (h35 : ∀ b ∈ s, b ≠ 35) (hne : ∃ c r, s = c :: r ∧ c ≠ 10 ∧ c ≠ 32 ∧ c ≠ 9 ∧ c ≠ 45) (hl : lexG numL s 0 1 false = .ok l) (hr : readT l = some (p, n)) (hn : n + 1 = l.length) (hc : chkE p = 0) :
    parseR ([40] ++ (s ++ [41])) = .tup [.agg (prD p), .int .i64 0] := by
  obtain ⟨c, r, he, q1, q2, q3, q4⟩ := hne
  have hneg := hl
  rw [he] at hneg
  have hneg := lex_fst q1 q2 q3 (h35 c (by rw [he]; exact .head _)) q4 hneg
  obtain ⟨l0, ln', e1, e2⟩ := lex_close numL s 0 1 l h35 (by omega) hl
  subst e1
  have hn' : n = l0.length := by simp at hn; omega
  subst hn'
  have hlx : lexG numL ([40] ++ (s ++ [41])) 0 1 false = .ok (sgTk 1 [40] :: (l0 ++ [sgTk ln' [41], endT ln'])) := by
    have := lx_open (num := numL) (ln := 1) (r := s ++ [41])
    unfold Lx at this
    rw [this, e2]
    rfl
  have hrd := read_between (ln1 := 1) (ln2 := ln') (ln3 := ln') hr hneg
  unfold parseR
  rw [if_neg (by simp; omega), hlx]
  simp only
  rw [hrd]
  simp only
  rw [if_pos (by simp), if_pos hc]
/-- The first token of a text is a minus sign only if the text begins with one. -/
def FstR (p : Pr) : Prop := ∃ t r c s, bdO oK p = t :: r ∧ bdO oT p = c :: s ∧ (t.kind = 4 → t.text = [45] → c = 45)
theorem fst_prt {p : Pr} (h : FstR p) (k : Nat) : ∃ t r c s, prtO oK p k = t :: r ∧ prtO oT p k = c :: s ∧ (t.kind = 4 → t.text = [45] → c = 45) := by
  by_cases hk : k ≤ levN p.op
  · rw [prtO_lo _ hk, prtO_lo _ hk]
    exact h
  · rw [prtO_hi _ (by omega), prtO_hi _ (by omega)]
    exact ⟨sgTk 1 [40], _, 40, _, rfl, rfl, fun _ e => by simp [sgTk] at e⟩
theorem fst_all {p : Pr} (h : WfP nmQ p) : FstR p := by
  have hnm : ∀ (s : List UInt8) (x : List Tok) (y : List UInt8), nmQ s → ∃ t r c z, nameTk (fun d => (numL d).1) 1 s ++ x = t :: r ∧ s ++ y = c :: z ∧ (t.kind = 4 → t.text = [45] → c = 45) := fun s x y hs => by
    obtain ⟨q, r, he, _⟩ := nameTk_head (kw := kwB) (val := fun d => (numL d).1) (ln := 1) (nm_ok hs.1).1
    obtain ⟨c, z, hz, _⟩ := lxNm_head ((nm_ok hs.1).2.1 hs.2)
    refine ⟨wtTk 1 q, r ++ x, c, z ++ y, by rw [he]; rfl, by rw [hz]; rfl, fun e => ?_⟩
    rcases wtTk_kind (ln := 1) (q := q) with k | k <;> omega
  induction h with
  | int n h1 h2 =>
    by_cases hn : n < 0
    · refine ⟨sgTk 1 [40], [sgTk 1 [45], ⟨3, Lib.decDigits n.natAbs, n.natAbs, 1⟩, sgTk 1 [41]], 40, [45] ++ (Lib.decDigits n.natAbs ++ [41]), ?_, ?_, fun _ e => by simp [sgTk] at e⟩
      · show (if n < 0 then _ else _) = _
        rw [if_pos hn]
        rfl
      · show (if n < 0 then _ else _) = _
        rw [if_pos hn]
        rfl
    · obtain ⟨q1, _⟩ := dig_ok n.natAbs (by omega)
      cases hd : Lib.decDigits n.natAbs with
      | nil => exact absurd hd q1
      | cons c z =>
        refine ⟨⟨3, Lib.decDigits n.natAbs, n.natAbs, 1⟩, [], c, z, ?_, ?_, fun e => by simp at e⟩
        · show (if n < 0 then _ else _) = _
          rw [if_neg hn]
          rfl
        · show (if n < 0 then _ else _) = _
          rw [if_neg hn]
          exact hd
  | boo n h =>
    rcases h with rfl | rfl
    · exact ⟨wtTk 1 [102, 97, 108, 115, 101], [], 102, [97, 108, 115, 101], rfl, rfl, fun e => by rcases wtTk_kind (ln := 1) (q := [102, 97, 108, 115, 101]) with k | k <;> omega⟩
    · exact ⟨wtTk 1 [116, 114, 117, 101], [], 116, [114, 117, 101], rfl, rfl, fun e => by rcases wtTk_kind (ln := 1) (q := [116, 114, 117, 101]) with k | k <;> omega⟩
  | var s h =>
    obtain ⟨t, r, c, z, e1, e2, e3⟩ := hnm s [] [] h
    rw [List.append_nil] at e1 e2
    exact ⟨t, r, c, z, e1, e2, e3⟩
  | app s ks h h1 h2 ih =>
    obtain ⟨t, r, c, z, e1, e2, e3⟩ := hnm s (listO oK (ks.map (prtO oK))) (listO oT (ks.map (prtO oT))) h
    exact ⟨t, r, c, z, e1, e2, e3⟩
  | hole s ks h h1 h2 ih => exact ⟨sgTk 1 [63], nameTk (fun d => (numL d).1) 1 s ++ listO oK (ks.map (prtO oK)), 63, s ++ listO oT (ks.map (prtO oT)), rfl, rfl, fun _ e => by simp [sgTk] at e⟩
  | neg a h ih => exact ⟨sgTk 1 [45], prtO oK a 9, 45, prtO oT a 9, rfl, rfl, fun _ _ => rfl⟩
  | not a h ih => exact ⟨sgTk 1 [33], prtO oK a 5, 33, prtO oT a 5, rfl, rfl, fun _ e => by simp [sgTk] at e⟩
  | two op lv l r s a b hf ha hb iha ihb =>
    obtain ⟨t, x, c, z, e1, e2, e3⟩ := fst_prt iha l
    unfold FstR
    rw [bdO_two oK hf rfl, bdO_two oT hf rfl, e1, e2]
    exact ⟨t, _, c, _, rfl, rfl, e3⟩
theorem text_paren {p : Pr} (h : WfP nmQ p) (hc : chkE p = 0) (hlen : (bdO oT p).length ≤ 2000) (h45 : ∀ s, bdO oT p ≠ 45 :: s) : parseR ([40] ++ ([32] ++ (bdO oT p ++ ([32] ++ [41])))) = .tup [.agg (prD p), .int .i64 0] := by
  have hlx : lexG numL ([40] ++ ([32] ++ (bdO oT p ++ ([32] ++ [41])))) 0 1 false = .ok (sgTk 1 [40] :: (bdO oK p ++ [sgTk 1 [41], endT 1])) := by
    have h1 : Lx numL 1 ([40] ++ ([32] ++ (bdO oT p ++ ([32] ++ [41])))) ([sgTk 1 [40]] ++ ([] ++ (bdO oK p ++ ([] ++ [sgTk 1 [41]])))) [] :=
      Lx.app lx_open (Lx.app Lx.sp (Lx.app ((wf_lx h).2 _ (NIn.cons (by decide))) (Lx.app Lx.sp lx_close)))
    unfold Lx at h1
    rw [List.append_nil, lex_end] at h1
    rw [h1]
    simp [preK]
  have hneg : sgB (bdO oK p ++ [endT 1]) 0 [45] = false := by
    obtain ⟨t, r, c, z, e1, e2, e3⟩ := fst_all h
    rw [e1]
    unfold sgB
    simp only [List.cons_append, List.getElem?_cons_zero, Bool.and_eq_false_iff, decide_eq_false_iff_not]
    by_cases k4 : t.kind = 4
    · refine .inr fun e => ?_
      have := e3 k4 e
      subst this
      exact h45 z e2
    · exact .inl k4
  have hrd := read_between (ln1 := 1) (ln2 := 1) (ln3 := 1) (rt_read h) hneg
  unfold parseR
  rw [if_neg (by simp; omega), hlx]
  simp only
  rw [hrd]
  simp only
  rw [if_pos (by simp), if_pos hc]
/-- Parse fails with the zero predicate, or it reads all tokens. -/
theorem parse_cases (s : List UInt8) : (∃ e, e ≠ 0 ∧ parseR s = badR e) ∨ (∃ l p n, lexG numL s 0 1 false = .ok l ∧ readT l = some (p, n) ∧ n + 1 = l.length ∧ chkE p = 0 ∧ parseR s = .tup [.agg (prD p), .int .i64 0]) := by
  obtain ⟨R, hR⟩ : ∃ R, parseR s = R := ⟨_, rfl⟩
  rw [hR]
  unfold parseR at hR
  split at hR
  · exact .inl ⟨7, by decide, hR.symm⟩
  split at hR
  · exact .inl ⟨14, by decide, hR.symm⟩
  · rename_i l hl
    split at hR
    · exact .inl ⟨14, by decide, hR.symm⟩
    · rename_i p n hr
      split at hR
      · rename_i hn
        split at hR
        · rename_i hc
          exact .inr ⟨l, p, n, hl, hr, hn, hc, hR.symm⟩
        · rename_i hc
          exact .inl ⟨_, hc, hR.symm⟩
      · exact .inl ⟨14, by decide, hR.symm⟩
/-- A predicate is read back from its text. -/
theorem rt_parse {p : Pr} (h : WfP nmQ p) (hc : chkE p = 0) (hlen : (bdO oT p).length ≤ 40000) : parseR (bdO oT p) = .tup [.agg (prD p), .int .i64 0] := by
  unfold parseR
  rw [if_neg (by omega), rt_lex h]
  simp only
  rw [rt_read h]
  simp only
  rw [if_pos (by simp), if_pos hc]
theorem rt_readR {p : Pr} (h : WfP nmQ p) (hc : chkE p = 0) : readR (bdO oK p ++ [endT 1]) = .tup [.agg (prD p), .int .i64 (bdO oK p).length, .int .i64 0] := by
  unfold readR
  rw [rt_read h]
  simp only
  rw [if_pos hc]
end Go.Proofs.YtlglfkdjlbcpjaaGreatDoor
