/- The names of a predicate that is read from the tokens of a text, plain. No condition. -/
import Derived.Test.YtlglfkdjlbcpjaaGreatDoorQi
set_option linter.unusedVariables false
set_option linter.unusedSimpArgs false
set_option linter.unusedSectionVars false
namespace Go.Proofs.YtlglfkdjlbcpjaaGreatDoor
set_option maxRecDepth 100000
set_option maxHeartbeats 4000000
/-- All names in a predicate. -/
inductive NmsP (M : List UInt8 → Prop) : Pr → Prop
  | mk (op : Int) (s : List UInt8) (n : Int) (ks : List Pr) : (op = 3 ∨ op = 4 ∨ op = 5 → M s) → (∀ k ∈ ks, NmsP M k) → NmsP M ⟨op, s, n, ks⟩
section
variable {M : List UInt8 → Prop} {kw : List UInt8 → Bool} {l : List Tok} {rd : Nat → Nat → Option (Pr × Nat)}
theorem nms_tw {op : Int} {a b : Pr} (h : op ≠ 3 ∧ op ≠ 4 ∧ op ≠ 5) (ha : NmsP M a) (hb : NmsP M b) : NmsP M (tw op a b) := .mk op [] 0 [a, b] (fun e => by omega) (fun k hk => by
  simp only [List.mem_cons, List.not_mem_nil, or_false] at hk
  rcases hk with rfl | rfl
  · exact ha
  · exact hb)
theorem opAt_no {n k : Nat} {op : Int} (h : opAt l n k = some op) : op ≠ 3 ∧ op ≠ 4 ∧ op ≠ 5 := by
  unfold opAt at h
  rw [Option.map_eq_some_iff] at h
  obtain ⟨p, hp, rfl⟩ := h
  have hm := List.mem_of_find?_eq_some hp
  unfold opL at hm
  split at hm <;> simp at hm
  all_goals first | (rcases hm with rfl | rfl <;> decide) | (subst hm; decide)
theorem cmpAt_no' {n : Nat} {q : Int × Bool} (h : cmpAt l n = some q) : q.1 ≠ 3 ∧ q.1 ≠ 4 ∧ q.1 ≠ 5 := by
  unfold cmpAt at h
  rw [Option.map_eq_some_iff] at h
  obtain ⟨p, hp, rfl⟩ := h
  have hm := List.mem_of_find?_eq_some hp
  simp [cmpL] at hm
  rcases hm with rfl | rfl | rfl | rfl | rfl | rfl <;> decide
/-- What is read has right names. -/
def RdN (M : List UInt8 → Prop) (rd : Nat → Nat → Option (Pr × Nat)) : Prop := ∀ i k p n, rd i k = some (p, n) → NmsP M p
theorem chain_nms (h : RdN M rd) (k : Nat) : ∀ (g : Nat) (a : Pr) (n : Nat), NmsP M a → NmsP M (chainG rd l k g a n).1
  | 0, a, n, ha => ha
  | g + 1, a, n, ha => by
    rw [chainG]
    split
    · exact ha
    · rename_i op ho
      split
      · exact ha
      · rename_i b m hr
        exact chain_nms h k g _ m (nms_tw (opAt_no ho) ha (h _ _ _ _ hr))
theorem args_nms (h : RdN M rd) : ∀ (g i : Nat) (acc ks : List Pr) (m : Nat), (∀ k ∈ acc, NmsP M k) → argsG rd l g i acc = some (ks, m) → ∀ k ∈ ks, NmsP M k
  | 0, _, _, _, _, _, hr => by cases hr
  | g + 1, i, acc, ks, m, ha, hr => by
    rw [argsG] at hr
    split at hr
    · cases hr
    · rename_i p n hp
      have hap : ∀ k ∈ acc ++ [p], NmsP M k := fun k hk => by
        rcases List.mem_append.1 hk with hk | hk
        · exact ha k hk
        · rw [List.mem_singleton] at hk
          subst hk
          exact h _ _ _ _ hp
      split at hr
      · cases hr
        exact hap
      · split at hr
        · exact args_nms h g n _ ks m hap hr
        · cases hr
theorem list_nms (h : RdN M rd) {i m : Nat} {ks : List Pr} (hr : listG rd l i = some (ks, m)) : ∀ k ∈ ks, NmsP M k := by
  unfold listG at hr
  split at hr
  · exact args_nms h _ _ [] ks m (by simp) hr
  · cases hr
theorem prim_nms (hM : ∀ i s n, nameR kw l i = some (s, n) → M s) (h : RdN M rd) {i n : Nat} {p : Pr} (hr : primG kw rd l i = some (p, n)) : NmsP M p := by
  unfold primG at hr
  split at hr
  · cases hr
  · split at hr
    · cases hr
      exact .mk _ _ _ _ (fun e => by omega) (by simp)
    split at hr
    · cases hr
      exact .mk _ _ _ _ (fun e => by omega) (by simp)
    split at hr
    · cases hr
      exact .mk _ _ _ _ (fun e => by omega) (by simp)
    split at hr
    · split at hr
      · cases hr
      · rename_i s m hn
        rw [Option.map_eq_some_iff] at hr
        obtain ⟨⟨ks, q⟩, hq, he⟩ := hr
        cases he
        exact .mk _ _ _ _ (fun _ => hM _ _ _ hn) (list_nms h hq)
    split at hr
    · split at hr
      · cases hr
        exact .mk _ _ _ _ (fun e => by omega) (by simp)
      · split at hr
        · cases hr
        · rename_i q m hq
          split at hr
          · cases hr
            exact h _ _ _ _ hq
          · cases hr
    · split at hr
      · cases hr
      · rename_i s m hn
        split at hr
        · rename_i ks q hq
          cases hr
          exact .mk _ _ _ _ (fun _ => hM _ _ _ hn) (list_nms h hq)
        · cases hr
          exact .mk _ _ _ _ (fun _ => hM _ _ _ hn) (by simp)
theorem at_nms (hM : ∀ i s n, nameR kw l i = some (s, n) → M s) (h : RdN M rd) {i k n : Nat} {p : Pr} (hr : atG kw rd l i k = some (p, n)) : NmsP M p := by
  have one : ∀ (op : Int) (a : Pr), op = 14 ∨ op = 9 → NmsP M a → NmsP M ⟨op, [], 0, [a]⟩ := fun op a ho ha => .mk op [] 0 [a] (fun e => by omega) (fun k hk => by
    rw [List.mem_singleton] at hk
    subst hk
    exact ha)
  unfold atG at hr
  split at hr
  · unfold impG at hr
    split at hr
    · cases hr
    · rename_i a m ha
      split at hr
      · split at hr
        · rename_i b q hb
          cases hr
          exact nms_tw (by omega) (h _ _ _ _ ha) (h _ _ _ _ hb)
        · cases hr
          exact h _ _ _ _ ha
      · cases hr
        exact h _ _ _ _ ha
  · split at hr
    · rw [Option.map_eq_some_iff] at hr
      obtain ⟨⟨a, m⟩, ha, he⟩ := hr
      cases he
      exact one 14 a (.inl rfl) (h _ _ _ _ ha)
    · exact h _ _ _ _ hr
  · unfold cmpG at hr
    split at hr
    · cases hr
    · rename_i a m ha
      split at hr
      · cases hr
        exact h _ _ _ _ ha
      · rename_i op ex hc
        split at hr
        · cases hr
          exact h _ _ _ _ ha
        · rename_i b q hb
          have ho := cmpAt_no' hc
          cases hr
          cases ex with
          | true => exact nms_tw ho (h _ _ _ _ hb) (h _ _ _ _ ha)
          | false => exact nms_tw ho (h _ _ _ _ ha) (h _ _ _ _ hb)
  · split at hr
    · rw [Option.map_eq_some_iff] at hr
      obtain ⟨⟨a, m⟩, ha, he⟩ := hr
      cases he
      exact one 9 a (.inr rfl) (h _ _ _ _ ha)
    · exact h _ _ _ _ hr
  · exact prim_nms hM h hr
  · rw [Option.map_eq_some_iff] at hr
    obtain ⟨⟨a, m⟩, ha, he⟩ := hr
    have := chain_nms (l := l) h k l.length a m (h _ _ _ _ ha)
    simp only at he
    rw [he] at this
    exact this
theorem atF_nms (hM : ∀ i s n, nameR kw l i = some (s, n) → M s) : ∀ f, RdN M (atF kw l f)
  | 0 => fun _ _ _ _ h => by cases h
  | f + 1 => fun _ _ _ _ h => at_nms hM (atF_nms hM f) h
end
/-! ### Tokens of a text -/
/-- A token as the division gives it. -/
def okTk (t : Tok) : Prop := (t.kind = 1 ∨ t.kind = 2 → ∃ c r, t.text = c :: r ∧ dgU c = false ∧ ∀ b ∈ t.text, inU b = true) ∧ (t.kind = 3 → t.text ≠ [] ∧ (∀ b ∈ t.text, dgU b = true) ∧ (numL t.text).2 = true)
theorem first_okTk {c : UInt8} {r : List UInt8} (ln : Int) (h : (firstT numL (c :: r)).2.2.2 = true) : okTk ⟨(firstT numL (c :: r)).1, (firstT numL (c :: r)).2.1, (firstT numL (c :: r)).2.2.1, ln⟩ := by
  unfold firstT at h ⊢
  simp only at h ⊢
  by_cases h1 : smU c = true
  · simp only [h1, if_true]
    have hc := in_sm h1
    refine ⟨fun _ => ⟨c, r.takeWhile inU, takeWhile_head hc, ?_, fun b hb => mem_takeWhile b hb⟩, fun e => by simp at e⟩
    cases hd : dgU c with
    | false => rfl
    | true => rw [(dg_no hd).1] at h1; cases h1
  · have h1' : smU c = false := by simpa using h1
    by_cases h2 : caU c = true
    · simp only [h1', h2, Bool.false_eq_true, if_false, if_true]
      have hc := in_ca h2
      refine ⟨fun _ => ⟨c, r.takeWhile inU, takeWhile_head hc, ?_, fun b hb => mem_takeWhile b hb⟩, fun e => by simp at e⟩
      cases hd : dgU c with
      | false => rfl
      | true => rw [(dg_no hd).2] at h2; cases h2
    · have h2' : caU c = false := by simpa using h2
      by_cases h3 : dgU c = true
      · simp only [h1', h2', h3, Bool.false_eq_true, if_false, if_true] at h ⊢
        refine ⟨fun e => by simp at e, fun _ => ⟨by rw [takeWhile_head h3]; simp, fun b hb => mem_takeWhile b hb, h⟩⟩
      · have h3' : dgU c = false := by simpa using h3
        simp only [h1', h2', h3', Bool.false_eq_true, if_false] at h ⊢
        split
        · exact ⟨fun e => by simp at e, fun e => by simp at e⟩
        · exact ⟨fun e => by simp at e, fun e => by simp at e⟩
theorem lex_okTk : ∀ (s : List UInt8) (k : Nat) (ln : Int) (cm : Bool) (l : List Tok), lexG numL s k ln cm = .ok l → ∀ t ∈ l, okTk t
  | [], k, ln, cm, l, h => by
    cases k <;> (simp [lexG] at h; subst h; intro t ht; simp at ht; subst ht; exact ⟨fun e => by simp at e, fun e => by simp at e⟩)
  | c :: r, k + 1, ln, cm, l, h => by
    rw [lexG] at h
    exact lex_okTk r k ln cm l h
  | c :: r, 0, ln, cm, l, h => by
    rw [lexG] at h
    split at h
    · exact lex_okTk r 0 (ln + 1) false l h
    split at h
    · exact lex_okTk r 0 ln cm l h
    split at h
    · exact lex_okTk r 0 ln true l h
    split at h
    · rename_i hf
      split at h
      · rename_i l' hl'
        cases h
        intro t ht
        rcases List.mem_cons.1 ht with rfl | ht
        · exact first_okTk ln hf
        · exact lex_okTk r _ ln false l' hl' t ht
      · cases h
    · cases h
/-! ### Names -/
theorem parts_snoc : ∀ (s q : List UInt8), (∀ b ∈ q, b ≠ 46) → partsL (s ++ 46 :: q) = partsL s ++ [q]
  | [], q, hq => by
    have hl : partsL q = [q] := by
      induction q with
      | nil => rfl
      | cons c r ih =>
        have hc : ¬ c.toNat = 46 := fun e => hq c (.head _) (UInt8.toNat_inj.1 e)
        rw [partsL, if_neg hc, ih fun b hb => hq b (.tail _ hb)]
    have e : partsL (46 :: q) = [] :: partsL q := by simp [partsL]
    rw [List.nil_append, e, hl]
    rfl
  | c :: s, q, hq => by
    have ih := parts_snoc s q hq
    rw [List.cons_append, partsL, partsL]
    by_cases hc : c.toNat = 46
    · rw [if_pos hc, if_pos hc, ih]
      rfl
    · rw [if_neg hc, if_neg hc, ih]
      cases hp : partsL s with
      | nil => rw [partsL_cut] at hp; cases hp
      | cons p ps => rfl
theorem in_nodot {b : UInt8} (h : inU b = true) : b ≠ 46 := by
  rintro rfl
  exact absurd h (by decide)
theorem nums_snoc {s q : List UInt8} (hs : numsOk s) (hq : ∀ b ∈ q, inU b = true) (hn : digH q = true → (numL (q.takeWhile dgU)).2 = true) : numsOk (s ++ 46 :: q) := by
  intro x hx hd
  rw [parts_snoc s q fun b hb => in_nodot (hq b hb)] at hx
  cases hp : partsL s with
  | nil => rw [partsL_cut] at hp; cases hp
  | cons p ps =>
    rw [hp] at hx
    simp only [List.cons_append, List.tail_cons, List.mem_append, List.mem_singleton] at hx
    rcases hx with hx | rfl
    · exact hs x (by rw [hp]; exact hx) hd
    · exact hn hd
section
variable {l : List Tok}
theorem app46 (s x : List UInt8) : s ++ [46] ++ x = s ++ 46 :: x := by simp
theorem app46b (s x y : List UInt8) : s ++ [46] ++ x ++ y = s ++ 46 :: (x ++ y) := by simp
theorem wt_tk (h : ∀ t ∈ l, okTk t) {i : Nat} (hw : wtB l i = true) : ∃ c r, txA l i = c :: r ∧ dgU c = false ∧ ∀ b ∈ txA l i, inU b = true := by
  have hi := wtB_lt hw
  have ht := h l[i] (List.getElem_mem hi)
  have e : txA l i = l[i].text := by simp [txA, hi]
  rw [e]
  refine ht.1 ?_
  simpa [wtB, kdB, hi] using hw
theorem nm_tk (h : ∀ t ∈ l, okTk t) {i : Nat} (hk : kdB l i 3 = true) : (∀ b ∈ txA l i, dgU b = true) ∧ (numL (txA l i)).2 = true := by
  have hi := kdB_lt hk
  have ht := h l[i] (List.getElem_mem hi)
  have e : txA l i = l[i].text := by simp [txA, hi]
  rw [e]
  exact (ht.2 (by simpa [kdB, hi] using hk)).2
theorem parts_nums (h : ∀ t ∈ l, okTk t) : ∀ (g i : Nat) (s : List UInt8), numsOk s → numsOk (partsN l g i s).1
  | 0, i, s, hs => hs
  | g + 1, i, s, hs => by
    rw [partsN]
    split
    · split
      · rename_i h2
        obtain ⟨c, r, e, hd, ha⟩ := wt_tk h h2
        refine parts_nums h g _ _ ?_
        rw [app46]
        refine nums_snoc hs ha fun hh => ?_
        rw [e] at hh
        rw [show digH (c :: r) = dgU c from rfl, hd] at hh
        cases hh
      · split
        · rename_i h3
          obtain ⟨ha, hn⟩ := nm_tk h h3
          split
          · rename_i h4
            obtain ⟨c, r, e, hd, hb⟩ := wt_tk h h4
            refine parts_nums h g _ _ ?_
            rw [app46b]
            refine nums_snoc hs (fun b hb' => ?_) fun _ => ?_
            · rcases List.mem_append.1 hb' with q | q
              · exact in_dg (ha b q)
              · exact hb b q
            · have : (txA l (i + 1) ++ txA l (i + 2)).takeWhile dgU = txA l (i + 1) := by
                rw [takeWhile_sep (p := dgU) (rest := txA l (i + 2)) (fun b hb' => by rw [e] at hb'; cases hb'; exact hd), takeWhile_all ha]
              rw [this]
              exact hn
          · refine parts_nums h g _ _ ?_
            rw [app46]
            refine nums_snoc hs (fun b hb => in_dg (ha b hb)) fun _ => ?_
            rw [takeWhile_all ha]
            exact hn
        · exact hs
    · exact hs
theorem name_nums (h : ∀ t ∈ l, okTk t) {i n : Nat} {s : List UInt8} (hr : nameR kwB l i = some (s, n)) : numsOk s := by
  unfold nameR at hr
  split at hr
  · rename_i hb
    have hw : wtB l i = true := by
      unfold nmOk at hb
      rw [Bool.and_eq_true] at hb
      exact hb.1
    obtain ⟨c, r, e, hd, ha⟩ := wt_tk h hw
    have h0 : numsOk (txA l i) := by
      intro x hx _
      have hl : partsL (txA l i) = [txA l i] := by
        have := parts_snoc [] (txA l i) fun b hb => in_nodot (ha b hb)
        simpa [partsL] using this
      rw [hl] at hx
      cases hx
    have := parts_nums h l.length (i + 1) _ h0
    rw [Option.some.injEq] at hr
    rw [hr] at this
    exact this
  · cases hr
end
theorem wf_nms {p : Pr} (h : WfP nmP p) : NmsP numsOk p → WfP nmQ p := by
  induction h with
  | int n h1 h2 => exact fun _ => .int n h1 h2
  | boo n h => exact fun _ => .boo n h
  | var s h => intro hn; cases hn with | mk _ _ _ _ q1 q2 => exact .var s ⟨h, q1 (.inl rfl)⟩
  | app s ks h h1 _ ih => intro hn; cases hn with | mk _ _ _ _ q1 q2 => exact .app s ks ⟨h, q1 (.inr (.inl rfl))⟩ h1 fun k hk => ih k hk (q2 k hk)
  | hole s ks h h1 _ ih => intro hn; cases hn with | mk _ _ _ _ q1 q2 => exact .hole s ks ⟨h, q1 (.inr (.inr rfl))⟩ h1 fun k hk => ih k hk (q2 k hk)
  | neg a _ ih => intro hn; cases hn with | mk _ _ _ _ q1 q2 => exact .neg a (ih (q2 a (by simp)))
  | not a _ ih => intro hn; cases hn with | mk _ _ _ _ q1 q2 => exact .not a (ih (q2 a (by simp)))
  | two op lv l r s a b hf _ _ iha ihb => intro hn; cases hn with | mk _ _ _ _ q1 q2 => exact .two op lv l r s a b hf (iha (q2 a (by simp))) (ihb (q2 b (by simp)))
/-- A right predicate that is read from a text: its names have no number that is too large. -/
theorem wf_read {s : List UInt8} {l : List Tok} (hl : lexG numL s 0 1 false = .ok l) {p : Pr} {n : Nat} (hr : readT l = some (p, n)) (hc : chkE p = 0) : WfP nmQ p :=
  wf_nms (wf_chk hc) (atF_nms (fun _ _ _ h => name_nums (lex_okTk s 0 1 false l hl) h) _ 0 1 p n hr)
end Go.Proofs.YtlglfkdjlbcpjaaGreatDoor
