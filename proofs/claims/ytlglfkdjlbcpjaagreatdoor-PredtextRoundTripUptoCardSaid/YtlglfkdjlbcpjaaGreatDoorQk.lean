/- Reading the same tokens elsewhere, with a parenthesis in place of the end, plain. No condition. -/
import Derived.Test.YtlglfkdjlbcpjaaGreatDoorZR
set_option linter.unusedVariables false
set_option linter.unusedSimpArgs false
set_option linter.unusedSectionVars false
namespace Go.Proofs.YtlglfkdjlbcpjaaGreatDoor
set_option maxRecDepth 100000
set_option maxHeartbeats 4000000
abbrev endT (ln : Int) : Tok := ⟨0, [], 0, ln⟩
/-- l' has one token more in front, and a closing parenthesis where l ends. -/
structure Shf (l l' : List Tok) (N : Nat) : Prop where
  len : l.length = N + 1
  len' : l'.length = N + 3
  same : ∀ i, i < N → l'[i + 1]? = l[i]?
  last : ∃ ln, l[N]? = some (endT ln)
  close : ∃ ln, l'[N + 1]? = some (sgTk ln [41])
section
variable {kw : List UInt8 → Bool} {l l' : List Tok} {N : Nat}
theorem Shf.sgN (h : Shf l l' N) (s : List UInt8) : sgB l N s = false := by
  obtain ⟨ln, hl⟩ := h.last
  unfold sgB
  rw [hl]
  rfl
theorem Shf.kdN (h : Shf l l' N) {k : Int} (hk : k ≠ 0) : kdB l N k = false := by
  obtain ⟨ln, hl⟩ := h.last
  unfold kdB
  rw [hl]
  simp only [decide_eq_false_iff_not]
  exact Ne.symm hk
theorem Shf.sg (h : Shf l l' N) {i : Nat} (hi : i ≤ N) {s : List UInt8} (hs : s ≠ [41] ∨ i < N) : sgB l' (i + 1) s = sgB l i s := by
  by_cases hlt : i < N
  · unfold sgB
    rw [h.same i hlt]
  · have : i = N := by omega
    subst this
    have hs := hs.resolve_right (by omega)
    rw [h.sgN]
    obtain ⟨ln, hl⟩ := h.close
    unfold sgB
    rw [hl]
    simp only [sgTk, decide_true, Bool.true_and]
    exact decide_eq_false (Ne.symm hs)
theorem Shf.kd (h : Shf l l' N) {i : Nat} (hi : i ≤ N) {k : Int} (h0 : k ≠ 0) (h4 : k ≠ 4) : kdB l' (i + 1) k = kdB l i k := by
  by_cases hlt : i < N
  · unfold kdB
    rw [h.same i hlt]
  · have : i = N := by omega
    subst this
    rw [h.kdN h0]
    obtain ⟨ln, hl⟩ := h.close
    unfold kdB
    rw [hl]
    exact decide_eq_false (Ne.symm h4)
theorem Shf.wt (h : Shf l l' N) {i : Nat} (hi : i ≤ N) : wtB l' (i + 1) = wtB l i := by
  unfold wtB
  rw [h.kd hi (by decide) (by decide), h.kd hi (by decide) (by decide)]
theorem Shf.tx (h : Shf l l' N) {i : Nat} (hi : i < N) : txA l' (i + 1) = txA l i := by
  unfold txA
  rw [h.same i hi]
theorem Shf.nm (h : Shf l l' N) {i : Nat} (hi : i < N) : nmA l' (i + 1) = nmA l i := by
  unfold nmA
  rw [h.same i hi]
theorem Shf.sg_lt (h : Shf l l' N) {i : Nat} {s : List UInt8} (hs : sgB l i s = true) : i < N := by
  have h1 := sgB_lt hs
  have h2 := h.len
  refine Nat.lt_of_not_le fun hle => ?_
  have : i = N := by omega
  subst this
  rw [h.sgN] at hs
  cases hs
theorem Shf.kd_lt (h : Shf l l' N) {i : Nat} {k : Int} (hk : k ≠ 0) (hs : kdB l i k = true) : i < N := by
  have h1 := kdB_lt hs
  have h2 := h.len
  refine Nat.lt_of_not_le fun hle => ?_
  have : i = N := by omega
  subst this
  rw [h.kdN hk] at hs
  cases hs
theorem Shf.wt_lt (h : Shf l l' N) {i : Nat} (hs : wtB l i = true) : i < N := by
  unfold wtB at hs
  rw [Bool.or_eq_true] at hs
  rcases hs with hs | hs
  · exact h.kd_lt (by decide) hs
  · exact h.kd_lt (by decide) hs
/-- The reading has stopped where more could be read. -/
def Dead (l : List Tok) (k n : Nat) : Prop := ∃ s, sgB l n s = true ∧ (s = [40] ∨ k ≤ lvS s)
theorem Dead.mono {k k' n : Nat} (h : Dead l k n) (hk : k' ≤ k) : Dead l k' n := by
  obtain ⟨s, h1, h2⟩ := h
  refine ⟨s, h1, ?_⟩
  rcases h2 with h2 | h2
  · exact .inl h2
  · exact .inr (by omega)
theorem sgB_uni {n : Nat} {s t : List UInt8} (h1 : sgB l n s = true) (h2 : sgB l n t = true) : s = t := by
  unfold sgB at h1 h2
  cases h : l[n]? with
  | none => rw [h] at h1; cases h1
  | some x =>
    rw [h] at h1 h2
    simp only [Bool.and_eq_true, decide_eq_true_eq] at h1 h2
    rw [← h1.2, ← h2.2]
theorem Dead.no {k n : Nat} (h : Dead l k n) {s : List UInt8} (h1 : s ≠ [40]) (h2 : lvS s < k) : sgB l n s = false := by
  obtain ⟨t, ht, h3⟩ := h
  cases hs : sgB l n s with
  | false => rfl
  | true =>
    have := sgB_uni ht hs
    subst this
    rcases h3 with h3 | h3
    · exact absurd h3 h1
    · omega
theorem opL_par (k : Nat) : ∀ p ∈ opL k, p.2 ≠ [40] ∧ p.2 ≠ [41] := by
  unfold opL
  split <;> simp
theorem cmpL_par : ∀ p ∈ cmpL, p.1 ≠ [40] ∧ p.1 ≠ [41] := by simp [cmpL]
theorem Dead.op {k n j : Nat} (h : Dead l k n) (hj : j < k) : opAt l n j = none := by
  unfold opAt
  rw [Option.map_eq_none_iff, List.find?_eq_none]
  intro p hp hs
  have h1 := opL_lv j p hp
  rw [h.no (opL_par j p hp).1 (by omega)] at hs
  cases hs
theorem Dead.cmp {k n : Nat} (h : Dead l k n) (hk : 6 < k) : cmpAt l n = none := by
  unfold cmpAt
  rw [Option.map_eq_none_iff, List.find?_eq_none]
  intro p hp hs
  have h1 := cmpL_lv p hp
  rw [h.no (cmpL_par p hp).1 (by omega)] at hs
  cases hs
theorem dead_op {k n : Nat} {op : Int} (h : opAt l n k = some op) : Dead l k n := by
  unfold opAt at h
  rw [Option.map_eq_some_iff] at h
  obtain ⟨p, hp, _⟩ := h
  have hs : sgB l n p.2 = true := List.find?_some (p := fun p : Int × List UInt8 => sgB l n p.2) hp
  have h1 := opL_lv k p (List.mem_of_find?_eq_some hp)
  exact ⟨p.2, hs, .inr (by omega)⟩
theorem dead_cmp {n : Nat} {q : Int × Bool} (h : cmpAt l n = some q) : Dead l 6 n := by
  unfold cmpAt at h
  rw [Option.map_eq_some_iff] at h
  obtain ⟨p, hp, _⟩ := h
  have hs : sgB l n p.1 = true := List.find?_some (p := fun p : List UInt8 × Int × Bool => sgB l n p.1) hp
  have h1 := cmpL_lv p (List.mem_of_find?_eq_some hp)
  exact ⟨p.1, hs, .inr (by omega)⟩
theorem Shf.op (h : Shf l l' N) {n : Nat} (hn : n ≤ N) (k : Nat) : opAt l' (n + 1) k = opAt l n k := by
  unfold opAt
  rw [find_congr fun p hp => h.sg hn (.inl (opL_par k p hp).2)]
theorem Shf.cmp (h : Shf l l' N) {n : Nat} (hn : n ≤ N) : cmpAt l' (n + 1) = cmpAt l n := by
  unfold cmpAt
  rw [find_congr fun p hp => h.sg hn (.inl (cmpL_par p hp).2)]
theorem Shf.op_lt (h : Shf l l' N) {n k : Nat} {op : Int} (ho : opAt l n k = some op) : n < N := by
  obtain ⟨s, hs, _⟩ := dead_op ho
  exact h.sg_lt hs
theorem Shf.cmp_lt (h : Shf l l' N) {n : Nat} {q : Int × Bool} (ho : cmpAt l n = some q) : n < N := by
  obtain ⟨s, hs, _⟩ := dead_cmp ho
  exact h.sg_lt hs
/-! ### Names -/
theorem Shf.parts (h : Shf l l' N) : ∀ (g g' i : Nat) (s : List UInt8), i ≤ N → l.length ≤ g + i → l'.length ≤ g' + (i + 1) → (partsN l g i s).2 ≤ N ∧ partsN l' g' (i + 1) s = ((partsN l g i s).1, (partsN l g i s).2 + 1)
  | 0, g', i, s, hi, hg, _ => by
    have := h.len
    omega
  | g + 1, g', i, s, hi, hg, hg' => by
    have e1 := h.len
    have e2 := h.len'
    obtain ⟨g', rfl⟩ : ∃ x, g' = x + 1 := ⟨g' - 1, by omega⟩
    rw [partsN, partsN, h.sg hi (.inl (by decide))]
    split
    · rename_i h1
      have l1 := h.sg_lt h1
      rw [h.wt (by omega : i + 1 ≤ N), h.kd (by omega : i + 1 ≤ N) (by decide) (by decide)]
      split
      · rename_i h2
        have l2 := h.wt_lt h2
        rw [h.tx l2]
        exact h.parts g g' (i + 2) _ (by omega) (by omega) (by omega)
      · split
        · rename_i h3
          have l3 := h.kd_lt (by decide) h3
          rw [h.wt (by omega : i + 2 ≤ N), h.tx l3]
          split
          · rename_i h4
            have l4 := h.wt_lt h4
            rw [h.tx l4]
            exact h.parts g g' (i + 3) _ (by omega) (by omega) (by omega)
          · exact h.parts g g' (i + 2) _ (by omega) (by omega) (by omega)
        · exact ⟨hi, rfl⟩
    · exact ⟨hi, rfl⟩
theorem Shf.nok (h : Shf l l' N) {i : Nat} (hi : i ≤ N) : nmOk kw l' (i + 1) = nmOk kw l i := by
  unfold nmOk
  rw [h.wt hi]
  cases hw : wtB l i with
  | false => rfl
  | true => rw [h.tx (h.wt_lt hw)]
theorem Shf.name (h : Shf l l' N) {i : Nat} (hi : i ≤ N) : (nameR kw l i = none ∧ nameR kw l' (i + 1) = none) ∨ ∃ s n, nameR kw l i = some (s, n) ∧ nameR kw l' (i + 1) = some (s, n + 1) ∧ n ≤ N := by
  unfold nameR
  rw [h.nok hi]
  by_cases hb : nmOk kw l i = true
  · rw [if_pos hb, if_pos hb]
    have hw : wtB l i = true := by
      unfold nmOk at hb
      rw [Bool.and_eq_true] at hb
      exact hb.1
    have hlt := h.wt_lt hw
    have e1 := h.len
    have e2 := h.len'
    obtain ⟨q1, q2⟩ := h.parts l.length l'.length (i + 1) (txA l i) (by omega) (by omega) (by omega)
    exact .inr ⟨_, _, rfl, by rw [h.tx hlt, q2], q1⟩
  · rw [if_neg hb, if_neg hb]
    exact .inl ⟨rfl, rfl⟩
/-! ### Reading -/
/-- What is read there is read here, or has stopped too early. -/
def Sim (l : List Tok) (N k : Nat) (x y : Option (Pr × Nat)) : Prop := ∀ p n, x = some (p, n) → Dead l k n ∨ (n ≤ N ∧ y = some (p, n + 1))
theorem Sim.mono {k k' : Nat} {x y : Option (Pr × Nat)} (h : Sim l N k x y) (hk : k' ≤ k) : Sim l N k' x y := fun p n e => by
  rcases h p n e with h | h
  · exact .inl (h.mono hk)
  · exact .inr h
variable {rd rd' : Nat → Nat → Option (Pr × Nat)}
theorem chain_sim (h : Shf l l' N) (hA : Adv l rd) {i k : Nat} (hk : 1 ≤ k ∧ k ≤ 8) (hS : ∀ i' k', 1 ≤ k' → k' ≤ 10 → i < i' → i' ≤ N → Sim l N k' (rd i' k') (rd' (i' + 1) k')) :
    ∀ (g g' : Nat) (a : Pr) (n : Nat), i < n → n ≤ N → l.length ≤ g + n → l'.length ≤ g' + (n + 1) → ∀ p m, chainG rd l k g a n = (p, m) → Dead l k m ∨ (m ≤ N ∧ chainG rd' l' k g' a (n + 1) = (p, m + 1))
  | 0, g', a, n, hin, hn, hg, hg', p, m, hr => by
    have := h.len
    omega
  | g + 1, g', a, n, hin, hn, hg, hg', p, m, hr => by
    have e1 := h.len
    have e2 := h.len'
    obtain ⟨g', rfl⟩ : ∃ x, g' = x + 1 := ⟨g' - 1, by omega⟩
    rw [chainG] at hr ⊢
    rw [h.op hn]
    cases ho : opAt l n k with
    | none =>
      rw [ho] at hr
      cases hr
      exact .inr ⟨hn, rfl⟩
    | some op =>
      rw [ho] at hr
      simp only at hr ⊢
      have hlt := h.op_lt ho
      have hs := hS (n + 1) (k + 1) (by omega) (by omega) (by omega) (by omega)
      cases hx : rd (n + 1) (k + 1) with
      | none =>
        rw [hx] at hr
        cases hr
        exact .inl (dead_op ho)
      | some q =>
        obtain ⟨b, j⟩ := q
        have hadv := hA _ _ _ _ hx
        rw [hx] at hr hs
        simp only at hr
        rcases hs b j rfl with hd | ⟨hj, hy⟩
        · rw [chain_stop (hd.op (by omega))] at hr
          cases hr
          exact .inl (hd.mono (by omega))
        · rw [hy]
          simp only
          exact chain_sim h hA hk hS g g' _ j (by omega) hj (by omega) (by omega) p m hr
theorem args_sim (h : Shf l l' N) (hA : Adv l rd) {i : Nat} (hS : ∀ i' k', 1 ≤ k' → k' ≤ 10 → i < i' → i' ≤ N → Sim l N k' (rd i' k') (rd' (i' + 1) k')) :
    ∀ (g g' n : Nat) (acc ks : List Pr) (m : Nat), i ≤ n → n < N → l'.length ≤ g' + (n + 1) → argsG rd l g n acc = some (ks, m) → m ≤ N ∧ argsG rd' l' g' (n + 1) acc = some (ks, m + 1)
  | 0, _, _, _, _, _, _, _, _, hr => by cases hr
  | g + 1, g', n, acc, ks, m, hin, hn, hg', hr => by
    have e2 := h.len'
    obtain ⟨g', rfl⟩ : ∃ x, g' = x + 1 := ⟨g' - 1, by omega⟩
    rw [argsG] at hr ⊢
    have hs := hS (n + 1) 1 (by omega) (by omega) (by omega) (by omega)
    cases hx : rd (n + 1) 1 with
    | none => rw [hx] at hr; cases hr
    | some q =>
      obtain ⟨p, j⟩ := q
      have hadv := hA _ _ _ _ hx
      rw [hx] at hr hs
      simp only at hr
      rcases hs p j rfl with hd | ⟨hj, hy⟩
      · rw [if_neg (by rw [hd.no (by decide) (by decide)]; simp), if_neg (by rw [hd.no (by decide) (by decide)]; simp)] at hr
        cases hr
      · rw [hy]
        simp only
        by_cases h1 : sgB l j [41] = true
        · have hlt := h.sg_lt h1
          rw [if_pos h1] at hr
          rw [if_pos (by rw [h.sg hj (.inr hlt)]; exact h1)]
          cases hr
          exact ⟨by omega, rfl⟩
        · rw [if_neg h1] at hr
          by_cases h2 : sgB l j [44] = true
          · have hlt := h.sg_lt h2
            have h1' : ¬ sgB l' (j + 1) [41] = true := by rw [h.sg hj (.inr hlt)]; exact h1
            rw [if_pos h2] at hr
            rw [if_neg h1', if_pos (by rw [h.sg hj (.inr hlt)]; exact h2)]
            exact args_sim h hA hS g g' j _ ks m (by omega) hlt (by omega) hr
          · rw [if_neg h2] at hr
            cases hr
theorem list_sim (h : Shf l l' N) (hA : Adv l rd) {i n : Nat} (hS : ∀ i' k', 1 ≤ k' → k' ≤ 10 → i < i' → i' ≤ N → Sim l N k' (rd i' k') (rd' (i' + 1) k')) (hin : i ≤ n) (hn : n ≤ N) {ks : List Pr} {m : Nat} (hr : listG rd l n = some (ks, m)) : m ≤ N ∧ listG rd' l' (n + 1) = some (ks, m + 1) := by
  have e2 := h.len'
  unfold listG at hr ⊢
  split at hr
  · rename_i hs
    have hlt := h.sg_lt hs
    rw [if_pos (by rw [h.sg hn (.inr hlt)]; exact hs)]
    exact args_sim h hA hS l.length l'.length n [] ks m hin hlt (by omega) hr
  · cases hr
theorem list_none (h : Shf l l' N) {n : Nat} (hn : n ≤ N) (hs : sgB l n [40] = false) : listG rd' l' (n + 1) = none := by
  unfold listG
  rw [if_neg (by rw [h.sg hn (.inl (by decide)), hs]; simp)]
end
end Go.Proofs.YtlglfkdjlbcpjaaGreatDoor
