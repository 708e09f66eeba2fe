/- Reading the same tokens in parentheses, plain. No condition. -/
import Derived.Test.YtlglfkdjlbcpjaaGreatDoorQk
set_option linter.unusedVariables false
set_option linter.unusedSimpArgs false
set_option linter.unusedSectionVars false
namespace Go.Proofs.YtlglfkdjlbcpjaaGreatDoor
set_option maxRecDepth 100000
set_option maxHeartbeats 4000000
section
variable {kw : List UInt8 → Bool} {l l' : List Tok} {N : Nat} {rd rd' : Nat → Nat → Option (Pr × Nat)}
theorem sg_kd {l : List Tok} {i : Nat} {s : List UInt8} (h1 : sgB l i s = true) (h2 : kdB l i 3 = true) : False := by
  unfold sgB at h1
  unfold kdB at h2
  cases h : l[i]? with
  | none => rw [h] at h1; cases h1
  | some t =>
    rw [h] at h1 h2
    simp only [Bool.and_eq_true, decide_eq_true_eq] at h1 h2
    omega
theorem prim_sim (h : Shf l l' N) (hA : Adv l rd) {i : Nat} (hi : i ≤ N) (hS : ∀ i' k', 1 ≤ k' → k' ≤ 10 → i < i' → i' ≤ N → Sim l N k' (rd i' k') (rd' (i' + 1) k')) : Sim l N 10 (primG kw rd l i) (primG kw rd' l' (i + 1)) := by
  intro p n hr
  by_cases hN : i = N
  · subst hN
    obtain ⟨ln, hl⟩ := h.last
    have hw : nameR kw l i = none := by
      unfold nameR nmOk wtB
      rw [if_neg]
      rw [h.kdN (by decide), h.kdN (by decide)]
      simp
    unfold primG at hr
    rw [hl] at hr
    simp only at hr
    rw [if_neg (by decide), if_neg (by simp), if_neg (by simp), if_neg (by rw [h.sgN]; simp), if_neg (by rw [h.sgN]; simp), hw] at hr
    cases hr
  have hlt : i < N := by omega
  have hlen := h.len
  unfold primG at hr ⊢
  rw [h.same i hlt]
  cases ht : l[i]? with
  | none => rw [ht] at hr; cases hr
  | some t =>
    rw [ht] at hr
    simp only at hr ⊢
    by_cases k3 : t.kind = 3
    · rw [if_pos k3] at hr ⊢
      cases hr
      exact .inr ⟨by omega, rfl⟩
    rw [if_neg k3] at hr ⊢
    by_cases kt : t.kind = 1 ∧ t.text = [116, 114, 117, 101]
    · rw [if_pos kt] at hr ⊢
      cases hr
      exact .inr ⟨by omega, rfl⟩
    rw [if_neg kt] at hr ⊢
    by_cases kf : t.kind = 1 ∧ t.text = [102, 97, 108, 115, 101]
    · rw [if_pos kf] at hr ⊢
      cases hr
      exact .inr ⟨by omega, rfl⟩
    rw [if_neg kf] at hr ⊢
    rw [h.sg hi (.inl (by decide)), h.sg hi (.inl (by decide))]
    by_cases hq : sgB l i [63] = true
    · rw [if_pos hq] at hr ⊢
      rcases h.name (kw := kw) (i := i + 1) (by omega) with ⟨q1, q2⟩ | ⟨s, m, q1, q2, q3⟩
      · rw [q1] at hr
        cases hr
      · rw [q1] at hr
        rw [q2]
        simp only at hr ⊢
        have hadv := name_adv q1
        cases hL : listG rd l m with
        | none => rw [hL] at hr; cases hr
        | some z =>
          obtain ⟨ks, j⟩ := z
          obtain ⟨e1, e2⟩ := list_sim h hA hS (by omega) q3 hL
          rw [hL] at hr
          rw [e2]
          cases hr
          exact .inr ⟨e1, rfl⟩
    rw [if_neg hq] at hr ⊢
    by_cases hp : sgB l i [40] = true
    · rw [if_pos hp] at hr ⊢
      have es1 : sgB l' (i + 1 + 1) [45] = sgB l (i + 1) [45] := h.sg (by omega) (.inl (by decide))
      by_cases hneg : sgB l (i + 1) [45] = true ∧ kdB l (i + 2) 3 = true ∧ sgB l (i + 3) [41] = true
      · obtain ⟨n1, n2, n3⟩ := hneg
        have l3 := h.sg_lt n3
        have l2 := h.kd_lt (by decide) n2
        rw [if_pos ⟨n1, n2, n3⟩] at hr
        have c2 : kdB l' (i + 1 + 2) 3 = true := by rw [show i + 1 + 2 = i + 2 + 1 from rfl, h.kd (by omega) (by decide) (by decide)]; exact n2
        have c3 : sgB l' (i + 1 + 3) [41] = true := by rw [show i + 1 + 3 = i + 3 + 1 from rfl, h.sg (by omega) (.inr l3)]; exact n3
        rw [if_pos ⟨by rw [es1]; exact n1, c2, c3⟩, show i + 1 + 2 = i + 2 + 1 from rfl, h.nm l2]
        cases hr
        exact .inr ⟨by omega, rfl⟩
      · rw [if_neg hneg] at hr
        have hs := hS (i + 1) 1 (by omega) (by omega) (by omega) (by omega)
        cases hx : rd (i + 1) 1 with
        | none => rw [hx] at hr; cases hr
        | some q =>
          obtain ⟨a, m⟩ := q
          have hadv := hA _ _ _ _ hx
          rw [hx] at hr hs
          simp only at hr
          by_cases hc : sgB l m [41] = true
          · have hm := h.sg_lt hc
            rw [if_pos hc] at hr
            cases hr
            have hneg' : ¬ (sgB l' (i + 1 + 1) [45] = true ∧ kdB l' (i + 1 + 2) 3 = true ∧ sgB l' (i + 1 + 3) [41] = true) := by
              rintro ⟨c1, c2, c3⟩
              rw [es1] at c1
              have l1 := h.sg_lt c1
              rw [show i + 1 + 2 = i + 2 + 1 from rfl, h.kd (by omega) (by decide) (by decide)] at c2
              have l2 := h.kd_lt (by decide) c2
              rw [show i + 1 + 3 = i + 3 + 1 from rfl] at c3
              by_cases h3 : i + 3 < N
              · rw [h.sg (by omega) (.inr h3)] at c3
                exact hneg ⟨c1, c2, c3⟩
              · have : m = i + 2 := by omega
                subst this
                exact sg_kd hc c2
            rw [if_neg hneg']
            rcases hs _ _ rfl with hd | ⟨hm', hy⟩
            · rw [hd.no (by decide) (by decide)] at hc
              cases hc
            · rw [hy]
              simp only
              rw [if_pos (by rw [h.sg hm' (.inr hm)]; exact hc)]
              exact .inr ⟨by omega, rfl⟩
          · rw [if_neg hc] at hr
            cases hr
    rw [if_neg hp] at hr ⊢
    rcases h.name (kw := kw) hi with ⟨q1, q2⟩ | ⟨s, m, q1, q2, q3⟩
    · rw [q1] at hr
      cases hr
    · rw [q1] at hr
      rw [q2]
      simp only at hr ⊢
      have hadv := name_adv q1
      cases hL : listG rd l m with
      | some z =>
        obtain ⟨ks, j⟩ := z
        obtain ⟨e1, e2⟩ := list_sim h hA hS (by omega) q3 hL
        rw [hL] at hr
        rw [e2]
        cases hr
        exact .inr ⟨e1, rfl⟩
      | none =>
        rw [hL] at hr
        by_cases hb : sgB l m [40] = true
        · cases hr
          exact .inl ⟨[40], hb, .inl rfl⟩
        · rw [list_none h q3 (by simpa using hb)]
          cases hr
          exact .inr ⟨q3, rfl⟩
theorem at_sim (h : Shf l l' N) (hA : Adv l rd) {i k : Nat} (hk : 1 ≤ k ∧ k ≤ 10) (hi : i ≤ N) (hS : ∀ i' k', 1 ≤ k' → k' ≤ 10 → i < i' → i' ≤ N → Sim l N k' (rd i' k') (rd' (i' + 1) k')) (h0 : ∀ k', k < k' → k' ≤ 10 → Sim l N k' (rd i k') (rd' (i + 1) k')) :
    Sim l N k (atG kw rd l i k) (atG kw rd' l' (i + 1) k) := by
  have hlen := h.len
  have hlen' := h.len'
  have hch : ∀ k, (k = 1 ∨ k = 3 ∨ k = 4 ∨ k = 7 ∨ k = 8) → Sim l N (k + 1) (rd i (k + 1)) (rd' (i + 1) (k + 1)) → Sim l N k ((rd i (k + 1)).map fun q => chainG rd l k l.length q.1 q.2) ((rd' (i + 1) (k + 1)).map fun q => chainG rd' l' k l'.length q.1 q.2) := by
    intro k hk hs p n hr
    cases hx : rd i (k + 1) with
    | none => rw [hx] at hr; cases hr
    | some q =>
      obtain ⟨a, m⟩ := q
      have hadv := hA _ _ _ _ hx
      rw [hx] at hr hs
      rw [Option.map_some, Option.some.injEq] at hr
      simp only at hr
      rcases hs a m rfl with hd | ⟨hm, hy⟩
      · rw [chain_stop (hd.op (by omega))] at hr
        cases hr
        exact .inl (hd.mono (by omega))
      · rw [hy, Option.map_some]
        simp only
        rcases chain_sim h hA (i := i) (k := k) (by omega) hS l.length l'.length a m (by omega) hm (by omega) (by omega) p n hr with hd | ⟨q1, q2⟩
        · exact .inl hd
        · exact .inr ⟨q1, by rw [q2]⟩
  obtain rfl | rfl | rfl | rfl | rfl | rfl | rfl | rfl | rfl | rfl : k = 1 ∨ k = 2 ∨ k = 3 ∨ k = 4 ∨ k = 5 ∨ k = 6 ∨ k = 7 ∨ k = 8 ∨ k = 9 ∨ k = 10 := by omega
  · exact hch 1 (by omega) (h0 2 (by omega) (by omega))
  · have hs := h0 3 (by omega) (by omega)
    show Sim l N 2 (impG rd l i) (impG rd' l' (i + 1))
    intro p n hr
    unfold impG at hr ⊢
    cases hx : rd i 3 with
    | none => rw [hx] at hr; cases hr
    | some q =>
      obtain ⟨a, m⟩ := q
      have hadv := hA _ _ _ _ hx
      rw [hx] at hr hs
      simp only at hr
      rcases hs a m rfl with hd | ⟨hm, hy⟩
      · rw [if_neg (by rw [hd.no (by decide) (by decide)]; simp)] at hr
        cases hr
        exact .inl (hd.mono (by omega))
      · rw [hy]
        simp only
        rw [h.sg hm (.inl (by decide))]
        by_cases hb : sgB l m [61, 62] = true
        · have hlt := h.sg_lt hb
          rw [if_pos hb] at hr ⊢
          have hs2 := hS (m + 1) 2 (by omega) (by omega) (by omega) (by omega)
          cases hx2 : rd (m + 1) 2 with
          | none =>
            rw [hx2] at hr
            cases hr
            exact .inl ⟨_, hb, .inr (by decide)⟩
          | some z =>
            obtain ⟨b, j⟩ := z
            rw [hx2] at hr hs2
            cases hr
            rcases hs2 _ _ rfl with hd | ⟨hj, hy2⟩
            · exact .inl hd
            · rw [hy2]
              exact .inr ⟨hj, rfl⟩
        · rw [if_neg hb] at hr ⊢
          cases hr
          exact .inr ⟨hm, rfl⟩
  · exact hch 3 (by omega) (h0 4 (by omega) (by omega))
  · exact hch 4 (by omega) (h0 5 (by omega) (by omega))
  · show Sim l N 5 (if sgB l i [33] = true then _ else rd i 6) (if sgB l' (i + 1) [33] = true then _ else rd' (i + 1) 6)
    rw [h.sg hi (.inl (by decide))]
    by_cases hb : sgB l i [33] = true
    · have hlt := h.sg_lt hb
      rw [if_pos hb, if_pos hb]
      have hs := hS (i + 1) 5 (by omega) (by omega) (by omega) (by omega)
      intro p n hr
      rw [Option.map_eq_some_iff] at hr
      obtain ⟨⟨a, m⟩, hx, he⟩ := hr
      cases he
      rcases hs a m hx with hd | ⟨hm, hy⟩
      · exact .inl hd
      · rw [hy]
        exact .inr ⟨hm, rfl⟩
    · rw [if_neg hb, if_neg hb]
      exact (h0 6 (by omega) (by omega)).mono (by omega)
  · have hs := h0 7 (by omega) (by omega)
    show Sim l N 6 (cmpG rd l i) (cmpG rd' l' (i + 1))
    intro p n hr
    unfold cmpG at hr ⊢
    cases hx : rd i 7 with
    | none => rw [hx] at hr; cases hr
    | some q =>
      obtain ⟨a, m⟩ := q
      have hadv := hA _ _ _ _ hx
      rw [hx] at hr hs
      simp only at hr
      rcases hs a m rfl with hd | ⟨hm, hy⟩
      · rw [hd.cmp (by omega)] at hr
        cases hr
        exact .inl (hd.mono (by omega))
      · rw [hy]
        simp only
        rw [h.cmp hm]
        cases hc : cmpAt l m with
        | none =>
          rw [hc] at hr
          cases hr
          exact .inr ⟨hm, rfl⟩
        | some c =>
          obtain ⟨op, ex⟩ := c
          have hlt := h.cmp_lt hc
          rw [hc] at hr
          simp only at hr ⊢
          have hs2 := hS (m + 1) 7 (by omega) (by omega) (by omega) (by omega)
          cases hx2 : rd (m + 1) 7 with
          | none =>
            rw [hx2] at hr
            cases hr
            exact .inl (dead_cmp hc)
          | some z =>
            obtain ⟨b, j⟩ := z
            rw [hx2] at hr hs2
            cases hr
            rcases hs2 _ _ rfl with hd | ⟨hj, hy2⟩
            · exact .inl (hd.mono (by omega))
            · rw [hy2]
              exact .inr ⟨hj, rfl⟩
  · exact hch 7 (by omega) (h0 8 (by omega) (by omega))
  · exact hch 8 (by omega) (h0 9 (by omega) (by omega))
  · show Sim l N 9 (if sgB l i [45] = true then _ else rd i 10) (if sgB l' (i + 1) [45] = true then _ else rd' (i + 1) 10)
    rw [h.sg hi (.inl (by decide))]
    by_cases hb : sgB l i [45] = true
    · have hlt := h.sg_lt hb
      rw [if_pos hb, if_pos hb]
      have hs := hS (i + 1) 9 (by omega) (by omega) (by omega) (by omega)
      intro p n hr
      rw [Option.map_eq_some_iff] at hr
      obtain ⟨⟨a, m⟩, hx, he⟩ := hr
      cases he
      rcases hs a m hx with hd | ⟨hm, hy⟩
      · exact .inl hd
      · rw [hy]
        exact .inr ⟨hm, rfl⟩
    · rw [if_neg hb, if_neg hb]
      exact (h0 10 (by omega) (by omega)).mono (by omega)
  · exact prim_sim h hA hi hS
theorem RR_sim (h : Shf l l' N) : ∀ (f i k : Nat), 1 ≤ k → k ≤ 10 → i ≤ N → mu l.length i k ≤ f → Sim l N k (RR kw l i k) (RR kw l' (i + 1) k)
  | 0, i, k, _, h10, hi, hf => by have := h.len; unfold mu at hf; omega
  | f + 1, i, k, h1, h10, hi, hf => by
    have e1 := h.len
    have e2 := h.len'
    rw [RR_eq h1 h10 (by omega), RR_eq h1 h10 (by omega)]
    refine at_sim h (RR_adv kw l) ⟨h1, h10⟩ hi (fun i' k' q1 q2 q3 q4 => RR_sim h f i' k' q1 q2 q4 ?_) (fun k' q1 q2 => RR_sim h f i k' (by omega) q2 hi ?_)
    · have := mu_next (L := l.length) (k := k) q3 (by omega) q1 h10
      omega
    · have := mu_level (L := l.length) (i := i) q1 q2
      omega
/-- What is read up to the end is read between parentheses. -/
theorem read_paren (h : Shf l l' N) {p : Pr} (hr : RR kw l 0 1 = some (p, N)) (h0 : ∃ ln, l'[0]? = some (sgTk ln [40])) (hend : ∃ ln, l'[N + 2]? = some (endT ln)) (hneg : sgB l 0 [45] = false) : RR kw l' 0 1 = some (p, N + 2) := by
  have e1 := h.len
  have e2 := h.len'
  have hadv := RR_adv kw l _ _ _ _ hr
  have h1 : RR kw l' 1 1 = some (p, N + 1) := by
    rcases RR_sim (kw := kw) h _ 0 1 (by omega) (by omega) (by omega) (Nat.le_refl _) p N hr with hd | ⟨_, hy⟩
    · obtain ⟨s, hs, _⟩ := hd
      rw [h.sgN] at hs
      cases hs
    · exact hy
  obtain ⟨ln, h0⟩ := h0
  have hd0 : l'.drop 0 = sgTk ln [40] :: l'.drop 1 := by
    have hl : 0 < l'.length := by omega
    rw [List.getElem?_eq_getElem hl, Option.some.injEq] at h0
    rw [← h0]
    exact List.drop_eq_getElem_cons hl
  have hc : sgB l' (N + 1) [41] = true := by
    obtain ⟨ln, hl⟩ := h.close
    unfold sgB
    rw [hl]
    simp [sgTk]
  have h10 : RR kw l' 0 10 = some (p, N + 2) := by
    rw [RR_eq (by omega) (by omega) (by omega)]
    show primG kw (RR kw l') l' 0 = _
    unfold primG
    rw [h0]
    simp only
    have hn1 : sgB l' (0 + 1) [45] = false := by rw [h.sg (by omega) (.inl (by decide))]; exact hneg
    rw [if_neg (by simp [sgTk]), if_neg (by simp [sgTk]), if_neg (by simp [sgTk]), if_neg (by rw [sg_d hd0]; simp [sgTk]), if_pos (by rw [sg_d hd0]; simp [sgTk]), if_neg (by rw [hn1]; simp), h1]
    simp only
    rw [if_pos hc]
  obtain ⟨ln2, hend⟩ := hend
  have hde : l'.drop (N + 2) = endT ln2 :: l'.drop (N + 3) := by
    have hl : N + 2 < l'.length := by omega
    rw [List.getElem?_eq_getElem hl, Option.some.injEq] at hend
    rw [← hend]
    exact List.drop_eq_getElem_cons hl
  refine desc hde 9 1 10 (by omega) (by omega) (by omega) h10 (fun t ht => ?_) (fun _ _ => by rw [sg_d hd0]; simp [sgTk]) (fun _ _ => by rw [sg_d hd0]; simp [sgTk])
  cases ht
  exact .inl rfl
end
end Go.Proofs.YtlglfkdjlbcpjaaGreatDoor
