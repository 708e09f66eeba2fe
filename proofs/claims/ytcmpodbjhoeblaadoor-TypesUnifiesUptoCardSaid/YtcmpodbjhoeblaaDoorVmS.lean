/- The abstract machine: a region whose last operations append a zero element, and write it. No condition. -/
import Derived.Test.YtcmpodbjhoeblaaDoorVmQ
set_option linter.unusedVariables false
set_option linter.unusedSimpArgs false
set_option linter.unusedSectionVars false
namespace Go.VM
open Go Go.RowKit

/-! ### The first operations of a region whose order is drawn -/
/-- The first k of n are listed. -/
def listedTo (k n : Nat) : Array Bool := ((List.range n).map fun j => decide (j < k)).toArray
def lexFromE (ops : Array Oper) (m : Nat) : Nat → Nat → Array Bool → Bool
  | 0, _, listed => decide (listed = listedTo m ops.size)
  | fuel + 1, k, listed => (Region.ready .any ops listed).contains k &&
    (match ops[k]? with
    | none => false
    | some oi =>
      (List.range ops.size).all fun j => j == k || listed.getD j true || reachB ops ops.size j k || (match ops[j]? with
        | some oj => oi.apart ops oj && pairOk ops oi oj
        | none => true)) &&
    lexFromE ops m fuel (k + 1) (listed.setIfInBounds k true)
/-- From number m on each operation comes behind each of the first m. -/
def tailAll (ops : Array Oper) (m : Nat) : Bool := (List.range ops.size).all fun j => decide (j < m) || (List.range m).all fun i => reachB ops ops.size j i
def lexDE (ops : Array Oper) (m : Nat) : Bool := ((newKeys ops).isEmpty || (ops.toList.all (tame ops) && decide ((newKeys ops).Nodup))) && (decide (m ≤ ops.size) && tailAll ops m) && lexFromE ops m m 0 (Array.replicate ops.size false)
section
variable {P : Program} {G : GT} {st : St}
theorem getD_listedTo {k n j : Nat} (h : (listedTo k n).getD j true = false) : k ≤ j ∧ j < n := by
  unfold listedTo at h
  rw [Array.getD_eq_getD_getElem?] at h
  by_cases hj : j < n
  · simp [hj] at h
    omega
  · simp [hj] at h
theorem tail_reach {ops : Array Oper} {m j i : Nat} {o : Oper} (h : tailAll ops m = true) (hj : m ≤ j) (ho : ops[j]? = some o) (hi : i < m) : reachB ops ops.size j i = true := by
  unfold tailAll at h
  have hjs := (Array.getElem?_eq_some_iff.1 ho).1
  have h1 := List.all_eq_true.1 h j (List.mem_range.2 hjs)
  simp only [Bool.or_eq_true, decide_eq_true_eq] at h1
  rcases h1 with h1 | h1
  · omega
  · exact List.all_eq_true.1 h1 i (List.mem_range.2 hi)
def VAnyE (P : Program) (G : GT) (ops : Array Oper) (m : Nat) (Q : St → Prop) : Nat → Array Bool → St → Prop
  | 0, listed, st => listed = listedTo m ops.size ∧ Q st
  | fuel + 1, listed, st => Region.ready .any ops listed ≠ [] ∧ ∀ i ∈ Region.ready .any ops listed, i < m ∧ match ops[i]? with
    | none => VAnyE P G ops m Q fuel (listed.setIfInBounds i true) st
    | some o => vOne P G true ops o (VAnyE P G ops m Q fuel (listed.setIfInBounds i true)) st
theorem VAnyE_ok {ops : Array Oper} {m r : Nat} {Q : St → Prop} {QQ : Exit → Act → World → Prop} : ∀ (fuel : Nat) (listed : Array Bool) (st : St), VAnyE P G ops m Q fuel listed st → ∀ (base : Base) (R : Nat → Nat → Prop) (μ : Nat → Nat) (a : Act) (w : World), Rel P G base R μ st a w →
    (∀ s a' w' R' μ', Q s → Rel P G base R' μ' s a' w' → Step base R w R' w' → wpAny P .any ops QQ r (listedTo m ops.size) a' w') → wpAny P .any ops QQ (fuel + r) listed a w
  | 0, _, st, h, base, R, μ, a, w, hr, hk => by
    rw [Nat.zero_add, h.1]
    exact hk st a w R μ h.2 hr (.refl _ _ _)
  | fuel + 1, listed, st, h, base, R, μ, a, w, hr, hk => by
    rw [show fuel + 1 + r = (fuel + r) + 1 by omega]
    refine ⟨fun h0 => absurd h0 h.1, fun i hi => ?_⟩
    have h1 := (h.2 i hi).2
    unfold wpOp
    split
    · rename_i ho
      rw [ho] at h1
      exact VAnyE_ok fuel _ st h1 base R μ a w hr hk
    · rename_i o ho
      rw [ho] at h1
      exact vOne_ok h1 hr fun s v w' R' μ' h' hr' hs' => VAnyE_ok fuel _ s h' base R' μ' _ w' hr' fun s a' w2 R2 μ2 q1 q2 q3 => hk s a' w2 R2 μ2 q1 q2 (hs'.trans q3)
theorem set_listed {listed : Array Bool} {i j : Nat} (hj : listed.getD j true = false) (hne : j ≠ i) : (listed.setIfInBounds i true).getD j true = false := by
  rw [getD_set_ne true (Ne.symm hne)]; exact hj
/-- An operation taken first. -/
theorem VAnyE_first {ops : Array Oper} {m : Nat} {Q : St → Prop} {i : Nat} {oi : Oper} (him : i < m) (hT : tailAll ops m = true) (hA : NewApart ops) (hi : ops[i]? = some oi) (hsi : (quietOp oi.op = true ∧ aloneO ops oi = false) ∨ semi oi = true) :
    ∀ (fuel : Nat) (listed : Array Bool) (st s : St), Closed ops listed →
      (∀ j oj, ops[j]? = some oj → j ≠ i → listed.getD j true = false → reachB ops ops.size j i = false → oi.apart ops oj = true ∧ pairOk ops oi oj = true) →
      i ∈ Region.ready .any ops listed → NewInv ops listed st → Eff P G ops oi st s →
      VAnyE P G ops m Q fuel (listed.setIfInBounds i true) s → VAnyE P G ops m Q (fuel + 1) listed st := by
  have low : ∀ (listed : Array Bool), Closed ops listed → i ∈ Region.ready .any ops listed → ∀ j ∈ Region.ready .any ops listed, j < m := fun listed hcl hr j hj => by
    apply Classical.byContradiction
    intro hjm
    obtain ⟨_, oj, hoj, hall⟩ := mem_ready.1 hj
    obtain ⟨hiun, _⟩ := mem_ready.1 hr
    have h1 := tail_reach hT (Nat.le_of_not_lt hjm) hoj him
    rw [reach_listed hcl hiun ops.size j fun o ho => by rw [hoj] at ho; cases ho; exact hall] at h1
    cases h1
  intro fuel
  induction fuel with
  | zero =>
    intro listed st s hcl _ hr _ hy H
    refine ⟨fun h => (by rw [h] at hr; cases hr), fun j hj => ⟨low listed hcl hr j hj, ?_⟩⟩
    by_cases hji : j = i
    · subst hji; rw [hi]; exact (vOne_eff hsi).2 ⟨s, hy, H⟩
    · exfalso
      obtain ⟨hjun, oj, hoj, hall⟩ := mem_ready.1 hj
      obtain ⟨hiun, _⟩ := mem_ready.1 hr
      have h1 := set_listed hjun hji
      rw [H.1] at h1
      have h2 := getD_listedTo h1
      have := low listed hcl hr j hj
      omega
  | succ fuel ih =>
    intro listed st s hcl hfree hr hI hy H
    refine ⟨fun h => (by rw [h] at hr; cases hr), fun j hj => ⟨low listed hcl hr j hj, ?_⟩⟩
    by_cases hji : j = i
    · subst hji; rw [hi]; exact (vOne_eff hsi).2 ⟨s, hy, H⟩
    · have h1 := (H.2 j (ready_mono hj hji)).2
      obtain ⟨hjun, oj, hoj, hall⟩ := mem_ready.1 hj
      rw [hoj] at h1 ⊢
      simp only at h1 ⊢
      obtain ⟨hiun, oi', hoi', halli⟩ := mem_ready.1 hr
      have hnot : reachB ops ops.size j i = false := reach_listed hcl hiun _ _ fun o ho => by rw [hoj] at ho; cases ho; exact hall
      obtain ⟨hap, hpo⟩ := hfree j oj hoj hji hjun hnot
      have hsj : (quietOp oj.op = true ∧ aloneO ops oj = false) ∨ semi oj = true := by
        by_cases hs : semi oj = true
        · exact .inr hs
        · refine .inl ⟨?_, ?_⟩
          · unfold pairOk at hpo
            simp only [semi, Bool.or_eq_true, Bool.and_eq_true, Bool.not_eq_true'] at hpo hs
            rcases hpo with ((((((h | h) | h) | h) | h) | h) | h) | h
            · exact h.1.2
            · exact absurd (.inl (.inl h.1.2)) hs
            · exact h.1.1.2
            · exact absurd (.inl (.inr h.2)) hs
            · exact h.1.2
            · exact absurd (.inl h.1.2) hs
            · exact absurd (.inr h.2) hs
            · exact (pure_quiet (G := G) (st := st) h.1.2).1
          · cases hx : aloneO ops oj with
            | false => rfl
            | true =>
              have hlt : i < ops.size := (Array.getElem?_eq_some_iff.1 hi).1
              rcases alone_spec hx hoj hlt (fun e => hji e.symm) with h' | h'
              · have := reach_listed hcl hjun ops.size i fun o ho => by rw [hoi'] at ho; cases ho; exact halli
                rw [h'] at this; cases this
              · rw [hnot] at h'; cases h'
      obtain ⟨s12, hu, hk⟩ := (vOne_eff hsj).1 h1
      obtain ⟨s2, e1, e2⟩ := diamond hap hpo (fun hn d hd => hI i oi d hi hn hiun hd) (fun hn d hd => hI j oj d hoj hn hjun hd) hy hu
      refine (vOne_eff hsj).2 ⟨s2, e1, ?_⟩
      refine ih (listed.setIfInBounds j true) s2 s12 (hcl.set hj) (fun k ok hk' hki hun hno => ?_) (ready_mono hr (Ne.symm hji)) (hI.step hA hoj fun k hf hn => Eff_keep e1 hf hn) e2 ?_
      · exact hfree k ok hk' hki (unlisted_set hun).2 hno
      · rw [Array.setIfInBounds_comm _ _ hji]
        exact hk
theorem VAnyE_lex {ops : Array Oper} {m : Nat} {Q : St → Prop} (hTA : tailAll ops m = true) (hA : NewApart ops) (hT : newKeys ops = [] ∨ ∀ o ∈ ops.toList, tame ops o = true) : ∀ (l : List Oper) (k : Nat) (listed : Array Bool) (st : St), k + l.length = m → (∀ j, j < l.length → l[j]? = ops[k + j]?) → Closed ops listed → NewInv ops listed st →
    lexFromE ops m l.length k listed = true → VOps P G true ops l st Q → VAnyE P G ops m Q l.length listed st
  | [], _, _, _, _, _, _, _, hB, h => ⟨by simpa [lexFromE] using hB, h⟩
  | o :: l, k, listed, st, hkm, hl, hcl, hI, hB, h => by
    have hkm2 : k < m := by simp only [List.length_cons] at hkm; omega
    have h0 : ops[k]? = some o := by simpa using (hl 0 (by simp)).symm
    simp only [List.length_cons, lexFromE, Bool.and_eq_true, h0] at hB
    obtain ⟨⟨hr, hf⟩, hB'⟩ := hB
    have hrk : k ∈ Region.ready .any ops listed := by simpa using hr
    have hnext : ∀ s, NewInv ops (listed.setIfInBounds k true) s → VOps P G true ops l s Q → VAnyE P G ops m Q l.length (listed.setIfInBounds k true) s := fun s hs h =>
      VAnyE_lex hTA hA hT l (k + 1) _ s (by simp only [List.length_cons] at hkm; omega) (fun j hj => by have := hl (j + 1) (by simpa using hj); simpa [Nat.add_assoc, Nat.add_comm 1 j] using this) (hcl.set hrk) hs hB' h
    have hspec : ∀ j oj, ops[j]? = some oj → j ≠ k → listed.getD j true = false → reachB ops ops.size j k = false → o.apart ops oj = true ∧ pairOk ops o oj = true := by
      intro j oj hj hne hun hno
      rw [List.all_eq_true] at hf
      have h1 := hf j (List.mem_range.2 (Array.getElem?_eq_some_iff.1 hj).1)
      simp only [hj, Bool.or_eq_true, beq_iff_eq, hne, false_or, hun, Bool.false_eq_true, hno, Bool.and_eq_true] at h1
      exact h1
    have only : (∀ j oj, ops[j]? = some oj → j ≠ k → listed.getD j true = false → reachB ops ops.size j k = false → False) → VAnyE P G ops m Q (l.length + 1) listed st := fun hno => by
      have low : ∀ j ∈ Region.ready .any ops listed, j < m := fun j hj => by
        apply Classical.byContradiction
        intro hjm
        obtain ⟨_, oj, hoj, hall⟩ := mem_ready.1 hj
        obtain ⟨hiun, _⟩ := mem_ready.1 hrk
        have h1 := tail_reach hTA (Nat.le_of_not_lt hjm) hoj hkm2
        rw [reach_listed hcl hiun ops.size j fun o ho => by rw [hoj] at ho; cases ho; exact hall] at h1
        cases h1
      refine ⟨fun h' => (by rw [h'] at hrk; cases hrk), fun j hj => ⟨low j hj, ?_⟩⟩
      by_cases hjk : j = k
      · subst hjk
        rw [h0]
        have hkeep : vOne P G true ops o (fun s => VOps P G true ops l s Q ∧ NewInv ops (listed.setIfInBounds j true) s) st := by
          by_cases hT0 : newKeys ops = []
          · refine vOne_mono (fun s hs => ⟨hs, fun i oi d hi hn _ hd => ?_⟩) h
            have : d ∈ newKeys ops := List.mem_filterMap.2 ⟨oi, by rw [Array.mem_toList_iff]; exact Array.mem_of_getElem? hi, by rw [if_pos hn]; exact hd⟩
            rw [hT0] at this; cases this
          · have hT := hT.resolve_left hT0
            refine vOne_mono (fun s hs => ⟨hs.1, hI.step hA h0 hs.2⟩) (vOne_keep hT0 (hT o (by rw [Array.mem_toList_iff]; exact Array.mem_of_getElem? h0)) h)
        exact vOne_mono (fun s hs => hnext s hs.2 hs.1) hkeep
      · obtain ⟨hjun, oj, hoj, hall⟩ := mem_ready.1 hj
        have hnot : reachB ops ops.size j k = false := reach_listed hcl (mem_ready.1 hrk).1 _ _ fun o' ho' => by rw [hoj] at ho'; cases ho'; exact hall
        exact (hno j oj hoj hjk hjun hnot).elim
    by_cases hs : (quietOp o.op = true ∧ aloneO ops o = false) ∨ semi o = true
    · obtain ⟨s, hd, hk⟩ := (vOne_eff hs).1 h
      exact VAnyE_first hkm2 hTA hA h0 hs l.length listed st s hcl (fun j oj hj hne hun hno => hspec j oj hj hne hun hno) hrk hI hd (hnext _ (hI.step hA h0 fun k hf hn => Eff_keep hd hf hn) hk)
    · refine only fun j oj hj hne hun hno => ?_
      obtain ⟨_, hpo⟩ := hspec j oj hj hne hun hno
      cases hal : aloneO ops o with
      | true =>
        obtain ⟨_, ok, hok, hallk⟩ := mem_ready.1 hrk
        have hnot2 : reachB ops ops.size k j = false := reach_listed hcl hun _ _ fun o' ho' => by rw [hok] at ho'; cases ho'; exact hallk
        rcases alone_spec hal h0 (Array.getElem?_eq_some_iff.1 hj).1 hne with h' | h'
        · rw [hno] at h'; cases h'
        · rw [hnot2] at h'; cases h'
      | false =>
        unfold pairOk at hpo
        simp only [semi, Bool.or_eq_true, Bool.and_eq_true, Bool.not_eq_true'] at hpo hs
        rcases hpo with ((((((h' | h') | h') | h') | h') | h') | h') | h'
        · exact hs (.inl ⟨h'.1.1, hal⟩)
        · exact hs (.inl ⟨h'.1.1, hal⟩)
        · exact hs (.inr (.inl (.inl h'.1.1.1)))
        · exact hs (.inl ⟨h'.1, hal⟩)
        · exact hs (.inr (.inl (.inr h'.1.1)))
        · exact hs (.inr (.inl h'.1.1))
        · exact hs (.inl ⟨(pure_quiet (G := G) (st := st) h'.1.1).1, hal⟩)
        · exact hs (.inr (.inr h'.1.1))
/-- A region whose order is drawn: the first m operations by the machine, the others by a law. -/
theorem region_tail_ok {id : Nat} {ops : Array Oper} {m : Nat} {T : St → Prop} {Q : Exit → St → Prop} (hm : P.follows .mixedOrders = true) (hB : lexDE ops m = true) (hF : freshB ops st = true) (h : VOps P G true ops (ops.toList.take m) st T)
    (hT : ∀ s base R μ a w (QQ : Exit → Act → World → Prop), T s → Rel P G base R μ s a w → (∀ s' a' w' R' μ', Q .normal s' → Rel P G base R' μ' s' a' w' → Step base R w R' w' → QQ .normal a' w') → wpAny P .any ops QQ (ops.size - m) (listedTo m ops.size) a w) : SW P G (.region id ops true) st Q := by
  intro base R μ a w hr
  obtain ⟨hr', hs'⟩ := hr.drew
  unfold lexDE at hB
  rw [Bool.and_eq_true, Bool.and_eq_true, Bool.and_eq_true, decide_eq_true_eq] at hB
  obtain ⟨⟨hN, hmle, hTA⟩, hB⟩ := hB
  rw [Bool.or_eq_true, List.isEmpty_iff, Bool.and_eq_true, List.all_eq_true, decide_eq_true_eq] at hN
  have mem : ∀ {i oi d}, ops[i]? = some oi → isNew oi = true → oi.dst = some d → d ∈ newKeys ops := fun hi hn hd => List.mem_filterMap.2 ⟨_, by rw [Array.mem_toList_iff]; exact Array.mem_of_getElem? hi, by rw [if_pos hn]; exact hd⟩
  have hA : NewApart ops := fun i j oi oj d hi hj hni hnj hdi hdj => by
    rcases hN with hN | ⟨_, hN⟩
    · have := mem hi hni hdi; rw [hN] at this; cases this
    · exact nodup_at (l := ops.toList) (f := fun o => if isNew o then o.dst else none) hN i j (by simpa using hi) (by simpa using hj) (by rw [if_pos hni]; exact hdi) (by rw [if_pos hnj]; exact hdj)
  have hI : NewInv ops (Array.replicate ops.size false) st := fun j oj d hj hn _ hd => List.all_eq_true.1 hF d (mem hj hn hd)
  have hlen : (ops.toList.take m).length = m := by simp; omega
  have h1 := VAnyE_lex (P := P) (G := G) hTA hA (hN.imp (fun h => h) (fun h => h.1)) (ops.toList.take m) 0 (Array.replicate ops.size false) st (by rw [hlen]; omega) (fun j hj => by
    rw [hlen] at hj
    rw [List.getElem?_take, if_pos hj]
    simp) (fun k hk => by
    rcases Nat.lt_or_ge k ops.size with h' | h'
    · simp [h'] at hk
    · simp [Nat.not_lt.2 h'] at hk) hI (by rw [hlen]; exact hB) h
  rw [hlen] at h1
  refine wp_region_any hm ?_
  have h2 := VAnyE_ok (r := ops.size - m) (QQ := fun e a' w' => ∃ s' R' μ', Q e s' ∧ Rel P G base R' μ' s' a' w' ∧ Step base R w R' w') m _ st h1 base R μ a w.drew hr' fun s a' w' R' μ' q1 q2 q3 =>
    hT s base R' μ' a' w' _ q1 q2 fun s2 a2 w2 R2 μ2 p1 p2 p3 => ⟨s2, R2, μ2, p1, p2, (hs'.trans q3).trans p3⟩
  rw [show m + (ops.size - m) = ops.size by omega] at h2
  exact h2
/-- The operations wait alike. -/
def sameWait (ops ops' : Array Oper) : Prop := ops'.size = ops.size ∧ ∀ i : Nat, (ops'[i]?).map (fun o : Oper => o.after) = (ops[i]?).map (fun o : Oper => o.after)
theorem sameWait.ready {ops ops' : Array Oper} (h : sameWait ops ops') (listed : Array Bool) : Region.ready .any ops' listed = Region.ready .any ops listed := by
  obtain ⟨hs, h⟩ := h
  unfold Region.ready
  rw [hs]
  refine List.filter_congr fun i _ => ?_
  have := h i
  cases h1 : ops'[i]? with
  | none =>
    rw [h1] at this
    cases h2 : ops[i]? with
    | none => simp
    | some o => rw [h2] at this; simp at this
  | some o' =>
    rw [h1] at this
    cases h2 : ops[i]? with
    | none => rw [h2] at this; simp at this
    | some o =>
      rw [h2] at this
      simp only [Option.map_some, Option.some.injEq] at this
      simp [this]
theorem wpOp_swap {ops ops' : Array Oper} {Q : Exit → Act → World → Prop} {i : Nat} {K : Act → World → Prop} {a : Act} {w : World} {o : Oper} (h : ops[i]? = some o) (h' : ops'[i]? = some o) (hg : o.guard = none) (hw : wpOp P ops' Q i K a w) : wpOp P ops Q i K a w := by
  unfold wpOp at hw ⊢
  rw [h'] at hw
  rw [h]
  have e : ∀ y, Region.wanted o y = true := fun y => by unfold Region.wanted; rw [hg]
  simp only [e, if_true] at hw ⊢
  exact hw
theorem VAnyE_cross {ops ops' : Array Oper} {m r : Nat} {Q : St → Prop} {QQ : Exit → Act → World → Prop} (hW : sameWait ops ops') (hS : ∀ i, i < m → ∃ o, ops[i]? = some o ∧ ops'[i]? = some o ∧ o.guard = none) : ∀ (fuel : Nat) (listed : Array Bool) (st : St), VAnyE P G ops' m Q fuel listed st → ∀ (base : Base) (R : Nat → Nat → Prop) (μ : Nat → Nat) (a : Act) (w : World), Rel P G base R μ st a w →
    (∀ s a' w' R' μ', Q s → Rel P G base R' μ' s a' w' → Step base R w R' w' → wpAny P .any ops QQ r (listedTo m ops.size) a' w') → wpAny P .any ops QQ (fuel + r) listed a w
  | 0, _, st, h, base, R, μ, a, w, hr, hk => by
    rw [Nat.zero_add, h.1, hW.1]
    exact hk st a w R μ h.2 hr (.refl _ _ _)
  | fuel + 1, listed, st, h, base, R, μ, a, w, hr, hk => by
    rw [show fuel + 1 + r = (fuel + r) + 1 by omega]
    refine ⟨fun h0 => absurd ((hW.ready listed).trans h0) h.1, fun i hi => ?_⟩
    obtain ⟨him, h1⟩ := h.2 i (by rw [hW.ready]; exact hi)
    obtain ⟨o, ho, ho', hg⟩ := hS i him
    rw [ho'] at h1
    simp only at h1
    refine wpOp_swap ho ho' hg ?_
    unfold wpOp
    rw [ho']
    exact vOne_ok h1 hr fun s v w' R' μ' h' hr' hs' => VAnyE_cross hW hS fuel _ s h' base R' μ' _ w' hr' fun s a' w2 R2 μ2 q1 q2 q3 => hk s a' w2 R2 μ2 q1 q2 (hs'.trans q3)
/-- The same, the machine's view of the region being another one (with the same first m operations). -/
theorem region_tail_ok2 {id : Nat} {ops ops' : Array Oper} {m : Nat} {T : St → Prop} {Q : Exit → St → Prop} (hW : sameWait ops ops') (hS : ∀ i, i < m → ∃ o, ops[i]? = some o ∧ ops'[i]? = some o ∧ o.guard = none) (hm : P.follows .mixedOrders = true) (hB : lexDE ops' m = true) (hF : freshB ops' st = true) (h : VOps P G true ops' (ops'.toList.take m) st T)
    (hT : ∀ s base R μ a w (QQ : Exit → Act → World → Prop), T s → Rel P G base R μ s a w → (∀ s' a' w' R' μ', Q .normal s' → Rel P G base R' μ' s' a' w' → Step base R w R' w' → QQ .normal a' w') → wpAny P .any ops QQ (ops.size - m) (listedTo m ops.size) a w) : SW P G (.region id ops true) st Q := by
  intro base R μ a w hr
  obtain ⟨hr', hs'⟩ := hr.drew
  unfold lexDE at hB
  rw [Bool.and_eq_true, Bool.and_eq_true, Bool.and_eq_true, decide_eq_true_eq] at hB
  obtain ⟨⟨hN, hmle, hTA⟩, hB⟩ := hB
  rw [Bool.or_eq_true, List.isEmpty_iff, Bool.and_eq_true, List.all_eq_true, decide_eq_true_eq] at hN
  have mem : ∀ {i oi d}, ops'[i]? = some oi → isNew oi = true → oi.dst = some d → d ∈ newKeys ops' := fun hi hn hd => List.mem_filterMap.2 ⟨_, by rw [Array.mem_toList_iff]; exact Array.mem_of_getElem? hi, by rw [if_pos hn]; exact hd⟩
  have hA : NewApart ops' := fun i j oi oj d hi hj hni hnj hdi hdj => by
    rcases hN with hN | ⟨_, hN⟩
    · have := mem hi hni hdi; rw [hN] at this; cases this
    · exact nodup_at (l := ops'.toList) (f := fun o => if isNew o then o.dst else none) hN i j (by simpa using hi) (by simpa using hj) (by rw [if_pos hni]; exact hdi) (by rw [if_pos hnj]; exact hdj)
  have hI : NewInv ops' (Array.replicate ops'.size false) st := fun j oj d hj hn _ hd => List.all_eq_true.1 hF d (mem hj hn hd)
  have hlen : (ops'.toList.take m).length = m := by simp; omega
  have h1 := VAnyE_lex (P := P) (G := G) hTA hA (hN.imp (fun h => h) (fun h => h.1)) (ops'.toList.take m) 0 (Array.replicate ops'.size false) st (by rw [hlen]; omega) (fun j hj => by
    rw [hlen] at hj
    rw [List.getElem?_take, if_pos hj]
    simp) (fun k hk => by
    rcases Nat.lt_or_ge k ops'.size with h' | h'
    · simp [h'] at hk
    · simp [Nat.not_lt.2 h'] at hk) hI (by rw [hlen]; exact hB) h
  rw [hlen] at h1
  refine wp_region_any hm ?_
  have h2 := VAnyE_cross (r := ops.size - m) (QQ := fun e a' w' => ∃ s' R' μ', Q e s' ∧ Rel P G base R' μ' s' a' w' ∧ Step base R w R' w') hW hS m _ st h1 base R μ a w.drew hr' fun s a' w' R' μ' q1 q2 q3 =>
    hT s base R' μ' a' w' _ q1 q2 fun s2 a2 w2 R2 μ2 p1 p2 p3 => ⟨s2, R2, μ2, p1, p2, (hs'.trans q3).trans p3⟩
  rw [hW.1] at h2
  rw [show m + (ops.size - m) = ops.size by rw [hW.1] at hmle; omega] at h2
  exact h2
end
end Go.VM
