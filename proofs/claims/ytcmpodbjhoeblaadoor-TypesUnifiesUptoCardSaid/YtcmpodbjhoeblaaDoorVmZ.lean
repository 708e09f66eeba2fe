/- The abstract machine: a region whose order is drawn, with one call that changes objects: 'x.F = append(x.F, call())'. No condition. -/
import Derived.Test.YtcmpodbjhoeblaaDoorVmY
set_option linter.unusedVariables false
set_option linter.unusedSimpArgs false
set_option linter.unusedSectionVars false
namespace Go.VM
open Go
set_option maxRecDepth 100000
set_option maxHeartbeats 8000000
section
variable {P : Program} {G : GT} {base : Base} {R : Nat → Nat → Prop} {μ : Nat → Nat} {st : St} {a : Act} {w : World}
/-- As VAny; the call number c may change what it is handed. -/
def VAnyI (P : Program) (G : GT) (ops : Array Oper) (c : Nat) (Q : St → Prop) : Nat → Array Bool → St → Prop
  | 0, listed, st => Region.ready .any ops listed = [] ∧ Q st
  | fuel + 1, listed, st => (Region.ready .any ops listed = [] → Q st) ∧ ∀ i ∈ Region.ready .any ops listed, match ops[i]? with
    | none => VAnyI P G ops c Q fuel (listed.setIfInBounds i true) st
    | some o => vOne P G (i != c) ops o (VAnyI P G ops c Q fuel (listed.setIfInBounds i true)) st
theorem VAnyI_ok {ops : Array Oper} {c : Nat} {Q : St → Prop} {QQ : Exit → Act → World → Prop} : ∀ (fuel : Nat) (listed : Array Bool) (st : St), VAnyI P G ops c Q fuel listed st → ∀ (base : Base) (R : Nat → Nat → Prop) (μ : Nat → Nat) (a : Act) (w : World), Rel P G base R μ st a w →
    (∀ s a' w' R' μ', Q s → Rel P G base R' μ' s a' w' → Step base R w R' w' → QQ .normal a' w') → wpAny P .any ops QQ fuel listed a w
  | 0, _, st, h, base, R, μ, a, w, hr, hk => ⟨h.1, hk st a w R μ h.2 hr (.refl _ _ _)⟩
  | fuel + 1, listed, st, h, base, R, μ, a, w, hr, hk => by
    refine ⟨fun h0 => hk st a w R μ (h.1 h0) hr (.refl _ _ _), fun i hi => ?_⟩
    have h1 := h.2 i hi
    unfold wpOp
    split
    · rename_i ho
      rw [ho] at h1
      exact VAnyI_ok fuel _ st h1 base R μ a w hr hk
    · rename_i o ho
      rw [ho] at h1
      exact vOne_ok h1 hr fun s v w' R' μ' h' hr' hs' => VAnyI_ok fuel _ s h' base R' μ' _ w' hr' fun s a' w2 R2 μ2 q1 q2 q3 => hk s a' w2 R2 μ2 q1 q2 (hs'.trans q3)
theorem SW_vanyI {id : Nat} {ops : Array Oper} {c : Nat} {Q : Exit → St → Prop} (hm : P.follows .mixedOrders = true) (h : VAnyI P G ops c (fun s => Q .normal s) ops.size (Array.replicate ops.size false) st) : SW P G (.region id ops true) st Q := by
  intro base R μ a w hr
  obtain ⟨hr', hs'⟩ := hr.drew
  exact wp_region_any hm (VAnyI_ok ops.size _ st h base R μ a w.drew hr' fun s a' w' R' μ' q1 q2 q3 => ⟨s, R', μ', q1, q2, hs'.trans q3⟩)
/-- An operation taken first, where the call is listed or comes behind it. -/
theorem VAnyI_first {ops : Array Oper} {c : Nat} {Q : St → Prop} {i : Nat} {oi : Oper} (hA : NewApart ops) (hi : ops[i]? = some oi) (hic : i ≠ c) (hsi : (quietOp oi.op = true ∧ aloneO ops oi = false) ∨ semi oi = true) :
    ∀ (fuel : Nat) (listed : Array Bool) (st s : St), Closed ops listed →
      (∀ j oj, ops[j]? = some oj → j ≠ i → listed.getD j true = false → reachB ops ops.size j i = false → j ≠ c ∧ oi.apart ops oj = true ∧ pairOk ops oi oj = true) →
      i ∈ Region.ready .any ops listed → NewInv ops listed st → Eff P G ops oi st s →
      VAnyI P G ops c Q fuel (listed.setIfInBounds i true) s → VAnyI P G ops c Q (fuel + 1) listed st := by
  have qi : (i != c) = true := by simpa using hic
  intro fuel
  induction fuel with
  | zero =>
    intro listed st s _ _ hr _ hy H
    refine ⟨fun h => (by rw [h] at hr; cases hr), fun j hj => ?_⟩
    by_cases hji : j = i
    · subst hji; rw [hi, qi]; exact (vOne_eff hsi).2 ⟨s, hy, H⟩
    · have := ready_mono hj hji
      rw [H.1] at this
      cases this
  | succ fuel ih =>
    intro listed st s hcl hfree hr hI hy H
    refine ⟨fun h => (by rw [h] at hr; cases hr), fun j hj => ?_⟩
    by_cases hji : j = i
    · subst hji; rw [hi, qi]; exact (vOne_eff hsi).2 ⟨s, hy, H⟩
    · have h1 := H.2 j (ready_mono hj hji)
      obtain ⟨hjun, oj, hoj, hall⟩ := mem_ready.1 hj
      rw [hoj] at h1 ⊢
      simp only at h1 ⊢
      obtain ⟨hiun, oi', hoi', halli⟩ := mem_ready.1 hr
      have hnot : reachB ops ops.size j i = false := reach_listed hcl hiun _ _ fun o ho => by rw [hoj] at ho; cases ho; exact hall
      obtain ⟨hjc, hap, hpo⟩ := hfree j oj hoj hji hjun hnot
      have qj : (j != c) = true := by simpa using hjc
      rw [qj] at h1 ⊢
      have hsj : (quietOp oj.op = true ∧ aloneO ops oj = false) ∨ semi oj = true := by
        by_cases hs : semi oj = true
        · exact .inr hs
        · refine .inl ⟨?_, ?_⟩
          · unfold pairOk at hpo
            simp only [semi, Bool.or_eq_true, Bool.and_eq_true, Bool.not_eq_true'] at hpo hs
            rcases hpo with ((((((h | h) | h) | h) | h) | h) | h) | h
            · exact h.1.2
            · exact absurd (.inl (.inl h.1.2)) hs
            · exact h.1.1.2
            · exact absurd (.inl (.inr h.2)) hs
            · exact h.1.2
            · exact absurd (.inl h.1.2) hs
            · exact absurd (.inr h.2) hs
            · exact (pure_quiet (G := G) (st := st) h.1.2).1
          · cases hx : aloneO ops oj with
            | false => rfl
            | true =>
              have hlt : i < ops.size := (Array.getElem?_eq_some_iff.1 hi).1
              rcases alone_spec hx hoj hlt (fun e => hji e.symm) with h' | h'
              · have := reach_listed hcl hjun ops.size i fun o ho => by rw [hoi'] at ho; cases ho; exact halli
                rw [h'] at this; cases this
              · rw [hnot] at h'; cases h'
      obtain ⟨s12, hu, hk⟩ := (vOne_eff hsj).1 h1
      obtain ⟨s2, e1, e2⟩ := diamond hap hpo (fun hn d hd => hI i oi d hi hn hiun hd) (fun hn d hd => hI j oj d hoj hn hjun hd) hy hu
      refine (vOne_eff hsj).2 ⟨s2, e1, ?_⟩
      refine ih (listed.setIfInBounds j true) s2 s12 (hcl.set hj) (fun k ok hk' hki hun hno => ?_) (ready_mono hr (Ne.symm hji)) (hI.step hA hoj fun k hf hn => Eff_keep e1 hf hn) e2 ?_
      · exact hfree k ok hk' hki (unlisted_set hun).2 hno
      · rw [Array.setIfInBounds_comm _ _ hji]
        exact hk
/-! A sequence of operations, by their numbers. -/
def VSeq (P : Program) (G : GT) (ops : Array Oper) (c : Nat) : List Nat → St → (St → Prop) → Prop
  | [], st, K => K st
  | i :: r, st, K => match ops[i]? with
    | some o => vOne P G (i != c) ops o (fun s => VSeq P G ops c r s K) st
    | none => False
def firstB (ops : Array Oper) (c : Nat) (listed : Array Bool) (i : Nat) : Bool := (Region.ready .any ops listed == [i]) || ((Region.ready .any ops listed).contains i && (i != c) && (match ops[i]? with
  | none => false
  | some oi => ((quietOp oi.op && !aloneO ops oi) || semi oi) && (List.range ops.size).all fun j => j == i || listed.getD j true || reachB ops ops.size j i || (j != c && (match ops[j]? with
    | some oj => oi.apart ops oj && pairOk ops oi oj
    | none => true))))
def markAll (l : List Nat) (x : Array Bool) : Array Bool := l.foldl (fun x i => x.setIfInBounds i true) x
def seqB (ops : Array Oper) (c : Nat) : List Nat → Array Bool → Bool
  | [], _ => true
  | i :: r, listed => firstB ops c listed i && seqB ops c r (listed.setIfInBounds i true)
theorem noNew {ops : Array Oper} (h : newKeys ops = []) {i : Nat} {o : Oper} {d : Tmp} (hi : ops[i]? = some o) (hn : isNew o = true) (hd : o.dst = some d) : False := by
  have : d ∈ newKeys ops := List.mem_filterMap.2 ⟨o, by rw [Array.mem_toList_iff]; exact Array.mem_of_getElem? hi, by rw [if_pos hn]; exact hd⟩
  rw [h] at this; cases this
theorem VAnyI_seq {ops : Array Oper} {c : Nat} {Q : St → Prop} (hN : newKeys ops = []) : ∀ (l : List Nat) (listed : Array Bool) (st : St) (fuel : Nat), Closed ops listed → seqB ops c l listed = true →
    VSeq P G ops c l st (VAnyI P G ops c Q fuel (markAll l listed)) → (Closed ops (markAll l listed) → True) → VAnyI P G ops c Q (l.length + fuel) listed st
  | [], listed, st, fuel, _, _, h, _ => by simpa [markAll, VSeq] using h
  | i :: l, listed, st, fuel, hcl, hB, h, _ => by
    have hA : NewApart ops := fun i j oi oj d hi _ hni _ hdi _ => (noNew hN hi hni hdi).elim
    have hI : ∀ listed st, NewInv ops listed st := fun _ _ j oj d hj hn _ hd => (noNew hN hj hn hd).elim
    simp only [seqB, Bool.and_eq_true] at hB
    obtain ⟨hf, hB'⟩ := hB
    simp only [VSeq] at h
    split at h
    rotate_left
    · cases h
    rename_i o ho
    have he : (i :: l).length + fuel = l.length + fuel + 1 := by simp only [List.length_cons]; omega
    rw [he]
    unfold firstB at hf
    rw [Bool.or_eq_true, beq_iff_eq] at hf
    have hri : i ∈ Region.ready .any ops listed := by
      rcases hf with hf | hf
      · rw [hf]; exact List.mem_singleton.2 rfl
      · simp only [Bool.and_eq_true] at hf; simpa using hf.1.1
    have hnext : ∀ s, VSeq P G ops c l s (VAnyI P G ops c Q fuel (markAll (i :: l) listed)) → VAnyI P G ops c Q (l.length + fuel) (listed.setIfInBounds i true) s := fun s hs => VAnyI_seq hN l _ s fuel (hcl.set hri) hB' hs fun _ => trivial
    rcases hf with hf | hf
    · refine ⟨fun h' => (by rw [h'] at hf; cases hf), fun j hj => ?_⟩
      rw [hf, List.mem_singleton] at hj
      subst hj
      rw [ho]
      exact vOne_mono hnext h
    · rw [ho] at hf
      simp only [Bool.and_eq_true, Bool.or_eq_true, Bool.not_eq_true', bne_iff_ne, ne_eq] at hf
      obtain ⟨⟨_, hic⟩, hsi, hall⟩ := hf
      have qi : (i != c) = true := by simpa using hic
      rw [qi] at h
      obtain ⟨s, hd, hk⟩ := (vOne_eff hsi).1 h
      refine VAnyI_first hA ho hic hsi _ listed st s hcl (fun j oj hj hne hun hno => ?_) hri (hI _ _) hd (hnext s hk)
      rw [List.all_eq_true] at hall
      have h1 := hall j (List.mem_range.2 (Array.getElem?_eq_some_iff.1 hj).1)
      simp only [hj, Bool.or_eq_true, beq_iff_eq, hne, false_or, hun, Bool.false_eq_true, hno, Bool.and_eq_true, bne_iff_ne, ne_eq] at h1
      exact h1
theorem VAnyI_done {ops : Array Oper} {c : Nat} {Q : St → Prop} {fuel : Nat} {listed : Array Bool} (h : Region.ready .any ops listed = []) (hq : Q st) : VAnyI P G ops c Q fuel listed st := by
  cases fuel with
  | zero => exact ⟨h, hq⟩
  | succ n => exact ⟨fun _ => hq, fun i hi => by rw [h] at hi; cases hi⟩
theorem VSeq_mono {ops : Array Oper} {c : Nat} {K K' : St → Prop} (hk : ∀ s, K s → K' s) : ∀ (l : List Nat) (st : St), VSeq P G ops c l st K → VSeq P G ops c l st K'
  | [], st, h => hk st h
  | i :: r, st, h => by
    simp only [VSeq] at h ⊢
    split at h
    · exact vOne_mono (fun s hs => VSeq_mono hk r s hs) h
    · cases h
theorem Closed.markAll {ops : Array Oper} {c : Nat} : ∀ (l : List Nat) (listed : Array Bool), Closed ops listed → seqB ops c l listed = true → Closed ops (VM.markAll l listed)
  | [], _, hc, _ => hc
  | i :: r, listed, hc, hB => by
    simp only [seqB, Bool.and_eq_true] at hB
    have hri : i ∈ Region.ready .any ops listed := by
      have hf := hB.1
      unfold firstB at hf
      rw [Bool.or_eq_true, beq_iff_eq] at hf
      rcases hf with hf | hf
      · rw [hf]; exact List.mem_singleton.2 rfl
      · simp only [Bool.and_eq_true] at hf; simpa using hf.1.1
    exact Closed.markAll r _ (hc.set hri) hB.2
/-! The orders before the call. -/
/-- What may come next: the call (then the rest in one order), or an operation. -/
inductive Ord where
  | none
  | call (rest : List Nat) (more : Ord)
  | op (i : Nat) (next more : Ord)
def sel (ops : Array Oper) : List Nat → List Oper
  | [] => []
  | i :: r => match ops[i]? with
    | some o => o :: sel ops r
    | none => sel ops r
def VOrd (P : Program) (G : GT) (ops : Array Oper) (c : Nat) (K : St → Prop) : Ord → St → Prop
  | .none, _ => True
  | .call rest more, st => VK P G [.ops false ops (sel ops [c]), .ops true ops (sel ops rest)] .normal st (fun _ s => K s) ∧ VOrd P G ops c K more st
  | .op i next more, st => VK P G [.ops true ops (sel ops [i])] .normal st (fun _ s => VOrd P G ops c K next s) ∧ VOrd P G ops c K more st
def altB (c : Nat) : Ord → Nat → Bool
  | .none, _ => false
  | .call _ more, j => decide (j = c) || altB c more j
  | .op i _ more, j => decide (j = i) || altB c more j
def inB (ops : Array Oper) (c : Nat) (l : List Nat) : Bool := l.all fun i => decide (i < ops.size) && decide (i ≠ c)
def ordB (ops : Array Oper) (c : Nat) : Ord → Nat → Array Bool → Bool
  | .none, _, _ => true
  | .call rest more, n, listed => decide (c < ops.size) && inB ops c rest && seqB ops c rest (listed.setIfInBounds c true) && (Region.ready .any ops (markAll rest (listed.setIfInBounds c true))).isEmpty && decide (rest.length + 1 ≤ n) && ordB ops c more n listed
  | .op i next more, n, listed => inB ops c [i] && decide (2 ≤ n) && !(Region.ready .any ops (listed.setIfInBounds i true)).isEmpty && ((Region.ready .any ops (listed.setIfInBounds i true)).all fun j => altB c next j) && ordB ops c next (n - 1) (listed.setIfInBounds i true) && ordB ops c more n listed
theorem VOps_sel {ops : Array Oper} {c : Nat} {K : St → Prop} : ∀ (l : List Nat) (st : St), inB ops c l = true → VOps P G true ops (sel ops l) st K → VSeq P G ops c l st K
  | [], st, _, h => h
  | i :: r, st, hB, h => by
    simp only [inB, List.all_cons, Bool.and_eq_true, decide_eq_true_eq] at hB
    obtain ⟨⟨hi, hic⟩, hr⟩ := hB
    have qi : (i != c) = true := by simpa using hic
    simp only [sel, Array.getElem?_eq_getElem hi, VOps] at h
    simp only [VSeq, Array.getElem?_eq_getElem hi, qi]
    exact vOne_mono (fun s hs => VOps_sel r s hr hs) h
theorem VOrd_ok {ops : Array Oper} {c : Nat} {Q : St → Prop} (hN : newKeys ops = []) : ∀ (T : Ord) (n : Nat) (listed : Array Bool) (st : St), Closed ops listed → ordB ops c T (n + 1) listed = true → VOrd P G ops c Q T st → ∀ i ∈ Region.ready .any ops listed, altB c T i = true →
    match ops[i]? with
    | none => VAnyI P G ops c Q n (listed.setIfInBounds i true) st
    | some o => vOne P G (i != c) ops o (VAnyI P G ops c Q n (listed.setIfInBounds i true)) st
  | .none, _, _, _, _, _, _, _, _, ha => by cases ha
  | .call rest more, n, listed, st, hcl, hB, h, i, hi, ha => by
    simp only [ordB, Bool.and_eq_true, decide_eq_true_eq, List.isEmpty_iff] at hB
    obtain ⟨⟨⟨⟨⟨hc, hin⟩, hs⟩, he⟩, hlen⟩, hmore⟩ := hB
    simp only [VOrd] at h
    simp only [altB, Bool.or_eq_true, decide_eq_true_eq] at ha
    by_cases hic : i = c
    · subst hic
      have h1 := h.1
      simp only [VK, sel, Array.getElem?_eq_getElem hc, VOps] at h1
      simp only [Array.getElem?_eq_getElem hc, bne_self_eq_false]
      refine vOne_mono (fun s hs' => ?_) h1
      obtain ⟨k, hk⟩ := Nat.exists_eq_add_of_le (Nat.le_of_succ_le_succ hlen)
      rw [hk]
      exact VAnyI_seq hN rest _ s k (hcl.set hi) hs (VSeq_mono (fun s hs => VAnyI_done he hs) _ _ (VOps_sel rest s hin hs')) fun _ => trivial
    · exact VOrd_ok hN more n listed st hcl hmore h.2 i hi (ha.resolve_left hic)
  | .op x next more, n, listed, st, hcl, hB, h, i, hi, ha => by
    simp only [ordB, Bool.and_eq_true, decide_eq_true_eq, Bool.not_eq_true', List.isEmpty_eq_false_iff, List.all_eq_true] at hB
    obtain ⟨⟨⟨⟨⟨hin, hn⟩, hne⟩, hall⟩, hnext⟩, hmore⟩ := hB
    simp only [VOrd] at h
    simp only [altB, Bool.or_eq_true, decide_eq_true_eq] at ha
    by_cases hix : i = x
    · subst hix
      have h1 := h.1
      simp only [inB, List.all_cons, List.all_nil, Bool.and_true, Bool.and_eq_true, decide_eq_true_eq] at hin
      have qi : (i != c) = true := by simpa using hin.2
      simp only [VK, sel, Array.getElem?_eq_getElem hin.1, VOps] at h1
      simp only [Array.getElem?_eq_getElem hin.1, qi]
      refine vOne_mono (fun s hs' => ?_) h1
      obtain ⟨m, rfl⟩ : ∃ m, n = m + 1 := ⟨n - 1, by omega⟩
      exact ⟨fun h' => (hne h').elim, fun j hj => VOrd_ok hN next m _ s (hcl.set hi) hnext hs' j hj (hall j hj)⟩
    · exact VOrd_ok hN more n listed st hcl hmore h.2 i hi (ha.resolve_left hix)
def impB (ops : Array Oper) (c : Nat) (anc : List Nat) (T : Ord) : Bool := (newKeys ops).isEmpty && decide (anc.length + 1 ≤ ops.size) && inB ops c anc && seqB ops c anc (Array.replicate ops.size false) && !(Region.ready .any ops (markAll anc (Array.replicate ops.size false))).isEmpty && ((Region.ready .any ops (markAll anc (Array.replicate ops.size false))).all fun j => altB c T j) && ordB ops c T (ops.size - anc.length) (markAll anc (Array.replicate ops.size false))
/-- A REGION WITH ONE CALL THAT CHANGES OBJECTS: what the call needs first, then each order up to the call. -/
theorem SW_imp {id : Nat} {ops : Array Oper} {Q : Exit → St → Prop} (c : Nat) (anc : List Nat) (T : Ord) (hm : P.follows .mixedOrders = true) (hB : impB ops c anc T = true)
    (h : VK P G [.ops true ops (sel ops anc)] .normal st fun _ s => VOrd P G ops c (fun s => Q .normal s) T s) : SW P G (.region id ops true) st Q := by
  simp only [impB, Bool.and_eq_true, List.isEmpty_iff, decide_eq_true_eq, Bool.not_eq_true', List.isEmpty_eq_false_iff, List.all_eq_true] at hB
  obtain ⟨⟨⟨⟨⟨⟨hN, hlen⟩, hin⟩, hs⟩, hne⟩, hall⟩, ht⟩ := hB
  refine SW_vanyI (c := c) hm ?_
  obtain ⟨k, hk⟩ := Nat.exists_eq_add_of_le hlen
  have hcl : Closed ops (Array.replicate ops.size false) := fun k hk => by
    rcases Nat.lt_or_ge k ops.size with h' | h'
    · simp [h'] at hk
    · simp [Nat.not_lt.2 h'] at hk
  have e : ops.size - anc.length = k + 1 := by omega
  rw [e] at ht
  simp only [VK] at h
  have := VAnyI_seq (P := P) (G := G) (c := c) (Q := fun s => Q .normal s) hN anc (Array.replicate ops.size false) st (k + 1) hcl hs (VSeq_mono (fun s hs' => ⟨fun h' => (hne h').elim, fun j hj => VOrd_ok hN T k _ s (Closed.markAll anc _ hcl hs) ht hs' j hj (hall j hj)⟩) _ _ (VOps_sel anc st hin h)) fun _ => trivial
  rw [show anc.length + (k + 1) = ops.size by omega] at this
  exact this
/-- 'x.F = append(x.F, call())': the field's address and its load stand in no order to the call. -/
abbrev stdOrd (x0 x1 : Nat) (R : List Nat) : Ord := .op x0 (.op x1 (.call R .none) (.call (x1 :: R) .none)) (.call (x0 :: x1 :: R) .none)
attribute [simp] sel VOrd
/-- A loop whose round is walked by hand. -/
theorem SW.loopZ {st : St} {Q : Exit → St → Prop} {c : Code} {ι : Type} (ws : ι → List (Nat × DV)) (H : ι → List (Nat × AObj)) (own : ι → List (TypeId × List Loc)) (m : ι → Nat) (x0 : ι) (h0 : Weak st (frameOf c st (ws x0) (H x0) (own x0)))
    (round : ∀ x, SW P G c (frameOf c st (ws x) (H x) (own x)) fun e s => match e with
      | .normal => Again (fun y => frameOf c st (ws y) (H y) (own y)) m x s
      | e => Q e s) : SW P G (.loop c) st Q := by
  intro base R μ a w hr
  refine wp_loop_ghost (fun n a1 w1 => ∃ x R1 μ1, m x = n ∧ Rel P G base R1 μ1 (frameOf c st (ws x) (H x) (own x)) a1 w1 ∧ Step base R w R1 w1) (m x0) ⟨x0, R, μ, rfl, hr.weak h0, .refl _ _ _⟩ ?_
  rintro n a1 w1 ⟨x, R1, μ1, rfl, hr1, hs1⟩
  refine wp_mono (round x base R1 μ1 a1 w1 hr1) fun e a2 w2 ⟨s, R2, μ2, q, hr2, hs2⟩ => ?_
  cases e with
  | normal =>
    simp only at q
    unfold Again at q
    obtain ⟨y, hy, hlt⟩ := q
    exact ⟨m y, hlt, y, R2, μ2, rfl, hr2.weak hy, hs1.trans hs2⟩
  | _ => exact ⟨s, R2, μ2, q, hr2, hs1.trans hs2⟩
theorem SW.condT {c : Operand} {x y : Code} {st : St} {Q : Exit → St → Prop} (hc : st.eval G c = .d (.bool true)) (h : SW P G x st Q) : SW P G (.cond c x y) st Q := fun base R μ a w hr => wp_cond (hr.evalBool hc) (h base R μ a w hr)
theorem SW.condF {c : Operand} {x y : Code} {st : St} {Q : Exit → St → Prop} (hc : st.eval G c = .d (.bool false)) (h : SW P G y st Q) : SW P G (.cond c x y) st Q := fun base R μ a w hr => wp_cond (hr.evalBool hc) (h base R μ a w hr)
/-- A part whose end is known. -/
theorem SW.cutZ {x y : Code} {st : St} {Q : Exit → St → Prop} (st' : St) (h1 : SW P G x st fun e s => match e with
    | .normal => Weak s st'
    | e => Q e s) (h2 : SW P G y st' Q) : SW P G (.seq x y) st Q := SW.seqq fun base R μ a w hr =>
  wp_mono (h1 base R μ a w hr) fun e a1 w1 ⟨s, R1, μ1, q1, q2, q3⟩ => by
    cases e with
    | normal => exact ⟨s, R1, μ1, fun base R μ a w hr => h2 base R μ a w (hr.weak q1), q2, q3⟩
    | _ => exact ⟨s, R1, μ1, q1, q2, q3⟩
/-- The end of a part is known: what follows is to be shown from there. -/
theorem SW.atZ {x : Code} {st : St} {Q : Exit → St → Prop} (st' : St) (h1 : SW P G x st fun e s => match e with
    | .normal => Weak s st'
    | e => Q e s) (h2 : ∀ s, Weak s st' → Q .normal s) : SW P G x st Q := fun base R μ a w hr =>
  wp_mono (h1 base R μ a w hr) fun e a1 w1 ⟨s, R1, μ1, q1, q2, q3⟩ => by
    cases e with
    | normal => exact ⟨s, R1, μ1, h2 s q1, q2, q3⟩
    | _ => exact ⟨s, R1, μ1, q1, q2, q3⟩
/-- A part whose end is a frame: its own temporaries are forgotten, but for these. -/
theorem SW.cutF {x y : Code} {st : St} {Q : Exit → St → Prop} (ws : List (Nat × DV)) (H : List (Nat × AObj)) (own : List (TypeId × List Loc)) (h1 : SW P G x st fun e s => match e with
    | .normal => Weak s (frameOf x st ws H own)
    | e => Q e s) (h2 : SW P G y (frameOf x st ws H own) Q) : SW P G (.seq x y) st Q := SW.cutZ _ h1 h2
end
end Go.VM
