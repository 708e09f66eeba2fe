/- Types with unknown predicates, plain: the environment accepts their holes. No condition. -/
import Derived.Test.YtmjpdmkgmlhfaaaDoorMa
import Derived.Test.YtmjpdmkgmlhfaaaDoorZA
set_option linter.unusedVariables false
set_option linter.unusedSimpArgs false
set_option linter.unusedSectionVars false
namespace Go.Proofs.YtmjpdmkgmlhfaaaDoor
set_option maxRecDepth 100000
set_option maxHeartbeats 4000000
/-! ### Names -/
theorem partsL_one {q : List UInt8} (hq : ∀ b ∈ q, b ≠ 46) : partsL q = [q] := by
  induction q with
  | nil => rfl
  | cons c r ih =>
    have hc : ¬ c.toNat = 46 := fun e => hq c (.head _) (UInt8.toNat_inj.1 e)
    rw [partsL, if_neg hc, ih fun b hb => hq b (.tail _ hb)]
theorem partsL_app : ∀ (s q : List UInt8), (∀ b ∈ q, b ≠ 46) → partsL (s ++ 46 :: q) = partsL s ++ [q]
  | [], q, hq => by
    have e : partsL (46 :: q) = [] :: partsL q := by simp [partsL]
    rw [List.nil_append, e, partsL_one hq]
    rfl
  | c :: s, q, hq => by
    have ih := partsL_app s q hq
    rw [List.cons_append, partsL, partsL]
    by_cases hc : c.toNat = 46
    · rw [if_pos hc, if_pos hc, ih]
      rfl
    · rw [if_neg hc, if_neg hc, ih]
      cases hp : partsL s with
      | nil => rw [partsL_cut] at hp; cases hp
      | cons p ps => rfl
theorem dd_alnum (n : Nat) : ∀ b ∈ Lib.decDigits n, anB b.toNat = true ∧ b ≠ 46 := fun b hb => by
  have h := isDg_iff.1 ((dd_all n).2.1 b hb)
  refine ⟨?_, ?_⟩
  · simp [anB, digB]
    omega
  · rintro rfl
    simp at h
theorem core_dot {pre : Nm} (h : coreB pre = true) (hl : pre.length ≤ 90) {n : Nat} (hn : n < 1000000) : coreB (pre ++ 46 :: Lib.decDigits n) = true := by
  have hd := dd_len 5 n (by omega)
  have hpos : 1 ≤ (Lib.decDigits n).length := List.length_pos_iff.2 (dd_all n).1
  have hp : partB (Lib.decDigits n) = true := by
    simp only [partB, Bool.and_eq_true, Bool.or_eq_true, sizedB, decide_eq_true_eq]
    refine ⟨⟨hpos, by omega⟩, .inl ?_⟩
    simp only [all8, List.all_eq_true]
    exact fun b hb => (dd_alnum n b hb).1
  unfold coreB at h ⊢
  rw [partsL_app pre _ fun b hb => (dd_alnum n b hb).2]
  simp only [Bool.and_eq_true, decide_eq_true_eq] at h ⊢
  obtain ⟨_, h⟩ := h
  refine ⟨by simp only [List.length_append, List.length_cons]; omega, ?_⟩
  cases hp2 : partsL pre with
  | nil => rw [hp2] at h; cases h
  | cons p ps =>
    rw [hp2] at h
    simp only [Bool.and_eq_true, List.all_eq_true, Bool.or_eq_true, List.cons_append] at h ⊢
    refine ⟨?_, fun q hq => ?_⟩
    · rcases h.1 with h1 | h1
      · exact .inl h1
      · refine .inr ⟨h1.1, ?_⟩
        cases ps <;> rfl
    · rcases List.mem_append.1 hq with hq | hq
      · exact h.2 q hq
      · rw [List.mem_singleton] at hq
        rw [hq]
        exact hp
theorem dot_inj {pre : Nm} {a b : Nat} (h : pre ++ 46 :: Lib.decDigits a = pre ++ 46 :: Lib.decDigits b) : a = b := by
  have h1 := congrArg valN (List.cons.inj (List.append_cancel_left h)).2
  rwa [(dd_all a).2.2.1, (dd_all b).2.2.1] at h1
/-! ### Variables -/
def okVs (sc : List Vr) : Prop := (∀ v ∈ sc, vnB v.1 = true ∧ sortB v.2 = true) ∧ (sc.map (·.1)).Nodup
theorem varsGo_ok : ∀ (l : List Vr) (seen : List Nm), (∀ v ∈ l, vnB v.1 = true ∧ sortB v.2 = true) → (l.map (·.1)).Nodup → (∀ v ∈ l, v.1 ∉ seen) → varsGo seen l = 0
  | [], _, _, _, _ => rfl
  | v :: r, seen, h1, h2, h3 => by
    obtain ⟨q1, q2⟩ := h1 v (.head _)
    rw [List.map_cons, List.nodup_cons] at h2
    have h0 : ¬ vnB v.1 = false := by rw [q1]; simp
    have h00 : ¬ sortB v.2 = false := by rw [q2]; simp
    have := varsGo_step (seen := seen) (l := v :: r) (i := 0) (by simp)
    simp only [List.drop_zero, List.getElem_cons_zero, List.drop_succ_cons] at this
    rw [this, if_neg h0, if_neg (h3 v (.head _)), if_neg h00]
    refine varsGo_ok r _ (fun x hx => h1 x (.tail _ hx)) h2.2 fun x hx => ?_
    rw [List.mem_append, List.mem_singleton]
    rintro (h | h)
    · exact h3 x (.tail _ hx) h
    · exact h2.1 (by rw [← h]; exact List.mem_map_of_mem hx)
theorem take_nodup {sc : List Vr} (h : (sc.map (·.1)).Nodup) (n : Nat) : ((sc.take n).map (·.1)).Nodup := by
  rw [List.map_take]
  exact h.sublist (List.take_sublist _ _)
theorem holV_ok {s : Nm} {sc : List Vr} (hs : sortB s = true) (h : okVs sc) (hv : vN ∉ sc.map (·.1)) (hvn : vnB vN = true) : varsE (holV s sc) = 0 := by
  unfold varsE
  have hl : (holV s sc).length ≤ 24 := by unfold holV; rw [List.length_take]; omega
  rw [if_neg (by omega)]
  have hall : ∀ v ∈ (vN, s) :: sc, vnB v.1 = true ∧ sortB v.2 = true := fun v hm => by
    rcases List.mem_cons.1 hm with rfl | hm
    · exact ⟨hvn, hs⟩
    · exact h.1 v hm
  refine varsGo_ok _ [] (fun v hm => hall v (List.mem_of_mem_take hm)) (take_nodup ?_ 24) (fun _ _ => by simp)
  rw [List.map_cons, List.nodup_cons]
  exact ⟨hv, h.2⟩
theorem addVr_ok {sc : List Vr} (h : okVs sc) {v : Vr} (h1 : vnB v.1 = true) (h2 : sortB v.2 = true) : okVs (addVr sc v) := by
  unfold addVr
  refine ⟨fun x hx => ?_, ?_⟩
  · rcases List.mem_append.1 hx with hx | hx
    · exact h.1 x (List.mem_filter.1 hx).1
    · rw [List.mem_singleton] at hx
      rw [hx]
      exact ⟨h1, h2⟩
  · rw [List.map_append, List.nodup_append]
    refine ⟨h.2.sublist (List.Sublist.map _ (List.filter_sublist)), by simp, ?_⟩
    intro a ha b hb
    simp only [List.map_cons, List.map_nil, List.mem_singleton] at hb
    subst hb
    obtain ⟨x, hx, rfl⟩ := List.mem_map.1 ha
    have := (List.mem_filter.1 hx).2
    simpa using this
/-! ### All holes -/
section
variable {srt : Nm → Bool} {pre : Nm} {dat : Nm → List Nm}
def hoOk (h : Ho) : Prop := varsE h.2 = 0 ∧ h.2 ≠ []
theorem logT_sort {t : Ty} {s : Nm} (h : logT sortB t = some s) : sortB s = true := by
  unfold logT at h
  split at h
  · cases h
    decide
  split at h
  · cases h
    decide
  split at h
  · rename_i q
    cases h
    exact q.2.2.1
  · cases h
/-- Function types have right names. -/
inductive FnOk : Ty → Prop
  | mk (op : Int) (nm : Nm) (l : List Ty) (ns : List Nm) (p : Pr) (ps : List Pr) : (∀ n ∈ ns, vnB n = true ∧ n ≠ vN) → (∀ k ∈ l, FnOk k) → FnOk ⟨op, nm, l, ns, p, ps⟩
theorem data_right (hvn : vnB vN = true) {sc : List Vr} (hsc : okVs sc) (hv : vN ∉ sc.map (·.1)) : ∀ (l : List Nm) (ps : List Pr) (hs : List Ho), (∀ s ∈ l, sortB s = true) → (∀ h ∈ hs, hoOk h) → ∀ h ∈ (dataT pre sc l ps hs).2, hoOk h
  | [], ps, hs, _, hh => hh
  | s :: r, ps, hs, hl, hh => by
    rw [dataT]
    refine data_right hvn hsc hv r _ _ (fun x hx => hl x (.tail _ hx)) fun h hm => ?_
    unfold nextH at hm
    rcases List.mem_append.1 hm with hm | hm
    · exact hh h hm
    · rw [List.mem_singleton] at hm
      rw [hm]
      exact ⟨holV_ok (hl s (.head _)) hsc hv hvn, by simp [holV]⟩
theorem xN_ok (hx : ∀ k, k < 1000 → vnB (xN k) = true) {used : List Nm} (h : used.length < 1000) : vnB (freshN used) = true := by
  obtain ⟨j, h1, h2, _⟩ := fresh_spec used
  rw [h2]
  exact hx j (by omega)
theorem vis_right (hvn : vnB vN = true) (hx : ∀ k, k < 1000 → vnB (xN k) = true) (hdat : ∀ n, ∀ s ∈ dat n, sortB s = true) : ∀ (t : Ty), FnOk t → ∀ (sc : List Vr) (hs : List Ho), okVs sc → vN ∉ sc.map (·.1) → sc.length + nodT t ≤ 400 → (∀ h ∈ hs, hoOk h) → ∀ h ∈ (visT sortB pre dat t sc hs).2, hoOk h := by
  refine Ty.ind fun t ih => ?_
  obtain ⟨op, nm, l, ns, p, ps⟩ := t
  simp only at ih
  intro hf sc hs hsc hv hsz hh
  cases hf with
  | mk _ _ _ _ _ _ hn hk =>
  have hfun : ∀ (l : List Ty) (g : Bool) (ns dn : List Nm) (sc : List Vr) (hs : List Ho), (∀ k ∈ l, FnOk k ∧ ∀ (sc : List Vr) (hs : List Ho), okVs sc → vN ∉ sc.map (·.1) → sc.length + nodT k ≤ 400 → (∀ h ∈ hs, hoOk h) → ∀ h ∈ (visT sortB pre dat k sc hs).2, hoOk h) →
      (g = true → ns.length + 1 = l.length) → (∀ n ∈ ns, vnB n = true ∧ n ≠ vN) → okVs sc → vN ∉ sc.map (·.1) → sc.length + nodTs l ≤ 400 → dn.length + l.length ≤ 400 → (∀ h ∈ hs, hoOk h) → ∀ h ∈ (funT sortB pre dat l g ns dn sc hs).2.2, hoOk h := by
    intro l
    induction l with
    | nil => intro g ns dn sc hs _ _ _ _ _ _ _ hh; exact hh
    | cons a r ihr =>
      intro g ns dn sc hs hk hg hn hsc hv hsz hdn hh
      have ha := (hk a (by simp)).2
      have hna : sc.length + nodT a ≤ 400 := by simp only [nodTs] at hsz; omega
      cases r with
      | nil => rw [funT]; exact ha sc hs hsc hv hna hh
      | cons b r =>
        rw [funT]
        simp only
        have h1 := ha sc hs hsc hv hna hh
        obtain ⟨n, hnn⟩ : ∃ n, (if g = true then ns.headD [] else freshN (vN :: (dn ++ sc.map (·.1)))) = n := ⟨_, rfl⟩
        rw [hnn]
        have hnok : vnB n = true ∧ n ≠ vN := by
          rw [← hnn]
          by_cases hgt : g = true
          · rw [if_pos hgt]
            have := hg hgt
            cases ns with
            | nil => simp at this
            | cons x y => exact hn x (by simp)
          · rw [if_neg hgt]
            obtain ⟨j, q1, q2, q3, _⟩ := fresh_spec (vN :: (dn ++ sc.map (·.1)))
            refine ⟨?_, fun e => ?_⟩
            · rw [q2]
              refine hx j ?_
              simp only [List.length_cons, List.length_append, List.length_map] at q1 hdn
              omega
            · rw [q2] at e
              rw [e] at q3
              simp at q3
        have hnt := nodT_pos a
        have hnb := nodT_pos b
        have hsz2 : sc.length + 1 + nodTs (b :: r) ≤ 400 := by simp only [nodTs] at hsz ⊢; omega
        refine ihr g ns.tail (dn ++ [n]) _ _ (fun k hk' => hk k (.tail _ hk')) (fun hgt => ?_) (fun x hx' => hn x (List.mem_of_mem_tail hx')) ?_ ?_ ?_ ?_ h1
        · have := hg hgt
          simp only [List.length_cons] at this
          simp only [List.length_tail, List.length_cons]
          omega
        · split
          · rename_i s hs'
            exact addVr_ok hsc hnok.1 (logT_sort hs')
          · exact hsc
        · split
          · rename_i s hs'
            unfold addVr
            rw [List.map_append, List.mem_append]
            rintro (h | h)
            · exact hv (((List.filter_sublist).map _).subset h)
            · simp at h
              exact hnok.2 h.symm
          · exact hv
        · split
          · rename_i s hs'
            have : (addVr sc (n, s)).length ≤ sc.length + 1 := by
              unfold addVr
              rw [List.length_append]
              have := List.length_filter_le (fun x : Vr => !decide (x.1 = n)) sc
              simp only [List.length_cons, List.length_nil]
              omega
            omega
          · omega
        · simp only [List.length_append, List.length_cons, List.length_nil] at hdn ⊢
          omega
  rw [visT]
  have hnl := len_le_nodTs l
  simp only [nodT] at hsz
  split
  · exact hfun l _ ns [] sc hs (fun k hk' => ⟨hk k hk', ih k hk' (hk k hk')⟩) (fun hg => by simpa using hg) hn hsc hv (by omega) (by simp; omega) hh
  · split
    · exact hh
    · rename_i s hs'
      refine data_right hvn hsc hv _ _ _ (fun x hx' => ?_) fun h hm => ?_
      · split at hx'
        · exact hdat nm x hx'
        · cases hx'
      · unfold nextH at hm
        rcases List.mem_append.1 hm with hm | hm
        · exact hh h hm
        · rw [List.mem_singleton] at hm
          rw [hm]
          exact ⟨holV_ok (logT_sort hs') hsc hv hvn, by simp [holV]⟩
end
end Go.Proofs.YtmjpdmkgmlhfaaaDoor
