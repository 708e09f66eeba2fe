/- Template: what the statements count; types and holes equal to themselves. No condition. -/
import Derived.Test.YtmjpdmkgmlhfaaaDoorMw
set_option linter.unusedVariables false
set_option linter.unusedSimpArgs false
set_option linter.unusedSectionVars false
namespace Go.Proofs.YtmjpdmkgmlhfaaaDoor
open Go Go.VM
set_option maxRecDepth 100000
set_option maxHeartbeats 16000000
variable {G : GT}
/-! ### Parts -/
mutual
def partM : Ty → Nat → Nat
  | ⟨_, _, l, _, _, _⟩, n => partL l 1 n
def partL : List Ty → Nat → Nat → Nat
  | [], k, _ => k
  | a :: r, k, n => if k < n then partL r (k + partM a (n - k)) n else k
end
theorem partM_eq (t : Ty) (n : Nat) : partM t n = partL t.args 1 n := by cases t; rfl
theorem partL_ge : ∀ (l : List Ty) (k n : Nat), k ≤ partL l k n
  | [], k, n => by simp [partL]
  | a :: r, k, n => by
    rw [partL]
    split
    · exact Nat.le_trans (Nat.le_add_right _ _) (partL_ge r _ n)
    · exact Nat.le_refl _
theorem part_spec : ∀ (t : Ty) (n : Nat), partM t n ≤ nodT t ∧ (partM t n < n → partM t n = nodT t) := by
  refine Ty.ind fun t ih => ?_
  obtain ⟨op, nm, l, ns, p, ps⟩ := t
  simp only at ih
  have hl : ∀ (k n : Nat), partL l k n ≤ k + nodTs l ∧ (partL l k n < n → partL l k n = k + nodTs l) := by
    induction l with
    | nil => intro k n; simp [partL, nodTs]
    | cons a r ihr =>
      intro k n
      rw [partL, nodTs]
      split
      · rename_i hk
        obtain ⟨h1, h2⟩ := ih a (by simp) (n - k)
        obtain ⟨h3, h4⟩ := ihr (fun x hx => ih x (.tail _ hx)) (k + partM a (n - k)) n
        have h5 := partL_ge r (k + partM a (n - k)) n
        refine ⟨by omega, fun h => ?_⟩
        have h6 := h4 h
        have h7 := h2 (by omega)
        omega
      · rename_i hk
        exact ⟨by omega, fun h => by omega⟩
  intro n
  rw [partM, nodT]
  exact hl 1 n
theorem ent_l37_parts : VM.Enters Tryd.prog 34 := VM.Enters.mk Tryd.func34 rfl
theorem l37_parts_cs : ∀ (t : Ty) (n : Nat), nodT t ≤ 900000000 → n ≤ 1000000 → CS Tryd.prog G 34 [.agg (tyD t), .int .i64 n] (.d (.int .i64 (partM t n))) none := by
  refine Ty.ind fun t ih => ?_
  obtain ⟨op, nm, l, ns, p, ps⟩ := t
  simp only at ih
  intro n hN hn
  have hno := nodT_args ⟨op, nm, l, ns, p, ps⟩
  simp only at hno
  have hl := len_le_nodTs l
  have hsp := (part_spec ⟨op, nm, l, ns, p, ps⟩ n).1
  rw [partM] at hsp
  rw [partM]
  refine CS.of_VK Tryd.func34 rfl Tryd.ntmps34 rfl ?_
  simp
  refine SW.loopF (ι := { x : Nat × Nat // x.1 ≤ l.length ∧ partL l 1 n = partL (l.drop x.1) x.2 n }) (fun x => [(5, .d (.int .i64 x.1.2)), (6, .d (.int .i64 x.1.1))]) (fun _ => [(2, .cells [.d (.int .i64 op), .d (.str nm), .d (.sl (l.map tyC)), .d (.sl (strs ns)), .d (.int .i64 p.op), .d (.str p.name), .d (.int .i64 p.n), .d (.sl (p.kids.map prC)), .d (.sl (ps.map prC))])]) (fun _ => []) (fun x => l.length - x.1.1) ⟨(0, 1), by simp⟩ (by simp) ?_
  rintro ⟨⟨i, k⟩, hi, hk⟩
  simp only at hi hk
  have hkb := partL_ge (l.drop i) k n
  by_cases hlt : i < l.length
  · have hg := tys_get hlt
    have hw := wrap64s (show i < 9223372036854775807 by omega)
    rw [List.drop_eq_getElem_cons hlt, partL] at hk
    by_cases hkn : k < n
    · rw [if_pos hkn] at hk
      have hb2 := nodTs_get hlt
      have hps := (part_spec l[i] (n - k)).1
      have hw2 : IntKind.i64.wrap ((n : Int) - k) = ((n - k : Nat) : Int) := by rw [wrap64 (by omega)]; omega
      have hw3 : IntKind.i64.wrap ((k : Int) + (partM l[i] (n - k) : Nat)) = ((k + partM l[i] (n - k) : Nat) : Int) := by rw [wrap64 (by omega)]; omega
      simp [hlt, hkn, hg, hw2]
      refine callK.mk ent_l37_parts (ih l[i] (List.getElem_mem hlt) (n - k) (by omega) (by omega)) ?_
      simp [hw3]
      exact Again.mk ⟨(i + 1, k + partM l[i] (n - k)), hlt, hk⟩ (by simp [hw]) (by simp; omega)
    · rw [if_neg hkn] at hk
      simp [hlt, hkn, hk]
  · have hie : i = l.length := by omega
    subst hie
    rw [List.drop_length, partL] at hk
    simp [hk]
/-! ### Light -/
def lightB (m : Mt) (t : Ty) (sc : List Vr) : Bool := decide (m.datas.length ≤ 8) && (decide (partM t 25 ≤ 24) && (decide (sc.length ≤ 30) && m.datas.all fun d => decide (d.preds.length ≤ 6)))
theorem light_spec {m : Mt} {t : Ty} {sc : List Vr} (h : lightB m t sc = true) : m.datas.length ≤ 8 ∧ nodT t ≤ 24 ∧ sc.length ≤ 30 ∧ ∀ n, (datN m n).length ≤ 6 := by
  simp only [lightB, Bool.and_eq_true, decide_eq_true_eq, List.all_eq_true] at h
  obtain ⟨h1, h2, h3, h4⟩ := h
  refine ⟨h1, ?_, h3, fun n => ?_⟩
  · have := (part_spec t 25).2 (by omega)
    omega
  · unfold datN datF
    cases hf : m.datas.find? (fun d => decide (d.name = n)) with
    | none => simp
    | some d => simpa using h4 d (List.mem_of_find?_eq_some hf)
theorem cnt_le {srt : Nm → Bool} {dat : Nm → List Nm} (hd : ∀ n, (dat n).length ≤ 6) : ∀ t : Ty, cntT srt dat t ≤ 7 * nodT t := by
  refine Ty.ind fun t ih => ?_
  obtain ⟨op, nm, l, ns, p, ps⟩ := t
  simp only at ih
  have hl : cntTs srt dat l ≤ 7 * nodTs l := by
    induction l with
    | nil => simp [cntTs]
    | cons a r ihr =>
      have h1 := ih a (by simp)
      have h2 := ihr fun x hx => ih x (.tail _ hx)
      simp only [cntTs, nodTs]
      omega
  rw [cntT, nodT]
  split
  · omega
  · split
    · omega
    · have := hd nm
      split
      · omega
      · simp only [List.length_nil]
        omega
theorem ent_l37_light : VM.Enters Tryd.prog 10 := VM.Enters.mk Tryd.func10 rfl
theorem l37_light_cs (m : Mt) (t : Ty) (sc : List Vr) (hml : m.datas.length ≤ 900000000) (hN : nodT t ≤ 900000000) (hsc : sc.length ≤ 900000000) (hpl : ∀ d ∈ m.datas, d.preds.length ≤ 900000000) : CS Tryd.prog G 10 [.agg (mtC m), .agg (tyD t), .sl (sc.map vrC)] (.d (.bool (lightB m t sc))) none := by
  have hpa := l37_parts_cs (G := G) t 25 hN (by omega)
  obtain ⟨l, e1, e2, e3, e4, e5⟩ := m
  simp only at hml hpl
  unfold lightB
  simp only
  refine CS.of_VK Tryd.func10 rfl Tryd.ntmps10 rfl ?_
  by_cases h1 : l.length ≤ 8
  · have h1' : ¬ (8 : Int) < l.length := by omega
    simp [mtC, h1']
    refine callK.mk ent_l37_parts hpa ?_
    by_cases h2 : partM t 25 ≤ 24
    · have h2' : ¬ (24 : Int) < partM t 25 := by omega
      by_cases h3 : sc.length ≤ 30
      · have h3' : ¬ (30 : Int) < sc.length := by omega
        simp [h2', h3']
        refine SW.loopF (ι := { i : Nat // i ≤ l.length ∧ ∀ d ∈ l.take i, d.preds.length ≤ 6 }) (fun i => [(7, .d (.int .i64 i.1))]) (fun _ => [(3, .cells [.d (.sl (l.map daC)), .d e1, .d e2, .d e3, .d e4, .d e5]), (4, .cells [.d (.int .i64 t.op), .d (.str t.name), .d (.sl (t.args.map tyC)), .d (.sl (strs t.names)), .d (.int .i64 t.pred.op), .d (.str t.pred.name), .d (.int .i64 t.pred.n), .d (.sl (t.pred.kids.map prC)), .d (.sl (t.preds.map prC))])]) (fun _ => []) (fun i => l.length - i.1) ⟨0, by simp⟩ (by simp) ?_
        rintro ⟨i, hi, hp⟩
        by_cases hlt : i < l.length
        · have hg := das_get hlt
          have hw := wrap64s (show i < 9223372036854775807 by omega)
          by_cases h6 : l[i].preds.length ≤ 6
          · have h6' : ¬ (6 : Int) < l[i].preds.length := by omega
            have hp2 : ∀ d ∈ l.take (i + 1), d.preds.length ≤ 6 := fun d hd => by
              rw [List.take_succ_eq_append_getElem hlt, List.mem_append, List.mem_singleton] at hd
              rcases hd with hd | rfl
              · exact hp d hd
              · exact h6
            simp [hlt, hg, h6', daC]
            exact Again.mk ⟨i + 1, hlt, hp2⟩ (by simp [hw, daC]) (by simp; omega)
          · have h6' : (6 : Int) < l[i].preds.length := by omega
            simp [hlt, hg, h6', h1, h2, h3, daC]
            exact ⟨l[i], List.getElem_mem hlt, by omega⟩
        · have hie : i = l.length := by omega
          subst hie
          rw [List.take_length] at hp
          simp [h1, h2, h3]
          exact hp
      · have h3' : (30 : Int) < sc.length := by omega
        simp [h2', h3', h3]
    · have h2' : (24 : Int) < partM t 25 := by omega
      simp [h2', h2]
  · have h1' : (8 : Int) < l.length := by omega
    simp [mtC, h1', h1]
end Go.Proofs.YtmjpdmkgmlhfaaaDoor
