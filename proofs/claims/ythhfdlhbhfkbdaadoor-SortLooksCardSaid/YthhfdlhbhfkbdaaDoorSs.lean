/- The statements of sort: plain lemmas. No condition. -/
import Derived.Test.YthhfdlhbhfkbdaaDoorSn
import Derived.Test.YthhfdlhbhfkbdaaDoorSy
import Derived.Test.YthhfdlhbhfkbdaaDoorSq
set_option linter.unusedVariables false
set_option linter.unusedSimpArgs false
set_option linter.unusedSectionVars false
namespace Go.Proofs.YthhfdlhbhfkbdaaDoor
open Go Go.VM
set_option maxRecDepth 100000
set_option maxHeartbeats 8000000
theorem light_fit {v : EnvL} (h : lightB v = true) : Fit v := by
  simp only [lightB, Bool.and_eq_true, decide_eq_true_eq, List.all_eq_true] at h
  obtain ⟨⟨⟨⟨⟨h1, h2⟩, h3⟩, _⟩, h4⟩, h5⟩ := h
  refine ⟨by omega, by omega, by omega, fun y hy => ?_, fun y hy => ?_⟩
  · have := h4 y hy
    simp only [shortY, Bool.and_eq_true, decide_eq_true_eq] at this
    omega
  · have := h5 y hy
    simp only [shortH, Bool.and_eq_true, decide_eq_true_eq] at this
    omega
theorem addR_len (l : List (List UInt8 × List UInt8)) (x : List UInt8 × List UInt8) : (addR l x).length ≤ l.length + 1 := by
  have := List.length_filter_le (fun y => !decide (y.1 = x.1)) l
  simp only [addR, List.length_append, List.length_singleton]
  omega
theorem addR_fit {v : EnvL} (h : lightB v = true) (x : List UInt8 × List UInt8) : Fit ⟨addR v.vars x, v.syms, v.holes⟩ := by
  have hf := light_fit h
  refine ⟨?_, hf.syms, hf.holes, hf.args, hf.params⟩
  have := addR_len v.vars x
  simp only [lightB, Bool.and_eq_true, decide_eq_true_eq] at h
  simp only
  omega
theorem varR_add_self (l : List (List UInt8 × List UInt8)) (x : List UInt8 × List UInt8) : varR x.1 (addR l x) = (x.2, true) := by simp [varR, addR]
theorem varR_add_ne {n : List UInt8} {l : List (List UInt8 × List UInt8)} {x : List UInt8 × List UInt8} (h : ¬ n = x.1) : varR n (addR l x) = varR n l := by
  have hx : ¬ x.1 = n := fun e => h e.symm
  unfold varR addR
  rw [List.reverse_append, List.reverse_cons, List.reverse_nil, List.nil_append, List.singleton_append, List.find?_cons]
  simp only [hx, decide_false]
  rw [← List.filter_reverse]
  have hfun : ∀ l : List (List UInt8 × List UInt8), (l.filter fun y => !decide (y.1 = x.1)).find? (fun y => decide (y.1 = n)) = l.find? fun y => decide (y.1 = n) := by
    intro l
    induction l with
    | nil => rfl
    | cons a l ih =>
      by_cases ha : a.1 = n
      · have : ¬ a.1 = x.1 := fun e => h (ha ▸ e)
        simp [ha, h]
      · by_cases hb : a.1 = x.1
        · simp [hb, hx, ih]
        · simp [hb, ha, ih]
  rw [hfun]
theorem varsGo_ok : ∀ (l : List (List UInt8 × List UInt8)) (seen : List (List UInt8)), varsGo seen l = 0 ↔ (∀ x ∈ l, vnB x.1 = true ∧ sortB x.2 = true ∧ ¬ x.1 ∈ seen) ∧ (l.map (·.1)).Nodup
  | [], seen => by simp [varsGo]
  | x :: r, seen => by
    have ih := varsGo_ok r (seen ++ [x.1])
    unfold varsGo
    cases h1 : vnB x.1
    · simp [h1]
    by_cases h2 : x.1 ∈ seen
    · simp [h2]
    cases h3 : sortB x.2
    · simp [h2, h3]
    simp only [h2, h1, h3, Bool.true_eq_false, if_false, ih, List.mem_cons, forall_eq_or_imp, List.map_cons, List.nodup_cons, List.mem_append, List.mem_map, not_or, List.mem_singleton, true_and, not_false_eq_true, List.not_mem_nil]
    constructor
    · rintro ⟨q1, q2⟩
      refine ⟨fun a ha => ⟨(q1 a ha).1, (q1 a ha).2.1, (q1 a ha).2.2.1⟩, ?_, q2⟩
      rintro ⟨a, ha, he⟩
      exact (q1 a ha).2.2.2.1 he
    · rintro ⟨q1, q2, q3⟩
      exact ⟨fun a ha => ⟨(q1 a ha).1, (q1 a ha).2.1, (q1 a ha).2.2, fun he => q2 ⟨a, ha, he⟩, by simp⟩, q3⟩
theorem vars_grow {l : List (List UInt8 × List UInt8)} {x : List UInt8 × List UInt8} (h : varsE l = 0) (h1 : vnB x.1 = true) (h2 : sortB x.2 = true) : varsE (addR l x) = if (addR l x).length ≤ 24 then 0 else 7 := by
  unfold varsE at h ⊢
  by_cases hl : 24 < l.length
  · simp [hl] at h
  simp only [hl, if_false] at h
  by_cases hl' : (addR l x).length ≤ 24
  · rw [if_neg (by omega), if_pos hl']
    obtain ⟨q1, q2⟩ := (varsGo_ok _ _).1 h
    refine (varsGo_ok _ _).2 ⟨fun y hy => ?_, ?_⟩
    · simp only [addR, List.mem_append, List.mem_filter, List.mem_singleton] at hy
      rcases hy with ⟨hy, _⟩ | rfl
      · exact q1 y hy
      · exact ⟨h1, h2, by simp⟩
    · simp only [addR, List.map_append, List.map_cons, List.map_nil]
      refine List.nodup_append.2 ⟨(List.filter_sublist.map _).nodup q2, by simp, fun a ha b hb hab => ?_⟩
      simp only [List.mem_map, List.mem_filter, List.mem_singleton] at ha hb
      obtain ⟨y, ⟨_, hy⟩, rfl⟩ := ha
      subst hb
      simp [hab] at hy
  · rw [if_pos (by omega), if_neg hl']
theorem symsGo_mem : ∀ {l : List SymL} {seen : List (List UInt8)}, symsGo seen l = 0 → ∀ y ∈ l, symE y = 0
  | x :: r, seen, h, y, hy => by
    unfold symsGo at h
    split at h
    · rename_i h0
      split at h
      · cases h
      · rcases List.mem_cons.1 hy with rfl | hy
        · exact h0
        · exact symsGo_mem h y hy
    · rename_i h0; exact absurd h h0
theorem holesGo_mem : ∀ {l : List HoleL} {seen : List (List UInt8)}, holesGo seen l = 0 → ∀ y ∈ l, coreB y.name = true ∧ ¬ y.params.length = 0 ∧ varsE y.params = 0
  | x :: r, seen, h, y, hy => by
    unfold holesGo at h
    split at h
    · cases h
    · rename_i hc
      split at h
      · cases h
      · split at h
        · cases h
        · rename_i hp
          split at h
          · rename_i hv
            rcases List.mem_cons.1 hy with rfl | hy
            · exact ⟨by simpa using hc, hp, hv⟩
            · exact holesGo_mem h y hy
          · rename_i hv; exact absurd h hv
theorem env_parts {v : EnvL} (h : envE v = 0) : varsE v.vars = 0 ∧ symsE v.syms = 0 ∧ holesE v.holes = 0 := by
  unfold envE at h
  split at h
  · rename_i h1
    split at h
    · rename_i h2; exact ⟨h1, h2, h⟩
    · rename_i h2; exact absurd h h2
  · rename_i h1; exact absurd h h1
theorem var_sort {v : EnvL} (h : envE v = 0) {n : List UInt8} (hf : (varR n v.vars).2 = true) : sortB (varR n v.vars).1 = true := by
  have h1 := (env_parts h).1
  unfold varsE at h1
  split at h1
  · cases h1
  obtain ⟨q, _⟩ := (varsGo_ok _ _).1 h1
  unfold varR at hf ⊢
  split
  · rename_i x hx
    exact (q x (by simpa using List.mem_of_find?_eq_some hx)).2.1
  · rename_i hx; rw [hx] at hf; cases hf
theorem sym_right {v : EnvL} (h : envE v = 0) {n : List UInt8} (hf : (symR n v.syms).2 = true) (h1 : ¬ n = [116, 97, 103]) (h2 : ¬ n = [118, 97, 108]) : symE (symR n v.syms).1 = 0 := by
  have h3 := (env_parts h).2.1
  unfold symsE at h3
  split at h3
  · cases h3
  simp only [symR, h1, h2, if_false] at hf ⊢
  unfold symGo at hf ⊢
  split
  · rename_i x hx
    exact symsGo_mem h3 x (List.mem_of_find?_eq_some hx)
  · rename_i hx; rw [hx] at hf; cases hf
theorem hole_right {v : EnvL} (h : envE v = 0) {n : List UInt8} (hf : (holeR n v.holes).2 = true) : envE ⟨[], [], [(holeR n v.holes).1]⟩ = 0 ∧ coreB n = true := by
  have h3 := (env_parts h).2.2
  unfold holesE at h3
  split at h3
  · cases h3
  unfold holeR at hf ⊢
  split
  · rename_i x hx
    obtain ⟨q1, q2, q3⟩ := holesGo_mem h3 x (List.mem_of_find?_eq_some hx)
    have hn : x.name = n := by simpa using List.find?_some hx
    refine ⟨?_, hn ▸ q1⟩
    have e1 : varsE [] = 0 := rfl
    have e2 : symsE [] = 0 := rfl
    have e3 : holesE [x] = 0 := by simp [holesE, holesGo, q1, q2, q3]
    simp [envE, e1, e2, e3]
  · rename_i hx; rw [hx] at hf; cases hf
theorem short_one (x : List UInt8 × List UInt8) : varsC [x] = [[.str x.1, .str x.2]] := rfl
theorem holes_one (x : HoleL) : holesC [x] = [[.str x.name, .sl (varsC x.params)]] := rfl
end Go.Proofs.YthhfdlhbhfkbdaaDoor
