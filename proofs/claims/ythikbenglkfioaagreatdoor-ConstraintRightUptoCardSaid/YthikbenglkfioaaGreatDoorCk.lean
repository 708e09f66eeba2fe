/- Constraints: the clauses of an accepted constraint are right. No condition. -/
import Derived.Test.YthikbenglkfioaaGreatDoorCja
set_option linter.unusedVariables false
set_option linter.unusedSimpArgs false
set_option linter.unusedSectionVars false
namespace Go.Proofs.YthikbenglkfioaaGreatDoor
open Go Go.VM
set_option maxRecDepth 100000
set_option maxHeartbeats 4000000
/-! ### One more variable, of another name -/
def addE (v : EnvL) (x s : Nm) : EnvL := ⟨v.vars ++ [(x, s)], v.syms, v.holes⟩
theorem varR_mem {nm : Nm} {l : List (Nm × Nm)} (h : (varR nm l).2 = true) : ∃ y ∈ l, y.1 = nm := by
  unfold varR at h
  split at h
  · rename_i y hy
    have h1 := List.find?_some hy
    have h2 := List.mem_of_find?_eq_some hy
    exact ⟨y, by simpa using h2, by simpa using h1⟩
  · simp at h
theorem varR_add {nm x s : Nm} {l : List (Nm × Nm)} (h : (varR nm l).2 = true) (hx : ∀ y ∈ l, y.1 ≠ x) : varR nm (l ++ [(x, s)]) = varR nm l := by
  obtain ⟨y, hy, he⟩ := varR_mem h
  have hne : ¬ x = nm := fun e => hx y hy (he.trans e.symm)
  unfold varR
  rw [List.reverse_append, List.reverse_cons, List.reverse_nil, List.nil_append, List.singleton_append, List.find?_cons]
  simp [hne]
theorem nodeS_add {v : EnvL} {x s : Nm} {op : Int} {nm : Nm} {ks : List Nm} (h : (nodeS v op nm ks).2 = 0) (hx : ∀ y ∈ v.vars, y.1 ≠ x) : nodeS (addE v x s) op nm ks = nodeS v op nm ks := by
  unfold nodeS at h ⊢
  by_cases h1 : op = 1
  · simp only [h1, if_true]
  by_cases h2 : op = 2
  · subst h2
    simp only [h1, if_true, if_false]
  by_cases h3 : op = 3
  · subst h3
    simp only [h1, h2, if_true, if_false] at h ⊢
    cases hv : (varR nm v.vars).2
    · simp [hv] at h
    · have := varR_add (s := s) hv hx
      simp only [addE, this, hv, if_true]
  · simp only [h1, h2, h3, if_false]
    rfl
mutual
theorem ofM_add {v : EnvL} {x s : Nm} (hx : ∀ y ∈ v.vars, y.1 ≠ x) : ∀ p : Pr, (ofM v p).2 = 0 → ofM (addE v x s) p = ofM v p
  | ⟨op, nm, n, l⟩, h => by
    rw [ofM] at h ⊢
    rw [ofM]
    cases hk : ofMs v l with
    | ok ks =>
      rw [hk] at h
      rw [ofMs_add hx l ks hk]
      simp only at h ⊢
      exact nodeS_add h hx
    | error e =>
      rw [hk] at h
      simp only at h
      exact absurd h (ofMs_err l e hk)
theorem ofMs_add {v : EnvL} {x s : Nm} (hx : ∀ y ∈ v.vars, y.1 ≠ x) : ∀ (l : List Pr) (ks : List Nm), ofMs v l = .ok ks → ofMs (addE v x s) l = .ok ks
  | [], ks, h => by
    rw [ofMs] at h ⊢
    exact h
  | t :: r, ks, h => by
    rw [ofMs] at h ⊢
    by_cases h0 : (ofM v t).2 = 0
    · have e := ofM_add (s := s) hx t h0
      rw [if_pos h0] at h
      rw [e, if_pos h0]
      cases hk : ofMs v r with
      | ok js =>
        rw [hk] at h
        rw [ofMs_add hx r js hk]
        exact h
      | error e =>
        rw [hk] at h
        simp at h
    · rw [if_neg h0] at h
      simp at h
theorem ofMs_err {v : EnvL} : ∀ (l : List Pr) (e : Int), ofMs v l = .error e → ¬ e = 0
  | [], e, h => by rw [ofMs] at h; cases h
  | t :: r, e, h => by
    rw [ofMs] at h
    by_cases h0 : (ofM v t).2 = 0
    · rw [if_pos h0] at h
      cases hk : ofMs v r with
      | ok js => rw [hk] at h; simp at h
      | error e2 =>
        rw [hk] at h
        simp only [Except.error.injEq] at h
        rw [← h]
        exact ofMs_err r e2 hk
    · rw [if_neg h0] at h
      simp only [Except.error.injEq] at h
      rw [← h]
      exact h0
end
theorem boolE_zero {v : EnvL} {p : Pr} (h : boolE v p = 0) : p = zerP ∨ (chkE p = 0 ∧ ofM v p = (sBool, 0)) := by
  unfold boolE at h
  split at h
  · rename_i h0
    exact .inl h0
  · right
    split at h
    · rename_i h1
      split at h
      · rename_i h2
        unfold ofE at h1 h2
        by_cases h3 : chkE p = 0
        · rw [if_pos h3] at h1 h2
          exact ⟨h3, Prod.ext h2 h1⟩
        · rw [if_neg h3] at h1
          exact absurd h1 h3
      · simp at h
    · rename_i h1
      exact absurd h h1
theorem boolE_of {v : EnvL} {p : Pr} (h : p = zerP ∨ (chkE p = 0 ∧ ofM v p = (sBool, 0))) : boolE v p = 0 := by
  unfold boolE
  rcases h with h | ⟨h1, h2⟩
  · rw [if_pos h]
  · by_cases h0 : p = zerP
    · rw [if_pos h0]
    · rw [if_neg h0]
      have : ofE v p = (sBool, 0) := by unfold ofE; rw [if_pos h1, h2]
      rw [this]
      rfl
theorem boolE_add {v : EnvL} {x s : Nm} {p : Pr} (hx : ∀ y ∈ v.vars, y.1 ≠ x) (h : boolE v p = 0) : boolE (addE v x s) p = 0 := by
  refine boolE_of ?_
  rcases boolE_zero h with h | ⟨h1, h2⟩
  · exact .inl h
  · refine .inr ⟨h1, ?_⟩
    rw [ofM_add hx p (by rw [h2]), h2]
theorem varsGo_last {x s : Nm} : ∀ (l : List (Nm × Nm)) (seen : List Nm), varsGo seen (l ++ [(x, s)]) = 0 → x ∉ seen ∧ ∀ y ∈ l, y.1 ≠ x
  | [], seen, h => by
    simp only [List.nil_append, varsGo] at h
    refine ⟨fun hm => ?_, fun y hy => by cases hy⟩
    by_cases hv : vnB x = false
    · simp [hv] at h
    · simp [hv, hm] at h
  | a :: r, seen, h => by
    simp only [List.cons_append, varsGo] at h
    split at h
    · simp at h
    · split at h
      · simp at h
      · split at h
        · simp at h
        · obtain ⟨h1, h2⟩ := varsGo_last r _ h
          rw [List.mem_append, List.mem_singleton] at h1
          refine ⟨fun e => h1 (.inl e), fun y hy => ?_⟩
          rcases List.mem_cons.1 hy with rfl | hy
          · exact fun e => h1 (.inr e.symm)
          · exact h2 y hy
theorem envE_add {v : EnvL} {x s : Nm} (h : envE (addE v x s) = 0) : ∀ y ∈ v.vars, y.1 ≠ x := by
  unfold envE addE at h
  simp only at h
  split at h
  · rename_i h1
    unfold varsE at h1
    split at h1
    · simp at h1
    · exact (varsGo_last _ _ h1).2
  · rename_i h1
    exact absurd h h1
/-! ### Conjuncts -/
theorem firstE_of {e : Pr → Int} : ∀ {l : List Pr}, (∀ q ∈ l, e q = 0) → firstE e l = 0
  | [], _ => rfl
  | p :: r, h => by
    rw [firstE, if_pos (h p (.head _))]
    exact firstE_of fun q hq => h q (.tail _ hq)
theorem chkE_parts {p : Pr} : chkE p = 0 ↔ nodP p ≤ 400 ∧ depP p ≤ 40 ∧ GoodP p := by
  constructor
  · intro h
    refine ⟨?_, ?_, good_of h⟩
    · unfold chkE chkP at h
      split at h
      · omega
      · omega
    · unfold chkE chkP at h
      split at h
      · omega
      · split at h
        · omega
        · omega
  · rintro ⟨h1, h2, h3⟩
    unfold chkE chkP
    rw [if_neg (by omega), if_neg (by omega)]
    exact firstE_of h3
theorem chkE_kid {p k : Pr} (h : chkE p = 0) (hk : k ∈ p.kids) : chkE k = 0 := by
  obtain ⟨h1, h2, h3⟩ := chkE_parts.1 h
  have e1 := nodP_kids p
  have e2 := depP_eq p
  have e3 := depPs_mem (n := 0) hk
  have e4 : nodP k ≤ nodPs p.kids := nodPs_mem hk
  exact chkE_parts.2 ⟨by omega, by omega, h3.kid hk⟩
theorem bool_and {v : EnvL} {nm : Nm} {n : Int} {a b : Pr} (h : boolE v ⟨15, nm, n, [a, b]⟩ = 0) : boolE v a = 0 ∧ boolE v b = 0 := by
  rcases boolE_zero h with h | ⟨h1, h2⟩
  · simp [zerP] at h
  · have ca := chkE_kid h1 (k := a) (by simp)
    have cb := chkE_kid h1 (k := b) (by simp)
    rw [ofM] at h2
    cases hk : ofMs v [a, b] with
    | error e =>
      rw [hk] at h2
      simp at h2
    | ok ks =>
      rw [hk] at h2
      have h15 : nodeS v 15 nm ks = opS 15 ks := rfl
      have ho : opS 15 ks = if allS sBool ks then (sBool, 0) else ([], 11) := rfl
      simp only [h15, ho] at h2
      have hall : allS sBool ks = true := by
        by_cases hh : allS sBool ks = true
        · exact hh
        · rw [if_neg hh] at h2
          simp at h2
      simp only [ofMs] at hk
      by_cases ea : (ofM v a).2 = 0
      · by_cases eb : (ofM v b).2 = 0
        · simp only [ea, eb, if_true, Except.ok.injEq] at hk
          subst hk
          simp only [allS, List.all_cons, List.all_nil, Bool.and_true, Bool.and_eq_true, decide_eq_true_eq] at hall
          exact ⟨boolE_of (.inr ⟨ca, Prod.ext hall.1 ea⟩), boolE_of (.inr ⟨cb, Prod.ext hall.2 eb⟩)⟩
        · simp [ea, eb] at hk
      · simp [ea] at hk
theorem split_bool {v : EnvL} : ∀ p : Pr, boolE v p = 0 → ∀ q ∈ splitP p, boolE v q = 0 ∧ voidP q = false := by
  refine Pr.ind fun p ih => ?_
  intro h q hq
  by_cases hh : p.op = 15 ∧ p.kids.length = 2
  · obtain ⟨op, nm, n, l⟩ := p
    simp only at hh ih
    match l, hh with
    | [a, b], ⟨h15, _⟩ =>
      subst h15
      obtain ⟨ha, hb⟩ := bool_and h
      rw [splitP_and] at hq
      rcases List.mem_append.1 hq with hq | hq
      · exact ih a (by simp) ha q hq
      · exact ih b (by simp) hb q hq
  · rw [splitP_other hh] at hq
    cases hv : voidP p
    · rw [hv] at hq
      simp at hq
      subst hq
      exact ⟨h, hv⟩
    · rw [hv] at hq
      simp at hq
/-! ### The clauses -/
/-- A clause is right over an environment. -/
def OkCl (v : EnvL) (k : Cl) : Prop := envE ⟨v.vars ++ k.vars, v.syms, v.holes⟩ = 0 ∧ boolE ⟨v.vars ++ k.vars, v.syms, v.holes⟩ k.head = 0 ∧ ∀ p ∈ k.hyps, boolE ⟨v.vars ++ k.vars, v.syms, v.holes⟩ p = 0 ∧ voidP p = false
theorem chkCs_mem {v : EnvL} : ∀ {l : List Cn}, chkCs v l = 0 → ∀ c ∈ l, chkC v c = 0
  | a :: r, h, c, hc => by
    rw [chkCs] at h
    split at h
    · rename_i h0
      rcases List.mem_cons.1 hc with rfl | hc
      · exact h0
      · exact chkCs_mem h c hc
    · rename_i h0
      exact absurd h h0
theorem flatCs_mem {vs : List Vr} {hs : List Pr} {k : Cl} : ∀ {l : List Cn}, k ∈ flatCs l vs hs → ∃ c ∈ l, k ∈ flatC c vs hs
  | [], h => by simp [flatCs] at h
  | a :: r, h => by
    rw [flatCs] at h
    rcases List.mem_append.1 h with h | h
    · exact ⟨a, .head _, h⟩
    · obtain ⟨c, hc, h2⟩ := flatCs_mem h
      exact ⟨c, .tail _ hc, h2⟩
theorem flat_okv (v : EnvL) : ∀ (c : Cn) (vs : List Vr) (hs : List Pr), envE ⟨v.vars ++ vs, v.syms, v.holes⟩ = 0 → chkC ⟨v.vars ++ vs, v.syms, v.holes⟩ c = 0 →
    (∀ p ∈ hs, boolE ⟨v.vars ++ vs, v.syms, v.holes⟩ p = 0 ∧ voidP p = false) → ∀ k ∈ flatC c vs hs, OkCl v k := by
  refine Cn.ind fun c ih => ?_
  intro vs hs he hc hh k hk
  rw [chkC_eq] at hc
  rw [flatC_eq] at hk
  by_cases hf : formedB c.op c.name c.sort c.pred c.tag c.kids.length = true
  rotate_left
  · rw [if_neg hf] at hc
    simp at hc
  rw [if_pos hf] at hc
  by_cases h3 : c.op = 3
  · rw [if_pos h3] at hk
    have hw : withE ⟨v.vars ++ vs, v.syms, v.holes⟩ c.op c.name c.sort = ⟨v.vars ++ vs, v.syms, v.holes⟩ := by
      unfold withE
      rw [if_neg (by omega)]
    rw [hw, if_pos he] at hc
    obtain ⟨q, hq, rfl⟩ := List.mem_map.1 hk
    have hb : boolE ⟨v.vars ++ vs, v.syms, v.holes⟩ c.pred = 0 := by
      by_cases hb : boolE ⟨v.vars ++ vs, v.syms, v.holes⟩ c.pred = 0
      · exact hb
      · rw [if_neg hb] at hc
        exact absurd hc hb
    exact ⟨he, (split_bool _ hb q hq).1, hh⟩
  rw [if_neg h3] at hk
  obtain ⟨d, hd, hk⟩ := flatCs_mem hk
  have hw : withE ⟨v.vars ++ vs, v.syms, v.holes⟩ c.op c.name c.sort = ⟨v.vars ++ varsC2 c vs, v.syms, v.holes⟩ := by
    unfold withE varsC2
    by_cases h2 : c.op = 2 ∧ c.name ≠ []
    · rw [if_pos h2, if_pos h2, List.append_assoc]
    · rw [if_neg h2, if_neg h2]
  rw [hw] at hc
  have he2 : envE ⟨v.vars ++ varsC2 c vs, v.syms, v.holes⟩ = 0 := by
    by_cases he2 : envE ⟨v.vars ++ varsC2 c vs, v.syms, v.holes⟩ = 0
    · exact he2
    · rw [if_neg he2] at hc
      exact absurd hc he2
  rw [if_pos he2] at hc
  have hb : boolE ⟨v.vars ++ varsC2 c vs, v.syms, v.holes⟩ c.pred = 0 := by
    by_cases hb : boolE ⟨v.vars ++ varsC2 c vs, v.syms, v.holes⟩ c.pred = 0
    · exact hb
    · rw [if_neg hb] at hc
      exact absurd hc hb
  rw [if_pos hb] at hc
  have hold : ∀ p ∈ hs, boolE ⟨v.vars ++ varsC2 c vs, v.syms, v.holes⟩ p = 0 ∧ voidP p = false := by
    intro p hp
    obtain ⟨h1, h2⟩ := hh p hp
    refine ⟨?_, h2⟩
    unfold varsC2 at he2 ⊢
    by_cases h2 : c.op = 2 ∧ c.name ≠ []
    · rw [if_pos h2] at he2 ⊢
      rw [← List.append_assoc] at he2 ⊢
      exact boolE_add (v := ⟨v.vars ++ vs, v.syms, v.holes⟩) (envE_add (v := ⟨v.vars ++ vs, v.syms, v.holes⟩) he2) h1
    · rw [if_neg h2]
      exact h1
  refine ih d hd _ _ he2 (chkCs_mem hc d hd) (fun p hp => ?_) k hk
  unfold hypsC2 at hp
  split at hp
  · rcases List.mem_append.1 hp with hp | hp
    · exact hold p hp
    · exact split_bool _ hb p hp
  · exact hold p hp
theorem flat_right {v : EnvL} {c : Cn} (h : chkTop v c = 0) : ∀ k ∈ flatC c [] [], OkCl v k := by
  unfold chkTop at h
  split at h
  · rename_i h0
    refine flat_okv v c [] [] (by simpa using h0) (by simpa using h) (fun p hp => by cases hp)
  · rename_i h0
    exact absurd h h0
end Go.Proofs.YthikbenglkfioaaGreatDoor
