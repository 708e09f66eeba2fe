/- Bounds: instances of accepted bounds are right. No condition. -/
import Derived.Test.YthikbenglkfioaaGreatDoorBk
set_option linter.unusedVariables false
set_option linter.unusedSimpArgs false
set_option linter.unusedSectionVars false
namespace Go.Proofs.YthikbenglkfioaaGreatDoor
open Go Go.VM
set_option maxRecDepth 100000
set_option maxHeartbeats 4000000
/-- What is put in for a variable. -/
def argP (x : Vr) (n k : Int) : Pr := if x.2 = sInt then ⟨1, [], n, []⟩ else if x.2 = sBool then ⟨2, [], k, []⟩ else ⟨3, x.1, 0, []⟩
def argsL (f g : Nat → Int) : Nat → List Vr → List Pr
  | _, [] => []
  | i, x :: r => argP x (f i) (g i) :: argsL f g (i + 1) r
def restB (x : Vr) : Bool := !decide (x.2 = sInt) && !decide (x.2 = sBool)
def restV (l : List Vr) : List Vr := l.filter restB
theorem argsL_len (f g : Nat → Int) : ∀ (i : Nat) (l : List Vr), (argsL f g i l).length = l.length
  | _, [] => rfl
  | i, x :: r => by simp [argsL, argsL_len f g (i + 1) r]
theorem argsL_get (f g : Nat → Int) : ∀ (j : Nat) (l : List Vr) (i : Nat) (h : i < l.length), (argsL f g j l)[i]? = some (argP l[i] (f (j + i)) (g (j + i)))
  | j, x :: r, 0, h => by simp [argsL]
  | j, x :: r, i + 1, h => by
    have := argsL_get f g (j + 1) r i (by simpa using h)
    simp only [argsL, List.getElem?_cons_succ, List.getElem_cons_succ]
    rw [this, show j + 1 + i = j + (i + 1) by omega]
theorem argsL_app (f g : Nat → Int) : ∀ (j : Nat) (a b : List Vr), argsL f g j (a ++ b) = argsL f g j a ++ argsL f g (j + a.length) b
  | j, [], b => by simp [argsL]
  | j, x :: a, b => by
    simp only [List.cons_append, argsL, argsL_app f g (j + 1) a b, List.length_cons]
    rw [show j + 1 + a.length = j + (a.length + 1) by omega]
theorem argsL_mem (f g : Nat → Int) {l : List Vr} {j : Nat} {u : Pr} (h : u ∈ argsL f g j l) : ∃ x ∈ l, ∃ i, u = argP x (f i) (g i) := by
  induction l generalizing j with
  | nil => cases h
  | cons x r ih =>
    rcases List.mem_cons.1 h with rfl | h
    · exact ⟨x, .head _, j, rfl⟩
    · obtain ⟨y, hy, i, e⟩ := ih h
      exact ⟨y, .tail _ hy, i, e⟩
theorem argP_nod (x : Vr) (n k : Int) : nodP (argP x n k) = 1 := by
  unfold argP
  split
  · rfl
  · split <;> rfl
theorem argP_dep (x : Vr) (n k : Int) : depP (argP x n k) = 1 := by
  unfold argP
  split
  · rfl
  · split <;> rfl
/-! ### Names -/
theorem nodup_at2 {l : List Nm} (hd : l.Nodup) {i j : Nat} (hi : i < l.length) (hj : j < l.length) (h : l[i] = l[j]) : i = j := by
  rcases Nat.lt_trichotomy i j with q | q | q
  · exact absurd h (List.pairwise_iff_getElem.1 hd i j hi hj q)
  · exact q
  · exact absurd h.symm (List.pairwise_iff_getElem.1 hd j i hj hi q)
theorem varR_nodup {l : List Vr} (hd : (l.map (·.1)).Nodup) {x : Vr} (hx : x ∈ l) : varR x.1 l = (x.2, true) := by
  unfold varR
  have : l.reverse.find? (fun y => decide (y.1 = x.1)) = some x := by
    cases hf : l.reverse.find? (fun y => decide (y.1 = x.1)) with
    | none =>
      have := List.find?_eq_none.1 hf x (by simpa using hx)
      simp at this
    | some y =>
      have h1 := List.find?_some hf
      have h2 := List.mem_of_find?_eq_some hf
      simp only [decide_eq_true_eq] at h1
      have h3 : y ∈ l := by simpa using h2
      obtain ⟨i, hi, e1⟩ := List.mem_iff_getElem.1 hx
      obtain ⟨j, hj, e2⟩ := List.mem_iff_getElem.1 h3
      have : i = j := by
        have q : (l.map (·.1))[i]'(by simpa using hi) = (l.map (·.1))[j]'(by simpa using hj) := by simp [e1, e2, h1]
        exact nodup_at2 hd _ _ q
      subst this
      rw [← e1, ← e2]
  rw [this]
theorem varR_found {l : List Vr} {nm : Nm} (h : (varR nm l).2 = true) : ∃ x ∈ l, x.1 = nm := by
  unfold varR at h
  split at h
  · rename_i y hy
    have h1 := List.find?_some hy
    have h2 := List.mem_of_find?_eq_some hy
    exact ⟨y, by simpa using h2, by simpa using h1⟩
  · cases h
theorem findI_nodup {l : List Vr} (hd : (l.map (·.1)).Nodup) {i : Nat} (h : i < l.length) : findI l[i].1 (l.map (·.1)) 0 = (i : Int) := by
  have h' : i < (l.map (·.1)).length := by simpa using h
  have := (findI_first l[i].1 (l.map (·.1)) 0 i h' (by simp)).2 (fun hm => by
    obtain ⟨j, hj, e⟩ := List.mem_iff_getElem.1 hm
    have hji : j < i := by simp at hj; omega
    have q : (l.map (·.1))[j]'(by simp; omega) = (l.map (·.1))[i]'h' := by
      have e2 : ((l.map (·.1)).take i)[j] = (l.map (·.1))[j]'(by simp; omega) := by simp
      rw [← e2, e]; simp
    have := nodup_at2 hd _ _ q
    omega)
  simpa using this
theorem withL_nodup : ∀ (l : List Vr) (pre : List Vr) (sy : List SymL) (ho : List HoleL), ((pre ++ l).map (·.1)).Nodup → withL ⟨pre, sy, ho⟩ l = ⟨pre ++ l, sy, ho⟩
  | [], pre, sy, ho, _ => by simp [withL]
  | x :: r, pre, sy, ho, hd => by
    have hx : withR ⟨pre, sy, ho⟩ x = ⟨pre ++ [x], sy, ho⟩ := by
      unfold withR addR
      have : pre.filter (fun y => !decide (y.1 = x.1)) = pre := List.filter_eq_self.2 fun y hy => by
        simp only [Bool.not_eq_true', decide_eq_false_iff_not]
        intro e
        rw [List.map_append, List.nodup_append] at hd
        exact hd.2.2 y.1 (List.mem_map.2 ⟨y, hy, rfl⟩) x.1 (by simp) e
      rw [this]
    have ih := withL_nodup r (pre ++ [x]) sy ho (by simpa using hd)
    show withL (withR ⟨pre, sy, ho⟩ x) r = _
    rw [hx, ih]
    simp
/-! ### Sorts -/
theorem nodeS_same {v v' : EnvL} (hs : v.syms = v'.syms) (hh : v.holes = v'.holes) {op : Int} (h3 : op ≠ 3) (nm : Nm) (ks : List Nm) : nodeS v op nm ks = nodeS v' op nm ks := by
  unfold nodeS appS holS
  rw [if_neg h3, if_neg h3, hs, hh]
section
variable {vars : List Vr} {sy : List SymL} {f g : Nat → Int}
theorem sub_var (hd : (vars.map (·.1)).Nodup) {nm : Nm} (h : (varR nm vars).2 = true) (k : Int) (l : List Pr) :
    ∃ (i : Nat) (hi : i < vars.length), vars[i].1 = nm ∧ varR nm vars = (vars[i].2, true) ∧ substP (vars.map (·.1)) (argsL f g 0 vars) ⟨3, nm, k, l⟩ = argP vars[i] (f i) (g i) := by
  obtain ⟨x, hx, rfl⟩ := varR_found h
  obtain ⟨i, hi, rfl⟩ := List.mem_iff_getElem.1 hx
  refine ⟨i, hi, rfl, varR_nodup hd hx, ?_⟩
  have hp : pickP (vars.map (·.1)) (argsL f g 0 vars) 3 vars[i].1 = some (argP vars[i] (f i) (g i)) := by
    unfold pickP
    rw [findI_nodup hd hi, if_pos ⟨rfl, by omega⟩]
    have := argsL_get f g 0 vars i hi
    simpa using this
  rw [substP_eq, hp]
theorem rest_var (hd : (vars.map (·.1)).Nodup) {i : Nat} (hi : i < vars.length) : ofM ⟨restV vars, sy, []⟩ (argP vars[i] (f i) (g i)) = (vars[i].2, 0) := by
  unfold argP
  split
  · rename_i h
    simp [ofM, ofMs, nodeS, h]
  · rename_i h1
    split
    · rename_i h
      simp [ofM, ofMs, nodeS, h]
    · rename_i h2
      have hm : vars[i] ∈ restV vars := List.mem_filter.2 ⟨List.getElem_mem hi, by simp [restB, h1, h2]⟩
      have hdr : ((restV vars).map (·.1)).Nodup := List.Nodup.sublist (List.Sublist.map _ List.filter_sublist) hd
      have := varR_nodup hdr hm
      simp [ofM, ofMs, nodeS, this]
theorem sub_other {p : Pr} {ns : List Nm} {bys : List Pr} (h3 : p.op ≠ 3) : substP ns bys p = ⟨p.op, p.name, p.n, substPs ns bys p.kids⟩ := by
  rw [substP_eq]
  have : pickP ns bys p.op p.name = none := by
    unfold pickP
    rw [if_neg fun h => h3 h.1]
  rw [this, substPs_eq]
mutual
theorem ofM_args (hd : (vars.map (·.1)).Nodup) : ∀ p : Pr, (ofM ⟨vars, sy, []⟩ p).2 = 0 → ofM ⟨restV vars, sy, []⟩ (substP (vars.map (·.1)) (argsL f g 0 vars) p) = ofM ⟨vars, sy, []⟩ p
  | ⟨op, nm, n, l⟩, h => by
    rw [ofM] at h ⊢
    cases hk : ofMs ⟨vars, sy, []⟩ l with
    | error e =>
      rw [hk] at h
      simp only at h
      have := ofMs_err hk
      exact absurd h this
    | ok ks =>
      rw [hk] at h
      simp only at h ⊢
      by_cases h3 : op = 3
      · subst h3
        have hv : (varR nm vars).2 = true := by
          simp only [nodeS, if_neg (show ¬ (3 : Int) = 1 by decide), if_neg (show ¬ (3 : Int) = 2 by decide), if_true] at h
          cases hx : (varR nm vars).2
          · rw [hx] at h; simp at h
          · rfl
        obtain ⟨i, hi, e1, e2, e3⟩ := sub_var (f := f) (g := g) hd hv n l
        rw [e3, rest_var hd hi]
        simp [nodeS, e2]
      · rw [sub_other (p := ⟨op, nm, n, l⟩) h3, ofM, ofMs_args hd l ks hk]
        simp only
        exact nodeS_same (v := ⟨restV vars, sy, []⟩) (v' := ⟨vars, sy, []⟩) rfl rfl h3 nm ks
theorem ofMs_args (hd : (vars.map (·.1)).Nodup) : ∀ (l : List Pr) (ks : List Nm), ofMs ⟨vars, sy, []⟩ l = .ok ks → ofMs ⟨restV vars, sy, []⟩ (substPs (vars.map (·.1)) (argsL f g 0 vars) l) = .ok ks
  | [], ks, h => by simpa [substPs, ofMs] using h
  | t :: r, ks, h => by
    rw [ofMs] at h
    split at h
    · rename_i h0
      split at h
      · rename_i js hj
        cases h
        rw [substPs, ofMs, ofM_args hd t h0, if_pos h0, ofMs_args hd r js hj]
      · cases h
    · cases h
theorem ofMs_err {v : EnvL} : ∀ {l : List Pr} {e : Int}, ofMs v l = .error e → e ≠ 0
  | [], e, h => by simp [ofMs] at h
  | t :: r, e, h => by
    rw [ofMs] at h
    split at h
    · split at h
      · cases h
      · rename_i e' he
        cases h
        exact ofMs_err he
    · rename_i h0
      cases h
      exact h0
end
end
/-! ### Shapes -/
theorem argP_good {x : Vr} (hx : coreB x.1 = true) {n k : Int} (hn : -128 ≤ n ∧ n ≤ 127) (hk : k = 0 ∨ k = 1) : GoodP (argP x n k) := by
  have leaf : ∀ (op : Int) (nm : Nm) (m : Int), nodeE ⟨op, nm, m, []⟩ = 0 → GoodP ⟨op, nm, m, []⟩ := fun op nm m h q hq => by
    rw [preP_eq] at hq
    simp [prePs] at hq
    subst hq
    exact h
  have hb : inB n = true := inB_iff.2 (by omega)
  unfold argP
  split
  · refine leaf _ _ _ ?_
    simp [nodeE, argE, rangeE, leastK, mostK, namB, hb]
  · split
    · refine leaf _ _ _ ?_
      rcases hk with rfl | rfl <;> simp [nodeE, argE, rangeE, leastK, mostK, namB]
    · refine leaf _ _ _ ?_
      simp [nodeE, argE, rangeE, leastK, mostK, namB, hx]
theorem good_of_kids {p : Pr} (h : nodeE p = 0) (hk : ∀ k ∈ p.kids, GoodP k) : GoodP p := fun q hq => by
  rw [preP_eq] at hq
  rcases List.mem_cons.1 hq with rfl | hq
  · exact h
  · have : ∀ {l : List Pr}, (∀ k ∈ l, GoodP k) → q ∈ prePs l → nodeE q = 0 := by
      intro l
      induction l with
      | nil => intro _ h; cases h
      | cons t r ih =>
        intro hl h
        simp only [prePs, List.mem_append] at h
        rcases h with h | h
        · exact hl t (.head _) q h
        · exact ih (fun k hk => hl k (.tail _ hk)) h
    exact this hk hq
theorem sub_op {ns : List Nm} {bys : List Pr} {p : Pr} (h : p.op = 1) : (substP ns bys p).op = 1 := by
  rw [sub_other (by omega)]
  exact h
theorem headK_sub {ns : List Nm} {bys : List Pr} {l : List Pr} (h : headK l = 1) : headK (substPs ns bys l) = 1 := by
  cases l with
  | nil => rfl
  | cons t r => exact sub_op h
theorem substPs_len (ns : List Nm) (bys : List Pr) (l : List Pr) : (substPs ns bys l).length = l.length := by rw [substPs_eq]; simp
theorem nodeE_sub {ns : List Nm} {bys : List Pr} {op : Int} {nm : Nm} {n : Int} {l : List Pr} (h : nodeE ⟨op, nm, n, l⟩ = 0) : nodeE ⟨op, nm, n, substPs ns bys l⟩ = 0 := by
  unfold nodeE at h ⊢
  simp only [substPs_len] at h ⊢
  split at h
  · rename_i q; rw [if_pos q]; exact h
  rename_i q1
  rw [if_neg q1]
  split at h
  · rename_i q; rw [if_pos q]; exact h
  rename_i q2
  rw [if_neg q2]
  split at h
  · rename_i q; rw [if_pos q]; exact h
  rename_i q3
  rw [if_neg q3]
  split at h
  · rename_i q; rw [if_pos q]; exact h
  rename_i q4
  rw [if_neg q4]
  split at h
  · cases h
  rename_i q5
  rw [if_neg fun hh => q5 ⟨hh.1, fun e => hh.2 (headK_sub e)⟩]
mutual
theorem good_sub {ns : List Nm} {bys : List Pr} (hb : ∀ u ∈ bys, GoodP u) : ∀ p : Pr, GoodP p → GoodP (substP ns bys p)
  | ⟨op, nm, n, l⟩, h => by
    rw [substP]
    split
    · rename_i u hu
      refine hb u ?_
      unfold pickP at hu
      split at hu
      · exact List.mem_of_getElem? hu
      · cases hu
    · exact good_of_kids (nodeE_sub h.self) (goods_sub hb l fun k hk => h.kid hk)
theorem goods_sub {ns : List Nm} {bys : List Pr} (hb : ∀ u ∈ bys, GoodP u) : ∀ l : List Pr, (∀ k ∈ l, GoodP k) → ∀ k ∈ substPs ns bys l, GoodP k
  | [], _, k, hk => by rw [substPs] at hk; cases hk
  | t :: r, h, k, hk => by
    rw [substPs] at hk
    rcases List.mem_cons.1 hk with rfl | hk
    · exact good_sub hb t (h t (.head _))
    · exact goods_sub hb r (fun k hk => h k (.tail _ hk)) k hk
end
theorem depP_pos (p : Pr) : 1 ≤ depP p := by rw [depP_eq]; omega
mutual
theorem dep_sub {ns : List Nm} {bys : List Pr} (hb : ∀ u ∈ bys, depP u = 1) : ∀ p : Pr, depP (substP ns bys p) ≤ depP p
  | ⟨op, nm, n, l⟩ => by
    rw [substP]
    split
    · rename_i u hu
      have hm : u ∈ bys := by
        unfold pickP at hu
        split at hu
        · exact List.mem_of_getElem? hu
        · cases hu
      rw [hb u hm]
      exact depP_pos _
    · have := deps_sub (ns := ns) hb l 0 0 (Nat.le_refl _)
      rw [depP_eq, depP_eq]
      simp only
      omega
theorem deps_sub {ns : List Nm} {bys : List Pr} (hb : ∀ u ∈ bys, depP u = 1) : ∀ (l : List Pr) (n m : Nat), n ≤ m → depPs (substPs ns bys l) n ≤ depPs l m
  | [], n, m, h => by simpa [substPs, depPs] using h
  | t :: r, n, m, h => by
    have h1 := dep_sub (ns := ns) hb t
    rw [substPs, depPs, depPs]
    exact deps_sub hb r _ _ (by omega)
end
/-! ### Instances -/
theorem bool_parts {v : EnvL} {p : Pr} (h : boolE v p = 0) : p = zerP ∨ (nodP p ≤ 400 ∧ GoodP p ∧ ofM v p = (sBool, 0)) := by
  unfold boolE at h
  split at h
  · rename_i h0; exact .inl h0
  · right
    split at h
    · rename_i h1
      split at h
      · rename_i h2
        unfold ofE at h1 h2
        split at h1
        · rename_i h3
          rw [if_pos h3] at h2
          refine ⟨?_, good_of h3, Prod.ext h2 h1⟩
          unfold chkE chkP at h3
          split at h3
          · omega
          · omega
        · rename_i h3; exact absurd h1 h3
      · cases h
    · rename_i h1; exact absurd h h1
theorem whole_parts {v : EnvL} {p : Pr} (h : boolE v p = 0) : GoodP (wholeP p) ∧ ofM v (wholeP p) = (sBool, 0) := by
  have ht : GoodP truP := good_of_kids (by decide) (by simp [truP])
  rcases bool_parts h with rfl | ⟨_, h2, h3⟩
  · exact ⟨ht, by simp [wholeP, truP, ofM, ofMs, nodeS]⟩
  · unfold wholeP
    split
    · exact ⟨ht, by simp [truP, ofM, ofMs, nodeS]⟩
    · exact ⟨h2, h3⟩
theorem whole_dep (p : Pr) : depP (wholeP p) ≤ depP p := by
  unfold wholeP
  split
  · exact depP_pos p
  · exact Nat.le_refl _
theorem bnd_parts {v : EnvL} {b : Bd} (h : bndE v b = 0) : 1 ≤ b.vars.length ∧ b.vars.length ≤ 6 ∧ (∀ x ∈ b.vars, coreB x.1 = true) ∧ (b.vars.map (·.1)).Nodup ∧ boolE (withL v b.vars) b.hyp = 0 ∧ boolE (withL v b.vars) b.goal = 0 := by
  unfold bndE at h
  split at h
  · cases h
  rename_i c1
  split at h
  · cases h
  rename_i c2
  split at h
  · cases h
  rename_i c3
  split at h
  · rename_i c4
    unfold sortsE at c4
    split at c4
    · exact absurd rfl c4
    · cases h
  split at h
  · rename_i c5
    refine ⟨by omega, by omega, fun x hx => ?_, Classical.not_not.1 c3, c5, h⟩
    have c2' : (bdN b).all coreB = true := by simpa using c2
    exact List.all_eq_true.1 c2' x.1 (List.mem_map.2 ⟨x, hx, rfl⟩)
  · rename_i c5
    exact absurd h c5
theorem fits_right {sy : List SymL} {b : Bd} {f g : Nat → Int} (h : bndE ⟨[], sy, []⟩ b = 0) (hf : ∀ i, -128 ≤ f i ∧ f i ≤ 127) (hg : ∀ i, g i = 0 ∨ g i = 1) (n1 : nodP b.hyp ≤ 40) (n2 : nodP b.goal ≤ 40) (d1 : depP b.hyp ≤ 20) (d2 : depP b.goal ≤ 20) :
    nodP (instP b (argsL f g 0 b.vars)) ≤ 400 ∧ boolE ⟨restV b.vars, sy, []⟩ (instP b (argsL f g 0 b.vars)) = 0 := by
  obtain ⟨_, _, hc, hd, e1, e2⟩ := bnd_parts h
  rw [withL_nodup b.vars [] sy [] (by simpa using hd), List.nil_append] at e1 e2
  obtain ⟨g1, s1⟩ := whole_parts e1
  obtain ⟨g2, s2⟩ := whole_parts e2
  have hleaf : ∀ u ∈ argsL f g 0 b.vars, nodP u = 1 := fun u hu => by
    obtain ⟨x, _, i, rfl⟩ := argsL_mem f g hu
    exact argP_nod _ _ _
  have hdep : ∀ u ∈ argsL f g 0 b.vars, depP u = 1 := fun u hu => by
    obtain ⟨x, _, i, rfl⟩ := argsL_mem f g hu
    exact argP_dep _ _ _
  have hgood : ∀ u ∈ argsL f g 0 b.vars, GoodP u := fun u hu => by
    obtain ⟨x, hx, i, rfl⟩ := argsL_mem f g hu
    exact argP_good (hc x hx) (hf i) (hg i)
  have q1 := ofM_args (sy := sy) (f := f) (g := g) hd (wholeP b.hyp) (by rw [s1])
  have q2 := ofM_args (sy := sy) (f := f) (g := g) hd (wholeP b.goal) (by rw [s2])
  rw [s1] at q1
  rw [s2] at q2
  have a1 := subst_nod (ns := bdN b) hleaf (wholeP b.hyp)
  have a2 := subst_nod (ns := bdN b) hleaf (wholeP b.goal)
  have b1 := whole_nod b.hyp
  have b2 := whole_nod b.goal
  have c1 := dep_sub (ns := bdN b) hdep (wholeP b.hyp)
  have c2 := dep_sub (ns := bdN b) hdep (wholeP b.goal)
  have c3 := whole_dep b.hyp
  have c4 := whole_dep b.goal
  have hnod : nodP (instP b (argsL f g 0 b.vars)) ≤ 400 := by
    unfold instP
    simp only [nodP, nodPs]
    omega
  refine ⟨hnod, ?_⟩
  have hchk : chkE (instP b (argsL f g 0 b.vars)) = 0 := by
    unfold chkE chkP
    rw [if_neg (by omega), if_neg (by
      unfold instP
      rw [depP_eq]
      simp only [depPs]
      omega)]
    refine firstE_zero ?_
    refine good_of_kids ?_ ?_
    · unfold instP
      simp [nodeE, argE, rangeE, leastK, mostK, namB]
    · intro k hk
      simp only [instP, List.mem_cons, List.not_mem_nil, or_false] at hk
      rcases hk with rfl | rfl
      · exact good_sub hgood _ g1
      · exact good_sub hgood _ g2
  have hof : ofM ⟨restV b.vars, sy, []⟩ (instP b (argsL f g 0 b.vars)) = (sBool, 0) := by
    unfold instP
    rw [ofM]
    simp [ofMs, q1, q2, nodeS, opS, allS]
  unfold boolE
  split
  · rfl
  · rw [ofE, if_pos hchk, hof]
    rfl
end Go.Proofs.YthikbenglkfioaaGreatDoor
