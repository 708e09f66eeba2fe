/- Unification, the reference's way: its lists of equations stay short. No condition. -/
import Derived.Test.YtcmpodbjhoeblaaDoorUi
set_option linter.unusedVariables false
set_option linter.unusedSimpArgs false
set_option linter.unusedSectionVars false
namespace Go.Proofs.YtcmpodbjhoeblaaDoor
set_option maxRecDepth 100000
set_option maxHeartbeats 4000000
mutual
/-- How deep a term is. -/
def hgt : Tm → Nat
  | .var _ => 1
  | .node _ _ l => 1 + hgts l
def hgts : List Tm → Nat
  | [] => 0
  | t :: r => max (hgt t) (hgts r)
end
theorem hgt_pos (t : Tm) : 1 ≤ hgt t := by cases t <;> simp [hgt]
theorem hgt_mem {t : Tm} : ∀ {l : List Tm}, t ∈ l → hgt t ≤ hgts l
  | a :: r, h => by
    simp only [hgts]
    rcases List.mem_cons.1 h with rfl | h
    · omega
    · have := hgt_mem h
      omega
mutual
theorem hgt_one {x : Nm} {u : Tm} : ∀ t : Tm, hgt (sub (one x u) t) ≤ hgt t + hgt u
  | .var y => by
    simp only [sub, one]
    split
    · simp
    · simp [hgt]
  | .node op nm l => by
    have := hgts_one (x := x) (u := u) l
    simp only [sub, hgt]
    omega
theorem hgts_one {x : Nm} {u : Tm} : ∀ l : List Tm, hgts (subs (one x u) l) ≤ hgts l + hgt u
  | [] => by simp [subs, hgts]
  | t :: r => by
    have h1 := hgt_one (x := x) (u := u) t
    have h2 := hgts_one (x := x) (u := u) r
    simp only [subs, hgts]
    omega
end
/-- A term within another, so deep. -/
inductive At (t : Tm) : Nat → Tm → Prop
  | here : At t 0 t
  | kid {j : Nat} {k : Tm} {op : Int} {nm : Nm} {l : List Tm} : k ∈ l → At t j k → At t (j + 1) (.node op nm l)
theorem At.le_hgt {t w : Tm} {j : Nat} (h : At t j w) : j + hgt t ≤ hgt w := by
  induction h with
  | here => omega
  | kid hk _ ih =>
    have := hgt_mem hk
    simp only [hgt]
    omega
theorem subs_mem {θ : Sb} {t : Tm} : ∀ {l : List Tm}, t ∈ l → sub θ t ∈ subs θ l
  | a :: r, h => by
    rcases List.mem_cons.1 h with rfl | h
    · simp [subs]
    · simp [subs, subs_mem h]
theorem At.subst {θ : Sb} {t w : Tm} {j : Nat} (h : At t j w) : At (sub θ t) j (sub θ w) := by
  induction h with
  | here => exact .here
  | kid hk _ ih =>
    simp only [sub]
    exact .kid (subs_mem hk) ih
theorem At.deep {w k : Tm} {op : Int} {nm : Nm} {l : List Tm} {j : Nat} (h : At (.node op nm l) j w) (hk : k ∈ l) : At k (j + 1) w := by
  generalize hn : Tm.node op nm l = n at h
  induction h with
  | here => subst hn; exact .kid hk .here
  | kid hk' _ ih => exact .kid hk' ih
theorem occs_mem {y : Nm} : ∀ {l : List Tm} {t : Tm}, t ∈ l → occ y t = true → occs y l = true
  | a :: r, t, h, ho => by
    simp only [occs, Bool.or_eq_true]
    rcases List.mem_cons.1 h with rfl | h
    · exact .inl ho
    · exact .inr (occs_mem h ho)
theorem count_len (m : Nat) : ∀ (H : Nat) (js : List Nat), (∀ j ∈ js, j < H) → (∀ j, js.count j ≤ m) → js.length ≤ m * H := by
  intro H
  induction H with
  | zero =>
    intro js h _
    cases js with
    | nil => simp
    | cons a r => exact absurd (h a (by simp)) (by omega)
  | succ H ih =>
    intro js h hc
    have h1 := ih (js.filter fun j => decide (j ≠ H)) (fun j hj => by
      rw [List.mem_filter] at hj
      have := h j hj.1
      have := hj.2
      simp at this
      omega) (fun j => Nat.le_trans (List.Sublist.count_le j (List.filter_sublist ..)) (hc j))
    have h2 : js.length = (js.filter fun j => decide (j ≠ H)).length + js.count H := by
      clear ih h hc h1
      induction js with
      | nil => simp
      | cons a r ih =>
        by_cases ha : a = H
        · subst ha
          simp [ih]
          omega
        · simp [ha, ih, List.count_cons]
          omega
    have := hc H
    rw [Nat.mul_succ]
    omega
/-- What holds of the equations that are left and the solution so far. -/
structure LInv (m H : Nat) (U : List Nm) (O : List Tm) (l : List (Tm × Tm)) (s : Bd) : Prop where
  nodup : (s.map (·.1)).Nodup
  dom : ∀ x ∈ s.map (·.1), x ∈ U
  sol : ∀ x u, look s x = some u → ∀ y, occ y u = true → look s y = none
  cu : ∀ p ∈ l, CU U (sub (look s) p.1) ∧ CU U (sub (look s) p.2)
  cus : ∀ x u, look s x = some u → CU U u
  top : ∀ t ∈ O, hgt (sub (look s) t) ≤ H * 2 ^ s.length
  js : ∃ js : List Nat, js.length = l.length ∧ js.Pairwise (· ≥ ·) ∧ (∀ j, js.count j ≤ m) ∧ ∀ (i j : Nat) (p : Tm × Tm), js[i]? = some j → l[i]? = some p → (∃ t ∈ O, At (sub (look s) p.1) j (sub (look s) t)) ∧ ∃ t ∈ O, At (sub (look s) p.2) j (sub (look s) t)
theorem look_mem {x : Nm} : ∀ {s : Bd}, look s x = none ↔ x ∉ s.map (·.1)
  | [] => by simp [look_nil]
  | p :: r => by
    have := look_mem (x := x) (s := r)
    unfold look at this ⊢
    by_cases hp : p.1 = x
    · simp [hp]
    · have hp' : ¬ x = p.1 := fun e => hp e.symm
      simp only [List.find?_cons, hp, decide_false, List.map_cons, List.mem_cons, hp', false_or]
      exact this
variable {m H : Nat} {U : List Nm} {O : List Tm} {l : List (Tm × Tm)} {s : Bd} {a c : Tm}
theorem LInv.idem (I : LInv m H U O l s) {t : Tm} {y : Nm} (h : occ y (sub (look s) t) = true) : look s y = none := by
  obtain ⟨x, _, h2⟩ := (occ_sub (look s) y t).1 h
  cases hx : look s x with
  | none =>
    rw [hx] at h2
    simp only [Option.getD_none, occ, decide_eq_true_eq] at h2
    subst h2
    exact hx
  | some u =>
    rw [hx] at h2
    exact I.sol x u hx y h2
theorem LInv.size (I : LInv m H U O l s) : s.length ≤ U.length := by
  have := nodup_len I.nodup I.dom
  simpa using this
theorem pow_le {H a b : Nat} (h : a ≤ b) : H * 2 ^ a ≤ H * 2 ^ b := Nat.mul_le_mul_left _ (Nat.pow_le_pow_right (by omega) h)
theorem LInv.len (I : LInv m H U O l s) : l.length ≤ m * (H * 2 ^ U.length) := by
  obtain ⟨js, h1, _, h3, h4⟩ := I.js
  rw [← h1]
  refine count_len m _ js (fun j hj => ?_) h3
  obtain ⟨i, hi⟩ := List.getElem?_of_mem hj
  have hil : i < l.length := by rw [← h1]; exact (List.getElem?_eq_some_iff.1 hi).1
  obtain ⟨⟨t, ht, hat⟩, _⟩ := h4 i j l[i] hi (by simp [hil])
  have g1 := hat.le_hgt
  have g2 := I.top t ht
  have g3 := hgt_pos (sub (look s) l[i].1)
  have g4 := pow_le (H := H) I.size
  omega
theorem LInv.next (I : LInv m H U O ((a, c) :: l) s) : LInv m H U O l s := by
  obtain ⟨js, h1, h2, h3, h4⟩ := I.js
  cases js with
  | nil => simp at h1
  | cons j js =>
    exact ⟨I.nodup, I.dom, I.sol, fun p hp => I.cu p (by simp [hp]), I.cus, I.top, js, by simpa using h1, (List.pairwise_cons.1 h2).2, fun i => Nat.le_trans (by rw [List.count_cons]; omega) (h3 i), fun i j' p hi hp => h4 (i + 1) j' p (by simpa using hi) (by simpa using hp)⟩
theorem LInv.head (I : LInv m H U O ((a, c) :: l) s) : (∃ t ∈ O, hgt (sub (look s) a) ≤ hgt (sub (look s) t)) ∧ ∃ t ∈ O, hgt (sub (look s) c) ≤ hgt (sub (look s) t) := by
  obtain ⟨js, h1, h2, h3, h4⟩ := I.js
  cases js with
  | nil => simp at h1
  | cons j js =>
    obtain ⟨⟨t, ht, hat⟩, t', ht', hat'⟩ := h4 0 j (a, c) rfl rfl
    have q1 : j + hgt (sub (look s) a) ≤ _ := hat.le_hgt
    have q2 : j + hgt (sub (look s) c) ≤ _ := hat'.le_hgt
    exact ⟨⟨t, ht, by omega⟩, t', ht', by omega⟩
/-- A variable is bound. -/
theorem LInv.bind (I : LInv m H U O ((a, c) :: l) s) {x : Nm} {u : Tm} (hx : look s x = none) (hxU : x ∈ U) (ho : occ x u = false) (hu : ∀ y, occ y u = true → look s y = none ∧ y ∈ U) (hh : hgt u ≤ H * 2 ^ s.length) : LInv m H U O l (bindS s x u) := by
  have hl := look_bind (s := s) (θ := look s) (fun _ => rfl) (u := u) hx
  have hsub : ∀ t, sub (look (bindS s x u)) t = sub (one x u) (sub (look s) t) := fun t => by
    rw [sub_fun hl t]
    exact sub_comp _ _ t
  have hnone : ∀ z, look s z = none → z ≠ x → look (bindS s x u) z = none := fun z hz hzx => by
    rw [hl z]
    simp [addS, comp, hz, one, hzx]
  have hmap : (bindS s x u).map (·.1) = s.map (·.1) ++ [x] := by simp [bindS, Function.comp_def]
  have hlen : (bindS s x u).length = s.length + 1 := by simp [bindS]
  have hcu : ∀ t, CU U t → CU U (sub (one x u) t) := fun t ht z hz => by
    rcases occ_one hz with ⟨_, h⟩ | ⟨_, h⟩
    · exact ht z h
    · exact (hu z h).2
  obtain ⟨js, h1, h2, h3, h4⟩ := I.next.js
  refine ⟨?_, ?_, ?_, fun p hp => ?_, ?_, ?_, js, h1, h2, h3, fun i j p hi hp => ?_⟩
  · rw [hmap, List.nodup_append]
    refine ⟨I.nodup, by simp, fun z hz y hy => ?_⟩
    simp only [List.mem_singleton] at hy
    subst hy
    intro e
    subst e
    exact look_mem.1 hx hz
  · rw [hmap]
    intro y hy
    rcases List.mem_append.1 hy with h | h
    · exact I.dom y h
    · simp only [List.mem_singleton] at h; subst h; exact hxU
  · intro y v hv z hz
    rw [hl y] at hv
    unfold addS comp at hv
    split at hv
    · rename_i w hw
      cases hv
      rcases occ_one hz with ⟨hzx, h⟩ | ⟨_, h⟩
      · exact hnone z (I.sol y w hw z h) hzx
      · exact hnone z (hu z h).1 fun e => by subst e; rw [ho] at h; cases h
    · unfold one at hv
      split at hv
      · cases hv
        exact hnone z (hu z hz).1 fun e => by subst e; rw [ho] at hz; cases hz
      · cases hv
  · rw [hsub, hsub]
    obtain ⟨q1, q2⟩ := I.cu p (by simp [hp])
    exact ⟨hcu _ q1, hcu _ q2⟩
  · intro y v hv
    rw [hl y] at hv
    unfold addS comp at hv
    split at hv
    · rename_i w hw
      cases hv
      exact hcu w (I.cus y w hw)
    · unfold one at hv
      split at hv
      · cases hv
        exact fun z hz => (hu z hz).2
      · cases hv
  · intro t ht
    have g1 := I.top t ht
    have g2 := hgt_one (x := x) (u := u) (sub (look s) t)
    rw [hsub, hlen, Nat.pow_succ, ← Nat.mul_assoc]
    omega
  · obtain ⟨⟨t, ht, q1⟩, t', ht', q2⟩ := h4 i j p hi hp
    rw [hsub, hsub]
    exact ⟨⟨t, ht, by rw [hsub]; exact q1.subst⟩, t', ht', by rw [hsub]; exact q2.subst⟩
/-- Two compounds are taken apart. -/
theorem LInv.dec (I : LInv m H U O ((a, c) :: l) s) {op op' : Int} {nm nm' : Nm} {k k' : List Tm} (ha : sub (look s) a = .node op nm k) (hc : sub (look s) c = .node op' nm' k') (hk : k.length = k'.length) (hm : k.length ≤ m) : LInv m H U O (k.zip k' ++ l) s := by
  have hid : ∀ {x z : Tm} {o : Int} {n : Nm} {q : List Tm}, sub (look s) z = .node o n q → x ∈ q → sub (look s) x = x := fun {x z o n q} hz hx => sub_id fun y hy => I.idem (t := z) (by rw [hz]; simp only [occ]; exact occs_mem hx hy)
  have hin : ∀ p ∈ k.zip k', p.1 ∈ k ∧ p.2 ∈ k' := fun p hp => ⟨(List.of_mem_zip (a := p.1) (b := p.2) hp).1, (List.of_mem_zip (a := p.1) (b := p.2) hp).2⟩
  obtain ⟨hca, hcc⟩ := I.cu (a, c) (by simp)
  simp only [ha, hc] at hca hcc
  obtain ⟨js, h1, h2, h3, h4⟩ := I.js
  cases js with
  | nil => simp at h1
  | cons j js =>
    obtain ⟨⟨t, ht, hat⟩, t', ht', hat'⟩ := h4 0 j (a, c) rfl rfl
    simp only [ha, hc] at hat hat'
    obtain ⟨g1, g2⟩ := List.pairwise_cons.1 h2
    have hz : (k.zip k').length = k.length := by rw [List.length_zip, hk]; omega
    refine ⟨I.nodup, I.dom, I.sol, fun p hp => ?_, I.cus, I.top, List.replicate k.length (j + 1) ++ js, ?_, ?_, fun i => ?_, fun i j' p hi hp => ?_⟩
    · rcases List.mem_append.1 hp with hp | hp
      · obtain ⟨q1, q2⟩ := hin p hp
        rw [hid ha q1, hid hc q2]
        exact ⟨fun y hy => hca y (by simp only [occ]; exact occs_mem q1 hy), fun y hy => hcc y (by simp only [occ]; exact occs_mem q2 hy)⟩
      · exact I.cu p (by simp [hp])
    · simp only [List.length_append, List.length_replicate, hz]
      simp only [List.length_cons] at h1
      omega
    · rw [List.pairwise_append]
      refine ⟨?_, g2, fun x hx y hy => ?_⟩
      · rw [List.pairwise_replicate]
        exact .inr (Nat.le_refl _)
      · have := List.eq_of_mem_replicate hx
        have := g1 y hy
        omega
    · have h5 := h3 i
      rw [List.count_cons] at h5
      rw [List.count_append, List.count_replicate]
      by_cases hi : j + 1 = i
      · subst hi
        have : js.count (j + 1) = 0 := List.count_eq_zero.2 fun h => by have := g1 _ h; omega
        simp [this]
        exact hm
      · simp [hi]
        omega
    · by_cases hil : i < k.length
      · rw [List.getElem?_append_left (by simpa using hil)] at hi
        rw [List.getElem?_append_left (by rw [hz]; exact hil)] at hp
        have e : j' = j + 1 := List.eq_of_mem_replicate (List.mem_of_getElem? hi)
        subst e
        obtain ⟨q1, q2⟩ := hin p (List.mem_of_getElem? hp)
        rw [hid ha q1, hid hc q2]
        exact ⟨⟨t, ht, hat.deep q1⟩, t', ht', hat'.deep q2⟩
      · rw [List.getElem?_append_right (by simpa using Nat.not_lt.1 hil)] at hi
        rw [List.getElem?_append_right (by rw [hz]; omega)] at hp
        rw [List.length_replicate] at hi
        rw [hz] at hp
        exact h4 (i - k.length + 1) j' p (by simpa using hi) (by simpa using hp)
theorem LInv.start {a c : Tm} (ha : CU U a) (hc : CU U c) (h1 : hgt a ≤ H) (h2 : hgt c ≤ H) (hm : 1 ≤ m) : LInv m H U [a, c] [(a, c)] [] := by
  have e : ∀ t, sub (look []) t = t := fun t => sub_id fun y _ => look_nil y
  refine ⟨by simp, by simp, fun x u h => by simp [look_nil] at h, fun p hp => ?_, fun x u h => by simp [look_nil] at h, fun t ht => ?_, [0], rfl, by simp, fun j => ?_, fun i j p hi hp => ?_⟩
  · simp only [List.mem_singleton] at hp
    subst hp
    rw [e, e]
    exact ⟨ha, hc⟩
  · rw [e]
    simp only [List.mem_cons, List.not_mem_nil, or_false] at ht
    rcases ht with rfl | rfl <;> simpa
  · rw [List.count_cons]
    simp
    split <;> omega
  · cases i with
    | zero =>
      simp at hi hp
      subst hi hp
      exact ⟨⟨a, by simp, .here⟩, c, by simp, .here⟩
    | succ i => simp at hi
end Go.Proofs.YtcmpodbjhoeblaaDoor
