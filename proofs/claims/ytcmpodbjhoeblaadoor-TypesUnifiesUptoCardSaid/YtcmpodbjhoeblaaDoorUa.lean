/- Unification: the program's way with bound variables and the reference's way with equations come to the same; what is found is the most general. No condition. -/
import Derived.Test.YtcmpodbjhoeblaaDoorZ8
set_option linter.unusedVariables false
set_option linter.unusedSimpArgs false
set_option linter.unusedSectionVars false
namespace Go.Proofs.YtcmpodbjhoeblaaDoor
set_option maxRecDepth 100000
set_option maxHeartbeats 4000000
inductive Tm where
  | var (x : Nm)
  | node (op : Int) (nm : Nm) (l : List Tm)
abbrev Sb := Nm → Option Tm
mutual
def sub (θ : Sb) : Tm → Tm
  | .var x => (θ x).getD (.var x)
  | .node op nm l => .node op nm (subs θ l)
def subs (θ : Sb) : List Tm → List Tm
  | [] => []
  | t :: r => sub θ t :: subs θ r
end
theorem subs_eq (θ : Sb) : ∀ l, subs θ l = l.map (sub θ)
  | [] => by simp [subs]
  | t :: r => by simp [subs, subs_eq θ r]
mutual
def occ (y : Nm) : Tm → Bool
  | .var x => decide (x = y)
  | .node _ _ l => occs y l
def occs (y : Nm) : List Tm → Bool
  | [] => false
  | t :: r => occ y t || occs y r
end
mutual
def siz : Tm → Nat
  | .var _ => 1
  | .node _ _ l => 1 + sizs l
def sizs : List Tm → Nat
  | [] => 0
  | t :: r => siz t + sizs r
end
theorem siz_pos : ∀ t : Tm, 1 ≤ siz t
  | .var _ => by simp [siz]
  | .node _ _ l => by simp [siz]
/-- Two replacements that agree on what occurs. -/
theorem sub_congr_all (θ θ' : Sb) : (∀ t : Tm, (∀ y, occ y t = true → θ y = θ' y) → sub θ t = sub θ' t) ∧ (∀ l : List Tm, (∀ y, occs y l = true → θ y = θ' y) → subs θ l = subs θ' l) := by
  constructor
  · intro t
    exact go t
  · intro l
    exact gos l
where
  go : ∀ t : Tm, (∀ y, occ y t = true → θ y = θ' y) → sub θ t = sub θ' t
    | .var x, h => by simp [sub, h x (by simp [occ])]
    | .node op nm l, h => by
      have := gos l (fun y hy => h y (by simpa [occ] using hy))
      simp [sub, this]
  gos : ∀ l : List Tm, (∀ y, occs y l = true → θ y = θ' y) → subs θ l = subs θ' l
    | [], _ => by simp [subs]
    | t :: r, h => by
      have h1 := go t (fun y hy => h y (by simp [occs, hy]))
      have h2 := gos r (fun y hy => h y (by simp [occs, hy]))
      simp [subs, h1, h2]
theorem sub_congr {θ θ' : Sb} {t : Tm} (h : ∀ y, occ y t = true → θ y = θ' y) : sub θ t = sub θ' t := (sub_congr_all θ θ').1 t h
mutual
theorem sub_none : ∀ t : Tm, sub (fun _ => none) t = t
  | .var x => rfl
  | .node op nm l => by simp [sub, subs_none l]
theorem subs_none : ∀ l : List Tm, subs (fun _ => none) l = l
  | [] => rfl
  | t :: r => by simp [subs, sub_none t, subs_none r]
end
theorem sub_id {θ : Sb} {t : Tm} (h : ∀ y, occ y t = true → θ y = none) : sub θ t = t := by
  rw [sub_congr (θ' := fun _ => none) h, sub_none]
mutual
theorem occ_sub (θ : Sb) (y : Nm) : ∀ t : Tm, occ y (sub θ t) = true ↔ ∃ x, occ x t = true ∧ occ y ((θ x).getD (.var x)) = true
  | .var x => by
    simp only [sub, occ, decide_eq_true_eq]
    constructor
    · intro h; exact ⟨x, rfl, h⟩
    · rintro ⟨z, rfl, h⟩; exact h
  | .node op nm l => by
    simp only [sub, occ]
    exact occs_sub θ y l
theorem occs_sub (θ : Sb) (y : Nm) : ∀ l : List Tm, occs y (subs θ l) = true ↔ ∃ x, occs x l = true ∧ occ y ((θ x).getD (.var x)) = true
  | [] => by simp [subs, occs]
  | t :: r => by
    have h1 := occ_sub θ y t
    have h2 := occs_sub θ y r
    simp only [subs, occs, Bool.or_eq_true, h1, h2]
    constructor
    · rintro (⟨x, h, h'⟩ | ⟨x, h, h'⟩)
      · exact ⟨x, .inl h, h'⟩
      · exact ⟨x, .inr h, h'⟩
    · rintro ⟨x, h | h, h'⟩
      · exact .inl ⟨x, h, h'⟩
      · exact .inr ⟨x, h, h'⟩
end
/-- One replacement behind another. -/
def comp (δ θ : Sb) : Sb := fun x => match θ x with
  | some u => some (sub δ u)
  | none => δ x
mutual
theorem sub_comp (δ θ : Sb) : ∀ t : Tm, sub (comp δ θ) t = sub δ (sub θ t)
  | .var x => by
    simp only [sub, comp]
    cases h : θ x <;> simp [sub]
  | .node op nm l => by simp [sub, subs_comp δ θ l]
theorem subs_comp (δ θ : Sb) : ∀ l : List Tm, subs (comp δ θ) l = subs δ (subs θ l)
  | [] => rfl
  | t :: r => by simp [subs, sub_comp δ θ t, subs_comp δ θ r]
end
mutual
theorem occ_siz {ρ : Sb} {x : Nm} : ∀ t : Tm, occ x t = true → siz (sub ρ (.var x)) ≤ siz (sub ρ t)
  | .var z, h => by
    simp only [occ, decide_eq_true_eq] at h
    subst h
    exact Nat.le_refl _
  | .node op nm l, h => by
    have := occs_siz (ρ := ρ) l (by simpa [occ] using h)
    simp only [sub, siz]
    simp only [sub] at this
    omega
theorem occs_siz {ρ : Sb} {x : Nm} : ∀ l : List Tm, occs x l = true → siz (sub ρ (.var x)) ≤ sizs (subs ρ l)
  | t :: r, h => by
    simp only [occs, Bool.or_eq_true] at h
    simp only [subs, sizs]
    rcases h with h | h
    · have := occ_siz (ρ := ρ) t h
      omega
    · have := occs_siz (ρ := ρ) r h
      omega
end
/-- A variable inside of a compound is never made equal to it. -/
theorem occ_no {ρ : Sb} {x : Nm} {op : Int} {nm : Nm} {l : List Tm} (h : occ x (.node op nm l) = true) : sub ρ (.var x) ≠ sub ρ (.node op nm l) := by
  intro e
  have := occs_siz (ρ := ρ) l (by simpa [occ] using h)
  rw [e] at this
  simp only [sub, siz] at this
  omega
/-! ### Bound variables -/
abbrev Bd := List (Nm × Tm)
def look (b : Bd) : Sb := fun x => (b.find? fun p => decide (p.1 = x)).map (·.2)
theorem look_nil (x : Nm) : look [] x = none := rfl
theorem look_add {b : Bd} {x y : Nm} {u : Tm} (h : look b x = none) : look (b ++ [(x, u)]) y = if y = x then some u else look b y := by
  unfold look at h ⊢
  rw [List.find?_append]
  by_cases hy : y = x
  · subst hy
    rw [if_pos rfl]
    have : (b.find? fun p => decide (p.1 = y)) = none := by simpa using h
    rw [this]
    simp
  · rw [if_neg hy]
    have : ¬ x = y := fun e => hy e.symm
    cases hf : b.find? fun p => decide (p.1 = y) <;> simp [this]
structure BInv (b : Bd) (θ : Sb) : Prop where
  dom : ∀ x, look b x = none ↔ θ x = none
  eqn : ∀ x u, look b x = some u → θ x = some (sub θ u)
  idem : ∀ x u, θ x = some u → ∀ y, occ y u = true → θ y = none
  rank : ∃ r : Nm → Nat, ∀ x u y, look b x = some u → occ y u = true → look b y ≠ none → r y < r x
theorem BInv.nil : BInv [] (fun _ => none) := ⟨fun _ => by simp [look_nil], fun x u h => by simp [look_nil] at h, fun x u h => by simp at h, ⟨fun _ => 0, fun x u y h => by simp [look_nil] at h⟩⟩
theorem BInv.occ_none {b : Bd} {θ : Sb} (I : BInv b θ) {t : Tm} {y : Nm} (h : occ y (sub θ t) = true) : θ y = none := by
  obtain ⟨x, _, h2⟩ := (occ_sub θ y t).1 h
  cases hx : θ x with
  | none =>
    rw [hx] at h2
    simp only [Option.getD_none, occ, decide_eq_true_eq] at h2
    subst h2
    exact hx
  | some u =>
    rw [hx] at h2
    exact I.idem x u hx y h2
theorem BInv.sub_sub {b : Bd} {θ : Sb} (I : BInv b θ) (t : Tm) : sub θ (sub θ t) = sub θ t := sub_id fun _ h => I.occ_none h
/-- A type, or what a bound variable stands for. -/
inductive Head (b : Bd) : Tm → Tm → Prop
  | node (op nm l) : Head b (.node op nm l) (.node op nm l)
  | free {x} : look b x = none → Head b (.var x) (.var x)
  | step {x u h} : look b x = some u → Head b u h → Head b (.var x) h
theorem Head.eq {b : Bd} {θ : Sb} (I : BInv b θ) {t h : Tm} (H : Head b t h) : sub θ t = sub θ h := by
  induction H with
  | node op nm l => rfl
  | free => rfl
  | step hx _ ih =>
    rw [← ih]
    simp [sub, I.eqn _ _ hx]
theorem Head.unbound {b : Bd} {t h : Tm} (H : Head b t h) {x : Nm} (e : h = .var x) : look b x = none := by
  induction H with
  | node op nm l => cases e
  | free h => cases e; exact h
  | step _ _ ih => exact ih e
theorem Head.ex {b : Bd} {θ : Sb} (I : BInv b θ) (t : Tm) : ∃ h, Head b t h := by
  obtain ⟨r, hr⟩ := I.rank
  cases t with
  | node op nm l => exact ⟨_, .node op nm l⟩
  | var x =>
    have : ∀ n x, r x ≤ n → ∃ h, Head b (.var x) h := by
      intro n
      induction n with
      | zero =>
        intro x hx
        cases hl : look b x with
        | none => exact ⟨_, .free hl⟩
        | some u =>
          cases u with
          | node op nm l => exact ⟨_, .step hl (.node op nm l)⟩
          | var y =>
            cases hy : look b y with
            | none => exact ⟨_, .step hl (.free hy)⟩
            | some v =>
              have := hr x _ y hl (by simp [occ]) (by simp [hy])
              omega
      | succ n ih =>
        intro x hx
        cases hl : look b x with
        | none => exact ⟨_, .free hl⟩
        | some u =>
          cases u with
          | node op nm l => exact ⟨_, .step hl (.node op nm l)⟩
          | var y =>
            cases hy : look b y with
            | none => exact ⟨_, .step hl (.free hy)⟩
            | some v =>
              have := hr x _ y hl (by simp [occ]) (by simp [hy])
              obtain ⟨h, H⟩ := ih y (by omega)
              exact ⟨h, .step hl H⟩
    exact this (r x) x (Nat.le_refl _)
/-- One variable more. -/
def one (x : Nm) (s : Tm) : Sb := fun y => if y = x then some s else none
def addS (θ : Sb) (x : Nm) (s : Tm) : Sb := comp (one x s) θ
theorem sub_one_id {x : Nm} {s t : Tm} (h : occ x t = false) : sub (one x s) t = t := sub_id fun y hy => by
  unfold one
  rw [if_neg]
  intro e
  subst e
  rw [h] at hy
  cases hy
theorem occ_one {x : Nm} {s t : Tm} {z : Nm} (h : occ z (sub (one x s) t) = true) : (z ≠ x ∧ occ z t = true) ∨ (occ x t = true ∧ occ z s = true) := by
  obtain ⟨w, h1, h2⟩ := (occ_sub _ _ _).1 h
  unfold one at h2
  by_cases hw : w = x
  · subst hw
    rw [if_pos rfl] at h2
    exact .inr ⟨h1, h2⟩
  · rw [if_neg hw] at h2
    simp only [Option.getD_none, occ, decide_eq_true_eq] at h2
    subst h2
    exact .inl ⟨hw, h1⟩
theorem BInv.add {b : Bd} {θ : Sb} (I : BInv b θ) {x : Nm} {h : Tm} (hx : look b x = none) (ho : occ x (sub θ h) = false) : BInv (b ++ [(x, h)]) (addS θ x (sub θ h)) := by
  have hθ : θ x = none := (I.dom x).1 hx
  have hself : sub (one x (sub θ h)) (sub θ h) = sub θ h := sub_one_id ho
  refine ⟨fun y => ?_, fun y u hy => ?_, fun y u hy z hz => ?_, ?_⟩
  · rw [look_add hx]
    unfold addS comp
    by_cases hyx : y = x
    · subst hyx
      simp [hθ, one]
    · rw [if_neg hyx, I.dom y]
      cases hq : θ y <;> simp [one, hyx]
  · rw [look_add hx] at hy
    unfold addS
    rw [sub_comp]
    by_cases hyx : y = x
    · subst hyx
      simp at hy
      subst hy
      rw [hself]
      simp [comp, hθ, one]
    · rw [if_neg hyx] at hy
      have := I.eqn y u hy
      simp [comp, this]
  · have hz' : z ≠ x ∧ θ z = none := by
      unfold addS comp at hy
      cases hq : θ y with
      | some v =>
        rw [hq] at hy
        simp at hy
        subst hy
        rcases occ_one hz with ⟨h1, h2⟩ | ⟨h1, h2⟩
        · exact ⟨h1, I.idem y v hq z h2⟩
        · refine ⟨fun e => ?_, I.occ_none h2⟩
          subst e
          rw [ho] at h2
          cases h2
      | none =>
        rw [hq] at hy
        unfold one at hy
        by_cases hyx : y = x
        · rw [if_pos hyx] at hy
          simp at hy
          subst hy
          refine ⟨fun e => ?_, I.occ_none hz⟩
          subst e
          rw [ho] at hz
          cases hz
        · rw [if_neg hyx] at hy
          cases hy
    unfold addS comp
    rw [hz'.2]
    simp [one, hz'.1]
  · obtain ⟨r, hr⟩ := I.rank
    -- what depends on x moves up
    let dep : Nm → Bool := fun y => occ x (sub θ (.var y))
    let K : Nat := ((b.map fun p => r p.1).foldl max 0) + 1
    have hK : ∀ y, look b y ≠ none → r y < K := fun y hy => by
      have : y ∈ b.map (·.1) := by
        unfold look at hy
        cases hf : b.find? fun p => decide (p.1 = y) with
        | none => rw [hf] at hy; simp at hy
        | some p =>
          have h1 := List.find?_some hf
          have h2 := List.mem_of_find?_eq_some hf
          simp at h1
          exact List.mem_map.2 ⟨p, h2, h1⟩
      have hm : r y ∈ b.map fun p => r p.1 := by
        obtain ⟨p, hp, e⟩ := List.mem_map.1 this
        exact List.mem_map.2 ⟨p, hp, by rw [e]⟩
      have := foldl_max_mem (b.map fun p => r p.1) 0 _ hm
      show r y < _ + 1
      omega
    refine ⟨fun y => if y = x then K else if dep y then r y + K + 1 else r y, fun y u z hy hz hb => ?_⟩
    have hzb : z = x ∨ look b z ≠ none := by
      rw [look_add hx] at hb
      by_cases hzx : z = x
      · exact .inl hzx
      · rw [if_neg hzx] at hb
        exact .inr hb
    rw [look_add hx] at hy
    by_cases hyx : y = x
    · subst hyx
      simp at hy
      subst hy
      -- z occurs in h: it does not depend on x
      have hzx : z ≠ y := fun e => by
        subst e
        have : occ z (sub θ h) = true := (occ_sub θ z h).2 ⟨z, hz, by simp [hθ, occ]⟩
        rw [ho] at this
        cases this
      have hzl : look b z ≠ none := hzb.resolve_left hzx
      have hd : dep z = false := by
        cases hq : dep z with
        | false => rfl
        | true =>
          have : occ y (sub θ h) = true := by
            obtain ⟨w, hw1, hw2⟩ := (occ_sub θ y (.var z)).1 hq
            simp only [occ, decide_eq_true_eq] at hw1
            subst hw1
            exact (occ_sub θ y h).2 ⟨z, hz, hw2⟩
          rw [ho] at this
          cases this
      have := hK z hzl
      simp [hzx, hd]
      exact this
    · rw [if_neg hyx] at hy
      have e1 := I.eqn y u hy
      by_cases hzx : z = x
      · subst hzx
        have hd : dep y = true := by
          show occ z (sub θ (.var y)) = true
          simp only [sub, e1, Option.getD_some]
          exact (occ_sub θ z u).2 ⟨z, hz, by simp [hθ, occ]⟩
        simp [hyx, hd]
        omega
      · have hzl := hzb.resolve_left hzx
        have hlt := hr y u z hy hz hzl
        have hmono : dep z = true → dep y = true := fun hq => by
          show occ x (sub θ (.var y)) = true
          simp only [sub, e1, Option.getD_some]
          obtain ⟨w, hw1, hw2⟩ := (occ_sub θ x (.var z)).1 hq
          simp only [occ, decide_eq_true_eq] at hw1
          subst hw1
          exact (occ_sub θ x u).2 ⟨z, hz, hw2⟩
        cases hdz : dep z with
        | true =>
          have := hmono hdz
          simp [hyx, hzx, hdz, this]
          omega
        | false =>
          cases hdy : dep y <;> simp [hyx, hzx, hdz, hdy] <;> omega
where
  foldl_max_mem : ∀ (l : List Nat) (a n : Nat), n ∈ l → n ≤ l.foldl max a
    | m :: l, a, n, h => by
      simp only [List.foldl_cons]
      rcases List.mem_cons.1 h with rfl | h
      · exact Nat.le_trans (Nat.le_max_right a n) (foldl_le l _)
      · exact foldl_max_mem l _ n h
  foldl_le : ∀ (l : List Nat) (a : Nat), a ≤ l.foldl max a
    | [], a => Nat.le_refl a
    | m :: l, a => Nat.le_trans (Nat.le_max_left a m) (foldl_le l _)
/-! ### The program's way -/
def CU (U : List Nm) (t : Tm) : Prop := ∀ y, occ y t = true → y ∈ U
def CB (U : List Nm) (b : Bd) : Prop := ∀ x u, look b x = some u → CU U u
theorem Head.cu {U : List Nm} {b : Bd} (hb : CB U b) {t h : Tm} (H : Head b t h) (ht : CU U t) : CU U h := by
  induction H with
  | node op nm l => exact ht
  | free => exact ht
  | step hx _ ih => exact ih (hb _ _ hx)
def unb (U : List Nm) (b : Bd) : Nat := (U.filter fun x => (look b x).isNone).length
theorem filter_lt {p q : Nm → Bool} (h : ∀ x, q x = true → p x = true) {x : Nm} (hp : p x = true) (hq : q x = false) : ∀ U : List Nm, (U.filter q).length ≤ (U.filter p).length ∧ (x ∈ U → (U.filter q).length < (U.filter p).length)
  | [] => by simp
  | y :: U => by
    obtain ⟨h1, h2⟩ := filter_lt h hp hq U
    by_cases hy : y = x
    · subst hy
      simp only [List.filter_cons, hp, hq, if_true, Bool.false_eq_true, if_false, List.length_cons]
      exact ⟨by omega, fun _ => by omega⟩
    · have hne : ¬ x = y := fun e => hy e.symm
      cases hqy : q y with
      | true =>
        have := h y hqy
        simp only [List.filter_cons, hqy, this, if_true, List.length_cons, List.mem_cons, hne, false_or]
        exact ⟨by omega, fun hm => by have := h2 hm; omega⟩
      | false =>
        cases hpy : p y with
        | true =>
          simp only [List.filter_cons, hqy, hpy, if_true, Bool.false_eq_true, if_false, List.length_cons, List.mem_cons, hne, false_or]
          exact ⟨by omega, fun hm => by have := h2 hm; omega⟩
        | false =>
          simp only [List.filter_cons, hqy, hpy, Bool.false_eq_true, if_false, List.mem_cons, hne, false_or]
          exact ⟨h1, h2⟩
theorem unb_add {U : List Nm} {b : Bd} {x : Nm} {h : Tm} (hx : look b x = none) (hU : x ∈ U) : unb U (b ++ [(x, h)]) < unb U b := by
  refine (filter_lt (x := x) (fun y hy => ?_) (by simp [hx]) (by rw [look_add hx]; simp) U).2 hU
  rw [look_add hx] at hy
  by_cases hyx : y = x
  · subst hyx; simp [hx]
  · rwa [if_neg hyx] at hy
theorem CB_add {U : List Nm} {b : Bd} {x : Nm} {h : Tm} (hx : look b x = none) (hb : CB U b) (hh : CU U h) : CB U (b ++ [(x, h)]) := by
  intro y u hy
  rw [look_add hx] at hy
  by_cases hyx : y = x
  · subst hyx; simp at hy; subst hy; exact hh
  · rw [if_neg hyx] at hy; exact hb y u hy
/-- The program's run over pairs. -/
inductive PU (ord : Nm → Int) : Bd → List (Tm × Tm) → Bd → Bool → Prop
  | nil {b} : PU ord b [] b true
  | same {b a c x l b' ok} : Head b a (.var x) → Head b c (.var x) → PU ord b l b' ok → PU ord b ((a, c) :: l) b' ok
  | vv {b a c x y l b' ok} : Head b a (.var x) → Head b c (.var y) → x ≠ y → ¬ ord y < ord x → PU ord (b ++ [(x, .var y)]) l b' ok → PU ord b ((a, c) :: l) b' ok
  | ww {b a c x y l b' ok} : Head b a (.var x) → Head b c (.var y) → x ≠ y → ord y < ord x → PU ord (b ++ [(y, .var x)]) l b' ok → PU ord b ((a, c) :: l) b' ok
  | vn {b a c x op nm k l b' ok} (θ : Sb) : Head b a (.var x) → Head b c (.node op nm k) → BInv b θ → occ x (sub θ (.node op nm k)) = false → PU ord (b ++ [(x, .node op nm k)]) l b' ok → PU ord b ((a, c) :: l) b' ok
  | vf {b a c x op nm k l} (θ : Sb) : Head b a (.var x) → Head b c (.node op nm k) → BInv b θ → occ x (sub θ (.node op nm k)) = true → PU ord b ((a, c) :: l) b false
  | nv {b a c x op nm k l b' ok} (θ : Sb) : Head b a (.node op nm k) → Head b c (.var x) → BInv b θ → occ x (sub θ (.node op nm k)) = false → PU ord (b ++ [(x, .node op nm k)]) l b' ok → PU ord b ((a, c) :: l) b' ok
  | nf {b a c x op nm k l} (θ : Sb) : Head b a (.node op nm k) → Head b c (.var x) → BInv b θ → occ x (sub θ (.node op nm k)) = true → PU ord b ((a, c) :: l) b false
  | clash {b a c op nm k op' nm' k' l} : Head b a (.node op nm k) → Head b c (.node op' nm' k') → ¬ (op = op' ∧ nm = nm' ∧ k.length = k'.length) → PU ord b ((a, c) :: l) b false
  | dec {b a c op nm k k' l b1 b' ok} : Head b a (.node op nm k) → Head b c (.node op nm k') → k.length = k'.length → PU ord b (k.zip k') b1 true → PU ord b1 l b' ok → PU ord b ((a, c) :: l) b' ok
  | no {b a c op nm k k' l b1} : Head b a (.node op nm k) → Head b c (.node op nm k') → k.length = k'.length → PU ord b (k.zip k') b1 false → PU ord b ((a, c) :: l) b1 false
/-! ### The reference's way -/
def bindS (s : Bd) (x : Nm) (u : Tm) : Bd := s.map (fun p => (p.1, sub (one x u) p.2)) ++ [(x, u)]
inductive RU (ord : Nm → Int) : List (Tm × Tm) → Bd → Option Bd → Prop
  | nil {s} : RU ord [] s (some s)
  | same {a c x l s r} : sub (look s) a = .var x → sub (look s) c = .var x → RU ord l s r → RU ord ((a, c) :: l) s r
  | vv {a c x y l s r} : sub (look s) a = .var x → sub (look s) c = .var y → x ≠ y → ¬ ord y < ord x → RU ord l (bindS s x (.var y)) r → RU ord ((a, c) :: l) s r
  | ww {a c x y l s r} : sub (look s) a = .var x → sub (look s) c = .var y → x ≠ y → ord y < ord x → RU ord l (bindS s y (.var x)) r → RU ord ((a, c) :: l) s r
  | vn {a c x op nm k l s r} : sub (look s) a = .var x → sub (look s) c = .node op nm k → occ x (.node op nm k) = false → RU ord l (bindS s x (.node op nm k)) r → RU ord ((a, c) :: l) s r
  | vf {a c x op nm k l s} : sub (look s) a = .var x → sub (look s) c = .node op nm k → occ x (.node op nm k) = true → RU ord ((a, c) :: l) s none
  | nv {a c x op nm k l s r} : sub (look s) a = .node op nm k → sub (look s) c = .var x → occ x (.node op nm k) = false → RU ord l (bindS s x (.node op nm k)) r → RU ord ((a, c) :: l) s r
  | nf {a c x op nm k l s} : sub (look s) a = .node op nm k → sub (look s) c = .var x → occ x (.node op nm k) = true → RU ord ((a, c) :: l) s none
  | clash {a c op nm k op' nm' k' l s} : sub (look s) a = .node op nm k → sub (look s) c = .node op' nm' k' → ¬ (op = op' ∧ nm = nm' ∧ k.length = k'.length) → RU ord ((a, c) :: l) s none
  | dec {a c op nm k k' l s r} : sub (look s) a = .node op nm k → sub (look s) c = .node op nm k' → k.length = k'.length → RU ord (k.zip k' ++ l) s r → RU ord ((a, c) :: l) s r
theorem look_map (s : Bd) (f : Tm → Tm) (y : Nm) : look (s.map fun p => (p.1, f p.2)) y = (look s y).map f := by
  unfold look
  induction s with
  | nil => rfl
  | cons p r ih =>
    simp only [List.map_cons, List.find?_cons]
    by_cases hp : p.1 = y
    · simp [hp]
    · simp only [hp, decide_false]
      exact ih
theorem look_bind {s : Bd} {θ : Sb} (hs : ∀ x, look s x = θ x) {x : Nm} {u : Tm} (hx : θ x = none) : ∀ y, look (bindS s x u) y = addS θ x u y := by
  intro y
  unfold bindS
  rw [look_add (by rw [look_map, hs, hx]; rfl), look_map, hs]
  unfold addS comp one
  by_cases hyx : y = x
  · subst hyx; simp [hx]
  · cases θ y <;> simp [hyx]
/-- Pairs that are equal once the bound variables are replaced. -/
def Eqv (θ : Sb) : List (Tm × Tm) → List (Tm × Tm) → Prop
  | [], [] => True
  | p :: l, q :: k => (sub θ p.1 = sub θ q.1 ∧ sub θ p.2 = sub θ q.2) ∧ Eqv θ l k
  | _, _ => False
theorem Eqv.refl (θ : Sb) : ∀ l, Eqv θ l l
  | [] => trivial
  | _ :: l => ⟨⟨rfl, rfl⟩, Eqv.refl θ l⟩
theorem Eqv.mono {θ θ' : Sb} (h : ∀ s t, sub θ s = sub θ t → sub θ' s = sub θ' t) : ∀ {l k}, Eqv θ l k → Eqv θ' l k
  | [], [], _ => trivial
  | p :: l, q :: k, ⟨⟨h1, h2⟩, h3⟩ => ⟨⟨h _ _ h1, h _ _ h2⟩, Eqv.mono h h3⟩
theorem Eqv.zip {b : Bd} {θ : Sb} (I : BInv b θ) : ∀ k k' : List Tm, Eqv θ ((subs θ k).zip (subs θ k')) (k.zip k')
  | [], _ => by simp [subs, Eqv]
  | _ :: _, [] => by simp [subs, Eqv]
  | t :: r, t' :: r' => ⟨⟨I.sub_sub t, I.sub_sub t'⟩, Eqv.zip I r r'⟩
/-- What both come to. -/
structure Res (ord : Nm → Int) (U : List Nm) (b : Bd) (θ : Sb) (l : List (Tm × Tm)) (b' : Bd) (θ' : Sb) (ok : Bool) : Prop where
  pu : PU ord b l b' ok
  inv : BInv b' θ'
  cb : CB U b'
  less : (b' = b ∧ θ' = θ) ∨ unb U b' < unb U b
  ext : ∀ s t, sub θ s = sub θ t → sub θ' s = sub θ' t
  same : ok = true → ∀ p ∈ l, sub θ' p.1 = sub θ' p.2
  best : ∀ ρ : Sb, (∀ t, sub ρ (sub θ t) = sub ρ t) → (∀ p ∈ l, sub ρ p.1 = sub ρ p.2) → ok = true ∧ ∀ t, sub ρ (sub θ' t) = sub ρ t
  ref : ∀ s : Bd, (∀ x, look s x = θ x) → (ok = true → ∃ s', (∀ x, look s' x = θ' x) ∧ ∀ k l2 r, Eqv θ k l → RU ord l2 s' r → RU ord (k ++ l2) s r) ∧ (ok = false → ∀ k l2, Eqv θ k l → RU ord (k ++ l2) s none)
def szl (θ : Sb) : List (Tm × Tm) → Nat
  | [] => 0
  | p :: l => siz (sub θ p.1) + szl θ l
def CL (U : List Nm) (l : List (Tm × Tm)) : Prop := ∀ p ∈ l, CU U p.1 ∧ CU U p.2
theorem szl_zip (θ : Sb) : ∀ k k' : List Tm, szl θ (k.zip k') ≤ sizs (subs θ k)
  | [], _ => by simp [szl]
  | t :: r, [] => by simp [szl]
  | t :: r, t' :: r' => by
    have := szl_zip θ r r'
    simp only [List.zip_cons_cons, szl, subs, sizs]
    omega
theorem CL_zip {U : List Nm} {op op' : Int} {nm nm' : Nm} : ∀ {k k' : List Tm}, CU U (.node op nm k) → CU U (.node op' nm' k') → CL U (k.zip k')
  | [], _, _, _ => by intro p hp; simp at hp
  | t :: r, [], _, _ => by intro p hp; simp at hp
  | t :: r, t' :: r', h, h' => by
    intro p hp
    rw [List.zip_cons_cons, List.mem_cons] at hp
    rcases hp with rfl | hp
    · exact ⟨fun y hy => h y (by simp [occ, occs, hy]), fun y hy => h' y (by simp [occ, occs, hy])⟩
    · exact CL_zip (op := op) (nm := nm) (op' := op') (nm' := nm') (fun y hy => h y (by simp only [occ, occs, Bool.or_eq_true] at hy ⊢; exact .inr hy)) (fun y hy => h' y (by simp only [occ, occs, Bool.or_eq_true] at hy ⊢; exact .inr hy)) p hp
theorem zip_same {θ : Sb} : ∀ {k k' : List Tm}, k.length = k'.length → (∀ p ∈ k.zip k', sub θ p.1 = sub θ p.2) → subs θ k = subs θ k'
  | [], [], _, _ => rfl
  | t :: r, t' :: r', hl, h => by
    have h1 := h (t, t') (by simp)
    have h2 := zip_same (θ := θ) (k := r) (k' := r') (by simpa using hl) fun p hp => h p (by simp [hp])
    simp only at h1
    simp [subs, h1, h2]
  | [], _ :: _, hl, _ => by simp at hl
  | _ :: _, [], hl, _ => by simp at hl
theorem zip_eq {θ : Sb} : ∀ {k k' : List Tm}, subs θ k = subs θ k' → ∀ p ∈ k.zip k', sub θ p.1 = sub θ p.2
  | [], _, _ => by simp
  | _ :: _, [], _ => by simp
  | t :: r, t' :: r', h => by
    simp only [subs, List.cons.injEq] at h
    intro p hp
    rw [List.zip_cons_cons, List.mem_cons] at hp
    rcases hp with rfl | hp
    · exact h.1
    · exact zip_eq h.2 p hp
theorem subs_len (θ : Sb) (l : List Tm) : (subs θ l).length = l.length := by simp [subs_eq]
mutual
theorem sub_one_eq {ρ : Sb} {x : Nm} {S : Tm} (h : sub ρ (.var x) = sub ρ S) : ∀ u : Tm, sub ρ (sub (one x S) u) = sub ρ u
  | .var y => by
    by_cases hy : y = x
    · subst hy
      simp only [sub, one, if_true, Option.getD_some]
      exact h.symm
    · simp [sub, one, hy]
  | .node op nm l => by simp [sub, subs_one_eq h l]
theorem subs_one_eq {ρ : Sb} {x : Nm} {S : Tm} (h : sub ρ (.var x) = sub ρ S) : ∀ l : List Tm, subs ρ (subs (one x S) l) = subs ρ l
  | [] => rfl
  | t :: r => by simp [subs, sub_one_eq h t, subs_one_eq h r]
end
variable {ord : Nm → Int} {U : List Nm}
theorem Res.bind {b : Bd} {θ : Sb} {x : Nm} {h : Tm} {l : List (Tm × Tm)} {b' : Bd} {θ' : Sb} {ok : Bool} {a c : Tm} (I : BInv b θ) (hx : look b x = none) (hU : x ∈ U) (ho : occ x (sub θ h) = false)
    (R : Res ord U (b ++ [(x, h)]) (addS θ x (sub θ h)) l b' θ' ok) (hp : PU ord (b ++ [(x, h)]) l b' ok → PU ord b ((a, c) :: l) b' ok)
    (hac : (sub θ a = .var x ∧ sub θ c = sub θ h) ∨ (sub θ a = sub θ h ∧ sub θ c = .var x))
    (href : ∀ s l2 r a' c', (∀ y, look s y = θ y) → sub θ a' = sub θ a → sub θ c' = sub θ c → RU ord l2 (bindS s x (sub θ h)) r → RU ord ((a', c') :: l2) s r) : Res ord U b θ ((a, c) :: l) b' θ' ok := by
  have hθ := (I.dom x).1 hx
  have hself : sub (one x (sub θ h)) (sub θ h) = sub θ h := sub_one_id ho
  have hvar : sub (one x (sub θ h)) (.var x) = sub θ h := by simp [sub, one]
  have hext : ∀ s t, sub θ s = sub θ t → sub (addS θ x (sub θ h)) s = sub (addS θ x (sub θ h)) t := fun s t e => by
    unfold addS
    rw [sub_comp, sub_comp, e]
  refine ⟨hp R.pu, R.inv, R.cb, .inr ?_, fun s t e => R.ext _ _ (hext s t e), fun hok p hpm => ?_, fun ρ h1 h2 => ?_, fun s hs => ?_⟩
  · have hlt := unb_add (U := U) (h := h) hx hU
    rcases R.less with ⟨e, _⟩ | h'
    · rw [e]; exact hlt
    · omega
  · rcases List.mem_cons.1 hpm with rfl | hpm
    · refine R.ext _ _ ?_
      unfold addS
      rw [sub_comp, sub_comp]
      rcases hac with ⟨e1, e2⟩ | ⟨e1, e2⟩ <;> simp only [e1, e2, hself, hvar]
    · exact R.same hok p hpm
  · have hv : sub ρ (.var x) = sub ρ (sub θ h) := by
      have e := h2 (a, c) (by simp)
      simp only at e
      rw [← h1 a, ← h1 c] at e
      rcases hac with ⟨e1, e2⟩ | ⟨e1, e2⟩
      · rw [e1, e2] at e; exact e
      · rw [e1, e2] at e; exact e.symm
    refine R.best ρ (fun t => ?_) fun p hp => h2 p (by simp [hp])
    unfold addS
    rw [sub_comp, sub_one_eq hv, h1]
  · have hs1 := look_bind (u := sub θ h) hs hθ
    obtain ⟨g1, g2⟩ := R.ref _ hs1
    refine ⟨fun hok => ?_, fun hok k l2 hk => ?_⟩
    · obtain ⟨s', e1, e2⟩ := g1 hok
      refine ⟨s', e1, fun k l2 r hk hr => ?_⟩
      cases k with
      | nil => exact hk.elim
      | cons q k =>
        obtain ⟨⟨q1, q2⟩, q3⟩ := hk
        exact href s _ r q.1 q.2 hs q1 q2 (e2 k l2 r (q3.mono hext) hr)
    · cases k with
      | nil => exact hk.elim
      | cons q k =>
        obtain ⟨⟨q1, q2⟩, q3⟩ := hk
        exact href s _ none q.1 q.2 hs q1 q2 (g2 hok k l2 (q3.mono hext))
theorem Res.fail {b : Bd} {θ : Sb} {l : List (Tm × Tm)} {a c : Tm} (I : BInv b θ) (hb : CB U b) (hp : PU ord b ((a, c) :: l) b false) (hn : ∀ ρ : Sb, sub ρ (sub θ a) ≠ sub ρ (sub θ c))
    (href : ∀ s l2 a' c', (∀ y, look s y = θ y) → sub θ a' = sub θ a → sub θ c' = sub θ c → RU ord ((a', c') :: l2) s none) : Res ord U b θ ((a, c) :: l) b θ false := by
  refine ⟨hp, I, hb, .inl ⟨rfl, rfl⟩, fun _ _ e => e, fun h => by (cases h), fun ρ h1 h2 => ?_, fun s hs => ⟨fun h => by (cases h), fun _ k l2 hk => ?_⟩⟩
  · have e := h2 (a, c) (by simp)
    simp only at e
    rw [← h1 a, ← h1 c] at e
    exact absurd e (hn ρ)
  · cases k with
    | nil => exact hk.elim
    | cons q k =>
      obtain ⟨⟨q1, q2⟩, _⟩ := hk
      exact href s _ q.1 q.2 hs q1 q2
theorem sub_fun {θ θ' : Sb} (h : ∀ x, θ x = θ' x) (t : Tm) : sub θ t = sub θ' t := sub_congr fun y _ => h y
theorem PU.ex : ∀ (n m : Nat) (b : Bd) (θ : Sb) (l : List (Tm × Tm)), BInv b θ → CB U b → CL U l → unb U b ≤ n → szl θ l ≤ m → ∃ b' θ' ok, Res ord U b θ l b' θ' ok := by
  intro n
  induction n using Nat.strongRecOn with
  | ind n ihn =>
  intro m
  induction m using Nat.strongRecOn with
  | ind m ihm =>
  intro b θ l I hb hl hn hm
  cases l with
  | nil => exact ⟨b, θ, true, ⟨.nil, I, hb, .inl ⟨rfl, rfl⟩, fun _ _ e => e, fun _ p hp => by simp at hp, fun ρ h _ => ⟨rfl, h⟩, fun s hs => ⟨fun _ => ⟨s, hs, fun k l2 r hk hr => by
      cases k with
      | nil => exact hr
      | cons _ _ => exact hk.elim⟩, fun h => by (cases h)⟩⟩⟩
  | cons p l =>
  obtain ⟨a, c⟩ := p
  obtain ⟨hca, hcc⟩ := hl (a, c) (by simp)
  have hl' : CL U l := fun p hp => hl p (by simp [hp])
  obtain ⟨A, HA⟩ := Head.ex I a
  obtain ⟨C, HC⟩ := Head.ex I c
  have ea := HA.eq I
  have ec := HC.eq I
  have hA := HA.cu hb hca
  have hC := HC.cu hb hcc
  have hsz : szl θ ((a, c) :: l) = siz (sub θ a) + szl θ l := rfl
  have hpos := siz_pos (sub θ a)
  -- a variable more, the rest behind it
  have step : ∀ (x : Nm) (h : Tm), look b x = none → x ∈ U → CU U h → occ x (sub θ h) = false → ∃ b' θ' ok, Res ord U (b ++ [(x, h)]) (addS θ x (sub θ h)) l b' θ' ok := fun x h hx hxU hh ho => by
    have hlt := unb_add (U := U) (h := h) hx hxU
    exact ihn _ (by omega) _ _ _ l (I.add hx ho) (CB_add hx hb hh) hl' (Nat.le_refl _) (Nat.le_refl _)
  cases A with
  | var x =>
    have hx := HA.unbound rfl
    have hxθ := (I.dom x).1 hx
    have hxU : x ∈ U := hA x (by simp [occ])
    have ea' : sub θ a = .var x := by rw [ea]; simp [sub, hxθ]
    cases C with
    | var y =>
      have hy := HC.unbound rfl
      have hyθ := (I.dom y).1 hy
      have hyU : y ∈ U := hC y (by simp [occ])
      have ec' : sub θ c = .var y := by rw [ec]; simp [sub, hyθ]
      by_cases hxy : x = y
      · subst hxy
        obtain ⟨b', θ', ok, R⟩ := ihm (szl θ l) (by omega) b θ l I hb hl' hn (Nat.le_refl _)
        refine ⟨b', θ', ok, .same HA HC R.pu, R.inv, R.cb, R.less, R.ext, fun hok p hp => ?_, fun ρ h1 h2 => R.best ρ h1 fun p hp => h2 p (by simp [hp]), fun s hs => ?_⟩
        · rcases List.mem_cons.1 hp with rfl | hp
          · exact R.ext _ _ (by rw [ea', ec'])
          · exact R.same hok p hp
        · obtain ⟨g1, g2⟩ := R.ref s hs
          have key : ∀ q : Tm × Tm, sub θ q.1 = sub θ a → sub θ q.2 = sub θ c → ∀ l2 r, RU ord l2 s r → RU ord (q :: l2) s r := fun q q1 q2 l2 r hr =>
            .same (by rw [sub_fun hs, q1, ea']) (by rw [sub_fun hs, q2, ec']) hr
          refine ⟨fun hok => ?_, fun hok k l2 hk => ?_⟩
          · obtain ⟨s', e1, e2⟩ := g1 hok
            refine ⟨s', e1, fun k l2 r hk hr => ?_⟩
            cases k with
            | nil => exact hk.elim
            | cons q k => exact key q hk.1.1 hk.1.2 _ r (e2 k l2 r hk.2 hr)
          · cases k with
            | nil => exact hk.elim
            | cons q k => exact key q hk.1.1 hk.1.2 _ none (g2 hok k l2 hk.2)
      · by_cases hord : ord y < ord x
        · have eh : sub θ (.var x) = .var x := by simp [sub, hxθ]
          have ho : occ y (sub θ (.var x)) = false := by rw [eh]; simp [occ, hxy]
          obtain ⟨b', θ', ok, R⟩ := step y (.var x) hy hyU hA ho
          refine ⟨b', θ', ok, R.bind I hy hyU ho (fun h => .ww HA HC hxy hord h) (.inr ⟨ea, ec'⟩) fun s l2 r a' c' hs h1 h2 hr => ?_⟩
          rw [eh] at hr
          exact .ww (by rw [sub_fun hs, h1, ea']) (by rw [sub_fun hs, h2, ec']) hxy hord hr
        · have eh : sub θ (.var y) = .var y := by simp [sub, hyθ]
          have ho : occ x (sub θ (.var y)) = false := by rw [eh]; simp [occ]; exact fun e => hxy e.symm
          obtain ⟨b', θ', ok, R⟩ := step x (.var y) hx hxU hC ho
          refine ⟨b', θ', ok, R.bind I hx hxU ho (fun h => .vv HA HC hxy hord h) (.inl ⟨ea', ec⟩) fun s l2 r a' c' hs h1 h2 hr => ?_⟩
          rw [eh] at hr
          exact .vv (by rw [sub_fun hs, h1, ea']) (by rw [sub_fun hs, h2, ec']) hxy hord hr
    | node op nm k =>
      have eN : sub θ (.node op nm k) = .node op nm (subs θ k) := by simp [sub]
      cases ho : occ x (sub θ (.node op nm k)) with
      | true =>
        refine ⟨b, θ, false, Res.fail I hb (.vf θ HA HC I ho) (fun ρ e => ?_) fun s l2 a' c' hs h1 h2 => ?_⟩
        · rw [ea', ec, eN] at e
          rw [eN] at ho
          exact occ_no ho e
        · rw [eN] at ho
          exact .vf (by rw [sub_fun hs, h1, ea']) (by rw [sub_fun hs, h2, ec, eN]) ho
      | false =>
        obtain ⟨b', θ', ok, R⟩ := step x (.node op nm k) hx hxU hC ho
        refine ⟨b', θ', ok, R.bind I hx hxU ho (fun h => .vn θ HA HC I ho h) (.inl ⟨ea', ec⟩) fun s l2 r a' c' hs h1 h2 hr => ?_⟩
        rw [eN] at hr ho
        exact .vn (by rw [sub_fun hs, h1, ea']) (by rw [sub_fun hs, h2, ec, eN]) ho hr
  | node op nm k =>
    have eN : sub θ (.node op nm k) = .node op nm (subs θ k) := by simp [sub]
    cases C with
    | var x =>
      have hx := HC.unbound rfl
      have hxθ := (I.dom x).1 hx
      have hxU : x ∈ U := hC x (by simp [occ])
      have ec' : sub θ c = .var x := by rw [ec]; simp [sub, hxθ]
      cases ho : occ x (sub θ (.node op nm k)) with
      | true =>
        refine ⟨b, θ, false, Res.fail I hb (.nf θ HA HC I ho) (fun ρ e => ?_) fun s l2 a' c' hs h1 h2 => ?_⟩
        · rw [ec', ea, eN] at e
          rw [eN] at ho
          exact occ_no ho e.symm
        · rw [eN] at ho
          exact .nf (by rw [sub_fun hs, h1, ea, eN]) (by rw [sub_fun hs, h2, ec']) ho
      | false =>
        obtain ⟨b', θ', ok, R⟩ := step x (.node op nm k) hx hxU hA ho
        refine ⟨b', θ', ok, R.bind I hx hxU ho (fun h => .nv θ HA HC I ho h) (.inr ⟨ea, ec'⟩) fun s l2 r a' c' hs h1 h2 hr => ?_⟩
        rw [eN] at hr ho
        exact .nv (by rw [sub_fun hs, h1, ea, eN]) (by rw [sub_fun hs, h2, ec']) ho hr
    | node op' nm' k' =>
      have eN' : sub θ (.node op' nm' k') = .node op' nm' (subs θ k') := by simp [sub]
      by_cases hq : op = op' ∧ nm = nm' ∧ k.length = k'.length
      · obtain ⟨rfl, rfl, hk⟩ := hq
        have hzs := szl_zip θ k k'
        have hsa : siz (sub θ a) = 1 + sizs (subs θ k) := by rw [ea, eN]; simp [siz]
        obtain ⟨b1, θ1, ok1, R1⟩ := ihm (szl θ (k.zip k')) (by omega) b θ (k.zip k') I hb (CL_zip hA hC) hn (Nat.le_refl _)
        have pairs : ∀ ρ : Sb, (∀ t, sub ρ (sub θ t) = sub ρ t) → sub ρ a = sub ρ c → ∀ p ∈ k.zip k', sub ρ p.1 = sub ρ p.2 := fun ρ h1 e => by
          rw [← h1 a, ← h1 c, ea, ec, h1, h1] at e
          simp only [sub, Tm.node.injEq, true_and] at e
          exact zip_eq e
        cases ok1 with
        | false =>
          refine ⟨b1, θ1, false, .no HA HC hk R1.pu, R1.inv, R1.cb, R1.less, R1.ext, fun h => by (cases h), fun ρ h1 h2 => ?_, fun s hs => ⟨fun h => by (cases h), fun _ kk l2 hkk => ?_⟩⟩
          · have := (R1.best ρ h1 (pairs ρ h1 (h2 (a, c) (by simp)))).1
            cases this
          · cases kk with
            | nil => exact hkk.elim
            | cons q kk =>
              refine .dec (by rw [sub_fun hs, hkk.1.1, ea, eN]) (by rw [sub_fun hs, hkk.1.2, ec, eN']) (by rw [subs_len, subs_len, hk]) ?_
              exact (R1.ref s hs).2 rfl _ _ (Eqv.zip I k k')
        | true =>
          have h2 : ∃ b' θ' ok, Res ord U b1 θ1 l b' θ' ok := by
            rcases R1.less with ⟨e1, e2⟩ | hlt
            · subst e1 e2
              exact ihm (szl θ1 l) (by omega) b1 θ1 l I hb hl' hn (Nat.le_refl _)
            · exact ihn _ (by omega) _ b1 θ1 l R1.inv R1.cb hl' (Nat.le_refl _) (Nat.le_refl _)
          obtain ⟨b', θ', ok, R2⟩ := h2
          refine ⟨b', θ', ok, .dec HA HC hk R1.pu R2.pu, R2.inv, R2.cb, ?_, fun s t e => R2.ext _ _ (R1.ext _ _ e), fun hok p hp => ?_, fun ρ h1 h2 => ?_, fun s hs => ?_⟩
          · rcases R1.less with ⟨e1, e2⟩ | h1
            · rcases R2.less with ⟨e3, e4⟩ | h2
              · exact .inl ⟨by rw [e3, e1], by rw [e4, e2]⟩
              · rw [e1] at h2; exact .inr h2
            · rcases R2.less with ⟨e3, e4⟩ | h2
              · rw [← e3] at h1; exact .inr h1
              · exact .inr (by omega)
          · rcases List.mem_cons.1 hp with rfl | hp
            · refine R2.ext _ _ ?_
              have e1 := R1.ext _ _ (ea.trans (HA.eq I ▸ rfl) : sub θ a = sub θ a)
              have ea1 : sub θ1 a = sub θ1 (.node op nm k) := R1.ext a _ ea
              have ec1 : sub θ1 c = sub θ1 (.node op nm k') := R1.ext c _ ec
              rw [ea1, ec1]
              simp only [sub, zip_same hk (R1.same rfl)]
            · exact R2.same hok p hp
          · obtain ⟨_, h3⟩ := R1.best ρ h1 (pairs ρ h1 (h2 (a, c) (by simp)))
            exact R2.best ρ h3 fun p hp => h2 p (by simp [hp])
          · obtain ⟨s1, e1, f1⟩ := (R1.ref s hs).1 rfl
            obtain ⟨g1, g2⟩ := R2.ref s1 e1
            have key : ∀ q : Tm × Tm, sub θ q.1 = sub θ a → sub θ q.2 = sub θ c → ∀ l2 r, RU ord l2 s1 r → RU ord (q :: l2) s r := fun q q1 q2 l2 r hr => by
              refine .dec (by rw [sub_fun hs, q1, ea, eN]) (by rw [sub_fun hs, q2, ec, eN']) (by rw [subs_len, subs_len, hk]) ?_
              exact f1 _ l2 r (Eqv.zip I k k') hr
            refine ⟨fun hok => ?_, fun hok kk l2 hkk => ?_⟩
            · obtain ⟨s', e2, f2⟩ := g1 hok
              refine ⟨s', e2, fun kk l2 r hkk hr => ?_⟩
              cases kk with
              | nil => exact hkk.elim
              | cons q kk => exact key q hkk.1.1 hkk.1.2 _ r (f2 kk l2 r (hkk.2.mono R1.ext) hr)
            · cases kk with
              | nil => exact hkk.elim
              | cons q kk => exact key q hkk.1.1 hkk.1.2 _ none (g2 hok kk l2 (hkk.2.mono R1.ext))
      · refine ⟨b, θ, false, Res.fail I hb (.clash HA HC hq) (fun ρ e => hq ?_) fun s l2 a' c' hs h1 h2 => ?_⟩
        · rw [ea, ec, eN, eN'] at e
          simp only [sub, Tm.node.injEq] at e
          refine ⟨e.1, e.2.1, ?_⟩
          have := congrArg List.length e.2.2
          simpa [subs_len] using this
        · exact .clash (by rw [sub_fun hs, h1, ea, eN]) (by rw [sub_fun hs, h2, ec, eN']) (by rw [subs_len, subs_len]; exact hq)
end Go.Proofs.YtcmpodbjhoeblaaDoor
