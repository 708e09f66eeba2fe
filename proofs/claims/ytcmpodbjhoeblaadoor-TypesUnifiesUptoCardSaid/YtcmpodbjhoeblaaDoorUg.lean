/- Matching: what is found; sameness is equality of plain types; variables of terms. No condition. -/
import Derived.Test.YtcmpodbjhoeblaaDoorUf
set_option linter.unusedVariables false
set_option linter.unusedSimpArgs false
set_option linter.unusedSectionVars false
namespace Go.Proofs.YtcmpodbjhoeblaaDoor
open Go Go.VM
set_option maxRecDepth 100000
set_option maxHeartbeats 8000000
variable {G : GT}
theorem lookF_app {f : Fd} {x y : Nm} {u : Ty} : lookF (f ++ [(x, u)]) y = (lookF f y).or (if x = y then some u else none) := by
  unfold lookF
  rw [List.find?_append]
  cases f.find? fun p => decide (p.1 = y) with
  | some p => rfl
  | none => by_cases h : x = y <;> simp [h]
mutual
theorem match_mono {y : Nm} {v : Ty} : ∀ (p : Tm) (t : Ty) (f : Fd), lookF f y = some v → lookF (matchM p t f).2 y = some v
  | .var x, t, f, h => by
    simp only [matchM]
    split
    · rw [lookF_app, h]; rfl
    · exact h
  | .node op nm l, ⟨op', nm', l', ns', p', ps'⟩, f, h => by
    simp only [matchM]
    split
    · exact matchs_mono l l' f h
    · exact h
theorem matchs_mono {y : Nm} {v : Ty} : ∀ (l : List Tm) (k : List Ty) (f : Fd), lookF f y = some v → lookF (matchMs l k f).2 y = some v
  | [], k, f, h => by simpa [matchMs] using h
  | p :: r, [], f, h => by simpa [matchMs] using h
  | p :: r, t :: s, f, h => by
    have h1 := match_mono p t f h
    simp only [matchMs]
    split
    · exact matchs_mono r s _ h1
    · exact h1
end
mutual
theorem match_has {y : Nm} : ∀ (p : Tm) (t : Ty) (f : Fd), (matchM p t f).1 = true → occ y p = true → (lookF (matchM p t f).2 y).isSome = true
  | .var x, t, f, h, hy => by
    simp only [occ, decide_eq_true_eq] at hy
    subst hy
    cases hq : lookF f x with
    | none => simp [matchM, hq, lookF_app]
    | some u => simp [matchM, hq]
  | .node op nm l, ⟨op', nm', l', ns', p', ps'⟩, f, h, hy => by
    simp only [occ] at hy
    simp only [matchM] at h ⊢
    split at h
    · rename_i hc
      rw [if_pos hc]
      exact matchs_has l l' f hc.2.2 h hy
    · cases h
theorem matchs_has {y : Nm} : ∀ (l : List Tm) (k : List Ty) (f : Fd), l.length = k.length → (matchMs l k f).1 = true → occs y l = true → (lookF (matchMs l k f).2 y).isSome = true
  | [], k, f, _, _, hy => by simp [occs] at hy
  | p :: r, [], f, hl, _, _ => by simp at hl
  | p :: r, t :: s, f, hl, h, hy => by
    simp only [matchMs] at h ⊢
    split at h
    · rename_i hc
      rw [if_pos hc]
      simp only [occs, Bool.or_eq_true] at hy
      rcases hy with hy | hy
      · have h1 := match_has p t f hc hy
        obtain ⟨v, hv⟩ := Option.isSome_iff_exists.1 h1
        rw [matchs_mono r s _ hv]
        rfl
      · exact matchs_has r s _ (by simpa using hl) h hy
    · cases h
end
/-! ### The variables of a term -/
theorem addN_iff {acc : List Nm} {s x : Nm} : x ∈ addN acc s ↔ x ∈ acc ∨ x = s := by
  unfold addN
  split
  · rename_i h
    constructor
    · exact .inl
    · rintro (h' | rfl)
      · exact h'
      · exact h
  · simp
theorem addAll_iff {x : Nm} : ∀ (l acc : List Nm), x ∈ addAll acc l ↔ x ∈ acc ∨ x ∈ l
  | [], acc => by simp [addAll]
  | s :: r, acc => by
    have h3 : addAll acc (s :: r) = addAll (addN acc s) r := rfl
    rw [h3, addAll_iff r, addN_iff, List.mem_cons, or_assoc]
mutual
theorem raw_occ {m : Nat} {x : Nm} : ∀ p : Tm, WT m p → (x ∈ rawT (tyT p) ↔ occ x p = true)
  | .var y, _ => by
    simp only [tyT, rawT, rawTs, occ, decide_eq_true_eq]
    simp [eq_comm]
  | .node op nm l, ⟨h5, _, hw⟩ => by
    have := raws_occ (x := x) l hw
    simp only [tyT, rawT, occ]
    simp [h5, this]
theorem raws_occ {m : Nat} {x : Nm} : ∀ l : List Tm, WTs m l → (x ∈ rawTs (tyTs l) ↔ occs x l = true)
  | [], _ => by simp [tyTs, rawTs, occs]
  | t :: r, ⟨h1, h2⟩ => by
    have g1 := raw_occ (x := x) t h1
    have g2 := raws_occ (x := x) r h2
    simp only [tyTs, rawTs, occs, List.mem_append, Bool.or_eq_true, g1, g2]
end
theorem vars_occ {m : Nat} {x : Nm} {p : Tm} (hp : WT m p) (acc : List Nm) : x ∈ varsT (tyT p) acc ↔ x ∈ acc ∨ occ x p = true := by
  rw [vars_raw, addAll_iff, raw_occ p hp]
theorem WT_any (t : Ty) : WT (nodT t) (tmT t) := WT_tm t (Nat.le_refl _)
/-! ### Sameness -/
mutual
theorem sameT_iff : ∀ a b : Ty, sameT a b = true ↔ plainT a = plainT b
  | ⟨o, n, l, _, _, _⟩, ⟨o', n', l', _, _, _⟩ => by
    have h := sameTs_iff l l'
    simp only [sameT, plainT, Ty.mk.injEq, Bool.and_eq_true, decide_eq_true_eq]
    constructor
    · rintro ⟨h1, h2, h3, h4⟩
      exact ⟨h1, h2, (h h3).1 h4, trivial, trivial, trivial⟩
    · rintro ⟨h1, h2, h3, _⟩
      have hl : l.length = l'.length := by
        have := congrArg List.length h3
        simpa [plainTs_eq] using this
      exact ⟨h1, h2, hl, (h hl).2 h3⟩
theorem sameTs_iff : ∀ l k : List Ty, l.length = k.length → (sameTs l k = true ↔ plainTs l = plainTs k)
  | [], [], _ => by simp [sameTs]
  | [], _ :: _, h => by simp at h
  | _ :: _, [], h => by simp at h
  | a :: r, b :: s, h => by
    have h1 := sameT_iff a b
    have h2 := sameTs_iff r s (by simpa using h)
    simp only [sameTs, plainTs, Bool.and_eq_true, List.cons.injEq, h1, h2]
end
mutual
theorem plain_twice : ∀ t : Ty, plainT (plainT t) = plainT t
  | ⟨op, nm, l, ns, p, ps⟩ => by
    have := plains_twice l
    simp only [plainT, this]
theorem plains_twice : ∀ l : List Ty, plainTs (plainTs l) = plainTs l
  | [] => by simp [plainTs]
  | t :: r => by
    have h1 := plain_twice t
    have h2 := plains_twice r
    simp only [plainTs, h1, h2]
end
mutual
theorem tm_plain : ∀ t : Ty, tmT (plainT t) = tmT t
  | ⟨op, nm, l, ns, p, ps⟩ => by
    have := tms_plain l
    simp only [plainT, tmT, this]
theorem tms_plain : ∀ l : List Ty, tmTs (plainTs l) = tmTs l
  | [] => by simp [plainTs]
  | t :: r => by
    have h1 := tm_plain t
    have h2 := tms_plain r
    simp only [plainTs, tmTs, h1, h2]
end
mutual
/-- Accepted types: variables have no arguments. -/
theorem bare_plain : ∀ t : Ty, formT t = 0 → bareT t = plainT t
  | ⟨op, nm, l, ns, p, ps⟩, h => by
    obtain ⟨h1, h2⟩ := okN h
    have h3 := bares_plain l h2
    simp only [bareT, plainT]
    by_cases h5 : op = 5
    · have := h1.args (by simp [h5]) (by simp [h5])
      simp only at this
      subst this
      simp [h5, plainTs]
    · simp [h5, h3]
theorem bares_plain : ∀ l : List Ty, formTs l = 0 → bareTs l = plainTs l
  | [], _ => by simp [bareTs, plainTs]
  | t :: r, h => by
    obtain ⟨h1, h2⟩ := formTs_cons h
    have g1 := bare_plain t h1
    have g2 := bares_plain r h2
    simp only [bareTs, plainTs, g1, g2]
end
theorem plain_tm {t : Ty} (h : formT t = 0) : plainT t = tyT (tmT t) := by rw [← bare_plain t h, bare_tm]
mutual
theorem vars_plain : ∀ (t : Ty) (acc : List Nm), varsT (plainT t) acc = varsT t acc
  | ⟨op, nm, l, ns, p, ps⟩, acc => by
    have := varss_plain l (addV op nm acc)
    simp only [plainT, varsT, this]
theorem varss_plain : ∀ (l : List Ty) (acc : List Nm), varsTs (plainTs l) acc = varsTs l acc
  | [], acc => by simp [plainTs]
  | t :: r, acc => by
    have h1 := vars_plain t acc
    have h2 := varss_plain r (varsT t acc)
    simp only [plainTs, varsTs, h1, h2]
end
/-! ### Types in place of variables, on terms -/
/-- The replacement of names by terms. -/
def rho (n : List Nm) (ks : List Tm) : Sb := fun x => if 0 ≤ findI x n 0 then ks[(findI x n 0).toNat]? else none
theorem joinT_zero (t : Ty) : joinT t zeroP = t := joinT_plain (.inl rfl)
theorem pick_five {n : List Nm} {ks : List Tm} (x : Nm) : pickT n (ks.map tyT) 5 x = (rho n ks x).map tyT := by
  unfold pickT rho
  by_cases h : 0 ≤ findI x n 0 <;> simp [h]
theorem pick_other {n : List Nm} {bys : List Ty} {op : Int} (h : op ≠ 5) (x : Nm) : pickT n bys op x = none := by
  unfold pickT
  simp [h]
mutual
theorem sub_tyT (n : List Nm) (ks : List Tm) {m : Nat} : ∀ p : Tm, WT m p → subT n (ks.map tyT) (tyT p) = tyT (sub (rho n ks) p)
  | .var x, _ => by
    simp only [tyT, subT, pick_five, sub]
    cases rho n ks x with
    | none => simp [tyT, subTs]
    | some u => simp [joinT_zero]
  | .node op nm l, ⟨h5, _, hw⟩ => by
    have := subs_tyT n ks l hw
    simp only [tyT, subT, pick_other h5, sub, this]
theorem subs_tyT (n : List Nm) (ks : List Tm) {m : Nat} : ∀ l : List Tm, WTs m l → subTs n (ks.map tyT) (tyTs l) = tyTs (subs (rho n ks) l)
  | [], _ => by simp [tyTs, subTs, subs]
  | t :: r, ⟨h1, h2⟩ => by
    have g1 := sub_tyT n ks t h1
    have g2 := subs_tyT n ks r h2
    simp only [tyTs, subTs, subs, g1, g2]
end
mutual
/-- What the replacement is on terms, for any type. -/
theorem tm_sub (n : List Nm) (bys : List Ty) : ∀ t : Ty, tmT (subT n bys (plainT t)) = sub (rho n (tmTs bys)) (tmT t)
  | ⟨op, nm, l, ns, p, ps⟩ => by
    have h := tms_sub n bys l
    simp only [plainT, subT, tmT]
    by_cases h5 : op = 5
    · subst h5
      simp only [if_true, sub, rho, tmTs_eq, pickT, true_and]
      by_cases hf : 0 ≤ findI nm n 0
      · simp only [hf, if_true, List.getElem?_map]
        cases bys[(findI nm n 0).toNat]? with
        | none => simp [tmT]
        | some u => simp [joinT_zero]
      · simp [hf, tmT]
    · simp only [pick_other h5, tmT, h5, if_false, sub, h]
theorem tms_sub (n : List Nm) (bys : List Ty) : ∀ l : List Ty, tmTs (subTs n bys (plainTs l)) = subs (rho n (tmTs bys)) (tmTs l)
  | [] => by simp [plainTs, subTs, tmTs, subs]
  | t :: r => by
    have h1 := tm_sub n bys t
    have h2 := tms_sub n bys r
    simp only [plainTs, subTs, tmTs, subs, h1, h2]
end
theorem tm_same {s t : Ty} (h : sameT s t = true) : tmT s = tmT t := by
  rw [← tm_plain s, ← tm_plain t, (sameT_iff s t).1 h]
/-! ### A match finds what was put in -/
def wantT (n : List Nm) (bys : List Ty) (x : Nm) : Ty := match pickT n bys 5 x with
  | some u => u
  | none => ⟨5, x, [], [], zeroP, []⟩
def WF (n : List Nm) (bys : List Ty) (f : Fd) : Prop := ∀ x v, lookF f x = some v → v = plainT (wantT n bys x)
mutual
theorem match_gen (n : List Nm) (bys : List Ty) : ∀ (s : Ty) (f : Fd), formT s = 0 → WF n bys f → (matchM (tmT s) (subT n bys (plainT s)) f).1 = true ∧ WF n bys (matchM (tmT s) (subT n bys (plainT s)) f).2
  | ⟨op, nm, l, ns, p, ps⟩, f, h, hf => by
    obtain ⟨h1, h2⟩ := okN h
    by_cases h5 : op = 5
    · subst h5
      have hl := h1.args (by simp) (by simp)
      simp only at hl
      subst hl
      have hw : subT n bys (plainT ⟨5, nm, [], ns, p, ps⟩) = wantT n bys nm := by
        simp only [plainT, subT, wantT, plainTs, subTs]
        cases pickT n bys 5 nm with
        | none => rfl
        | some u => simp [joinT_zero]
      rw [hw]
      simp only [tmT, if_true, matchM]
      cases hq : lookF f nm with
      | none =>
        refine ⟨rfl, fun x v hv => ?_⟩
        simp only at hv
        rw [lookF_app] at hv
        cases hx : lookF f x with
        | some w =>
          rw [hx] at hv
          simp at hv
          subst hv
          exact hf x _ hx
        | none =>
          rw [hx] at hv
          by_cases hn : nm = x
          · subst hn
            simp at hv
            exact hv.symm
          · simp [hn] at hv
      | some y =>
        have := hf nm y hq
        subst this
        exact ⟨(sameT_iff _ _).2 (plain_twice _), hf⟩
    · have h3 := match_gens n bys l f h2 hf
      have hlen : (tmTs l).length = (subTs n bys (plainTs l)).length := by simp [tmTs_eq, subTs_eq, plainTs_eq]
      simp only [plainT, subT, pick_other h5, tmT, h5, if_false, matchM]
      simp only [hlen, true_and, if_true]
      exact h3
theorem match_gens (n : List Nm) (bys : List Ty) : ∀ (l : List Ty) (f : Fd), formTs l = 0 → WF n bys f → (matchMs (tmTs l) (subTs n bys (plainTs l)) f).1 = true ∧ WF n bys (matchMs (tmTs l) (subTs n bys (plainTs l)) f).2
  | [], f, _, hf => by
    simp only [tmTs, matchMs]
    exact ⟨trivial, hf⟩
  | t :: r, f, h, hf => by
    obtain ⟨h1, h2⟩ := formTs_cons h
    obtain ⟨g1, g2⟩ := match_gen n bys t f h1 hf
    have g3 := match_gens n bys r _ h2 g2
    simp only [plainTs, subTs, tmTs, matchMs]
    rw [if_pos g1]
    exact g3
end
end Go.Proofs.YtcmpodbjhoeblaaDoor
