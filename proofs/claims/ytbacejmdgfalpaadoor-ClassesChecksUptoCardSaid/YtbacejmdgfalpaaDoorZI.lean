/- Joined texts. Matching: the model, and the walk of the closure that matches. Matching: what is found; sameness is equality of plain types; variables of terms. Types whose lists are not too long: Same, Vars; what Unify gives. Matching: the walk of Match. No condition. -/
import Derived.Test.YtbacejmdgfalpaaDoorZH
section
set_option linter.unusedVariables false
set_option linter.unusedSimpArgs false
set_option linter.unusedSectionVars false
namespace Go.Proofs.YtbacejmdgfalpaaDoor
open Go Go.VM
set_option maxRecDepth 100000
set_option maxHeartbeats 8000000
variable {G : GT}
/-- What variables were matched with. -/
abbrev Fd := List (Nm × Ty)
def lookF (f : Fd) (x : Nm) : Option Ty := (f.find? fun p => decide (p.1 = x)).map (·.2)
mutual
/-- A pattern against a type: whether it matches, and what was found. -/
def matchM : Tm → Ty → Fd → Bool × Fd
  | .var x, t, f => match lookF f x with
    | none => (true, f ++ [(x, plainT t)])
    | some y => (sameT y t, f)
  | .node op nm l, t, f => if op = t.op ∧ nm = t.name ∧ l.length = t.args.length then matchMs l t.args f else (false, f)
def matchMs : List Tm → List Ty → Fd → Bool × Fd
  | p :: r, t :: s, f => if (matchM p t f).1 then matchMs r s (matchM p t f).2 else (false, (matchM p t f).2)
  | _, _, f => (true, f)
end
theorem matchMs_drop {l : List Tm} {k : List Ty} {i : Nat} (h : i < l.length) (h' : i < k.length) (f : Fd) : matchMs (l.drop i) (k.drop i) f = if (matchM l[i] k[i] f).1 then matchMs (l.drop (i + 1)) (k.drop (i + 1)) (matchM l[i] k[i] f).2 else (false, (matchM l[i] k[i] f).2) := by
  rw [List.drop_eq_getElem_cons h, List.drop_eq_getElem_cons h']
  rfl
def fdOf (f : Fd) : List (D × D) := f.map fun p => (.str p.1, .agg (tyD p.2))
theorem fd_find (nm : Nm) : ∀ f : Fd, findKeyD (.str nm) (fdOf f) = some ((lookF f nm).map fun u => .agg (tyD u))
  | [] => by simp [fdOf, findKeyD, lookF]
  | p :: r => by
    have := fd_find nm r
    simp only [fdOf] at this
    simp only [fdOf, List.map_cons, findKeyD, eqCell]
    by_cases h : nm = p.1
    · subst h; simp [lookF]
    · have h' : ¬ p.1 = nm := fun e => h e.symm
      simp [h, this, lookF, h']
theorem fd_set {nm : Nm} {u : Ty} : ∀ {f : Fd}, lookF f nm = none → setKeyD (.str nm) (.agg (tyD u)) (fdOf f) = some (fdOf (f ++ [(nm, u)]))
  | [], _ => by simp [fdOf, setKeyD]
  | p :: r, h => by
    have hp : ¬ p.1 = nm := fun e => by simp [lookF, e] at h
    have hr : lookF r nm = none := by simpa [lookF, hp] using h
    have h1 : ¬ nm = p.1 := fun e => hp e.symm
    have := fd_set (nm := nm) (u := u) (f := r) hr
    simp only [fdOf] at this
    simp [fdOf, setKeyD, eqCell, h1, this]
mutual
theorem nod_plain : ∀ t : Ty, nodT (plainT t) = nodT t
  | ⟨op, nm, l, ns, p, ps⟩ => by
    have := nods_plain l
    simp only [plainT, nodT, this]
theorem nods_plain : ∀ l : List Ty, nodTs (plainTs l) = nodTs l
  | [] => by simp [plainTs]
  | t :: r => by
    have h1 := nod_plain t
    have h2 := nods_plain r
    simp only [plainTs, nodTs, h1, h2]
end
theorem lookF_add {f : Fd} {x y : Nm} {u v : Ty} (h : lookF (f ++ [(x, u)]) y = some v) : lookF f y = some v ∨ v = u := by
  unfold lookF at h ⊢
  rw [List.find?_append] at h
  cases hf : f.find? fun p => decide (p.1 = y) with
  | some p => rw [hf] at h; exact .inl (by simpa using h)
  | none =>
    rw [hf] at h
    simp at h
    exact .inr h.2.symm
def FB (f : Fd) : Prop := ∀ x u, lookF f x = some u → nodT u ≤ 900000000
mutual
theorem match_fb : ∀ (p : Tm) (t : Ty) (f : Fd), nodT t ≤ 900000000 → FB f → FB (matchM p t f).2
  | .var x, t, f, ht, hf => by
    simp only [matchM]
    split
    · intro y u hy
      rcases lookF_add hy with h | rfl
      · exact hf y u h
      · rw [nod_plain]; exact ht
    · exact hf
  | .node op nm l, ⟨op', nm', l', ns', p', ps'⟩, f, ht, hf => by
    simp only [matchM]
    simp only [nodT] at ht
    split
    · exact matchs_fb l l' f (by omega) hf
    · exact hf
theorem matchs_fb : ∀ (l : List Tm) (k : List Ty) (f : Fd), nodTs k ≤ 900000000 → FB f → FB (matchMs l k f).2
  | [], k, f, _, hf => by simpa [matchMs] using hf
  | p :: r, [], f, _, hf => by simpa [matchMs] using hf
  | p :: r, t :: s, f, hk, hf => by
    simp only [nodTs] at hk
    have h1 := match_fb p t f (by omega) hf
    simp only [matchMs]
    split
    · exact matchs_fb r s _ (by omega) h1
    · exact h1
end
def mH (f : Fd) : List (Nat × AObj) := [(100000, .cells [.mp 100002]), (100001, .cells [.clo 58 [.ptr 100000 0, .ptr 100001 0]]), (100002, .map (fdOf f))]
theorem ent_match1 : VM.Enters Tryd.prog 58 := VM.Enters.mk Tryd.func58 rfl
theorem match1_ch (m : Nat) (hm : m ≤ 900000000) : ∀ (n : Nat) (p : Tm) (t : Ty) (f : Fd), siz p ≤ n → WT m p → nodT t ≤ 900000000 → FB f →
    CH Tryd.prog G 58 ⟨[.d (.agg (tmD p)), .d (.agg (tyD t)), .ptr 100000 0, .ptr 100001 0], mH f, []⟩ ⟨[.d (.bool (matchM p t f).1)], mH (matchM p t f).2, []⟩ := by
  intro n
  induction n with
  | zero => intro p t f h; have := siz_pos p; omega
  | succ n ih =>
    intro p t f hn hp ht hf
    refine CH.of_VK Tryd.func58 rfl Tryd.ntmps58 rfl (by simp) ?_
    cases p with
    | var x =>
      cases hq : lookF f x with
      | none =>
        have hs := fd_set (u := plainT t) hq
        simp [mH, tyT_var, fd_find, hq, matchM]
        refine ⟨lexOk.mk (by kernel_rfl), ?_⟩
        refine callK.mk ent_types_Plain (types_Plain_cs t ht) ?_
        simp [hs]
      | some y =>
        simp [mH, tyT_var, fd_find, hq, matchM]
        refine callK.mk ent_types_Same (types_Same_cs y t (hf x y hq)) ?_
        simp
    | node op nm l =>
      obtain ⟨h5, hl, hws⟩ := hp
      obtain ⟨op', nm', l', ns', p', ps'⟩ := t
      simp only [siz] at hn
      have hnt := nodT_args ⟨op', nm', l', ns', p', ps'⟩
      simp only at hnt
      by_cases e1 : op = op'
      · by_cases e2 : nm = nm'
        · by_cases e3 : l.length = l'.length
          · subst e1 e2
            have hmm : matchM (.node op nm l) ⟨op, nm, l', ns', p', ps'⟩ f = matchMs l l' f := by simp [matchM, e3]
            rw [hmm]
            simp [mH, tyT_node, h5, e3]
            refine SW.loopF (ι := { x : Nat × Fd // x.1 ≤ l.length ∧ matchMs (l.drop x.1) (l'.drop x.1) x.2 = matchMs l l' f ∧ FB x.2 }) (fun x => [(54, .d (.int .i64 x.1.1))]) (fun x => (4, tyO op nm (.sl (l.map (tyC ∘ tyT))) (.sl []) zeroP (.sl [])) :: (5, tyO op nm (.sl (l'.map tyC)) (.sl (strs ns')) p' (.sl (ps'.map prC))) :: mH x.1.2) (fun _ => []) (fun x => l.length - x.1.1) ⟨(0, f), by simp, by simp, hf⟩ (by simp [mH, strs]) ?_
            rintro ⟨⟨i, fi⟩, hi, hR, hB⟩
            simp only at hi hR hB
            by_cases hlt : i < l.length
            · have hlt' : i < l'.length := by omega
              have hg := tms_get hlt
              have hg' := tys_get hlt'
              have hw := wrap64s (show i < 9223372036854775807 by omega)
              have hs := sizs_mem (θ := fun _ => none) hlt
              rw [sub_none, subs_none] at hs
              have hb2 := nodTs_step hlt'
              have hb3 := nodTs_take_le l' (i + 1)
              rw [matchMs_drop hlt hlt'] at hR
              have hB' := match_fb l[i] l'[i] fi (by omega) hB
              simp [hlt, hlt', ← e3, hg, hg', mH]
              refine ⟨lexOk.mk (by kernel_rfl), ?_⟩
              refine callHK.mk ent_match1 (ih l[i] l'[i] fi (by omega) (WTs_mem hws (List.getElem_mem hlt)) (by omega) hB) uK (by simp [mH]) (by simp) (by simp [mH]) (by simp; rfl) (by simp) ?_
              cases hr : (matchM l[i] l'[i] fi).1
              · rw [hr] at hR
                simp at hR
                simp [mH, hr, ← hR]
              · rw [hr] at hR
                simp at hR
                simp [mH, hr]
                exact Again.mk ⟨(i + 1, (matchM l[i] l'[i] fi).2), hlt, hR, hB'⟩ (by simp [hw, mH]) (by simp; omega)
            · have : i = l.length := by omega
              subst this
              rw [List.drop_length] at hR
              simp [matchMs] at hR
              simp [mH, ← hR, ← e3]
          · have e3' : ¬ (l.length : Int) = (l'.length : Int) := by omega
            subst e1 e2
            simp [mH, tyT_node, h5, e3, e3', matchM]
        · subst e1
          simp [mH, tyT_node, h5, e2, matchM]
      · simp [mH, tyT_node, h5, e1, matchM]
end Go.Proofs.YtbacejmdgfalpaaDoor
end

section
set_option linter.unusedVariables false
set_option linter.unusedSimpArgs false
set_option linter.unusedSectionVars false
namespace Go.Proofs.YtbacejmdgfalpaaDoor
open Go Go.VM
set_option maxRecDepth 100000
set_option maxHeartbeats 8000000
variable {G : GT}
theorem lookF_app {f : Fd} {x y : Nm} {u : Ty} : lookF (f ++ [(x, u)]) y = (lookF f y).or (if x = y then some u else none) := by
  unfold lookF
  rw [List.find?_append]
  cases f.find? fun p => decide (p.1 = y) with
  | some p => rfl
  | none => by_cases h : x = y <;> simp [h]
mutual
theorem match_mono {y : Nm} {v : Ty} : ∀ (p : Tm) (t : Ty) (f : Fd), lookF f y = some v → lookF (matchM p t f).2 y = some v
  | .var x, t, f, h => by
    simp only [matchM]
    split
    · rw [lookF_app, h]; rfl
    · exact h
  | .node op nm l, ⟨op', nm', l', ns', p', ps'⟩, f, h => by
    simp only [matchM]
    split
    · exact matchs_mono l l' f h
    · exact h
theorem matchs_mono {y : Nm} {v : Ty} : ∀ (l : List Tm) (k : List Ty) (f : Fd), lookF f y = some v → lookF (matchMs l k f).2 y = some v
  | [], k, f, h => by simpa [matchMs] using h
  | p :: r, [], f, h => by simpa [matchMs] using h
  | p :: r, t :: s, f, h => by
    have h1 := match_mono p t f h
    simp only [matchMs]
    split
    · exact matchs_mono r s _ h1
    · exact h1
end
mutual
theorem match_has {y : Nm} : ∀ (p : Tm) (t : Ty) (f : Fd), (matchM p t f).1 = true → occ y p = true → (lookF (matchM p t f).2 y).isSome = true
  | .var x, t, f, h, hy => by
    simp only [occ, decide_eq_true_eq] at hy
    subst hy
    cases hq : lookF f x with
    | none => simp [matchM, hq, lookF_app]
    | some u => simp [matchM, hq]
  | .node op nm l, ⟨op', nm', l', ns', p', ps'⟩, f, h, hy => by
    simp only [occ] at hy
    simp only [matchM] at h ⊢
    split at h
    · rename_i hc
      rw [if_pos hc]
      exact matchs_has l l' f hc.2.2 h hy
    · cases h
theorem matchs_has {y : Nm} : ∀ (l : List Tm) (k : List Ty) (f : Fd), l.length = k.length → (matchMs l k f).1 = true → occs y l = true → (lookF (matchMs l k f).2 y).isSome = true
  | [], k, f, _, _, hy => by simp [occs] at hy
  | p :: r, [], f, hl, _, _ => by simp at hl
  | p :: r, t :: s, f, hl, h, hy => by
    simp only [matchMs] at h ⊢
    split at h
    · rename_i hc
      rw [if_pos hc]
      simp only [occs, Bool.or_eq_true] at hy
      rcases hy with hy | hy
      · have h1 := match_has p t f hc hy
        obtain ⟨v, hv⟩ := Option.isSome_iff_exists.1 h1
        rw [matchs_mono r s _ hv]
        rfl
      · exact matchs_has r s _ (by simpa using hl) h hy
    · cases h
end
/-! ### The variables of a term -/
theorem addN_iff {acc : List Nm} {s x : Nm} : x ∈ addN acc s ↔ x ∈ acc ∨ x = s := by
  unfold addN
  split
  · rename_i h
    constructor
    · exact .inl
    · rintro (h' | rfl)
      · exact h'
      · exact h
  · simp
theorem addAll_iff {x : Nm} : ∀ (l acc : List Nm), x ∈ addAll acc l ↔ x ∈ acc ∨ x ∈ l
  | [], acc => by simp [addAll]
  | s :: r, acc => by
    have h3 : addAll acc (s :: r) = addAll (addN acc s) r := rfl
    rw [h3, addAll_iff r, addN_iff, List.mem_cons, or_assoc]
mutual
theorem raw_occ {m : Nat} {x : Nm} : ∀ p : Tm, WT m p → (x ∈ rawT (tyT p) ↔ occ x p = true)
  | .var y, _ => by
    simp only [tyT, rawT, rawTs, occ, decide_eq_true_eq]
    simp [eq_comm]
  | .node op nm l, ⟨h5, _, hw⟩ => by
    have := raws_occ (x := x) l hw
    simp only [tyT, rawT, occ]
    simp [h5, this]
theorem raws_occ {m : Nat} {x : Nm} : ∀ l : List Tm, WTs m l → (x ∈ rawTs (tyTs l) ↔ occs x l = true)
  | [], _ => by simp [tyTs, rawTs, occs]
  | t :: r, ⟨h1, h2⟩ => by
    have g1 := raw_occ (x := x) t h1
    have g2 := raws_occ (x := x) r h2
    simp only [tyTs, rawTs, occs, List.mem_append, Bool.or_eq_true, g1, g2]
end
theorem vars_occ {m : Nat} {x : Nm} {p : Tm} (hp : WT m p) (acc : List Nm) : x ∈ varsT (tyT p) acc ↔ x ∈ acc ∨ occ x p = true := by
  rw [vars_raw, addAll_iff, raw_occ p hp]
theorem WT_any (t : Ty) : WT (nodT t) (tmT t) := WT_tm t (Nat.le_refl _)
/-! ### Sameness -/
mutual
theorem sameT_iff : ∀ a b : Ty, sameT a b = true ↔ plainT a = plainT b
  | ⟨o, n, l, _, _, _⟩, ⟨o', n', l', _, _, _⟩ => by
    have h := sameTs_iff l l'
    simp only [sameT, plainT, Ty.mk.injEq, Bool.and_eq_true, decide_eq_true_eq]
    constructor
    · rintro ⟨h1, h2, h3, h4⟩
      exact ⟨h1, h2, (h h3).1 h4, trivial, trivial, trivial⟩
    · rintro ⟨h1, h2, h3, _⟩
      have hl : l.length = l'.length := by
        have := congrArg List.length h3
        simpa [plainTs_eq] using this
      exact ⟨h1, h2, hl, (h hl).2 h3⟩
theorem sameTs_iff : ∀ l k : List Ty, l.length = k.length → (sameTs l k = true ↔ plainTs l = plainTs k)
  | [], [], _ => by simp [sameTs]
  | [], _ :: _, h => by simp at h
  | _ :: _, [], h => by simp at h
  | a :: r, b :: s, h => by
    have h1 := sameT_iff a b
    have h2 := sameTs_iff r s (by simpa using h)
    simp only [sameTs, plainTs, Bool.and_eq_true, List.cons.injEq, h1, h2]
end
mutual
theorem plain_twice : ∀ t : Ty, plainT (plainT t) = plainT t
  | ⟨op, nm, l, ns, p, ps⟩ => by
    have := plains_twice l
    simp only [plainT, this]
theorem plains_twice : ∀ l : List Ty, plainTs (plainTs l) = plainTs l
  | [] => by simp [plainTs]
  | t :: r => by
    have h1 := plain_twice t
    have h2 := plains_twice r
    simp only [plainTs, h1, h2]
end
mutual
theorem tm_plain : ∀ t : Ty, tmT (plainT t) = tmT t
  | ⟨op, nm, l, ns, p, ps⟩ => by
    have := tms_plain l
    simp only [plainT, tmT, this]
theorem tms_plain : ∀ l : List Ty, tmTs (plainTs l) = tmTs l
  | [] => by simp [plainTs]
  | t :: r => by
    have h1 := tm_plain t
    have h2 := tms_plain r
    simp only [plainTs, tmTs, h1, h2]
end
mutual
/-- Accepted types: variables have no arguments. -/
theorem bare_plain : ∀ t : Ty, formT t = 0 → bareT t = plainT t
  | ⟨op, nm, l, ns, p, ps⟩, h => by
    obtain ⟨h1, h2⟩ := okN h
    have h3 := bares_plain l h2
    simp only [bareT, plainT]
    by_cases h5 : op = 5
    · have := h1.args (by simp [h5]) (by simp [h5])
      simp only at this
      subst this
      simp [h5, plainTs]
    · simp [h5, h3]
theorem bares_plain : ∀ l : List Ty, formTs l = 0 → bareTs l = plainTs l
  | [], _ => by simp [bareTs, plainTs]
  | t :: r, h => by
    obtain ⟨h1, h2⟩ := formTs_cons h
    have g1 := bare_plain t h1
    have g2 := bares_plain r h2
    simp only [bareTs, plainTs, g1, g2]
end
theorem plain_tm {t : Ty} (h : formT t = 0) : plainT t = tyT (tmT t) := by rw [← bare_plain t h, bare_tm]
mutual
theorem vars_plain : ∀ (t : Ty) (acc : List Nm), varsT (plainT t) acc = varsT t acc
  | ⟨op, nm, l, ns, p, ps⟩, acc => by
    have := varss_plain l (addV op nm acc)
    simp only [plainT, varsT, this]
theorem varss_plain : ∀ (l : List Ty) (acc : List Nm), varsTs (plainTs l) acc = varsTs l acc
  | [], acc => by simp [plainTs]
  | t :: r, acc => by
    have h1 := vars_plain t acc
    have h2 := varss_plain r (varsT t acc)
    simp only [plainTs, varsTs, h1, h2]
end
/-! ### Types in place of variables, on terms -/
/-- The replacement of names by terms. -/
def rho (n : List Nm) (ks : List Tm) : Sb := fun x => if 0 ≤ findI x n 0 then ks[(findI x n 0).toNat]? else none
theorem joinT_zero (t : Ty) : joinT t zeroP = t := joinT_plain (.inl rfl)
theorem pick_five {n : List Nm} {ks : List Tm} (x : Nm) : pickT n (ks.map tyT) 5 x = (rho n ks x).map tyT := by
  unfold pickT rho
  by_cases h : 0 ≤ findI x n 0 <;> simp [h]
theorem pick_other {n : List Nm} {bys : List Ty} {op : Int} (h : op ≠ 5) (x : Nm) : pickT n bys op x = none := by
  unfold pickT
  simp [h]
mutual
theorem sub_tyT (n : List Nm) (ks : List Tm) {m : Nat} : ∀ p : Tm, WT m p → subT n (ks.map tyT) (tyT p) = tyT (sub (rho n ks) p)
  | .var x, _ => by
    simp only [tyT, subT, pick_five, sub]
    cases rho n ks x with
    | none => simp [tyT, subTs]
    | some u => simp [joinT_zero]
  | .node op nm l, ⟨h5, _, hw⟩ => by
    have := subs_tyT n ks l hw
    simp only [tyT, subT, pick_other h5, sub, this]
theorem subs_tyT (n : List Nm) (ks : List Tm) {m : Nat} : ∀ l : List Tm, WTs m l → subTs n (ks.map tyT) (tyTs l) = tyTs (subs (rho n ks) l)
  | [], _ => by simp [tyTs, subTs, subs]
  | t :: r, ⟨h1, h2⟩ => by
    have g1 := sub_tyT n ks t h1
    have g2 := subs_tyT n ks r h2
    simp only [tyTs, subTs, subs, g1, g2]
end
mutual
/-- What the replacement is on terms, for any type. -/
theorem tm_sub (n : List Nm) (bys : List Ty) : ∀ t : Ty, tmT (subT n bys (plainT t)) = sub (rho n (tmTs bys)) (tmT t)
  | ⟨op, nm, l, ns, p, ps⟩ => by
    have h := tms_sub n bys l
    simp only [plainT, subT, tmT]
    by_cases h5 : op = 5
    · subst h5
      simp only [if_true, sub, rho, tmTs_eq, pickT, true_and]
      by_cases hf : 0 ≤ findI nm n 0
      · simp only [hf, if_true, List.getElem?_map]
        cases bys[(findI nm n 0).toNat]? with
        | none => simp [tmT]
        | some u => simp [joinT_zero]
      · simp [hf, tmT]
    · simp only [pick_other h5, tmT, h5, if_false, sub, h]
theorem tms_sub (n : List Nm) (bys : List Ty) : ∀ l : List Ty, tmTs (subTs n bys (plainTs l)) = subs (rho n (tmTs bys)) (tmTs l)
  | [] => by simp [plainTs, subTs, tmTs, subs]
  | t :: r => by
    have h1 := tm_sub n bys t
    have h2 := tms_sub n bys r
    simp only [plainTs, subTs, tmTs, subs, h1, h2]
end
theorem tm_same {s t : Ty} (h : sameT s t = true) : tmT s = tmT t := by
  rw [← tm_plain s, ← tm_plain t, (sameT_iff s t).1 h]
/-! ### A match finds what was put in -/
def wantT (n : List Nm) (bys : List Ty) (x : Nm) : Ty := match pickT n bys 5 x with
  | some u => u
  | none => ⟨5, x, [], [], zeroP, []⟩
def WF (n : List Nm) (bys : List Ty) (f : Fd) : Prop := ∀ x v, lookF f x = some v → v = plainT (wantT n bys x)
mutual
theorem match_gen (n : List Nm) (bys : List Ty) : ∀ (s : Ty) (f : Fd), formT s = 0 → WF n bys f → (matchM (tmT s) (subT n bys (plainT s)) f).1 = true ∧ WF n bys (matchM (tmT s) (subT n bys (plainT s)) f).2
  | ⟨op, nm, l, ns, p, ps⟩, f, h, hf => by
    obtain ⟨h1, h2⟩ := okN h
    by_cases h5 : op = 5
    · subst h5
      have hl := h1.args (by simp) (by simp)
      simp only at hl
      subst hl
      have hw : subT n bys (plainT ⟨5, nm, [], ns, p, ps⟩) = wantT n bys nm := by
        simp only [plainT, subT, wantT, plainTs, subTs]
        cases pickT n bys 5 nm with
        | none => rfl
        | some u => simp [joinT_zero]
      rw [hw]
      simp only [tmT, if_true, matchM]
      cases hq : lookF f nm with
      | none =>
        refine ⟨rfl, fun x v hv => ?_⟩
        simp only at hv
        rw [lookF_app] at hv
        cases hx : lookF f x with
        | some w =>
          rw [hx] at hv
          simp at hv
          subst hv
          exact hf x _ hx
        | none =>
          rw [hx] at hv
          by_cases hn : nm = x
          · subst hn
            simp at hv
            exact hv.symm
          · simp [hn] at hv
      | some y =>
        have := hf nm y hq
        subst this
        exact ⟨(sameT_iff _ _).2 (plain_twice _), hf⟩
    · have h3 := match_gens n bys l f h2 hf
      have hlen : (tmTs l).length = (subTs n bys (plainTs l)).length := by simp [tmTs_eq, subTs_eq, plainTs_eq]
      simp only [plainT, subT, pick_other h5, tmT, h5, if_false, matchM]
      simp only [hlen, true_and, if_true]
      exact h3
theorem match_gens (n : List Nm) (bys : List Ty) : ∀ (l : List Ty) (f : Fd), formTs l = 0 → WF n bys f → (matchMs (tmTs l) (subTs n bys (plainTs l)) f).1 = true ∧ WF n bys (matchMs (tmTs l) (subTs n bys (plainTs l)) f).2
  | [], f, _, hf => by
    simp only [tmTs, matchMs]
    exact ⟨trivial, hf⟩
  | t :: r, f, h, hf => by
    obtain ⟨h1, h2⟩ := formTs_cons h
    obtain ⟨g1, g2⟩ := match_gen n bys t f h1 hf
    have g3 := match_gens n bys r _ h2 g2
    simp only [plainTs, subTs, tmTs, matchMs]
    rw [if_pos g1]
    exact g3
end
end Go.Proofs.YtbacejmdgfalpaaDoor
end

section
set_option linter.unusedVariables false
set_option linter.unusedSimpArgs false
set_option linter.unusedSectionVars false
namespace Go.Proofs.YtbacejmdgfalpaaDoor
open Go Go.VM
set_option maxRecDepth 100000
set_option maxHeartbeats 8000000
variable {G : GT}
theorem types_Same_ln : ∀ t u : Ty, LnT 900000000 t → CS Tryd.prog G 60 [.agg (tyD t), .agg (tyD u)] (.d (.bool (sameT t u))) none := by
  refine Ty.ind fun t ih => ?_
  obtain ⟨op, nm, l, ns, p, ps⟩ := t
  rintro u ⟨hl, hns, hp, hps, hL⟩
  obtain ⟨op', nm', l', ns', p', ps'⟩ := u
  simp only at ih
  have hq := sameT_eq ⟨op, nm, l, ns, p, ps⟩ ⟨op', nm', l', ns', p', ps'⟩
  simp only at hq
  refine CS.of_VK Tryd.func60 rfl Tryd.ntmps60 rfl ?_
  by_cases h1 : op = op'
  · by_cases h2 : nm = nm'
    · by_cases h3 : l.length = l'.length
      · simp only [h1, h2, h3, decide_true, Bool.true_and] at hq
        simp [h1, h2, h3]
        refine SW.loopF (ι := { i : Nat // i ≤ l.length ∧ sameTs (l.drop i) (l'.drop i) = sameTs l l' }) (fun i => [(30, .d (.int .i64 i.1))]) (fun i => [(2, .cells [.d (.int .i64 op'), .d (.str nm'), .d (.sl (l.map tyC)), .d (.sl (strs ns)), .d (.int .i64 p.op), .d (.str p.name), .d (.int .i64 p.n), .d (.sl (p.kids.map prC)), .d (.sl (ps.map prC))]), (3, .cells [.d (.int .i64 op'), .d (.str nm'), .d (.sl (l'.map tyC)), .d (.sl (strs ns')), .d (.int .i64 p'.op), .d (.str p'.name), .d (.int .i64 p'.n), .d (.sl (p'.kids.map prC)), .d (.sl (ps'.map prC))])]) (fun _ => []) (fun i => l.length - i.1) ⟨0, by simp⟩ (by simp) ?_
        rintro ⟨i, hi, hR⟩
        try simp only at hi hR
        by_cases hlt : i < l.length
        · have hlt' : i < l'.length := by omega
          have hg := tys_get hlt
          have hg' := tys_get hlt'
          have hw := wrap64s (show i < 9223372036854775807 by omega)
          have hb2 := LnTs_get hL hlt
          rw [sameTs_drop hlt hlt'] at hR
          simp [hlt', hlt, hg, hg']
          refine ⟨lexOk.mk (by kernel_rfl), ?_⟩
          refine callK.mk ent_types_Same (ih l[i] (List.getElem_mem hlt) l'[i] hb2) ?_
          cases hs : sameT l[i] l'[i]
          · rw [hs, Bool.false_and] at hR
            simp [hs, hq, ← hR]
          · rw [hs, Bool.true_and] at hR
            simp [hs]
            exact Again.mk ⟨i + 1, hlt, hR⟩ (by simp [hw]) (by simp; omega)
        · have : i = l.length := by omega
          subst this
          rw [sameTs_end] at hR
          simp [hq, ← hR, ← h3]
      · simp only [h1, h2, h3, decide_true, decide_false, Bool.true_and, Bool.false_and] at hq
        have h3' : ¬ ((l.length : Int) = (l'.length : Int)) := by omega
        simp [h1, h2, h3, h3', hq]
    · simp only [h1, h2, decide_true, decide_false, Bool.true_and, Bool.false_and] at hq
      simp [h1, h2, hq]
  · simp only [h1, decide_false, Bool.false_and] at hq
    simp [h1, hq]
theorem r19_Same_ln : ∀ t u : Ty, LnT 900000000 t → CS Tryd.prog G 12 [.agg (tyD t), .agg (tyD u)] (.d (.bool (sameT t u))) none := by
  refine Ty.ind fun t ih => ?_
  obtain ⟨op, nm, l, ns, p, ps⟩ := t
  rintro u ⟨hl, hns, hp, hps, hL⟩
  obtain ⟨op', nm', l', ns', p', ps'⟩ := u
  simp only at ih
  have hq := sameT_eq ⟨op, nm, l, ns, p, ps⟩ ⟨op', nm', l', ns', p', ps'⟩
  simp only at hq
  refine CS.of_VK Tryd.func12 rfl Tryd.ntmps12 rfl ?_
  by_cases h1 : op = op'
  · by_cases h2 : nm = nm'
    · by_cases h3 : l.length = l'.length
      · simp only [h1, h2, h3, decide_true, Bool.true_and] at hq
        simp [h1, h2, h3]
        refine SW.loopF (ι := { i : Nat // i ≤ l.length ∧ sameTs (l.drop i) (l'.drop i) = sameTs l l' }) (fun i => [(30, .d (.int .i64 i.1))]) (fun i => [(2, .cells [.d (.int .i64 op'), .d (.str nm'), .d (.sl (l.map tyC)), .d (.sl (strs ns)), .d (.int .i64 p.op), .d (.str p.name), .d (.int .i64 p.n), .d (.sl (p.kids.map prC)), .d (.sl (ps.map prC))]), (3, .cells [.d (.int .i64 op'), .d (.str nm'), .d (.sl (l'.map tyC)), .d (.sl (strs ns')), .d (.int .i64 p'.op), .d (.str p'.name), .d (.int .i64 p'.n), .d (.sl (p'.kids.map prC)), .d (.sl (ps'.map prC))])]) (fun _ => []) (fun i => l.length - i.1) ⟨0, by simp⟩ (by simp) ?_
        rintro ⟨i, hi, hR⟩
        try simp only at hi hR
        by_cases hlt : i < l.length
        · have hlt' : i < l'.length := by omega
          have hg := tys_get hlt
          have hg' := tys_get hlt'
          have hw := wrap64s (show i < 9223372036854775807 by omega)
          have hb2 := LnTs_get hL hlt
          rw [sameTs_drop hlt hlt'] at hR
          simp [hlt', hlt, hg, hg']
          refine ⟨lexOk.mk (by kernel_rfl), ?_⟩
          refine callK.mk ent_r19_Same (ih l[i] (List.getElem_mem hlt) l'[i] hb2) ?_
          cases hs : sameT l[i] l'[i]
          · rw [hs, Bool.false_and] at hR
            simp [hs, hq, ← hR]
          · rw [hs, Bool.true_and] at hR
            simp [hs]
            exact Again.mk ⟨i + 1, hlt, hR⟩ (by simp [hw]) (by simp; omega)
        · have : i = l.length := by omega
          subst this
          rw [sameTs_end] at hR
          simp [hq, ← hR, ← h3]
      · simp only [h1, h2, h3, decide_true, decide_false, Bool.true_and, Bool.false_and] at hq
        have h3' : ¬ ((l.length : Int) = (l'.length : Int)) := by omega
        simp [h1, h2, h3, h3', hq]
    · simp only [h1, h2, decide_true, decide_false, Bool.true_and, Bool.false_and] at hq
      simp [h1, h2, hq]
  · simp only [h1, decide_false, Bool.false_and] at hq
    simp [h1, hq]
theorem addV_mono (op : Int) (nm : Nm) (acc : List Nm) : acc.length ≤ (addV op nm acc).length := by
  unfold addV
  split <;> simp
mutual
theorem vars_mono : ∀ (t : Ty) (acc : List Nm), acc.length ≤ (varsT t acc).length
  | ⟨op, nm, l, ns, p, ps⟩, acc => by
    have h1 := addV_mono op nm acc
    have h2 := varss_mono l (addV op nm acc)
    simp only [varsT]
    omega
theorem varss_mono : ∀ (l : List Ty) (acc : List Nm), acc.length ≤ (varsTs l acc).length
  | [], acc => by simp [varsTs]
  | t :: r, acc => by
    have h1 := vars_mono t acc
    have h2 := varss_mono r (varsT t acc)
    simp only [varsTs]
    omega
end
theorem varss_take (l : List Ty) (i : Nat) (acc : List Nm) : (varsTs (l.take i) acc).length ≤ (varsTs l acc).length := by
  have h : varsTs l acc = varsTs (l.drop i) (varsTs (l.take i) acc) := by rw [← varsTs_app, List.take_append_drop]
  rw [h]
  exact varss_mono _ _
theorem vars1_ln : ∀ (t : Ty) (acc : List Nm), LnT 900000000 t → (varsT t acc).length ≤ 1000000000 →
    CH Tryd.prog G 39 ⟨[.d (.agg (tyD t)), .ptr 100000 0, .ptr 100001 0, .ptr 100002 0], vH acc, [(9, [.c 100001 0])]⟩ ⟨[.tup []], vH (varsT t acc), [(9, [.c 100001 0])]⟩ := by
  refine Ty.ind fun t ih => ?_
  obtain ⟨op, nm, l, ns, p, ps⟩ := t
  rintro acc ⟨hl, hns, hp, hps, hL⟩ hacc
  simp only at ih
  refine CH.of_VK Tryd.func39 rfl Tryd.ntmps39 rfl (by simp) ?_
  have hv := varsT_eq ⟨op, nm, l, ns, p, ps⟩ acc
  simp only at hv
  have ha2 := addV_mono op nm acc
  have ha3 := varss_mono l (addV op nm acc)
  rw [hv] at hacc
  obtain ⟨acc2, hac⟩ : ∃ acc2, addV op nm acc = acc2 := ⟨_, rfl⟩
  rw [hac] at hv ha2 ha3 hacc
  by_cases h5 : op = 5
  · subst h5
    by_cases hm : nm ∈ acc
    · have : acc2 = acc := by rw [← hac]; simp [addV, hm]
      subst this
      simp [seen_find, hm, vH]
      refine SW.loopF (ι := { i : Nat // i ≤ l.length }) (fun i => [(28, .d (.int .i64 i.1))]) (fun i => (4, .cells [.d (.int .i64 5), .d (.str nm), .d (.sl (l.map tyC)), .d (.sl (strs ns)), .d (.int .i64 p.op), .d (.str p.name), .d (.int .i64 p.n), .d (.sl (p.kids.map prC)), .d (.sl (ps.map prC))]) :: vH (varsTs (l.take i.1) acc2)) (fun _ => [(9, [.c 100001 0])]) (fun i => l.length - i.1) ⟨0, by simp⟩ (by simp [varsTs, vH]) ?_
      rintro ⟨i, hi⟩
      by_cases hlt : i < l.length
      · have hg := tys_get hlt
        have hw := wrap64s (show i < 9223372036854775807 by omega)
        have hs := varsTs_step hlt acc2
        have hb := varss_take l (i + 1) acc2
        rw [hs] at hb
        simp [hlt, hg, vH]
        refine callHK.mk ent_vars1 (ih l[i] (List.getElem_mem hlt) (varsTs (l.take i) acc2) (LnTs_get hL hlt) (by omega)) [(100000, 100000), (100001, 100001), (100002, 100002), (100003, 100003)] (by simp [vH]) (by simp) (by simp [vH]) (by simp; rfl) (by simp) ?_
        simp [vH]
        exact Again.mk ⟨i + 1, hlt⟩ (by simp [hw, hs, vH]) (by simp; omega)
      · have : i = l.length := by omega
        subst this
        simp [vH, hv]
    · have : acc2 = acc ++ [nm] := by rw [← hac]; simp [addV, hm]
      subst this
      simp only [List.length_append, List.length_cons, List.length_nil] at ha3
      have hsz : (acc.length + 1) * 17 ≤ 140737488355328 := by omega
      simp [seen_find, hm, seen_set, vH, hsz]
      refine SW.loopF (ι := { i : Nat // i ≤ l.length }) (fun i => [(28, .d (.int .i64 i.1))]) (fun i => (4, .cells [.d (.int .i64 5), .d (.str nm), .d (.sl (l.map tyC)), .d (.sl (strs ns)), .d (.int .i64 p.op), .d (.str p.name), .d (.int .i64 p.n), .d (.sl (p.kids.map prC)), .d (.sl (ps.map prC))]) :: vH (varsTs (l.take i.1) (acc ++ [nm]))) (fun _ => [(9, [.c 100001 0])]) (fun i => l.length - i.1) ⟨0, by simp⟩ (by simp [varsTs, vH]) ?_
      rintro ⟨i, hi⟩
      by_cases hlt : i < l.length
      · have hg := tys_get hlt
        have hw := wrap64s (show i < 9223372036854775807 by omega)
        have hs := varsTs_step hlt (acc ++ [nm])
        have hb := varss_take l (i + 1) (acc ++ [nm])
        rw [hs] at hb
        simp [hlt, hg, vH]
        refine callHK.mk ent_vars1 (ih l[i] (List.getElem_mem hlt) (varsTs (l.take i) (acc ++ [nm])) (LnTs_get hL hlt) (by omega)) [(100000, 100000), (100001, 100001), (100002, 100002), (100003, 100003)] (by simp [vH]) (by simp) (by simp [vH]) (by simp; rfl) (by simp) ?_
        simp [vH]
        exact Again.mk ⟨i + 1, hlt⟩ (by simp [hw, hs, vH]) (by simp; omega)
      · have : i = l.length := by omega
        subst this
        simp [vH, hv]
  · have : acc2 = acc := by rw [← hac]; simp [addV, h5]
    subst this
    simp [h5, vH]
    refine SW.loopF (ι := { i : Nat // i ≤ l.length }) (fun i => [(28, .d (.int .i64 i.1))]) (fun i => (4, .cells [.d (.int .i64 op), .d (.str nm), .d (.sl (l.map tyC)), .d (.sl (strs ns)), .d (.int .i64 p.op), .d (.str p.name), .d (.int .i64 p.n), .d (.sl (p.kids.map prC)), .d (.sl (ps.map prC))]) :: vH (varsTs (l.take i.1) acc2)) (fun _ => [(9, [.c 100001 0])]) (fun i => l.length - i.1) ⟨0, by simp⟩ (by simp [varsTs, vH]) ?_
    rintro ⟨i, hi⟩
    by_cases hlt : i < l.length
    · have hg := tys_get hlt
      have hw := wrap64s (show i < 9223372036854775807 by omega)
      have hs := varsTs_step hlt acc2
      have hb := varss_take l (i + 1) acc2
      rw [hs] at hb
      simp [hlt, hg, vH]
      refine callHK.mk ent_vars1 (ih l[i] (List.getElem_mem hlt) (varsTs (l.take i) acc2) (LnTs_get hL hlt) (by omega)) [(100000, 100000), (100001, 100001), (100002, 100002), (100003, 100003)] (by simp [vH]) (by simp) (by simp [vH]) (by simp; rfl) (by simp) ?_
      simp [vH]
      exact Again.mk ⟨i + 1, hlt⟩ (by simp [hw, hs, vH]) (by simp; omega)
    · have : i = l.length := by omega
      subst this
      simp [vH, hv]
theorem types_Vars_ln (t : Ty) (hN : LnT 900000000 t) (hV : (varsT t []).length ≤ 1000000000) : CS Tryd.prog G 22 [.agg (tyD t)] (.d (.sl (strs (varsT t [])))) (some 9) := by
  refine CS.of_VK Tryd.func22 rfl Tryd.ntmps22 rfl ?_
  simp
  refine callHK.mk ent_vars1 (vars1_ln t [] hN hV) [(100000, 3), (100001, 4), (100002, 5), (100003, 6)] (by simp [vH]) (by simp) (by simp [vH]) (by simp; rfl) (by simp) ?_
  simp [vH]
/-! ### Terms -/
mutual
theorem LnT_tm {m : Nat} (hm : 1 ≤ m) : ∀ p : Tm, WT m p → LnT m (tyT p)
  | .var x, _ => by
    simp only [tyT, LnT, LnTs, zeroP, nodP, nodPs, List.length_nil]
    exact ⟨by omega, by omega, by omega, by omega, trivial⟩
  | .node op nm l, ⟨_, h, hw⟩ => by
    have := LnTs_tm hm l hw
    simp only [tyT, LnT, zeroP, nodP, nodPs, List.length_nil]
    exact ⟨by rw [tyTs_eq]; simpa using h, by omega, by omega, by omega, this⟩
theorem LnTs_tm {m : Nat} (hm : 1 ≤ m) : ∀ l : List Tm, WTs m l → LnTs m (tyTs l)
  | [], _ => trivial
  | t :: r, ⟨h1, h2⟩ => ⟨LnT_tm hm t h1, LnTs_tm hm r h2⟩
end
theorem addN_nodup {acc : List Nm} {s : Nm} (h : acc.Nodup) : (addN acc s).Nodup := by
  unfold addN
  split
  · exact h
  · rename_i hs
    rw [List.nodup_append]
    refine ⟨h, by simp, fun a ha b hb => ?_⟩
    simp at hb
    subst hb
    exact fun e => hs (e ▸ ha)
theorem addAll_nodup : ∀ (l acc : List Nm), acc.Nodup → (addAll acc l).Nodup
  | [], _, h => h
  | s :: r, acc, h => addAll_nodup r (addN acc s) (addN_nodup h)
theorem vars_nodup (t : Ty) (acc : List Nm) (h : acc.Nodup) : (varsT t acc).Nodup := by
  rw [vars_raw]
  exact addAll_nodup _ _ h
theorem nodup_len : ∀ {l k : List Nm}, l.Nodup → (∀ x ∈ l, x ∈ k) → l.length ≤ k.length
  | [], _, _, _ => by simp
  | a :: l, k, h, hs => by
    rw [List.nodup_cons] at h
    have ha : a ∈ k := hs a (by simp)
    have := nodup_len (l := l) (k := k.erase a) h.2 fun x hx => by
      have hne : x ≠ a := fun e => h.1 (e ▸ hx)
      exact (List.mem_erase_of_ne hne).2 (hs x (by simp [hx]))
    rw [List.length_erase_of_mem ha] at this
    have hp := List.length_pos_of_mem ha
    simp only [List.length_cons]
    omega
/-! ### What Unify gives -/
abbrev allV (s t : Ty) : List Nm := varsT (bareT t) (varsT (bareT s) [])
theorem allV_s {s t : Ty} {y : Nm} (h : occ y (tmT s) = true) : y ∈ allV s t := by
  unfold allV
  rw [bare_tm t, vars_occ (WT_any t), bare_tm s, vars_occ (WT_any s)]
  exact .inl (.inr h)
theorem allV_t {s t : Ty} {y : Nm} (h : occ y (tmT t) = true) : y ∈ allV s t := by
  unfold allV
  rw [bare_tm t, vars_occ (WT_any t)]
  exact .inr h
theorem bnd_look {b : Bd} {all : List Nm} {x : Nm} : x ∈ bndN b all ↔ x ∈ all ∧ look b x ≠ none := by
  unfold bndN
  rw [List.mem_filter]
  cases look b x <;> simp
/-- What stands at a name's place. -/
theorem find_at {x : Nm} {l : List Nm} (h : x ∈ l) : ∃ k : Nat, findI x l 0 = (k : Int) ∧ ∃ hk : k < l.length, l[k] = x := by
  suffices g : ∀ (l : List Nm) (i : Nat), x ∈ l → ∃ k : Nat, findI x l i = ((i + k : Nat) : Int) ∧ ∃ hk : k < l.length, l[k] = x by
    simpa using g l 0 h
  intro l
  induction l with
  | nil => intro i h; simp at h
  | cons a r ih =>
    intro i h
    unfold findI
    by_cases ha : a = x
    · subst ha
      exact ⟨0, by simp, by simp, rfl⟩
    · have hm := (List.mem_cons.1 h).resolve_left fun e => ha e.symm
      obtain ⟨k, h1, hk, h2⟩ := ih (i + 1) hm
      refine ⟨k + 1, ?_, by simpa using hk, by simpa using h2⟩
      rw [if_neg ha, h1]
      congr 1
      omega
theorem rho_map (n : List Nm) (f : Nm → Tm) (x : Nm) : rho n (n.map f) x = if x ∈ n then some (f x) else none := by
  unfold rho
  by_cases h : x ∈ n
  · obtain ⟨k, h1, hk, h2⟩ := find_at h
    simp [h1, h, hk, h2]
  · have := (find_neg x n).2 h
    have h0 : ¬ 0 ≤ findI x n 0 := by omega
    simp [h0, h]
/-- The bound variables' replacement is what was found. -/
theorem rho_theta {b : Bd} {θ : Sb} (I : BInv b θ) {all : List Nm} {p : Tm} (hp : ∀ y, occ y p = true → y ∈ all) : sub (rho (bndN b all) ((bndN b all).map fun x => sub θ (.var x))) p = sub θ p := by
  refine sub_congr fun y hy => ?_
  rw [rho_map]
  have h := I.dom y
  cases hq : θ y with
  | none =>
    have : y ∉ bndN b all := fun hm => (bnd_look.1 hm).2 (h.2 hq)
    simp [this]
  | some u =>
    have : y ∈ bndN b all := bnd_look.2 ⟨hp y hy, fun e => by rw [h.1 e] at hq; cases hq⟩
    simp [this, sub, hq]
end Go.Proofs.YtbacejmdgfalpaaDoor
end

section
set_option linter.unusedVariables false
set_option linter.unusedSimpArgs false
set_option linter.unusedSectionVars false
namespace Go.Proofs.YtbacejmdgfalpaaDoor
open Go Go.VM
set_option maxRecDepth 100000
set_option maxHeartbeats 8000000
variable {G : GT}
def foundT (f : Fd) (x : Nm) : Ty := (lookF f x).getD ⟨0, [], [], [], zeroP, []⟩
theorem foundT_eq {f : Fd} {x : Nm} {u : Ty} (h : lookF f x = some u) : foundT f x = u := by
  unfold foundT
  rw [h]
  rfl
theorem ent_types_Match : VM.Enters Tryd.prog 50 := VM.Enters.mk Tryd.func50 rfl
theorem types_Match_cs (s t : Ty) (hs : nodT s ≤ 1000000) (ht : nodT t ≤ 900000000) : CS Tryd.prog G 50 [.agg (tyD s), .agg (tyD t)] (if (matchM (tmT s) t []).1 then .tup [.sl ((varsT (bareT s) []).map (tyC ∘ foundT (matchM (tmT s) t []).2)), .bool true] else .tup [.sl [], .bool false]) none := by
  refine CS.of_VK Tryd.func50 rfl Tryd.ntmps50 rfl ?_
  simp
  refine callK.mk ent_types_bare (types_bare_cs s (by omega)) ?_
  simp
  have q1 := nod_bare s
  have v1 := varsT_len (bareT s) []
  simp only [List.length_nil, Nat.zero_add] at v1
  have hF : FB [] := fun x u h => by simp [lookF] at h
  have hm := match1_ch (G := G) 1000000 (by omega) (siz (tmT s)) (tmT s) t [] (Nat.le_refl _) (WT_tm s hs) ht hF
  refine callHK.mk ent_match1 hm [(100000, 6), (100001, 7), (100002, 11)] (by simp [mH]) (by simp [← bare_tm]) (by simp [mH, fdOf]) (by simp; rfl) (by simp) ?_
  cases hr : (matchM (tmT s) t []).1
  · simp [mH, hr]
  · simp [mH, hr]
    refine callK.mk ent_types_Vars (types_Vars_cs (bareT s) (by omega)) ?_
    simp
    obtain ⟨vs, hvs⟩ : ∃ vs, varsT (bareT s) [] = vs := ⟨_, rfl⟩
    obtain ⟨f, hf⟩ : ∃ f, (matchM (tmT s) t []).2 = f := ⟨_, rfl⟩
    have hhas : ∀ x ∈ vs, ∃ u, lookF f x = some u := fun x hx => by
      rw [← hvs, bare_tm, vars_occ (WT_any s)] at hx
      have := match_has (tmT s) t [] hr (hx.resolve_left (by simp))
      rw [hf] at this
      exact Option.isSome_iff_exists.1 this
    rw [hvs] at v1
    simp only [hvs, hf]
    refine SW.loopF (ι := { i : Nat // i ≤ vs.length }) (fun i => [(8, .d (.sl ((vs.take i.1).map (tyC ∘ foundT f)))), (23, .d (.int .i64 i.1))]) (fun i => [(2, tyB (bareT s)), (3, tyB t), (6, .cells [.mp 11]), (7, .cells [.clo 58 [.ptr 6 0, .ptr 7 0]]), (11, .map (fdOf f))]) (fun _ => [(43, [.t 8])]) (fun i => vs.length - i.1) ⟨0, by simp⟩ (by simp) ?_
    rintro ⟨i, hi⟩
    by_cases hlt : i < vs.length
    · have hg := strs_get hlt
      have hw := wrap64s (show i < 9223372036854775807 by omega)
      obtain ⟨u, hu⟩ := hhas vs[i] (List.getElem_mem hlt)
      have h9 : ∀ (x : List D), x ∈ List.take i (List.map (tyC ∘ foundT f) vs) → x.length = 9 := len_mem (by simp)
      have hs2 := map_stepC (tyC ∘ foundT f) hlt
      simp [foundT_eq hu] at hs2
      simp [hlt, hg, fd_find, hu]
      refine stepK_len ⟨h9, by omega⟩ ?_
      simp
      exact Again.mk ⟨i + 1, hlt⟩ (by simp [hw, hs2]) (by simp; omega)
    · have : i = vs.length := by omega
      subst this
      simp
end Go.Proofs.YtbacejmdgfalpaaDoor
end
