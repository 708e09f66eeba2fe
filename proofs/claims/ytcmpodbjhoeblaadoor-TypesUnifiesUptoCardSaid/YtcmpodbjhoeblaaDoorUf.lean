/- Matching: the model, and the walk of the closure that matches. No condition. -/
import Derived.Test.YtcmpodbjhoeblaaDoorUe
set_option linter.unusedVariables false
set_option linter.unusedSimpArgs false
set_option linter.unusedSectionVars false
namespace Go.Proofs.YtcmpodbjhoeblaaDoor
open Go Go.VM
set_option maxRecDepth 100000
set_option maxHeartbeats 8000000
variable {G : GT}
/-- What variables were matched with. -/
abbrev Fd := List (Nm × Ty)
def lookF (f : Fd) (x : Nm) : Option Ty := (f.find? fun p => decide (p.1 = x)).map (·.2)
mutual
/-- A pattern against a type: whether it matches, and what was found. -/
def matchM : Tm → Ty → Fd → Bool × Fd
  | .var x, t, f => match lookF f x with
    | none => (true, f ++ [(x, plainT t)])
    | some y => (sameT y t, f)
  | .node op nm l, t, f => if op = t.op ∧ nm = t.name ∧ l.length = t.args.length then matchMs l t.args f else (false, f)
def matchMs : List Tm → List Ty → Fd → Bool × Fd
  | p :: r, t :: s, f => if (matchM p t f).1 then matchMs r s (matchM p t f).2 else (false, (matchM p t f).2)
  | _, _, f => (true, f)
end
theorem matchMs_drop {l : List Tm} {k : List Ty} {i : Nat} (h : i < l.length) (h' : i < k.length) (f : Fd) : matchMs (l.drop i) (k.drop i) f = if (matchM l[i] k[i] f).1 then matchMs (l.drop (i + 1)) (k.drop (i + 1)) (matchM l[i] k[i] f).2 else (false, (matchM l[i] k[i] f).2) := by
  rw [List.drop_eq_getElem_cons h, List.drop_eq_getElem_cons h']
  rfl
def fdOf (f : Fd) : List (D × D) := f.map fun p => (.str p.1, .agg (tyD p.2))
theorem fd_find (nm : Nm) : ∀ f : Fd, findKeyD (.str nm) (fdOf f) = some ((lookF f nm).map fun u => .agg (tyD u))
  | [] => by simp [fdOf, findKeyD, lookF]
  | p :: r => by
    have := fd_find nm r
    simp only [fdOf] at this
    simp only [fdOf, List.map_cons, findKeyD, eqCell]
    by_cases h : nm = p.1
    · subst h; simp [lookF]
    · have h' : ¬ p.1 = nm := fun e => h e.symm
      simp [h, this, lookF, h']
theorem fd_set {nm : Nm} {u : Ty} : ∀ {f : Fd}, lookF f nm = none → setKeyD (.str nm) (.agg (tyD u)) (fdOf f) = some (fdOf (f ++ [(nm, u)]))
  | [], _ => by simp [fdOf, setKeyD]
  | p :: r, h => by
    have hp : ¬ p.1 = nm := fun e => by simp [lookF, e] at h
    have hr : lookF r nm = none := by simpa [lookF, hp] using h
    have h1 : ¬ nm = p.1 := fun e => hp e.symm
    have := fd_set (nm := nm) (u := u) (f := r) hr
    simp only [fdOf] at this
    simp [fdOf, setKeyD, eqCell, h1, this]
mutual
theorem nod_plain : ∀ t : Ty, nodT (plainT t) = nodT t
  | ⟨op, nm, l, ns, p, ps⟩ => by
    have := nods_plain l
    simp only [plainT, nodT, this]
theorem nods_plain : ∀ l : List Ty, nodTs (plainTs l) = nodTs l
  | [] => by simp [plainTs]
  | t :: r => by
    have h1 := nod_plain t
    have h2 := nods_plain r
    simp only [plainTs, nodTs, h1, h2]
end
theorem lookF_add {f : Fd} {x y : Nm} {u v : Ty} (h : lookF (f ++ [(x, u)]) y = some v) : lookF f y = some v ∨ v = u := by
  unfold lookF at h ⊢
  rw [List.find?_append] at h
  cases hf : f.find? fun p => decide (p.1 = y) with
  | some p => rw [hf] at h; exact .inl (by simpa using h)
  | none =>
    rw [hf] at h
    simp at h
    exact .inr h.2.symm
def FB (f : Fd) : Prop := ∀ x u, lookF f x = some u → nodT u ≤ 900000000
mutual
theorem match_fb : ∀ (p : Tm) (t : Ty) (f : Fd), nodT t ≤ 900000000 → FB f → FB (matchM p t f).2
  | .var x, t, f, ht, hf => by
    simp only [matchM]
    split
    · intro y u hy
      rcases lookF_add hy with h | rfl
      · exact hf y u h
      · rw [nod_plain]; exact ht
    · exact hf
  | .node op nm l, ⟨op', nm', l', ns', p', ps'⟩, f, ht, hf => by
    simp only [matchM]
    simp only [nodT] at ht
    split
    · exact matchs_fb l l' f (by omega) hf
    · exact hf
theorem matchs_fb : ∀ (l : List Tm) (k : List Ty) (f : Fd), nodTs k ≤ 900000000 → FB f → FB (matchMs l k f).2
  | [], k, f, _, hf => by simpa [matchMs] using hf
  | p :: r, [], f, _, hf => by simpa [matchMs] using hf
  | p :: r, t :: s, f, hk, hf => by
    simp only [nodTs] at hk
    have h1 := match_fb p t f (by omega) hf
    simp only [matchMs]
    split
    · exact matchs_fb r s _ (by omega) h1
    · exact h1
end
def mH (f : Fd) : List (Nat × AObj) := [(100000, .cells [.mp 100002]), (100001, .cells [.clo 32 [.ptr 100000 0, .ptr 100001 0]]), (100002, .map (fdOf f))]
theorem ent_match1 : VM.Enters Tryd.prog 32 := VM.Enters.mk Tryd.func32 rfl
theorem match1_ch (m : Nat) (hm : m ≤ 900000000) : ∀ (n : Nat) (p : Tm) (t : Ty) (f : Fd), siz p ≤ n → WT m p → nodT t ≤ 900000000 → FB f →
    CH Tryd.prog G 32 ⟨[.d (.agg (tmD p)), .d (.agg (tyD t)), .ptr 100000 0, .ptr 100001 0], mH f, []⟩ ⟨[.d (.bool (matchM p t f).1)], mH (matchM p t f).2, []⟩ := by
  intro n
  induction n with
  | zero => intro p t f h; have := siz_pos p; omega
  | succ n ih =>
    intro p t f hn hp ht hf
    refine CH.of_VK Tryd.func32 rfl Tryd.ntmps32 rfl (by simp) ?_
    cases p with
    | var x =>
      cases hq : lookF f x with
      | none =>
        have hs := fd_set (u := plainT t) hq
        simp [mH, tyT_var, fd_find, hq, matchM]
        refine ⟨.mk, ?_⟩
        refine callK.mk ent_types_Plain (types_Plain_cs t ht) ?_
        simp [hs]
      | some y =>
        simp [mH, tyT_var, fd_find, hq, matchM]
        refine callK.mk ent_types_Same (types_Same_cs y t (hf x y hq)) ?_
        simp
    | node op nm l =>
      obtain ⟨h5, hl, hws⟩ := hp
      obtain ⟨op', nm', l', ns', p', ps'⟩ := t
      simp only [siz] at hn
      have hnt := nodT_args ⟨op', nm', l', ns', p', ps'⟩
      simp only at hnt
      by_cases e1 : op = op'
      · by_cases e2 : nm = nm'
        · by_cases e3 : l.length = l'.length
          · subst e1 e2
            have hmm : matchM (.node op nm l) ⟨op, nm, l', ns', p', ps'⟩ f = matchMs l l' f := by simp [matchM, e3]
            rw [hmm]
            simp [mH, tyT_node, h5, e3]
            refine SW.loopF (ι := { x : Nat × Fd // x.1 ≤ l.length ∧ matchMs (l.drop x.1) (l'.drop x.1) x.2 = matchMs l l' f ∧ FB x.2 }) (fun x => [(54, .d (.int .i64 x.1.1))]) (fun x => (4, tyO op nm (.sl (l.map (tyC ∘ tyT))) (.sl []) zeroP (.sl [])) :: (5, tyO op nm (.sl (l'.map tyC)) (.sl (strs ns')) p' (.sl (ps'.map prC))) :: mH x.1.2) (fun _ => []) (fun x => l.length - x.1.1) ⟨(0, f), by simp, by simp, hf⟩ (by simp [mH, strs]) ?_
            rintro ⟨⟨i, fi⟩, hi, hR, hB⟩
            simp only at hi hR hB
            by_cases hlt : i < l.length
            · have hlt' : i < l'.length := by omega
              have hg := tms_get hlt
              have hg' := tys_get hlt'
              have hw := wrap64s (show i < 9223372036854775807 by omega)
              have hs := sizs_mem (θ := fun _ => none) hlt
              rw [sub_none, subs_none] at hs
              have hb2 := nodTs_step hlt'
              have hb3 := nodTs_take_le l' (i + 1)
              rw [matchMs_drop hlt hlt'] at hR
              have hB' := match_fb l[i] l'[i] fi (by omega) hB
              simp [hlt, hlt', ← e3, hg, hg', mH]
              refine ⟨.mk, ?_⟩
              refine callHK.mk ent_match1 (ih l[i] l'[i] fi (by omega) (WTs_mem hws (List.getElem_mem hlt)) (by omega) hB) uK (by simp [mH]) (by simp) (by simp [mH]) (by simp; rfl) (by simp) ?_
              cases hr : (matchM l[i] l'[i] fi).1
              · rw [hr] at hR
                simp at hR
                simp [mH, hr, ← hR]
              · rw [hr] at hR
                simp at hR
                simp [mH, hr]
                exact Again.mk ⟨(i + 1, (matchM l[i] l'[i] fi).2), hlt, hR, hB'⟩ (by simp [hw, mH]) (by simp; omega)
            · have : i = l.length := by omega
              subst this
              rw [List.drop_length] at hR
              simp [matchMs] at hR
              simp [mH, ← hR, ← e3]
          · have e3' : ¬ (l.length : Int) = (l'.length : Int) := by omega
            subst e1 e2
            simp [mH, tyT_node, h5, e3, e3', matchM]
        · subst e1
          simp [mH, tyT_node, h5, e2, matchM]
      · simp [mH, tyT_node, h5, e1, matchM]
end Go.Proofs.YtcmpodbjhoeblaaDoor
