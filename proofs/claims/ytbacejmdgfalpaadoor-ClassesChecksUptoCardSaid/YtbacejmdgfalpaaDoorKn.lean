/- The order of instances and of definitions does not matter. Plain. No condition. -/
import Derived.Test.YtbacejmdgfalpaaDoorKh
set_option linter.unusedVariables false
set_option linter.unusedSimpArgs false
set_option linter.unusedSectionVars false
namespace Go.Proofs.YtbacejmdgfalpaaDoor
open Go Go.VM
set_option maxRecDepth 100000
set_option maxHeartbeats 8000000
theorem find_rev {α : Type} {p : α → Bool} : ∀ {l : List α}, l.Pairwise (fun a b => ¬ (p a = true ∧ p b = true)) → l.reverse.find? p = l.find? p
  | [], _ => rfl
  | a :: r, h => by
    rw [List.pairwise_cons] at h
    rw [List.reverse_cons, List.find?_append, find_rev h.2]
    by_cases ha : p a = true
    · have hn : r.find? p = none := by
        rw [List.find?_eq_none]
        intro x hx hp
        exact h.1 x hx ⟨ha, hp⟩
      rw [hn]
      simp [ha]
    · simp [ha]
def hitI (nm : Nm) (t : Ty) (x : In) : Bool := usable x nm && (matT x.ty t).isSome
def goS (rc : Nm → Ty → Bool) (t : Ty) (o : Option In) : Option (List Ty) := match o with
  | none => none
  | some x => match matT x.ty t with
    | some l => if (x.needs.all (needOk rc (varsT x.ty []) l)) = true then some l else none
    | none => none
theorem goF_goS (rc : Nm → Ty → Bool) (nm : Nm) (t : Ty) : ∀ (l : List In) (i : Nat), (goF rc nm t l i).map (·.2) = goS rc t (l.find? (hitI nm t))
  | [], _ => rfl
  | x :: r, i => by
    have ih := goF_goS rc nm t r (i + 1)
    rw [goF, List.find?_cons]
    cases hu : usable x nm with
    | false => simp [hitI, hu]; exact ih
    | true =>
      cases hm : matT x.ty t with
      | none => simp [hitI, hu, hm]; exact ih
      | some l =>
        simp only [hitI, hu, hm, Option.isSome_some, Bool.and_self, if_true, goS]
        split <;> simp
theorem hit_twin {nm : Nm} {t : Ty} {x y : In} (hx : hitI nm t x = true) (hy : hitI nm t y = true) : twin x y := by
  unfold hitI usable at hx hy
  rw [Bool.and_eq_true, decide_eq_true_eq] at hx hy
  obtain ⟨l, hl⟩ := Option.isSome_iff_exists.1 hx.2
  obtain ⟨k, hk⟩ := Option.isSome_iff_exists.1 hy.2
  obtain ⟨_, a1, a2, _⟩ := matT_some hl hx.1.2.2
  obtain ⟨_, b1, b2, _⟩ := matT_some hk hy.1.2.2
  exact ⟨hy.1.1.trans hx.1.1.symm, b1.trans a1.symm, b2.trans a2.symm⟩
def apartI (l : List In) : Prop := l.Pairwise fun x y => ¬ twin y x
theorem find_any {l : List In} (h : apartI l) (nm : Nm) (t : Ty) : l.reverse.find? (hitI nm t) = l.find? (hitI nm t) :=
  find_rev (h.imp fun hxy hp => hxy (hit_twin hp.2 hp.1))
theorem findF_rev {l : List In} (h : apartI l) : ∀ (n : Nat) (nm : Nm) (t : Ty), (findF l.reverse n nm t).map (·.2) = (findF l n nm t).map (·.2)
  | 0, _, _ => rfl
  | n + 1, nm, t => by
    have hrc : (fun c u => (findF l.reverse n c u).isSome) = fun c u => (findF l n c u).isSome := by
      funext c u
      have := congrArg Option.isSome (findF_rev h n c u)
      simpa using this
    rw [findF, findF, hrc, goF_goS, goF_goS, find_any h]
theorem insE_zero {cs : List Cl} : ∀ (l done : List In), insE cs done l = 0 → (∀ y ∈ done, ∀ x ∈ l, ¬ twin x y) ∧ apartI l
  | [], _, _ => ⟨fun _ _ _ h => (by cases h), List.Pairwise.nil⟩
  | x :: r, done, h => by
    rw [insE] at h
    split at h
    · rename_i hne; exact absurd h hne
    rename_i he
    have he : inE cs done x = 0 := by simpa using he
    rw [inE_eq] at he
    split at he
    · cases he
    split at he
    · cases he
    rename_i hno
    obtain ⟨h1, h2⟩ := insE_zero r (done ++ [x]) h
    refine ⟨fun y hy z hz => ?_, List.pairwise_cons.2 ⟨fun z hz => h1 x (by simp) z hz, h2⟩⟩
    rcases List.mem_cons.1 hz with rfl | hz
    · exact fun ht => hno ⟨y, hy, ht⟩
    · exact h1 y (List.mem_append_left _ hy) z hz
theorem sigE_zero {cs : List Cl} : ∀ (l : List Df), sigE cs l = 0 ↔ ∀ d ∈ l, badSg cs d = false
  | [] => by simp [sigE]
  | d :: r => by
    have ih := sigE_zero (cs := cs) r
    have hs := sigE_step (cs := cs) (l := d :: r) (i := 0) (by simp)
    simp only [List.drop_zero, List.getElem_cons_zero, Nat.zero_add, List.drop_succ_cons] at hs
    rw [hs]
    cases hb : badSg cs d with
    | true => simp [hb]
    | false => simp [hb, ih]
theorem checkM_rev {m : Mo} (h : checkM m = 0) : apartI m.ins ∧ checkM { m with defs := m.defs.reverse } = 0 := by
  unfold checkM at h ⊢
  split at h
  · rename_i h1; exact absurd h h1
  rename_i h1
  split at h
  · rename_i h2; exact absurd h h2
  rename_i h2
  refine ⟨(insE_zero _ _ (by simpa using h2)).2, ?_⟩
  simp only [h1, h2, if_false]
  rw [sigE_zero] at h ⊢
  intro d hd
  exact h d (by simpa using hd)
end Go.Proofs.YtbacejmdgfalpaaDoor
