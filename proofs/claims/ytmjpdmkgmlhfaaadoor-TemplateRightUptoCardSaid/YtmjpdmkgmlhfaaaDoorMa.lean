/- Types with unknown predicates, plain: what New gives; its holes; the plain type. No condition. -/
import Derived.Test.YtmjpdmkgmlhfaaaDoorZ8
import Derived.Test.YtmjpdmkgmlhfaaaDoorPd
import Derived.Test.YtmjpdmkgmlhfaaaDoorZ7
set_option linter.unusedVariables false
set_option linter.unusedSimpArgs false
set_option linter.unusedSectionVars false
namespace Go.Proofs.YtmjpdmkgmlhfaaaDoor
set_option maxRecDepth 100000
set_option maxHeartbeats 4000000
/-! ### Names that are not used -/
def xN (k : Nat) : Nm := if k = 0 then [120] else 120 :: Lib.decDigits k
def freshF (used : List Nm) : Nat → Nat → Nm
  | 0, k => xN k
  | f + 1, k => if xN k ∈ used then freshF used f (k + 1) else xN k
def freshN (used : List Nm) : Nm := freshF used used.length 0
theorem xN_inj {a b : Nat} (h : xN a = xN b) : a = b := by
  unfold xN at h
  have pos : ∀ k : Nat, Lib.decDigits k ≠ [] := fun k => (dd_all k).1
  by_cases ha : a = 0
  · by_cases hb : b = 0
    · omega
    · rw [if_pos ha, if_neg hb] at h
      exact absurd (List.cons.inj h).2.symm (pos b)
  · by_cases hb : b = 0
    · rw [if_neg ha, if_pos hb] at h
      exact absurd (List.cons.inj h).2 (pos a)
    · rw [if_neg ha, if_neg hb] at h
      have h1 := congrArg valN (List.cons.inj h).2
      rwa [(dd_all a).2.2.1, (dd_all b).2.2.1] at h1
/-- Among so many names one is not used. -/
theorem fresh_ex : ∀ (n : Nat) (used : List Nm), used.length = n → ∀ k, ∃ j, k ≤ j ∧ j ≤ k + n ∧ xN j ∉ used ∧ ∀ i, k ≤ i → i < j → xN i ∈ used
  | 0, used, hn, k => ⟨k, Nat.le_refl _, Nat.le_refl _, by rw [List.length_eq_zero_iff.1 hn]; simp, fun i h1 h2 => by omega⟩
  | n + 1, used, hn, k => by
    by_cases h : xN k ∈ used
    · obtain ⟨j, h1, h2, h3, h4⟩ := fresh_ex n (used.erase (xN k)) (by rw [List.length_erase_of_mem h]; omega) (k + 1)
      refine ⟨j, by omega, by omega, fun hj => ?_, fun i q1 q2 => ?_⟩
      · refine h3 ((List.mem_erase_of_ne fun e => ?_).2 hj)
        have := xN_inj e
        omega
      · by_cases hi : i = k
        · rw [hi]
          exact h
        · exact List.mem_of_mem_erase (h4 i (by omega) q2)
    · exact ⟨k, Nat.le_refl _, by omega, h, fun i h1 h2 => by omega⟩
theorem freshF_eq {used : List Nm} {j : Nat} (hj : xN j ∉ used) : ∀ (f k : Nat), k ≤ j → j ≤ k + f → (∀ i, k ≤ i → i < j → xN i ∈ used) → freshF used f k = xN j
  | 0, k, h1, h2, _ => by
    have : k = j := by omega
    rw [this]
    rfl
  | f + 1, k, h1, h2, h3 => by
    rw [freshF]
    by_cases hk : k = j
    · subst hk
      rw [if_neg hj]
    · rw [if_pos (h3 k (Nat.le_refl _) (by omega))]
      exact freshF_eq hj f (k + 1) (by omega) (by omega) fun i q1 q2 => h3 i (by omega) q2
theorem fresh_spec (used : List Nm) : ∃ j, j ≤ used.length ∧ freshN used = xN j ∧ xN j ∉ used ∧ ∀ i, i < j → xN i ∈ used := by
  obtain ⟨j, h1, h2, h3, h4⟩ := fresh_ex used.length used rfl 0
  exact ⟨j, by omega, freshF_eq h3 _ 0 (by omega) (by omega) h4, h3, fun i hi => h4 i (by omega) hi⟩
/-- Only which names are used counts. -/
theorem fresh_congr {a b : List Nm} (h : ∀ x, x ∈ a ↔ x ∈ b) : freshN a = freshN b := by
  obtain ⟨j, _, e1, h1, h2⟩ := fresh_spec a
  obtain ⟨i, _, e2, h3, h4⟩ := fresh_spec b
  rw [e1, e2]
  have : i = j := by
    rcases Nat.lt_trichotomy i j with hl | hl | hl
    · exact absurd ((h _).1 (h2 i hl)) h3
    · exact hl
    · exact absurd ((h _).2 (h4 j hl)) h1
  rw [this]
/-! ### Holes -/
section
variable (srt : Nm → Bool) (pre : Nm) (dat : Nm → List Nm)
/-- The logical sort of a type. -/
def logT (t : Ty) : Option Nm := if t.op = 1 then some [73, 110, 116] else if t.op = 2 then some [66, 111, 111, 108] else if t.op = 4 ∧ t.args = [] ∧ srt t.name = true ∧ t.name ≠ [67, 101, 108, 108] then some t.name else none
def vN : Nm := [118]
def holN (hs : List Ho) : Nm := pre ++ 46 :: Lib.decDigits hs.length
def holV (s : Nm) (sc : List Vr) : List Vr := ((vN, s) :: sc).take 24
def holP (n : Nm) (vs : List Vr) : Pr := ⟨5, n, 0, vs.map fun x => ⟨3, x.1, 0, []⟩⟩
def nextP (hs : List Ho) (s : Nm) (sc : List Vr) : Pr := holP (holN pre hs) (holV s sc)
def nextH (hs : List Ho) (s : Nm) (sc : List Vr) : List Ho := hs ++ [(holN pre hs, holV s sc)]
/-- The holes of the predicates of a data type. -/
def dataT (sc : List Vr) : List Nm → List Pr → List Ho → List Pr × List Ho
  | [], ps, hs => (ps, hs)
  | s :: r, ps, hs => dataT sc r (ps ++ [nextP pre hs s sc]) (nextH pre hs s sc)
def addVr (sc : List Vr) (v : Vr) : List Vr := sc.filter (fun x => !decide (x.1 = v.1)) ++ [v]
mutual
/-- A type with its holes. -/
def visT : Ty → List Vr → List Ho → Ty × List Ho
  | ⟨op, nm, l, ns, p, ps⟩, sc, hs =>
    if op = 6 ∧ l ≠ [] then
      let r := funT l (decide (ns.length + 1 = l.length)) ns [] sc hs
      (⟨op, nm, r.1, r.2.1, zeroP, []⟩, r.2.2)
    else match logT srt ⟨op, nm, l, ns, p, ps⟩ with
      | none => (⟨op, nm, plainTs l, [], zeroP, []⟩, hs)
      | some s =>
        let d := dataT pre sc (if op = 4 then dat nm else []) [] (nextH pre hs s sc)
        (⟨op, nm, plainTs l, [], nextP pre hs s sc, d.1⟩, d.2)
/-- The parts of a function type, the names of its parameters, the holes. -/
def funT : List Ty → Bool → List Nm → List Nm → List Vr → List Ho → List Ty × List Nm × List Ho
  | [], _, _, dn, _, hs => ([], dn, hs)
  | [a], _, _, dn, sc, hs => ([(visT a sc hs).1], dn, (visT a sc hs).2)
  | a :: b :: r, g, ns, dn, sc, hs =>
    let n := if g = true then ns.headD [] else freshN (vN :: (dn ++ sc.map (·.1)))
    let q := funT (b :: r) g ns.tail (dn ++ [n]) (match logT srt a with
      | some s => addVr sc (n, s)
      | none => sc) (visT a sc hs).2
    ((visT a sc hs).1 :: q.1, q.2.1, q.2.2)
end
end
/-! ### What the laws say -/
section
variable {srt : Nm → Bool} {pre : Nm} {dat : Nm → List Nm}
theorem plainTs_map : ∀ l : List Ty, plainTs l = l.map plainT
  | [] => rfl
  | t :: r => by rw [plainTs, plainTs_map r]; rfl
theorem logT_plain (op : Int) (nm : Nm) (l l' : List Ty) (ns ns' : List Nm) (p p' : Pr) (ps ps' : List Pr) (h : l = [] ↔ l' = []) : logT srt ⟨op, nm, l, ns, p, ps⟩ = logT srt ⟨op, nm, l', ns', p', ps'⟩ := by
  unfold logT
  simp only [h]
theorem plainTs_nil {l : List Ty} : l = [] ↔ plainTs l = [] := by rw [plainTs_map]; simp
theorem plain_plain : ∀ t : Ty, plainT (plainT t) = plainT t := by
  refine Ty.ind fun t ih => ?_
  obtain ⟨op, nm, l, ns, p, ps⟩ := t
  simp only at ih
  rw [plainT, plainT, plainTs_map, plainTs_map, List.map_map]
  congr 1
  exact List.map_congr_left fun x hx => ih x hx
/-- The plain type stays. -/
theorem vis_plain : ∀ (t : Ty) (sc : List Vr) (hs : List Ho), plainT (visT srt pre dat t sc hs).1 = plainT t := by
  refine Ty.ind fun t ih => ?_
  obtain ⟨op, nm, l, ns, p, ps⟩ := t
  simp only at ih
  intro sc hs
  have hf : ∀ (l : List Ty) (g : Bool) (ns dn : List Nm) (sc : List Vr) (hs : List Ho), (∀ k ∈ l, ∀ sc hs, plainT (visT srt pre dat k sc hs).1 = plainT k) → plainTs (funT srt pre dat l g ns dn sc hs).1 = plainTs l := by
    intro l
    induction l with
    | nil => intros; rfl
    | cons a r ihr =>
      intro g ns dn sc hs hk
      cases r with
      | nil => rw [funT, plainTs, plainTs, plainTs, hk a (by simp)]; rfl
      | cons b r =>
        rw [funT, plainTs, plainTs, hk a (by simp)]
        congr 1
        exact ihr _ _ _ _ _ fun k hk' => hk k (.tail _ hk')
  have hpp : plainTs (plainTs l) = plainTs l := by
    rw [plainTs_map, plainTs_map, List.map_map]
    exact List.map_congr_left fun x hx => plain_plain x
  rw [visT]
  split
  · show plainT ⟨op, nm, _, _, _, _⟩ = _
    rw [plainT, plainT, hf l _ _ _ _ _ ih]
  · split
    · rw [plainT, plainT, hpp]
    · rw [plainT, plainT, hpp]
theorem data_len (sc : List Vr) : ∀ (l : List Nm) (ps : List Pr) (hs : List Ho), (dataT pre sc l ps hs).2.length = hs.length + l.length
  | [], ps, hs => rfl
  | s :: r, ps, hs => by
    rw [dataT, data_len sc r]
    simp [nextH]
    omega
mutual
/-- How many holes a type has. -/
def cntT (srt : Nm → Bool) (dat : Nm → List Nm) : Ty → Nat
  | ⟨op, nm, l, ns, p, ps⟩ => if op = 6 ∧ l ≠ [] then cntTs srt dat l else match logT srt ⟨op, nm, l, ns, p, ps⟩ with
    | none => 0
    | some _ => 1 + (if op = 4 then dat nm else []).length
def cntTs (srt : Nm → Bool) (dat : Nm → List Nm) : List Ty → Nat
  | [] => 0
  | t :: r => cntT srt dat t + cntTs srt dat r
end
theorem vis_len : ∀ (t : Ty) (sc : List Vr) (hs : List Ho), (visT srt pre dat t sc hs).2.length = hs.length + cntT srt dat t := by
  refine Ty.ind fun t ih => ?_
  obtain ⟨op, nm, l, ns, p, ps⟩ := t
  simp only at ih
  intro sc hs
  have hf : ∀ (l : List Ty) (g : Bool) (ns dn : List Nm) (sc : List Vr) (hs : List Ho), (∀ k ∈ l, ∀ sc hs, (visT srt pre dat k sc hs).2.length = hs.length + cntT srt dat k) → (funT srt pre dat l g ns dn sc hs).2.2.length = hs.length + cntTs srt dat l := by
    intro l
    induction l with
    | nil => intros; rfl
    | cons a r ihr =>
      intro g ns dn sc hs hk
      cases r with
      | nil => rw [funT, cntTs, cntTs, hk a (by simp)]; omega
      | cons b r =>
        rw [funT, cntTs]
        simp only
        rw [ihr _ _ _ _ _ fun k hk' => hk k (.tail _ hk'), hk a (by simp)]
        omega
  rw [visT, cntT]
  split
  · exact hf l _ _ _ _ _ ih
  · split
    · rfl
    · simp only
      rw [data_len]
      simp [nextH]
      omega
theorem cnt_plain : ∀ t : Ty, cntT srt dat (plainT t) = cntT srt dat t := by
  refine Ty.ind fun t ih => ?_
  obtain ⟨op, nm, l, ns, p, ps⟩ := t
  simp only at ih
  have hl : cntTs srt dat (plainTs l) = cntTs srt dat l := by
    induction l with
    | nil => rfl
    | cons a r ihr => rw [plainTs, cntTs, cntTs, ih a (by simp), ihr fun k hk => ih k (.tail _ hk)]
  rw [plainT, cntT, cntT, hl, logT_plain op nm (plainTs l) l [] ns zeroP p [] ps plainTs_nil.symm]
  simp only [ne_eq, ← plainTs_nil]
/-- The names of the holes that are applied, in their order. -/
def appP (p : Pr) : List Nm := if p.op = 5 then [p.name] else []
mutual
def appT : Ty → List Nm
  | ⟨_, _, l, _, p, ps⟩ => appP p ++ (ps.flatMap appP ++ appTs l)
def appTs : List Ty → List Nm
  | [] => []
  | t :: r => appT t ++ appTs r
end
theorem app_plain : ∀ t : Ty, appT (plainT t) = [] := by
  refine Ty.ind fun t ih => ?_
  obtain ⟨op, nm, l, ns, p, ps⟩ := t
  simp only at ih
  have hl : appTs (plainTs l) = [] := by
    induction l with
    | nil => rfl
    | cons a r ihr => rw [plainTs, appTs, ih a (by simp), ihr fun k hk => ih k (.tail _ hk)]; rfl
  rw [plainT, appT, hl]
  rfl
theorem appTs_plain (l : List Ty) : appTs (plainTs l) = [] := by
  induction l with
  | nil => rfl
  | cons a r ih => rw [plainTs, appTs, app_plain, ih]; rfl
/-- The holes from the k-th on. -/
def holesOk (pre : Nm) (hs : List Ho) : Prop := ∀ i (h : i < hs.length), hs[i].1 = pre ++ 46 :: Lib.decDigits i ∧ hs[i].2.length ≤ 24 ∧ ∃ s r, hs[i].2 = (vN, s) :: r
theorem next_ok {hs : List Ho} (h : holesOk pre hs) (s : Nm) (sc : List Vr) : holesOk pre (nextH pre hs s sc) := by
  intro i hi
  unfold nextH at hi ⊢
  by_cases hlt : i < hs.length
  · simp only [List.getElem_append_left hlt]
    exact h i hlt
  · have : i = hs.length := by simp at hi; omega
    subst this
    simp only [List.getElem_append_right (Nat.le_refl _), Nat.sub_self, List.getElem_cons_zero]
    refine ⟨rfl, ?_, s, sc.take 23, rfl⟩
    unfold holV
    rw [List.length_take]
    omega
theorem data_ok {sc : List Vr} : ∀ (l : List Nm) (ps : List Pr) (hs : List Ho), holesOk pre hs → holesOk pre (dataT pre sc l ps hs).2 ∧ ∃ m, (dataT pre sc l ps hs).2 = hs ++ m ∧ (dataT pre sc l ps hs).1.flatMap appP = ps.flatMap appP ++ m.map (·.1)
  | [], ps, hs, h => ⟨h, [], by simp [dataT], by simp [dataT]⟩
  | s :: r, ps, hs, h => by
    obtain ⟨h1, m, h2, h3⟩ := data_ok r (ps ++ [nextP pre hs s sc]) _ (next_ok h s sc)
    rw [dataT]
    refine ⟨h1, (holN pre hs, holV s sc) :: m, ?_, ?_⟩
    · rw [h2]
      simp [nextH]
    · rw [h3]
      simp [nextP, holP, appP]
theorem vis_ok : ∀ (t : Ty) (sc : List Vr) (hs : List Ho), holesOk pre hs → holesOk pre (visT srt pre dat t sc hs).2 ∧ ∃ m, (visT srt pre dat t sc hs).2 = hs ++ m ∧ appT (visT srt pre dat t sc hs).1 = m.map (·.1) := by
  refine Ty.ind fun t ih => ?_
  obtain ⟨op, nm, l, ns, p, ps⟩ := t
  simp only at ih
  intro sc hs hok
  have hf : ∀ (l : List Ty) (g : Bool) (ns dn : List Nm) (sc : List Vr) (hs : List Ho), holesOk pre hs → (∀ k ∈ l, ∀ sc hs, holesOk pre hs → holesOk pre (visT srt pre dat k sc hs).2 ∧ ∃ m, (visT srt pre dat k sc hs).2 = hs ++ m ∧ appT (visT srt pre dat k sc hs).1 = m.map (·.1)) →
      holesOk pre (funT srt pre dat l g ns dn sc hs).2.2 ∧ ∃ m, (funT srt pre dat l g ns dn sc hs).2.2 = hs ++ m ∧ appTs (funT srt pre dat l g ns dn sc hs).1 = m.map (·.1) := by
    intro l
    induction l with
    | nil => intro g ns dn sc hs hok _; exact ⟨hok, [], by simp [funT], by simp [funT, appTs]⟩
    | cons a r ihr =>
      intro g ns dn sc hs hok hk
      obtain ⟨q1, m, q2, q3⟩ := hk a (by simp) sc hs hok
      cases r with
      | nil =>
        rw [funT]
        refine ⟨q1, m, q2, ?_⟩
        simp only [appTs, q3, List.append_nil]
      | cons b r =>
        rw [funT]
        simp only
        obtain ⟨z1, m', z2, z3⟩ := ihr g ns.tail _ _ _ q1 fun k hk' => hk k (.tail _ hk')
        refine ⟨z1, m ++ m', ?_, ?_⟩
        · rw [z2, q2, List.append_assoc]
        · rw [appTs, q3, z3, List.map_append]
  rw [visT]
  split
  · obtain ⟨q1, m, q2, q3⟩ := hf l (decide (ns.length + 1 = l.length)) ns [] sc hs hok ih
    refine ⟨q1, m, q2, ?_⟩
    simp only
    rw [appT, q3]
    rfl
  · split
    · refine ⟨hok, [], by simp, ?_⟩
      simp only
      rw [appT, appTs_plain]
      rfl
    · rename_i s _
      obtain ⟨q1, m, q2, q3⟩ := data_ok (sc := sc) (if op = 4 then dat nm else []) [] _ (next_ok hok s sc)
      refine ⟨q1, (holN pre hs, holV s sc) :: m, ?_, ?_⟩
      · simp only
        rw [q2]
        simp [nextH]
      · simp only
        rw [appT, appTs_plain, q3]
        simp [appP, nextP, holP]
end
end Go.Proofs.YtmjpdmkgmlhfaaaDoor
