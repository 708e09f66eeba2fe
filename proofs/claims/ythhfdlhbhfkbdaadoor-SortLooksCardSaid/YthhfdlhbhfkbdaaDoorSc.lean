/- Names: core names, in the package 'names'. No condition. -/
import Derived.Test.YthhfdlhbhfkbdaaDoorSb
set_option linter.unusedVariables false
set_option linter.unusedSimpArgs false
set_option linter.unusedSectionVars false
namespace Go.Proofs.YthhfdlhbhfkbdaaDoor
open Go Go.VM
set_option maxRecDepth 100000
set_option maxHeartbeats 4000000
variable {G : GT}

/-- The parts between points. -/
def partsL : List UInt8 → List (List UInt8)
  | [] => [[]]
  | c :: r => if c.toNat = 46 then [] :: partsL r else match partsL r with
    | p :: ps => (c :: p) :: ps
    | [] => [[c]]
theorem partsL_cut : ∀ s, partsL s = (cutL s).1 :: (if (cutL s).2.2 = true then partsL (cutL s).2.1 else [])
  | [] => rfl
  | c :: r => by
    by_cases hc : c.toNat = 46
    · simp [partsL, cutL, hc]
    · simp only [partsL, cutL, hc, if_false]
      rw [partsL_cut r]
theorem cutL_lt : ∀ s, (cutL s).2.2 = true → (cutL s).2.1.length < s.length
  | [], h => by simp [cutL] at h
  | c :: r, h => by
    unfold cutL at h ⊢
    split
    · simp
    · rename_i hc
      simp [hc] at h
      have := cutL_lt r h
      simp; omega
theorem cutL_len : ∀ s, (cutL s).1.length ≤ s.length
  | [] => by simp [cutL]
  | c :: r => by
    unfold cutL
    split
    · simp
    · simp; exact cutL_len r
theorem cutL_rest : ∀ s, (cutL s).2.1.length ≤ s.length
  | [] => by simp [cutL]
  | c :: r => by
    unfold cutL
    split
    · simp
    · simp; have := cutL_rest r; omega
def partB (p : List UInt8) : Bool := sizedB p && (all8 anB p || wordB p)
def coreB (s : List UInt8) : Bool := decide (s.length ≤ 120) && (match partsL s with
  | [] => false
  | p :: ps => (nameB p || titleB p || (decide (p = [118]) && !ps.isEmpty)) && ps.all partB)
def errName (b : Bool) : Int := if b then 0 else 3
theorem coreB_cut (s : List UInt8) : coreB s = (decide (s.length ≤ 120) && ((nameB (cutL s).1 || titleB (cutL s).1 || (decide ((cutL s).1 = [118]) && (cutL s).2.2)) && (if (cutL s).2.2 = true then (partsL (cutL s).2.1).all partB else true))) := by
  unfold coreB
  rw [partsL_cut s]
  cases hm : (cutL s).2.2
  · simp
  · have : (partsL (cutL s).2.1).isEmpty = false := by rw [partsL_cut]; rfl
    simp [this]
theorem ent_n_Core : Enters Tryd.prog 35 := Enters.mk Tryd.func35 rfl
theorem n_Core_cs (hG : G 0 = some kwCells) (s : List UInt8) : CS Tryd.prog G 35 [.str s] (.d (.int .i64 (errName (coreB s)))) none := by
  refine CS.of_VK Tryd.func35 rfl Tryd.ntmps35 rfl ?_
  by_cases hl : 120 < s.length
  · have : ¬ s.length ≤ 120 := by omega
    simp [hl, coreB, this, errName]
  · have hl' : s.length ≤ 120 := by omega
    simp [hl]
    refine callK.mk ent_n_cut (n_cut_cs _ (by omega)) ?_
    simp
    refine callK.mk ent_n_name (n_name_cs hG _) ?_
    have hcore := coreB_cut s
    simp only [hl', decide_true, Bool.true_and] at hcore
    -- what follows the head
    have hfail : (nameB (cutL s).1 || titleB (cutL s).1 || (decide ((cutL s).1 = [118]) && (cutL s).2.2)) = false → coreB s = false := fun h => by rw [hcore, h]; rfl
    have hgo : (nameB (cutL s).1 || titleB (cutL s).1 || (decide ((cutL s).1 = [118]) && (cutL s).2.2)) = true → coreB s = if (cutL s).2.2 = true then (partsL (cutL s).2.1).all partB else true := fun h => by rw [hcore, h]; rfl
    cases h1 : nameB (cutL s).1
    rotate_left
    simp
    replace hgo := hgo (by simp [h1])
    rotate_left
    simp
    refine callK.mk ent_n_title (n_title_cs _) ?_
    cases h2 : titleB (cutL s).1
    rotate_left
    simp
    replace hgo := hgo (by simp [h1, h2])
    rotate_left 2
    by_cases h3 : (cutL s).1 = [118]
    rotate_left
    · simp [h3]
      rw [hfail (by rw [h1, h2]; simp [h3])]
      rfl
    rotate_left 2
    cases h4 : (cutL s).2.2
    · simp [h3, h4]
      rw [hfail (by rw [h1, h2]; simp [h3, h4])]
      rfl
    simp [h3, h4]
    replace hgo := hgo (by rw [h1, h2]; simp [h3, h4])
    all_goals
      refine SW.loopF (ι := { x : List UInt8 × Bool // x.1.length ≤ 120 ∧ coreB s = if x.2 = true then (partsL x.1).all partB else true }) (fun x => [(4, .d (.str x.1.1)), (5, .d (.bool x.1.2))]) (fun _ => []) (fun _ => []) (fun x => if x.1.2 = true then x.1.1.length + 1 else 0) ⟨((cutL s).2.1, (cutL s).2.2), by have := cutL_rest s; simp; omega, hgo⟩ (by simp [*]) ?_
      rintro ⟨⟨r, m⟩, hr, he⟩
      cases m
      · simp
        rw [he]
        rfl
      · simp at hr he
        simp
        refine callK.mk ent_n_cut (n_cut_cs _ (by omega)) ?_
        have hlen := cutL_len r
        simp
        refine callK.mk ent_n_sized (n_sized_cs _) ?_
        have hall : coreB s = (partB (cutL r).1 && (if (cutL r).2.2 = true then (partsL (cutL r).2.1).all partB else true)) := by
          rw [he, partsL_cut r]
          cases (cutL r).2.2 <;> simp
        have hnx : partB (cutL r).1 = true → coreB s = (if (cutL r).2.2 = true then (partsL (cutL r).2.1).all partB else true) := fun hp => by rw [hall, hp]; rfl
        have hm : (if (cutL r).2.2 = true then (cutL r).2.1.length + 1 else 0) < r.length + 1 := by
          cases hm : (cutL r).2.2
          · simp
          · have := cutL_lt r hm; simp; exact this
        have hr' : (cutL r).2.1.length ≤ 120 := by have := cutL_rest r; omega
        have hno : partB (cutL r).1 = false → coreB s = false := fun hp => by rw [hall, hp]; rfl
        cases g1 : sizedB (cutL r).1
        · simp
          rw [hno (by simp [partB, g1])]
          rfl
        · simp
          refine callK.mk ent_n_alphanumeric (n_alphanumeric_cs _ (by omega)) ?_
          cases g2 : all8 anB (cutL r).1
          · simp
            refine callK.mk ent_n_word (n_word_cs _ (by omega)) ?_
            cases g3 : wordB (cutL r).1
            · simp
              rw [hno (by simp [partB, g1, g2, g3])]
              rfl
            · simp
              exact Again.mk ⟨((cutL r).2.1, (cutL r).2.2), hr', hnx (by simp [partB, g1, g3])⟩ (by simp) (by simpa using hm)
          · simp
            exact Again.mk ⟨((cutL r).2.1, (cutL r).2.2), hr', hnx (by simp [partB, g1, g2])⟩ (by simp) (by simpa using hm)
end Go.Proofs.YthhfdlhbhfkbdaaDoor
