/- Joined texts. Names: the reference's parts of a text, core names. Names: the reference's core names. Sorts: Check and Sym, in the package and in its reference. Environments: variables. Environments: symbols and holes, and the reference's lists. No condition. -/
import Derived.Test.YtmjpdmkgmlhfaaaDoorZ4
set_option linter.unusedVariables false
set_option linter.unusedSimpArgs false
set_option linter.unusedSectionVars false
namespace Go.Proofs.YtmjpdmkgmlhfaaaDoor
open Go Go.VM
set_option maxRecDepth 100000
set_option maxHeartbeats 4000000
variable {G : GT}
/-- The parts, with the bytes of the first already read. -/
def partsC (cur s : List UInt8) : List (List UInt8) := match partsL s with
  | p :: ps => (cur ++ p) :: ps
  | [] => [cur]
theorem partsL_ne : ∀ s, partsL s ≠ []
  | [] => by simp [partsL]
  | c :: r => by
    unfold partsL
    split
    · simp
    · split <;> simp
theorem partsC_nil (s : List UInt8) : partsC [] s = partsL s := by
  unfold partsC
  cases h : partsL s with
  | nil => exact absurd h (partsL_ne s)
  | cons p ps => simp
theorem partsC_end (cur : List UInt8) : partsC cur [] = [cur] := by simp [partsC, partsL]
theorem partsC_dot (cur r : List UInt8) (c : UInt8) (h : c.toNat = 46) : partsC cur (c :: r) = cur :: partsL r := by simp [partsC, partsL, h]
theorem partsC_else (cur r : List UInt8) (c : UInt8) (h : c.toNat ≠ 46) : partsC cur (c :: r) = partsC (cur ++ [c]) r := by
  unfold partsC
  simp only [partsL, h, if_false]
  cases hp : partsL r with
  | nil => exact absurd hp (partsL_ne r)
  | cons p ps => simp
theorem take_drop_succ {s : List UInt8} {b i : Nat} (hb : b ≤ i) (h : i < s.length) : (s.take (i + 1)).drop b = (s.take i).drop b ++ [s[i]] := by
  rw [List.take_succ_eq_append_getElem h, List.drop_append_of_le_length (by simp; omega)]
theorem partsL_len : ∀ s, (partsL s).length ≤ s.length + 1
  | [] => by simp [partsL]
  | c :: r => by
    have := partsL_len r
    unfold partsL
    split
    · simp; omega
    · split
      · rename_i p ps h; rw [h] at this; simp at this ⊢; omega
      · simp
theorem ent_r4_parts : VM.Enters Tryd.prog 60 := VM.Enters.mk Tryd.func60 rfl
theorem r4_parts_cs (s : List UInt8) (hs : s.length ≤ 1000000) : CS Tryd.prog G 60 [.str s] (.d (.sl (strs (partsL s)))) none := by
  refine CS.of_VK Tryd.func60 rfl Tryd.ntmps60 rfl ?_
  simp
  refine SW.loopF (ι := { x : List (List UInt8) × Nat × Nat // x.2.1 ≤ x.2.2 ∧ x.2.2 ≤ s.length ∧ x.1.length ≤ x.2.2 ∧ partsL s = x.1 ++ partsC ((s.take x.2.2).drop x.2.1) (s.drop x.2.2) }) (fun x => [(3, .d (.sl (strs x.1.1))), (4, .d (.int .i64 x.1.2.1)), (8, .d (.int .i64 x.1.2.2))]) (fun _ => []) (fun _ => [(9, [.t 3])]) (fun x => s.length - x.1.2.2) ⟨([], 0, 0), by simp [partsC_nil]⟩ (by simp [strs]) ?_
  rintro ⟨⟨out, b, i⟩, hbi, hi, ho, he⟩
  simp only at hbi hi ho he
  by_cases hlt : i < s.length
  · have hw := wrap64s (show i < 9223372036854775807 by omega)
    rw [List.drop_eq_getElem_cons hlt] at he
    by_cases h4 : s[i].toNat = 46
    · rw [partsC_dot _ _ _ h4] at he
      have hsz : (out.length + 1) * 17 ≤ 140737488355328 := by omega
      simp [hlt, h4, hi, hbi, hw, hsz]
      exact Again.mk ⟨(out ++ [(s.take i).drop b], i + 1, i + 1), Nat.le_refl _, hlt, by simp; omega, by
        rw [he]
        simp [partsC_nil]⟩ (by simp) (by simp; omega)
    · rw [partsC_else _ _ _ h4, ← take_drop_succ hbi hlt] at he
      simp [hlt, h4]
      exact Again.mk ⟨(out, b, i + 1), by simp; omega, hlt, by simp; omega, he⟩ (by simp [hw]) (by simp; omega)
  · have : i = s.length := by omega
    subst this
    rw [List.drop_length, partsC_end, List.take_length] at he
    have hsz : (out.length + 1) * 17 ≤ 140737488355328 := by omega
    simp [hlt, hbi, hsz]
    rw [he]
    simp
theorem part_word {s : List UInt8} (h : 0 < s.length) : wordB s = (smallB s[0].toNat && all8 wdB s) := by
  cases s with
  | nil => simp at h
  | cons c s => simp [wordB, Bool.and_comm]
theorem ent_r4_part : VM.Enters Tryd.prog 63 := VM.Enters.mk Tryd.func63 rfl
theorem r4_part_cs (s : List UInt8) : CS Tryd.prog G 63 [.str s] (.d (.bool (partB s))) none := by
  refine CS.of_VK Tryd.func63 rfl Tryd.ntmps63 rfl ?_
  by_cases hl1 : s.length < 1
  · have : sizedB s = false := by simp [sizedB]; omega
    simp [hl1, partB, this]
  by_cases hl2 : 24 < s.length
  · have : sizedB s = false := by simp [sizedB]; omega
    simp [hl1, hl2, partB, this]
  have hz : sizedB s = true := by simp [sizedB]; omega
  have h0 : 0 < s.length := by omega
  simp [hl1, hl2, h0]
  refine callK.mk ent_r4_small (r4_small_cs _) ?_
  simp
  have hb : partB s = (all8 anB s || (smallB s[0].toNat && all8 wdB s)) := by rw [partB, hz, part_word h0]; rfl
  refine SW.loopF (ι := { x : Nat × Bool × Bool // x.1 ≤ s.length ∧ all8 anB s = (x.2.1 && all8 anB (s.drop x.1)) ∧ (smallB s[0].toNat && all8 wdB s) = (x.2.2 && all8 wdB (s.drop x.1)) }) (fun x => [(3, .d (.bool x.1.2.1)), (4, .d (.bool x.1.2.2)), (19, .d (.int .i64 x.1.1))]) (fun _ => []) (fun _ => []) (fun x => s.length - x.1.1) ⟨(0, true, smallB s[0].toNat), by simp⟩ (by simp) ?_
  rintro ⟨⟨i, p, q⟩, hi, hp, hq⟩
  simp only at hi hp hq
  by_cases hlt : i < s.length
  · have hw := wrap64s (show i < 9223372036854775807 by omega)
    have hst : ∀ f : Int → Bool, all8 f (s.drop i) = (f s[i].toNat && all8 f (s.drop (i + 1))) := fun f => by
      rw [List.drop_eq_getElem_cons hlt]; rfl
    rw [hst] at hp hq
    cases p
    · cases q
      · simp [hlt]
        exact Again.mk ⟨(i + 1, false, false), hlt, by simpa using hp, by simpa using hq⟩ (by simp [hw]) (by simp; omega)
      · simp [hlt]
        refine callK.mk ent_r4_small (r4_small_cs _) ?_
        cases h1 : smallB s[i].toNat
        · simp [hlt]
          refine callK.mk ent_r4_digit (r4_digit_cs _) ?_
          cases h3 : digB s[i].toNat
          · simp [hlt]
            exact Again.mk ⟨(i + 1, false, wdB s[i].toNat), hlt, by simpa using hp, by simpa using hq⟩ (by simp [hw, wdB, h1, h3]) (by simp; omega)
          · simp [hlt]
            exact Again.mk ⟨(i + 1, false, wdB s[i].toNat), hlt, by simpa using hp, by simpa using hq⟩ (by simp [hw, wdB, h1, h3]) (by simp; omega)
        · simp [hlt]
          exact Again.mk ⟨(i + 1, false, wdB s[i].toNat), hlt, by simpa using hp, by simpa using hq⟩ (by simp [hw, wdB, h1]) (by simp; omega)
    · cases h1 : smallB s[i].toNat <;> cases h2 : capB s[i].toNat <;> cases h3 : digB s[i].toNat <;> cases q <;> simp [hlt] <;> (refine callK.mk ent_r4_small (r4_small_cs _) ?_) <;> simp [hlt, h1] <;>
        (try (refine callK.mk ent_r4_capital (r4_capital_cs _) ?_; simp [hlt, h2])) <;> (try (refine callK.mk ent_r4_digit (r4_digit_cs _) ?_; simp [hlt, h3])) <;> (try (refine callK.mk ent_r4_small (r4_small_cs _) ?_; simp [hlt, h1])) <;> (try (refine callK.mk ent_r4_digit (r4_digit_cs _) ?_; simp [hlt, h3])) <;>
        first
        | exact Again.mk ⟨(i + 1, anB s[i].toNat, false), hlt, by simpa using hp, by simpa using hq⟩ (by simp [hw, anB, h1, h2, h3]) (by simp; omega)
        | exact Again.mk ⟨(i + 1, anB s[i].toNat, wdB s[i].toNat), hlt, by simpa using hp, by simpa using hq⟩ (by simp [hw, anB, wdB, h1, h2, h3]) (by simp; omega)
  · simp [hlt]
    have he : s.drop i = [] := List.drop_of_length_le (by omega)
    rw [he] at hp hq
    rw [hb, hp, hq]
    cases p <;> simp [all8_nil]
end Go.Proofs.YtmjpdmkgmlhfaaaDoor

set_option linter.unusedVariables false
set_option linter.unusedSimpArgs false
set_option linter.unusedSectionVars false
namespace Go.Proofs.YtmjpdmkgmlhfaaaDoor
open Go Go.VM
set_option maxRecDepth 100000
set_option maxHeartbeats 4000000
variable {G : GT}
theorem ent_r4_Core : VM.Enters Tryd.prog 24 := VM.Enters.mk Tryd.func24 rfl
theorem r4_Core_cs (s : List UInt8) : CS Tryd.prog G 24 [.str s] (.d (.int .i64 (errName (coreB s)))) none := by
  refine CS.of_VK Tryd.func24 rfl Tryd.ntmps24 rfl ?_
  by_cases hl : 120 < s.length
  · have : ¬ s.length ≤ 120 := by omega
    simp [hl, coreB, this, errName]
  · have hl' : s.length ≤ 120 := by omega
    simp [hl]
    refine callK.mk ent_r4_parts (r4_parts_cs _ (by omega)) ?_
    have hplen : (partsL s).length ≤ s.length + 1 := partsL_len s
    cases hps : partsL s with
    | nil => exact absurd hps (partsL_ne s)
    | cons p ps =>
      rw [hps] at hplen
      have hcore : coreB s = ((nameB p || titleB p || (decide (p = [118]) && !ps.isEmpty)) && ps.all partB) := by simp [coreB, hl', hps]
      have hfail : (nameB p || titleB p || (decide (p = [118]) && !ps.isEmpty)) = false → coreB s = false := fun h => by rw [hcore, h]; rfl
      have hgo : (nameB p || titleB p || (decide (p = [118]) && !ps.isEmpty)) = true → coreB s = ps.all partB := fun h => by rw [hcore, h]; rfl
      have hs2 : strs (p :: ps) = [.str p] :: strs ps := rfl
      have hps' : ps.length ≤ 121 := by simp at hplen; omega
      simp [hs2]
      refine callK.mk ent_r4_Check (r4_Check_cs _) ?_
      cases h1 : nameB p
      rotate_left
      simp [errName]
      replace hgo := hgo (by simp [h1])
      rotate_left
      simp [errName]
      refine callK.mk ent_r4_Title (r4_Title_cs _) ?_
      cases h2 : titleB p
      rotate_left
      simp [errName]
      replace hgo := hgo (by simp [h1, h2])
      rotate_left 2
      by_cases h3 : p = [118]
      rotate_left
      · simp [h3, errName]
        rw [hfail (by rw [h1, h2]; simp [h3])]
      rotate_left 2
      rcases Nat.eq_zero_or_pos ps.length with h4 | h4
      · have h4' : ps = [] := List.eq_nil_of_length_eq_zero h4
        simp [h3, h4', errName]
        rw [hfail (by rw [h1, h2]; simp [h4'])]
      have h4' : ps.isEmpty = false := by cases ps <;> simp at *
      have h5 : ¬ ps = [] := by rintro rfl; simp at h4
      have h6 : ¬ ((ps.length : Int) + 1 = 1) := by omega
      simp [h3, h5, h6, errName]
      replace hgo := hgo (by rw [h1, h2]; simp [h3, h4'])
      all_goals
        refine SW.loopF (ι := { i : Nat // i ≤ ps.length ∧ coreB s = (ps.drop i).all partB }) (fun i => [(37, .d (.int .i64 i.1))]) (fun _ => []) (fun _ => []) (fun i => ps.length - i.1) ⟨0, by simp, by simpa using hgo⟩ (by simp [*]) ?_
        rintro ⟨i, hi, he⟩
        by_cases hlt : i < ps.length
        · have hw := wrap64s (show i < 9223372036854775807 by omega)
          simp [hlt]
          refine callK.mk ent_r4_part (r4_part_cs _) ?_
          cases g1 : partB ps[i]
          · simp
            rw [all_stop he hlt g1]
          · simp
            exact Again.mk ⟨i + 1, hlt, all_step he hlt g1⟩ (by simp [hw]) (by simp; omega)
        · simp [hlt]
          rw [all_end he hlt]
end Go.Proofs.YtmjpdmkgmlhfaaaDoor

set_option linter.unusedVariables false
set_option linter.unusedSimpArgs false
set_option linter.unusedSectionVars false
namespace Go.Proofs.YtmjpdmkgmlhfaaaDoor
open Go Go.VM
set_option maxRecDepth 100000
set_option maxHeartbeats 4000000
variable {G : GT}
/-- Is it a sort? -/
def sortB (s : List UInt8) : Bool := decide (s = [73, 110, 116]) || decide (s = [66, 111, 111, 108]) || decide (s = [67, 101, 108, 108]) || (coreB s && headB capB s)
def sortE (s : List UInt8) : Int := if sortB s then 0 else 11
theorem coreB_nil : coreB [] = false := rfl
theorem ent_s_Check : VM.Enters Tryd.prog 29 := VM.Enters.mk Tryd.func29 rfl
theorem s_Check_cs (hG : G 0 = some kwCells) (s : List UInt8) : CS Tryd.prog G 29 [.str s] (.d (.int .i64 (sortE s))) none := by
  refine CS.of_VK Tryd.func29 rfl Tryd.ntmps29 rfl ?_
  by_cases e1 : s = [73, 110, 116]
  · simp [e1, sortE, sortB]
  by_cases e2 : s = [66, 111, 111, 108]
  · simp [e2, sortE, sortB]
  by_cases e3 : s = [67, 101, 108, 108]
  · simp [e3, sortE, sortB]
  simp [e1, e2, e3]
  refine callK.mk ent_n_Core (n_Core_cs hG s) ?_
  have hs : sortB s = (coreB s && headB capB s) := by simp [sortB, e1, e2, e3]
  cases h1 : coreB s
  · simp [errName, sortE, hs, h1]
  · have h0 : 0 < s.length := by
      rcases lt_or_nil s with h | h
      · subst h; rw [coreB_nil] at h1; cases h1
      · exact h
    simp [errName, h0]
    have hh := headB_get (p := capB) h0
    by_cases c1 : s[0].toNat < 65
    · simp [c1]
      have : sortB s = false := by rw [hs, h1, hh]; simp [capB]; omega
      simp [sortE, this]
    · by_cases c2 : 90 < s[0].toNat
      · simp [c1, c2, h0]
        have : sortB s = false := by rw [hs, h1, hh]; simp [capB]; omega
        simp [sortE, this]
      · simp [c1, c2, h0]
        have : sortB s = true := by rw [hs, h1, hh]; simp [capB]; omega
        simp [sortE, this]
theorem ent_r6_Check : VM.Enters Tryd.prog 55 := VM.Enters.mk Tryd.func55 rfl
theorem r6_Check_cs (s : List UInt8) : CS Tryd.prog G 55 [.str s] (.d (.int .i64 (sortE s))) none := by
  refine CS.of_VK Tryd.func55 rfl Tryd.ntmps55 rfl ?_
  by_cases e1 : s = [73, 110, 116]
  · simp [e1, sortE, sortB]
  by_cases e2 : s = [66, 111, 111, 108]
  · simp [e2, sortE, sortB]
  by_cases e3 : s = [67, 101, 108, 108]
  · simp [e3, sortE, sortB]
  have hs : sortB s = (coreB s && headB capB s) := by simp [sortB, e1, e2, e3]
  rcases lt_or_nil s with h0 | h0
  · subst h0
    have : sortE [] = 11 := rfl
    simp [this]
  have hh := headB_get (p := capB) h0
  simp [e1, e2, e3, h0]
  by_cases c1 : 65 ≤ s[0].toNat
  · by_cases c2 : s[0].toNat ≤ 90
    · simp [c1, c2, h0]
      refine callK.mk ent_r4_Core (r4_Core_cs s) ?_
      cases h1 : coreB s
      · simp [errName, sortE, hs, h1]
      · have : sortB s = true := by rw [hs, h1, hh]; simp [capB]; omega
        simp [errName, sortE, this]
    · have : sortB s = false := by rw [hs, hh]; simp [capB]; omega
      simp [c1, c2, h0, sortE, this]
  · have : sortB s = false := by rw [hs, hh]; simp [capB]; omega
    simp [c1, h0, sortE, this]

structure SymL where
  name : List UInt8
  args : List (List UInt8)
  res : List UInt8
def symC (y : SymL) : List D := [.str y.name, .sl (strs y.args), .str y.res]
def symE (y : SymL) : Int := if coreB y.name then (if 1 ≤ y.args.length ∧ y.args.length ≤ 6 then (if y.args.all sortB then sortE y.res else 11) else 13) else 3
theorem ent_s_Sym : VM.Enters Tryd.prog 97 := VM.Enters.mk Tryd.func97 rfl
theorem s_Sym_cs (hG : G 0 = some kwCells) (y : SymL) : CS Tryd.prog G 97 [.agg (symC y)] (.d (.int .i64 (symE y))) none := by
  obtain ⟨nm, args, res⟩ := y
  refine CS.of_VK Tryd.func97 rfl Tryd.ntmps97 rfl ?_
  simp [symC]
  refine callK.mk ent_n_Core (n_Core_cs hG nm) ?_
  cases h1 : coreB nm
  · simp [errName, symE, h1]
  by_cases l1 : args.length < 1
  · have : ¬ 1 ≤ args.length := by omega
    simp [errName, symE, h1, l1, this]
  by_cases l2 : 6 < args.length
  · have : ¬ args.length ≤ 6 := by omega
    simp [errName, symE, h1, l1, l2, this]
  simp [errName, l1, l2]
  have hE : symE ⟨nm, args, res⟩ = if args.all sortB then sortE res else 11 := by
    have a1 : 1 ≤ args.length := by omega
    have a2 : args.length ≤ 6 := by omega
    simp [symE, h1, a1, a2]
  refine SW.loopF (ι := { i : Nat // i ≤ args.length ∧ args.all sortB = (args.drop i).all sortB }) (fun i => [(23, .d (.int .i64 i.1))]) (fun _ => [(1, .cells [.d (.str nm), .d (.sl (strs args)), .d (.str res)])]) (fun _ => []) (fun i => args.length - i.1) ⟨0, by simp⟩ (by simp) ?_
  rintro ⟨i, hi, he⟩
  by_cases hlt : i < args.length
  · have hw := wrap64s (show i < 9223372036854775807 by omega)
    simp [hlt]
    refine callK.mk ent_s_Check (s_Check_cs hG _) ?_
    cases g1 : sortB args[i]
    · simp [sortE, g1]
      rw [hE, all_stop he hlt g1]
      rfl
    · simp [sortE, g1]
      exact Again.mk ⟨i + 1, hlt, all_step he hlt g1⟩ (by simp [hw]) (by simp; omega)
  · simp [hlt]
    refine callK.mk ent_s_Check (s_Check_cs hG _) ?_
    simp
    rw [hE, all_end he hlt]
    rfl
end Go.Proofs.YtmjpdmkgmlhfaaaDoor

set_option linter.unusedVariables false
set_option linter.unusedSimpArgs false
set_option linter.unusedSectionVars false
namespace Go.Proofs.YtmjpdmkgmlhfaaaDoor
open Go Go.VM
set_option maxRecDepth 100000
set_option maxHeartbeats 4000000
variable {G : GT}
/-- A set of names, as a map's entries. -/
def seenE (l : List (List UInt8)) : List (D × D) := l.map fun s => (.str s, .bool true)
theorem seenE_find (s : List UInt8) : ∀ l, findKeyD (.str s) (seenE l) = some (if s ∈ l then some (.bool true) else none)
  | [] => rfl
  | k :: r => by
    have ih := seenE_find s r
    simp only [seenE, List.map_cons] at ih ⊢
    unfold findKeyD
    by_cases h : s = k
    · simp [eqCell, h]
    · simp [eqCell, h, ih]
theorem seenE_set (s : List UInt8) : ∀ l, ¬ s ∈ l → setKeyD (.str s) (.bool true) (seenE l) = some (seenE (l ++ [s]))
  | [], _ => rfl
  | k :: r, h => by
    have ih := seenE_set s r (fun h' => h (.tail _ h'))
    have hk : ¬ s = k := fun h' => h (h' ▸ .head _)
    simp only [seenE, List.map_cons, List.cons_append] at ih ⊢
    unfold setKeyD
    simp [eqCell, hk, ih]
attribute [simp] seenE_find
/-- The cells of a variable. -/
def varC (x : List UInt8 × List UInt8) : List D := [.str x.1, .str x.2]
def varsC (l : List (List UInt8 × List UInt8)) : List (List D) := l.map varC
theorem varsC_len (l : List (List UInt8 × List UInt8)) : (varsC l).length = l.length := by simp [varsC]
theorem varsC_getE {l : List (List UInt8 × List UInt8)} {i : Nat} (h : i < (varsC l).length) : (varsC l)[i] = [.str (l[i]'(by rw [← varsC_len l]; exact h)).1, .str (l[i]'(by rw [← varsC_len l]; exact h)).2] := by simp [varsC, varC]
attribute [simp] varsC_len varsC_getE
/-- A name of a variable. -/
def vnB (n : List UInt8) : Bool := decide (n = [118]) || coreB n
def varsGo (seen : List (List UInt8)) : List (List UInt8 × List UInt8) → Int
  | [] => 0
  | x :: r => if vnB x.1 = false then 3 else if x.1 ∈ seen then 4 else if sortB x.2 = false then 11 else varsGo (seen ++ [x.1]) r
def varsE (l : List (List UInt8 × List UInt8)) : Int := if 24 < l.length then 7 else varsGo [] l
theorem varsGo_step {seen : List (List UInt8)} {l : List (List UInt8 × List UInt8)} {i : Nat} (h : i < l.length) :
    varsGo seen (l.drop i) = if vnB l[i].1 = false then 3 else if l[i].1 ∈ seen then 4 else if sortB l[i].2 = false then 11 else varsGo (seen ++ [l[i].1]) (l.drop (i + 1)) := by
  rw [List.drop_eq_getElem_cons h]
  rfl
theorem ent_s_vars : VM.Enters Tryd.prog 66 := VM.Enters.mk Tryd.func66 rfl
theorem s_vars_cs (hG : G 0 = some kwCells) (l : List (List UInt8 × List UInt8)) : CS Tryd.prog G 66 [.sl (varsC l)] (.d (.int .i64 (varsE l))) none := by
  refine CS.of_VK Tryd.func66 rfl Tryd.ntmps66 rfl ?_
  by_cases hl : 24 < l.length
  · simp [hl, varsE]
  simp [hl]
  have hE : varsE l = varsGo [] l := by simp [varsE, hl]
  refine SW.loopF (ι := { x : Nat × List (List UInt8) // x.1 ≤ l.length ∧ varsE l = varsGo x.2 (l.drop x.1) }) (fun x => [(13, .d (.int .i64 x.1.1))]) (fun x => [(10, .map (seenE x.1.2))]) (fun _ => []) (fun x => l.length - x.1.1) ⟨(0, []), by simp, by simpa using hE⟩ (by simp [seenE]) ?_
  rintro ⟨⟨i, seen⟩, hi, he⟩
  simp only at hi he
  by_cases hlt : i < l.length
  · have hw := wrap64s (show i < 9223372036854775807 by omega)
    rw [varsGo_step hlt] at he
    obtain ⟨n, so, hx⟩ : ∃ n so, l[i] = (n, so) := ⟨_, _, rfl⟩
    rw [hx] at he
    simp only at he
    by_cases hv : n = [118]
    rotate_left
    simp [hlt, hx, hv]
    refine callK.mk ent_n_Core (n_Core_cs hG _) ?_
    cases hc : coreB n
    · simp [errName, he, vnB, hv, hc]
    simp [errName]
    have hvn : vnB n = true := by simp [vnB, hc]
    rotate_left
    have hvn : vnB n = true := by simp [vnB, hv]
    subst hv
    simp [hlt, hx]
    all_goals
      simp only [hvn, Bool.true_eq_false, if_false] at he
    by_cases hm : [118] ∈ seen
    · simp [hm]
      simp [he, hm]
    · simp [hm, seenE_set]
      refine callK.mk ent_s_Check (s_Check_cs hG _) ?_
      cases g1 : sortB so
      · simp [sortE, g1, he, hm]
      · simp [sortE, g1]
        exact Again.mk ⟨(i + 1, seen ++ [[118]]), hlt, by simpa [hm, g1] using he⟩ (by simp [hw]) (by simp; omega)
    by_cases hm : n ∈ seen
    · simp [hm]
      simp [he, hm]
    · simp [hm, seenE_set]
      refine callK.mk ent_s_Check (s_Check_cs hG _) ?_
      cases g1 : sortB so
      · simp [sortE, g1, he, hm]
      · simp [sortE, g1]
        exact Again.mk ⟨(i + 1, seen ++ [n]), hlt, by simpa [hm, g1] using he⟩ (by simp [hw]) (by simp; omega)
  · simp [hlt]
    rw [he, List.drop_of_length_le (by omega)]
    rfl
end Go.Proofs.YtmjpdmkgmlhfaaaDoor

set_option linter.unusedVariables false
set_option linter.unusedSimpArgs false
set_option linter.unusedSectionVars false
namespace Go.Proofs.YtmjpdmkgmlhfaaaDoor
open Go Go.VM
set_option maxRecDepth 100000
set_option maxHeartbeats 4000000
variable {G : GT}
def symsC (l : List SymL) : List (List D) := l.map symC
theorem symsC_len (l : List SymL) : (symsC l).length = l.length := by simp [symsC]
theorem symsC_getE {l : List SymL} {i : Nat} (h : i < (symsC l).length) : (symsC l)[i] = [.str (l[i]'(by rw [← symsC_len l]; exact h)).name, .sl (strs (l[i]'(by rw [← symsC_len l]; exact h)).args), .str (l[i]'(by rw [← symsC_len l]; exact h)).res] := by simp [symsC, symC]
attribute [simp] symsC_len symsC_getE
def symsGo (seen : List (List UInt8)) : List SymL → Int
  | [] => 0
  | y :: r => if symE y = 0 then (if y.name ∈ seen then 4 else symsGo (seen ++ [y.name]) r) else symE y
def symsE (l : List SymL) : Int := if 64 < l.length then 7 else symsGo [] l
theorem symsGo_step {seen : List (List UInt8)} {l : List SymL} {i : Nat} (h : i < l.length) :
    symsGo seen (l.drop i) = if symE l[i] = 0 then (if l[i].name ∈ seen then 4 else symsGo (seen ++ [l[i].name]) (l.drop (i + 1))) else symE l[i] := by
  rw [List.drop_eq_getElem_cons h]
  rfl
theorem ent_s_syms : VM.Enters Tryd.prog 67 := VM.Enters.mk Tryd.func67 rfl
theorem s_syms_cs (hG : G 0 = some kwCells) (l : List SymL) : CS Tryd.prog G 67 [.sl (symsC l)] (.d (.int .i64 (symsE l))) none := by
  refine CS.of_VK Tryd.func67 rfl Tryd.ntmps67 rfl ?_
  by_cases hl : 64 < l.length
  · simp [hl, symsE]
  simp [hl]
  have hE : symsE l = symsGo [] l := by simp [symsE, hl]
  refine SW.loopF (ι := { x : Nat × List (List UInt8) // x.1 ≤ l.length ∧ symsE l = symsGo x.2 (l.drop x.1) }) (fun x => [(13, .d (.int .i64 x.1.1))]) (fun x => [(10, .map (seenE x.1.2))]) (fun _ => []) (fun x => l.length - x.1.1) ⟨(0, []), by simp, by simpa using hE⟩ (by simp [seenE]) ?_
  rintro ⟨⟨i, seen⟩, hi, he⟩
  simp only at hi he
  by_cases hlt : i < l.length
  · have hw := wrap64s (show i < 9223372036854775807 by omega)
    rw [symsGo_step hlt] at he
    simp [hlt]
    refine callK.mk ent_s_Sym (s_Sym_cs hG l[i]) ?_
    by_cases h0 : symE l[i] = 0
    · simp [h0]
      by_cases hm : l[i].name ∈ seen
      · simp [hm]
        simp [he, h0, hm]
      · simp [hm, seenE_set]
        exact Again.mk ⟨(i + 1, seen ++ [l[i].name]), hlt, by simpa [hm, h0] using he⟩ (by simp [hw]) (by simp; omega)
    · simp [h0]
      simp [he, h0]
  · simp [hlt]
    rw [he, List.drop_of_length_le (by omega)]
    rfl
end Go.Proofs.YtmjpdmkgmlhfaaaDoor
