/- Joined texts. Environments: holes, Env, Var. Environments: what is found; the sort of a type. Environments: equality, in the reference. No condition. -/
import Derived.Test.YtmjpdmkgmlhfaaaDoorZ5
set_option linter.unusedVariables false
set_option linter.unusedSimpArgs false
set_option linter.unusedSectionVars false
namespace Go.Proofs.YtmjpdmkgmlhfaaaDoor
open Go Go.VM
set_option maxRecDepth 100000
set_option maxHeartbeats 4000000
variable {G : GT}
structure HoleL where
  name : List UInt8
  params : List (List UInt8 × List UInt8)
def holeC (h : HoleL) : List D := [.str h.name, .sl (varsC h.params)]
def holesC (l : List HoleL) : List (List D) := l.map holeC
theorem holesC_len (l : List HoleL) : (holesC l).length = l.length := by simp [holesC]
theorem holesC_getE {l : List HoleL} {i : Nat} (h : i < (holesC l).length) : (holesC l)[i] = [.str (l[i]'(by rw [← holesC_len l]; exact h)).name, .sl (varsC (l[i]'(by rw [← holesC_len l]; exact h)).params)] := by simp [holesC, holeC]
attribute [simp] holesC_len holesC_getE
def holesGo (seen : List (List UInt8)) : List HoleL → Int
  | [] => 0
  | h :: r => if coreB h.name = false then 3 else if h.name ∈ seen then 4 else if h.params.length = 0 then 13 else if varsE h.params = 0 then holesGo (seen ++ [h.name]) r else varsE h.params
def holesE (l : List HoleL) : Int := if 40 < l.length then 7 else holesGo [] l
theorem holesGo_step {seen : List (List UInt8)} {l : List HoleL} {i : Nat} (h : i < l.length) :
    holesGo seen (l.drop i) = if coreB l[i].name = false then 3 else if l[i].name ∈ seen then 4 else if l[i].params.length = 0 then 13 else if varsE l[i].params = 0 then holesGo (seen ++ [l[i].name]) (l.drop (i + 1)) else varsE l[i].params := by
  rw [List.drop_eq_getElem_cons h]
  rfl
theorem ent_s_holes : VM.Enters Tryd.prog 68 := VM.Enters.mk Tryd.func68 rfl
theorem s_holes_cs (hG : G 0 = some kwCells) (l : List HoleL) : CS Tryd.prog G 68 [.sl (holesC l)] (.d (.int .i64 (holesE l))) none := by
  refine CS.of_VK Tryd.func68 rfl Tryd.ntmps68 rfl ?_
  by_cases hl : 40 < l.length
  · simp [hl, holesE]
  simp [hl]
  have hE : holesE l = holesGo [] l := by simp [holesE, hl]
  refine SW.loopF (ι := { x : Nat × List (List UInt8) // x.1 ≤ l.length ∧ holesE l = holesGo x.2 (l.drop x.1) }) (fun x => [(13, .d (.int .i64 x.1.1))]) (fun x => [(10, .map (seenE x.1.2))]) (fun _ => []) (fun x => l.length - x.1.1) ⟨(0, []), by simp, by simpa using hE⟩ (by simp [seenE]) ?_
  rintro ⟨⟨i, seen⟩, hi, he⟩
  simp only at hi he
  by_cases hlt : i < l.length
  · have hw := wrap64s (show i < 9223372036854775807 by omega)
    rw [holesGo_step hlt] at he
    obtain ⟨n, ps, hx⟩ : ∃ n ps, l[i] = ⟨n, ps⟩ := ⟨_, _, rfl⟩
    rw [hx] at he
    simp only at he
    simp [hlt, hx]
    refine callK.mk ent_n_Core (n_Core_cs hG _) ?_
    cases hc : coreB n
    · simp [errName, he, hc]
    simp [errName]
    by_cases hm : n ∈ seen
    · simp [hm]
      simp [he, hc, hm]
    · simp [hm, seenE_set]
      by_cases hp : ps = []
      · simp [hp]
        simp [he, hc, hm, hp]
      · have hp' : ¬ ps.length = 0 := fun h => hp (List.eq_nil_of_length_eq_zero h)
        simp [hp]
        refine callK.mk ent_s_vars (s_vars_cs hG ps) ?_
        by_cases h0 : varsE ps = 0
        · simp [h0]
          exact Again.mk ⟨(i + 1, seen ++ [n]), hlt, by simpa [hm, h0, hc, hp] using he⟩ (by simp [hw]) (by simp; omega)
        · simp [h0]
          simp [he, h0, hc, hm, hp]
  · simp [hlt]
    rw [he, List.drop_of_length_le (by omega)]
    rfl
structure EnvL where
  vars : List (List UInt8 × List UInt8)
  syms : List SymL
  holes : List HoleL
def envC (v : EnvL) : List D := [.sl (varsC v.vars), .sl (symsC v.syms), .sl (holesC v.holes)]
def envE (v : EnvL) : Int := if varsE v.vars = 0 then (if symsE v.syms = 0 then holesE v.holes else symsE v.syms) else varsE v.vars
theorem ent_s_Env : VM.Enters Tryd.prog 27 := VM.Enters.mk Tryd.func27 rfl
theorem s_Env_cs (hG : G 0 = some kwCells) (v : EnvL) : CS Tryd.prog G 27 [.agg (envC v)] (.d (.int .i64 (envE v))) none := by
  obtain ⟨vs, ss, hs⟩ := v
  refine CS.of_VK Tryd.func27 rfl Tryd.ntmps27 rfl ?_
  simp [envC]
  refine callK.mk ent_s_vars (s_vars_cs hG vs) ?_
  by_cases h1 : varsE vs = 0
  · simp [h1]
    refine callK.mk ent_s_syms (s_syms_cs hG ss) ?_
    by_cases h2 : symsE ss = 0
    · simp [h2]
      refine callK.mk ent_s_holes (s_holes_cs hG hs) ?_
      simp [envE, h1, h2]
    · simp [h2, envE, h1]
  · simp [h1, envE]
/-- The last variable of a name. -/
def varR (n : List UInt8) (l : List (List UInt8 × List UInt8)) : List UInt8 × Bool := match l.reverse.find? fun x => decide (x.1 = n) with
  | some x => (x.2, true)
  | none => ([], false)
theorem varR_step {n : List UInt8} {l : List (List UInt8 × List UInt8)} {i : Nat} (h : i < l.length) : varR n (l.take (i + 1)) = if l[i].1 = n then (l[i].2, true) else varR n (l.take i) := by
  unfold varR
  rw [List.take_succ_eq_append_getElem h, List.reverse_append, List.reverse_cons, List.reverse_nil, List.nil_append, List.singleton_append, List.find?_cons]
  by_cases hn : l[i].1 = n <;> simp [hn]
end Go.Proofs.YtmjpdmkgmlhfaaaDoor

set_option linter.unusedVariables false
set_option linter.unusedSimpArgs false
set_option linter.unusedSectionVars false
namespace Go.Proofs.YtmjpdmkgmlhfaaaDoor
open Go Go.VM
set_option maxRecDepth 100000
set_option maxHeartbeats 4000000
variable {G : GT}
theorem varsC_two (l : List (List UInt8 × List UInt8)) : (∀ x, x ∈ varsC l → x.length = 2) = True := by
  simp only [eq_iff_iff, iff_true]
  intro x hx
  simp only [varsC, List.mem_map] at hx
  obtain ⟨y, _, rfl⟩ := hx
  rfl
attribute [simp] varsC_two
theorem ent_cloneV : Enters Tryd.prog 82 := Enters.mk Tryd.func82 rfl
theorem cloneV_cs (l : List (List UInt8 × List UInt8)) (hl : l.length ≤ 2000000) : CS Tryd.prog G 82 [.sl (varsC l)] (.d (.sl (varsC l))) none := by
  refine CS.of_VK Tryd.func82 rfl Tryd.ntmps82 rfl ?_
  have hsz : l.length * 33 ≤ 140737488355328 := by omega
  by_cases h0 : l = []
  · subst h0
    simp [varsC]
  · have h1 : ¬ l.length = 0 := fun h => h0 (List.eq_nil_of_length_eq_zero h)
    simp [h0, h1, hsz]
/-- A symbol of a name. -/
def symGo (n : List UInt8) (l : List SymL) : SymL × Bool := match l.find? fun y => decide (y.name = n) with
  | some y => (y, true)
  | none => (⟨[], [], []⟩, false)
theorem symGo_step {n : List UInt8} {l : List SymL} {i : Nat} (h : i < l.length) : symGo n (l.drop i) = if l[i].name = n then (l[i], true) else symGo n (l.drop (i + 1)) := by
  unfold symGo
  rw [List.drop_eq_getElem_cons h, List.find?_cons]
  by_cases hn : l[i].name = n <;> simp [hn]
def symR (n : List UInt8) (l : List SymL) : SymL × Bool :=
  if n = [116, 97, 103] then (⟨[116, 97, 103], [], [73, 110, 116]⟩, true) else if n = [118, 97, 108] then (⟨[118, 97, 108], [[67, 101, 108, 108]], [73, 110, 116]⟩, true) else symGo n l
def holeR (n : List UInt8) (l : List HoleL) : HoleL × Bool := match l.find? fun y => decide (y.name = n) with
  | some y => (y, true)
  | none => (⟨[], []⟩, false)
theorem holeR_step {n : List UInt8} {l : List HoleL} {i : Nat} (h : i < l.length) : holeR n (l.drop i) = if l[i].name = n then (l[i], true) else holeR n (l.drop (i + 1)) := by
  unfold holeR
  rw [List.drop_eq_getElem_cons h, List.find?_cons]
  by_cases hn : l[i].name = n <;> simp [hn]
end Go.Proofs.YtmjpdmkgmlhfaaaDoor

set_option linter.unusedVariables false
set_option linter.unusedSimpArgs false
set_option linter.unusedSectionVars false
namespace Go.Proofs.YtmjpdmkgmlhfaaaDoor
open Go Go.VM
set_option maxRecDepth 100000
set_option maxHeartbeats 4000000
variable {G : GT}
/-- Two lists of one length, compared place by place from i on. -/
theorem eq_step {α : Type} {a b : List α} {i : Nat} {p : Prop} (hl : a.length = b.length) (he : p = (a.drop i = b.drop i)) (h : i < a.length) (hb : i < b.length) : (a[i] = b[i] → p = (a.drop (i + 1) = b.drop (i + 1))) ∧ (¬ a[i] = b[i] → ¬ p) := by
  rw [List.drop_eq_getElem_cons h, List.drop_eq_getElem_cons hb] at he
  constructor
  · intro hx
    rw [he, hx]
    exact propext ⟨fun h => (List.cons.inj h).2, fun h => by rw [h]⟩
  · intro hx hp
    rw [he] at hp
    exact hx (List.cons.inj hp).1
theorem cast_eq_cast (n m : Nat) : ((n : Int) = (m : Int)) = (n = m) := propext Int.ofNat_inj
attribute [simp] cast_eq_cast
theorem eq_end {α : Type} {a b : List α} {i : Nat} {p : Prop} (hl : a.length = b.length) (he : p = (a.drop i = b.drop i)) (h : ¬ i < a.length) : p := by
  rw [he, List.drop_of_length_le (by omega), List.drop_of_length_le (by omega)]
theorem ent_r6_SameVars : VM.Enters Tryd.prog 16 := VM.Enters.mk Tryd.func16 rfl
theorem r6_SameVars_cs (a b : List (List UInt8 × List UInt8)) (hl : a.length ≤ 2000000) : CS Tryd.prog G 16 [.sl (varsC a), .sl (varsC b)] (.d (.bool (decide (a = b)))) none := by
  refine CS.of_VK Tryd.func16 rfl Tryd.ntmps16 rfl ?_
  by_cases h1 : a.length = b.length
  · simp [h1]
    refine SW.loopF (ι := { i : Nat // i ≤ a.length ∧ (a = b) = (a.drop i = b.drop i) }) (fun i => [(5, .d (.int .i64 i.1))]) (fun _ => []) (fun _ => []) (fun i => a.length - i.1) ⟨0, by simp⟩ (by simp) ?_
    rintro ⟨i, hi, he⟩
    by_cases hlt : i < a.length
    · have hw := wrap64s (show i < 9223372036854775807 by omega)
      have hlb : i < b.length := by omega
      obtain ⟨h2, h3⟩ := eq_step h1 he hlt hlb
      by_cases hx : a[i] = b[i]
      · simp [hlt, hlb, hx]
        exact ⟨lexOk.mk (by kernel_rfl), Again.mk ⟨i + 1, hlt, h2 hx⟩ (by simp [hw]) (by simp; omega)⟩
      · have hx' : ¬ (a[i].1 = b[i].1 ∧ a[i].2 = b[i].2) := fun h => hx (Prod.ext h.1 h.2)
        have hx2 : (!decide (a[i].1 = b[i].1) || !decide (a[i].2 = b[i].2)) = true := by
          by_cases q : a[i].1 = b[i].1
          · have : ¬ a[i].2 = b[i].2 := fun h => hx' ⟨q, h⟩
            simp [this]
          · simp [q]
        simp [hlt, hlb, hx2]
        exact ⟨lexOk.mk (by kernel_rfl), h3 hx⟩
    · have hlb : ¬ i < b.length := by omega
      simp [hlt, hlb]
      exact eq_end h1 he hlt
  · have : ¬ a = b := fun h => h1 (by rw [h])
    simp [h1, this]
theorem SymL.ext_iff (a b : SymL) : a = b ↔ a.name = b.name ∧ a.args = b.args ∧ a.res = b.res := by
  cases a; cases b; simp
theorem HoleL.ext_iff (a b : HoleL) : a = b ↔ a.name = b.name ∧ a.params = b.params := by
  cases a; cases b; simp
instance : DecidableEq SymL := fun a b => decidable_of_iff _ (SymL.ext_iff a b).symm
instance : DecidableEq HoleL := fun a b => decidable_of_iff _ (HoleL.ext_iff a b).symm
theorem ent_r6_SameHole : VM.Enters Tryd.prog 51 := VM.Enters.mk Tryd.func51 rfl
theorem r6_SameHole_cs (a b : HoleL) (hl : a.params.length ≤ 2000000) : CS Tryd.prog G 51 [.agg (holeC a), .agg (holeC b)] (.d (.bool (decide (a = b)))) none := by
  obtain ⟨n1, a1⟩ := a
  obtain ⟨n2, a2⟩ := b
  simp only at hl
  refine CS.of_VK Tryd.func51 rfl Tryd.ntmps51 rfl ?_
  by_cases h1 : n1 = n2
  · simp [holeC, h1]
    refine callK.mk ent_r6_SameVars (r6_SameVars_cs a1 a2 hl) ?_
    simp
  · simp [holeC, h1]
theorem ent_r6_SameHoles : VM.Enters Tryd.prog 15 := VM.Enters.mk Tryd.func15 rfl
theorem r6_SameHoles_cs (a b : List HoleL) (hl : a.length ≤ 2000000) (ha : ∀ h ∈ a, h.params.length ≤ 2000000) : CS Tryd.prog G 15 [.sl (holesC a), .sl (holesC b)] (.d (.bool (decide (a = b)))) none := by
  refine CS.of_VK Tryd.func15 rfl Tryd.ntmps15 rfl ?_
  by_cases h1 : a.length = b.length
  · simp [h1]
    refine SW.loopF (ι := { i : Nat // i ≤ a.length ∧ (a = b) = (a.drop i = b.drop i) }) (fun i => [(5, .d (.int .i64 i.1))]) (fun _ => []) (fun _ => []) (fun i => a.length - i.1) ⟨0, by simp⟩ (by simp) ?_
    rintro ⟨i, hi, he⟩
    by_cases hlt : i < a.length
    · have hw := wrap64s (show i < 9223372036854775807 by omega)
      have hlb : i < b.length := by omega
      obtain ⟨h2, h3⟩ := eq_step h1 he hlt hlb
      simp [hlt, hlb]
      refine ⟨lexOk.mk (by kernel_rfl), ?_⟩
      refine callK.mk ent_r6_SameHole (r6_SameHole_cs a[i] b[i] (ha _ (List.getElem_mem hlt))) ?_
      by_cases hx : a[i] = b[i]
      · simp [hx]
        exact Again.mk ⟨i + 1, hlt, h2 hx⟩ (by simp [hw]) (by simp; omega)
      · simp [hx]
        exact h3 hx
    · have hlb : ¬ i < b.length := by omega
      simp [hlt, hlb]
      exact eq_end h1 he hlt
  · have : ¬ a = b := fun h => h1 (by rw [h])
    simp [h1, this]
end Go.Proofs.YtmjpdmkgmlhfaaaDoor
