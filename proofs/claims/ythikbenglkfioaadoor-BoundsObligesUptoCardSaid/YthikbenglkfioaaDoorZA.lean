/- Joined texts. Environments: holes, Env, Var. Environments: what is found; the sort of a type. Environments: equality, in the reference. No condition. -/
import Derived.Test.YthikbenglkfioaaDoorZ5
set_option linter.unusedVariables false
set_option linter.unusedSimpArgs false
set_option linter.unusedSectionVars false
namespace Go.Proofs.YthikbenglkfioaaDoor
open Go Go.VM
set_option maxRecDepth 100000
set_option maxHeartbeats 4000000
variable {G : GT}
structure HoleL where
  name : List UInt8
  params : List (List UInt8 × List UInt8)
def holeC (h : HoleL) : List D := [.str h.name, .sl (varsC h.params)]
def holesC (l : List HoleL) : List (List D) := l.map holeC
theorem holesC_len (l : List HoleL) : (holesC l).length = l.length := by simp [holesC]
theorem holesC_getE {l : List HoleL} {i : Nat} (h : i < (holesC l).length) : (holesC l)[i] = [.str (l[i]'(by rw [← holesC_len l]; exact h)).name, .sl (varsC (l[i]'(by rw [← holesC_len l]; exact h)).params)] := by simp [holesC, holeC]
attribute [simp] holesC_len holesC_getE
def holesGo (seen : List (List UInt8)) : List HoleL → Int
  | [] => 0
  | h :: r => if coreB h.name = false then 3 else if h.name ∈ seen then 4 else if h.params.length = 0 then 13 else if varsE h.params = 0 then holesGo (seen ++ [h.name]) r else varsE h.params
def holesE (l : List HoleL) : Int := if 40 < l.length then 7 else holesGo [] l
theorem holesGo_step {seen : List (List UInt8)} {l : List HoleL} {i : Nat} (h : i < l.length) :
    holesGo seen (l.drop i) = if coreB l[i].name = false then 3 else if l[i].name ∈ seen then 4 else if l[i].params.length = 0 then 13 else if varsE l[i].params = 0 then holesGo (seen ++ [l[i].name]) (l.drop (i + 1)) else varsE l[i].params := by
  rw [List.drop_eq_getElem_cons h]
  rfl
theorem ent_s_holes : VM.Enters Tryd.prog 115 := VM.Enters.mk Tryd.func115 rfl
theorem s_holes_cs (hG : G 0 = some kwCells) (l : List HoleL) : CS Tryd.prog G 115 [.sl (holesC l)] (.d (.int .i64 (holesE l))) none := by
  refine CS.of_VK Tryd.func115 rfl Tryd.ntmps115 rfl ?_
  by_cases hl : 40 < l.length
  · simp [hl, holesE]
  simp [hl]
  have hE : holesE l = holesGo [] l := by simp [holesE, hl]
  refine SW.loopF (ι := { x : Nat × List (List UInt8) // x.1 ≤ l.length ∧ holesE l = holesGo x.2 (l.drop x.1) }) (fun x => [(13, .d (.int .i64 x.1.1))]) (fun x => [(10, .map (seenE x.1.2))]) (fun _ => []) (fun x => l.length - x.1.1) ⟨(0, []), by simp, by simpa using hE⟩ (by simp [seenE]) ?_
  rintro ⟨⟨i, seen⟩, hi, he⟩
  simp only at hi he
  by_cases hlt : i < l.length
  · have hw := wrap64s (show i < 9223372036854775807 by omega)
    rw [holesGo_step hlt] at he
    obtain ⟨n, ps, hx⟩ : ∃ n ps, l[i] = ⟨n, ps⟩ := ⟨_, _, rfl⟩
    rw [hx] at he
    simp only at he
    simp [hlt, hx]
    refine callK.mk ent_n_Core (n_Core_cs hG _) ?_
    cases hc : coreB n
    · simp [errName, he, hc]
    simp [errName]
    by_cases hm : n ∈ seen
    · simp [hm]
      simp [he, hc, hm]
    · simp [hm, seenE_set]
      by_cases hp : ps = []
      · simp [hp]
        simp [he, hc, hm, hp]
      · have hp' : ¬ ps.length = 0 := fun h => hp (List.eq_nil_of_length_eq_zero h)
        simp [hp]
        refine callK.mk ent_s_vars (s_vars_cs hG ps) ?_
        by_cases h0 : varsE ps = 0
        · simp [h0]
          exact Again.mk ⟨(i + 1, seen ++ [n]), hlt, by simpa [hm, h0, hc, hp] using he⟩ (by simp [hw]) (by simp; omega)
        · simp [h0]
          simp [he, h0, hc, hm, hp]
  · simp [hlt]
    rw [he, List.drop_of_length_le (by omega)]
    rfl
structure EnvL where
  vars : List (List UInt8 × List UInt8)
  syms : List SymL
  holes : List HoleL
def envC (v : EnvL) : List D := [.sl (varsC v.vars), .sl (symsC v.syms), .sl (holesC v.holes)]
def envE (v : EnvL) : Int := if varsE v.vars = 0 then (if symsE v.syms = 0 then holesE v.holes else symsE v.syms) else varsE v.vars
theorem ent_s_Env : VM.Enters Tryd.prog 93 := VM.Enters.mk Tryd.func93 rfl
theorem s_Env_cs (hG : G 0 = some kwCells) (v : EnvL) : CS Tryd.prog G 93 [.agg (envC v)] (.d (.int .i64 (envE v))) none := by
  obtain ⟨vs, ss, hs⟩ := v
  refine CS.of_VK Tryd.func93 rfl Tryd.ntmps93 rfl ?_
  simp [envC]
  refine callK.mk ent_s_vars (s_vars_cs hG vs) ?_
  by_cases h1 : varsE vs = 0
  · simp [h1]
    refine callK.mk ent_s_syms (s_syms_cs hG ss) ?_
    by_cases h2 : symsE ss = 0
    · simp [h2]
      refine callK.mk ent_s_holes (s_holes_cs hG hs) ?_
      simp [envE, h1, h2]
    · simp [h2, envE, h1]
  · simp [h1, envE]
/-- The last variable of a name. -/
def varR (n : List UInt8) (l : List (List UInt8 × List UInt8)) : List UInt8 × Bool := match l.reverse.find? fun x => decide (x.1 = n) with
  | some x => (x.2, true)
  | none => ([], false)
theorem varR_step {n : List UInt8} {l : List (List UInt8 × List UInt8)} {i : Nat} (h : i < l.length) : varR n (l.take (i + 1)) = if l[i].1 = n then (l[i].2, true) else varR n (l.take i) := by
  unfold varR
  rw [List.take_succ_eq_append_getElem h, List.reverse_append, List.reverse_cons, List.reverse_nil, List.nil_append, List.singleton_append, List.find?_cons]
  by_cases hn : l[i].1 = n <;> simp [hn]
theorem ent_s_Var : VM.Enters Tryd.prog 131 := VM.Enters.mk Tryd.func131 rfl
theorem s_Var_cs (v : EnvL) (n : List UInt8) (hl : v.vars.length ≤ 2000000) : CS Tryd.prog G 131 [.agg (envC v), .str n] (.tup [.str (varR n v.vars).1, .bool (varR n v.vars).2]) none := by
  obtain ⟨vs, ss, hs⟩ := v
  simp only at hl ⊢
  refine CS.of_VK Tryd.func131 rfl Tryd.ntmps131 rfl ?_
  have hw0 : IntKind.i64.wrap ((vs.length : Int) - 1) = (vs.length : Int) - 1 := wrap64 (by omega)
  simp [envC, hw0]
  refine SW.loopF (ι := { i : Nat // i ≤ vs.length ∧ varR n vs = varR n (vs.take i) }) (fun i => [(6, .d (.int .i64 ((i.1 : Int) - 1)))]) (fun _ => [(2, .cells [.d (.sl (varsC vs)), .d (.sl (symsC ss)), .d (.sl (holesC hs))])]) (fun _ => []) (fun i => i.1) ⟨vs.length, Nat.le_refl _, by rw [List.take_length]⟩ (by simp) ?_
  rintro ⟨i, hi, he⟩
  cases i with
  | zero =>
    simp
    rw [he]
    simp [varR]
  | succ i =>
    have hlt : i < vs.length := hi
    have hw : IntKind.i64.wrap ((i : Int) - 1) = (i : Int) - 1 := wrap64 (by omega)
    rw [varR_step hlt] at he
    have hs1 : ((i + 1 : Nat) : Int) - 1 = (i : Int) := by omega
    by_cases hk : vs[i].1 = n
    · simp [hs1, hlt, hk]
      simp [he, hk]
    · simp [hs1, hlt, hk]
      exact Again.mk ⟨i, by omega, by simpa [hk] using he⟩ (by simp [hw]) (by simp)
end Go.Proofs.YthikbenglkfioaaDoor

set_option linter.unusedVariables false
set_option linter.unusedSimpArgs false
set_option linter.unusedSectionVars false
namespace Go.Proofs.YthikbenglkfioaaDoor
open Go Go.VM
set_option maxRecDepth 100000
set_option maxHeartbeats 4000000
variable {G : GT}
theorem ent_cloneS : Enters Tryd.prog 105 := Enters.mk Tryd.func105 rfl
theorem cloneS_cs (l : List (List UInt8)) (hl : l.length ≤ 2000000) : CS Tryd.prog G 105 [.sl (strs l)] (.d (.sl (strs l))) none := by
  refine CS.of_VK Tryd.func105 rfl Tryd.ntmps105 rfl ?_
  have hsz : l.length * 17 ≤ 140737488355328 := by omega
  by_cases h0 : l = []
  · subst h0
    simp [strs]
  · have h1 : ¬ l.length = 0 := fun h => h0 (List.eq_nil_of_length_eq_zero h)
    simp [h0, h1, hsz]
theorem varsC_two (l : List (List UInt8 × List UInt8)) : (∀ x, x ∈ varsC l → x.length = 2) = True := by
  simp only [eq_iff_iff, iff_true]
  intro x hx
  simp only [varsC, List.mem_map] at hx
  obtain ⟨y, _, rfl⟩ := hx
  rfl
attribute [simp] varsC_two
theorem ent_cloneV : Enters Tryd.prog 90 := Enters.mk Tryd.func90 rfl
theorem cloneV_cs (l : List (List UInt8 × List UInt8)) (hl : l.length ≤ 2000000) : CS Tryd.prog G 90 [.sl (varsC l)] (.d (.sl (varsC l))) none := by
  refine CS.of_VK Tryd.func90 rfl Tryd.ntmps90 rfl ?_
  have hsz : l.length * 33 ≤ 140737488355328 := by omega
  by_cases h0 : l = []
  · subst h0
    simp [varsC]
  · have h1 : ¬ l.length = 0 := fun h => h0 (List.eq_nil_of_length_eq_zero h)
    simp [h0, h1, hsz]
/-- A symbol of a name. -/
def symGo (n : List UInt8) (l : List SymL) : SymL × Bool := match l.find? fun y => decide (y.name = n) with
  | some y => (y, true)
  | none => (⟨[], [], []⟩, false)
theorem symGo_step {n : List UInt8} {l : List SymL} {i : Nat} (h : i < l.length) : symGo n (l.drop i) = if l[i].name = n then (l[i], true) else symGo n (l.drop (i + 1)) := by
  unfold symGo
  rw [List.drop_eq_getElem_cons h, List.find?_cons]
  by_cases hn : l[i].name = n <;> simp [hn]
def symR (n : List UInt8) (l : List SymL) : SymL × Bool :=
  if n = [116, 97, 103] then (⟨[116, 97, 103], [], [73, 110, 116]⟩, true) else if n = [118, 97, 108] then (⟨[118, 97, 108], [[67, 101, 108, 108]], [73, 110, 116]⟩, true) else symGo n l
theorem ent_s_Find : VM.Enters Tryd.prog 140 := VM.Enters.mk Tryd.func140 rfl
theorem s_Find_cs (v : EnvL) (n : List UInt8) (hl : v.syms.length ≤ 2000000) (ha : ∀ y ∈ v.syms, y.args.length ≤ 2000000) : CS Tryd.prog G 140 [.agg (envC v), .str n] (.tup [.agg (symC (symR n v.syms).1), .bool (symR n v.syms).2]) none := by
  obtain ⟨vs, ss, hs⟩ := v
  simp only at hl ha ⊢
  refine CS.of_VK Tryd.func140 rfl Tryd.ntmps140 rfl ?_
  by_cases e1 : n = [116, 97, 103]
  · simp [e1, symR, symC, strs]
  by_cases e2 : n = [118, 97, 108]
  · simp [e2, symR, symC, strs]
  have hR : symR n ss = symGo n ss := by simp [symR, e1, e2]
  simp [envC, e1, e2]
  refine SW.loopF (ι := { i : Nat // i ≤ ss.length ∧ symR n ss = symGo n (ss.drop i) }) (fun i => [(19, .d (.int .i64 i.1))]) (fun _ => [(2, .cells [.d (.sl (varsC vs)), .d (.sl (symsC ss)), .d (.sl (holesC hs))]), (4, .cells [.d (.str []), .d .nils, .d (.str [])])]) (fun _ => []) (fun i => ss.length - i.1) ⟨0, by simp, by simpa using hR⟩ (by simp) ?_
  rintro ⟨i, hi, he⟩
  by_cases hlt : i < ss.length
  · have hw := wrap64s (show i < 9223372036854775807 by omega)
    rw [symGo_step hlt] at he
    by_cases hk : ss[i].name = n
    · simp [hlt, hk]
      refine callK.mk ent_cloneS (cloneS_cs _ (ha _ (List.getElem_mem hlt))) ?_
      simp [he, hk, symC]
    · simp [hlt, hk]
      exact Again.mk ⟨i + 1, hlt, by simpa [hk] using he⟩ (by simp [hw]) (by simp; omega)
  · simp [hlt]
    rw [he, List.drop_of_length_le (by omega)]
    simp [symGo, symC, strs]
def holeR (n : List UInt8) (l : List HoleL) : HoleL × Bool := match l.find? fun y => decide (y.name = n) with
  | some y => (y, true)
  | none => (⟨[], []⟩, false)
theorem holeR_step {n : List UInt8} {l : List HoleL} {i : Nat} (h : i < l.length) : holeR n (l.drop i) = if l[i].name = n then (l[i], true) else holeR n (l.drop (i + 1)) := by
  unfold holeR
  rw [List.drop_eq_getElem_cons h, List.find?_cons]
  by_cases hn : l[i].name = n <;> simp [hn]
theorem ent_s_Hole : VM.Enters Tryd.prog 142 := VM.Enters.mk Tryd.func142 rfl
theorem s_Hole_cs (v : EnvL) (n : List UInt8) (hl : v.holes.length ≤ 2000000) (ha : ∀ y ∈ v.holes, y.params.length ≤ 2000000) : CS Tryd.prog G 142 [.agg (envC v), .str n] (.tup [.agg (holeC (holeR n v.holes).1), .bool (holeR n v.holes).2]) none := by
  obtain ⟨vs, ss, hs⟩ := v
  simp only at hl ha ⊢
  refine CS.of_VK Tryd.func142 rfl Tryd.ntmps142 rfl ?_
  simp [envC]
  refine SW.loopF (ι := { i : Nat // i ≤ hs.length ∧ holeR n hs = holeR n (hs.drop i) }) (fun i => [(11, .d (.int .i64 i.1))]) (fun _ => [(2, .cells [.d (.sl (varsC vs)), .d (.sl (symsC ss)), .d (.sl (holesC hs))]), (4, .cells [.d (.str []), .d .nils])]) (fun _ => []) (fun i => hs.length - i.1) ⟨0, by simp⟩ (by simp) ?_
  rintro ⟨i, hi, he⟩
  by_cases hlt : i < hs.length
  · have hw := wrap64s (show i < 9223372036854775807 by omega)
    rw [holeR_step hlt] at he
    by_cases hk : hs[i].name = n
    · simp [hlt, hk]
      refine callK.mk ent_cloneV (cloneV_cs _ (ha _ (List.getElem_mem hlt))) ?_
      simp [he, hk, holeC]
    · simp [hlt, hk]
      exact Again.mk ⟨i + 1, hlt, by simpa [hk] using he⟩ (by simp [hw]) (by simp; omega)
  · simp [hlt]
    rw [he, List.drop_of_length_le (by omega)]
    simp [holeR, holeC, varsC]
end Go.Proofs.YthikbenglkfioaaDoor

set_option linter.unusedVariables false
set_option linter.unusedSimpArgs false
set_option linter.unusedSectionVars false
namespace Go.Proofs.YthikbenglkfioaaDoor
open Go Go.VM
set_option maxRecDepth 100000
set_option maxHeartbeats 4000000
variable {G : GT}
/-- Two lists of one length, compared place by place from i on. -/
theorem eq_step {α : Type} {a b : List α} {i : Nat} {p : Prop} (hl : a.length = b.length) (he : p = (a.drop i = b.drop i)) (h : i < a.length) (hb : i < b.length) : (a[i] = b[i] → p = (a.drop (i + 1) = b.drop (i + 1))) ∧ (¬ a[i] = b[i] → ¬ p) := by
  rw [List.drop_eq_getElem_cons h, List.drop_eq_getElem_cons hb] at he
  constructor
  · intro hx
    rw [he, hx]
    exact propext ⟨fun h => (List.cons.inj h).2, fun h => by rw [h]⟩
  · intro hx hp
    rw [he] at hp
    exact hx (List.cons.inj hp).1
theorem cast_eq_cast (n m : Nat) : ((n : Int) = (m : Int)) = (n = m) := propext Int.ofNat_inj
attribute [simp] cast_eq_cast
theorem eq_end {α : Type} {a b : List α} {i : Nat} {p : Prop} (hl : a.length = b.length) (he : p = (a.drop i = b.drop i)) (h : ¬ i < a.length) : p := by
  rw [he, List.drop_of_length_le (by omega), List.drop_of_length_le (by omega)]
theorem SymL.ext_iff (a b : SymL) : a = b ↔ a.name = b.name ∧ a.args = b.args ∧ a.res = b.res := by
  cases a; cases b; simp
theorem HoleL.ext_iff (a b : HoleL) : a = b ↔ a.name = b.name ∧ a.params = b.params := by
  cases a; cases b; simp
instance : DecidableEq SymL := fun a b => decidable_of_iff _ (SymL.ext_iff a b).symm
instance : DecidableEq HoleL := fun a b => decidable_of_iff _ (HoleL.ext_iff a b).symm
end Go.Proofs.YthikbenglkfioaaDoor
