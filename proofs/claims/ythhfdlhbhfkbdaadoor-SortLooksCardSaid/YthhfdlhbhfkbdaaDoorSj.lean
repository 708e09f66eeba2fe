/- Environments: holes, Env, Var. No condition. -/
import Derived.Test.YthhfdlhbhfkbdaaDoorSi
set_option linter.unusedVariables false
set_option linter.unusedSimpArgs false
set_option linter.unusedSectionVars false
namespace Go.Proofs.YthhfdlhbhfkbdaaDoor
open Go Go.VM
set_option maxRecDepth 100000
set_option maxHeartbeats 4000000
variable {G : GT}
structure HoleL where
  name : List UInt8
  params : List (List UInt8 × List UInt8)
def holeC (h : HoleL) : List D := [.str h.name, .sl (varsC h.params)]
def holesC (l : List HoleL) : List (List D) := l.map holeC
theorem holesC_len (l : List HoleL) : (holesC l).length = l.length := by simp [holesC]
theorem holesC_getE {l : List HoleL} {i : Nat} (h : i < (holesC l).length) : (holesC l)[i] = [.str (l[i]'(by rw [← holesC_len l]; exact h)).name, .sl (varsC (l[i]'(by rw [← holesC_len l]; exact h)).params)] := by simp [holesC, holeC]
attribute [simp] holesC_len holesC_getE
def holesGo (seen : List (List UInt8)) : List HoleL → Int
  | [] => 0
  | h :: r => if coreB h.name = false then 3 else if h.name ∈ seen then 4 else if h.params.length = 0 then 13 else if varsE h.params = 0 then holesGo (seen ++ [h.name]) r else varsE h.params
def holesE (l : List HoleL) : Int := if 40 < l.length then 7 else holesGo [] l
theorem holesGo_step {seen : List (List UInt8)} {l : List HoleL} {i : Nat} (h : i < l.length) :
    holesGo seen (l.drop i) = if coreB l[i].name = false then 3 else if l[i].name ∈ seen then 4 else if l[i].params.length = 0 then 13 else if varsE l[i].params = 0 then holesGo (seen ++ [l[i].name]) (l.drop (i + 1)) else varsE l[i].params := by
  rw [List.drop_eq_getElem_cons h]
  rfl
theorem ent_s_holes : Enters Tryd.prog 38 := Enters.mk Tryd.func38 rfl
theorem s_holes_cs (hG : G 0 = some kwCells) (l : List HoleL) : CS Tryd.prog G 38 [.sl (holesC l)] (.d (.int .i64 (holesE l))) none := by
  refine CS.of_VK Tryd.func38 rfl Tryd.ntmps38 rfl ?_
  by_cases hl : 40 < l.length
  · simp [hl, holesE]
  simp [hl]
  have hE : holesE l = holesGo [] l := by simp [holesE, hl]
  refine SW.loopF (ι := { x : Nat × List (List UInt8) // x.1 ≤ l.length ∧ holesE l = holesGo x.2 (l.drop x.1) }) (fun x => [(13, .d (.int .i64 x.1.1))]) (fun x => [(10, .map (seenE x.1.2))]) (fun _ => []) (fun x => l.length - x.1.1) ⟨(0, []), by simp, by simpa using hE⟩ (by simp [seenE]) ?_
  rintro ⟨⟨i, seen⟩, hi, he⟩
  simp only at hi he
  by_cases hlt : i < l.length
  · have hw := wrap64s (show i < 9223372036854775807 by omega)
    rw [holesGo_step hlt] at he
    obtain ⟨n, ps, hx⟩ : ∃ n ps, l[i] = ⟨n, ps⟩ := ⟨_, _, rfl⟩
    rw [hx] at he
    simp only at he
    simp [hlt, hx]
    refine callK.mk ent_n_Core (n_Core_cs hG _) ?_
    cases hc : coreB n
    · simp [errName, he, hc]
    simp [errName]
    by_cases hm : n ∈ seen
    · simp [hm]
      simp [he, hc, hm]
    · simp [hm, seenE_set]
      by_cases hp : ps = []
      · simp [hp]
        simp [he, hc, hm, hp]
      · have hp' : ¬ ps.length = 0 := fun h => hp (List.eq_nil_of_length_eq_zero h)
        simp [hp]
        refine callK.mk ent_s_vars (s_vars_cs hG ps) ?_
        by_cases h0 : varsE ps = 0
        · simp [h0]
          exact Again.mk ⟨(i + 1, seen ++ [n]), hlt, by simpa [hm, h0, hc, hp] using he⟩ (by simp [hw]) (by simp; omega)
        · simp [h0]
          simp [he, h0, hc, hm, hp]
  · simp [hlt]
    rw [he, List.drop_of_length_le (by omega)]
    rfl
theorem ent_r6_holes : Enters Tryd.prog 41 := Enters.mk Tryd.func41 rfl
theorem r6_holes_cs (l : List HoleL) : CS Tryd.prog G 41 [.sl (holesC l)] (.d (.int .i64 (holesE l))) none := by
  refine CS.of_VK Tryd.func41 rfl Tryd.ntmps41 rfl ?_
  by_cases hl : 40 < l.length
  · simp [hl, holesE]
  simp [hl]
  have hE : holesE l = holesGo [] l := by simp [holesE, hl]
  refine SW.loopF (ι := { x : Nat × List (List UInt8) // x.1 ≤ l.length ∧ x.2.length ≤ x.1 ∧ holesE l = holesGo x.2 (l.drop x.1) }) (fun x => [(3, .d (.sl (strs x.1.2))), (4, .d (.int .i64 x.1.1))]) (fun _ => []) (fun _ => [(9, [.t 3])]) (fun x => l.length - x.1.1) ⟨(0, []), by simp, by simp, by simpa using hE⟩ (by simp [strs]) ?_
  rintro ⟨⟨i, seen⟩, hi, hsl, he⟩
  simp only at hi he hsl
  by_cases hlt : i < l.length
  · have hw := wrap64s (show i < 9223372036854775807 by omega)
    have hsz : (seen.length + 1) * 17 ≤ 140737488355328 := by omega
    rw [holesGo_step hlt] at he
    obtain ⟨n, ps, hx⟩ : ∃ n ps, l[i] = ⟨n, ps⟩ := ⟨_, _, rfl⟩
    rw [hx] at he
    simp only at he
    simp [hlt, hx]
    refine callK.mk ent_r4_Core (r4_Core_cs _) ?_
    cases hc : coreB n
    · simp [errName, he, hc]
    simp [hlt, hx, errName]
    refine callK.mk ent_r6_known (r6_known_cs seen n (by omega)) ?_
    by_cases hm : n ∈ seen
    · simp [hm]
      simp [he, hc, hm]
    · by_cases hp : ps = []
      · simp [hlt, hx, hm, hsz, hp]
        simp [he, hc, hm, hp]
      · have hp' : ¬ ps.length = 0 := fun h => hp (List.eq_nil_of_length_eq_zero h)
        simp [hlt, hx, hm, hsz, hp]
        refine callK.mk ent_r6_vars (r6_vars_cs ps) ?_
        by_cases h0 : varsE ps = 0
        · simp [h0]
          exact Again.mk ⟨(i + 1, seen ++ [n]), hlt, by simp; omega, by simpa [hm, h0, hc, hp] using he⟩ (by simp [hw]) (by simp; omega)
        · simp [h0]
          simp [he, h0, hc, hm, hp]
  · simp [hlt]
    rw [he, List.drop_of_length_le (by omega)]
    rfl
structure EnvL where
  vars : List (List UInt8 × List UInt8)
  syms : List SymL
  holes : List HoleL
def envC (v : EnvL) : List D := [.sl (varsC v.vars), .sl (symsC v.syms), .sl (holesC v.holes)]
def envE (v : EnvL) : Int := if varsE v.vars = 0 then (if symsE v.syms = 0 then holesE v.holes else symsE v.syms) else varsE v.vars
theorem ent_s_Env : Enters Tryd.prog 17 := Enters.mk Tryd.func17 rfl
theorem s_Env_cs (hG : G 0 = some kwCells) (v : EnvL) : CS Tryd.prog G 17 [.agg (envC v)] (.d (.int .i64 (envE v))) none := by
  obtain ⟨vs, ss, hs⟩ := v
  refine CS.of_VK Tryd.func17 rfl Tryd.ntmps17 rfl ?_
  simp [envC]
  refine callK.mk ent_s_vars (s_vars_cs hG vs) ?_
  by_cases h1 : varsE vs = 0
  · simp [h1]
    refine callK.mk ent_s_syms (s_syms_cs hG ss) ?_
    by_cases h2 : symsE ss = 0
    · simp [h2]
      refine callK.mk ent_s_holes (s_holes_cs hG hs) ?_
      simp [envE, h1, h2]
    · simp [h2, envE, h1]
  · simp [h1, envE]
theorem ent_r6_Env : Enters Tryd.prog 18 := Enters.mk Tryd.func18 rfl
theorem r6_Env_cs (v : EnvL) : CS Tryd.prog G 18 [.agg (envC v)] (.d (.int .i64 (envE v))) none := by
  obtain ⟨vs, ss, hs⟩ := v
  refine CS.of_VK Tryd.func18 rfl Tryd.ntmps18 rfl ?_
  simp [envC]
  refine callK.mk ent_r6_vars (r6_vars_cs vs) ?_
  by_cases h1 : varsE vs = 0
  · simp [h1]
    refine callK.mk ent_r6_syms (r6_syms_cs ss) ?_
    by_cases h2 : symsE ss = 0
    · simp [h2]
      refine callK.mk ent_r6_holes (r6_holes_cs hs) ?_
      simp [envE, h1, h2]
    · simp [h2, envE, h1]
  · simp [h1, envE]
/-- The last variable of a name. -/
def varR (n : List UInt8) (l : List (List UInt8 × List UInt8)) : List UInt8 × Bool := match l.reverse.find? fun x => decide (x.1 = n) with
  | some x => (x.2, true)
  | none => ([], false)
theorem varR_step {n : List UInt8} {l : List (List UInt8 × List UInt8)} {i : Nat} (h : i < l.length) : varR n (l.take (i + 1)) = if l[i].1 = n then (l[i].2, true) else varR n (l.take i) := by
  unfold varR
  rw [List.take_succ_eq_append_getElem h, List.reverse_append, List.reverse_cons, List.reverse_nil, List.nil_append, List.singleton_append, List.find?_cons]
  by_cases hn : l[i].1 = n <;> simp [hn]
theorem ent_s_Var : Enters Tryd.prog 19 := Enters.mk Tryd.func19 rfl
theorem s_Var_cs (v : EnvL) (n : List UInt8) (hl : v.vars.length ≤ 1000000) : CS Tryd.prog G 19 [.agg (envC v), .str n] (.tup [.str (varR n v.vars).1, .bool (varR n v.vars).2]) none := by
  obtain ⟨vs, ss, hs⟩ := v
  simp only at hl ⊢
  refine CS.of_VK Tryd.func19 rfl Tryd.ntmps19 rfl ?_
  have hw0 : IntKind.i64.wrap ((vs.length : Int) - 1) = (vs.length : Int) - 1 := wrap64 (by omega)
  simp [envC, hw0]
  refine SW.loopF (ι := { i : Nat // i ≤ vs.length ∧ varR n vs = varR n (vs.take i) }) (fun i => [(6, .d (.int .i64 ((i.1 : Int) - 1)))]) (fun _ => [(2, .cells [.sl (varsC vs), .sl (symsC ss), .sl (holesC hs)])]) (fun _ => []) (fun i => i.1) ⟨vs.length, Nat.le_refl _, by rw [List.take_length]⟩ (by simp) ?_
  rintro ⟨i, hi, he⟩
  cases i with
  | zero =>
    simp
    rw [he]
    simp [varR]
  | succ i =>
    have hlt : i < vs.length := hi
    have hw : IntKind.i64.wrap ((i : Int) - 1) = (i : Int) - 1 := wrap64 (by omega)
    rw [varR_step hlt] at he
    have hs1 : ((i + 1 : Nat) : Int) - 1 = (i : Int) := by omega
    by_cases hk : vs[i].1 = n
    · simp [hs1, hlt, hk]
      simp [he, hk]
    · simp [hs1, hlt, hk]
      exact Again.mk ⟨i, by omega, by simpa [hk] using he⟩ (by simp [hw]) (by simp)
end Go.Proofs.YthhfdlhbhfkbdaaDoor
