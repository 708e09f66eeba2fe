/- The checks of definitions, instances and modules; the walks. No condition. -/
import Derived.Test.YtbacejmdgfalpaaDoorKc
import Derived.Test.YtbacejmdgfalpaaDoorZ8
set_option linter.unusedVariables false
set_option linter.unusedSimpArgs false
set_option linter.unusedSectionVars false
namespace Go.Proofs.YtbacejmdgfalpaaDoor
open Go Go.VM
set_option maxRecDepth 100000
set_option maxHeartbeats 8000000
variable {G : GT}
theorem find_negC (s : Nm) (l : List Nm) : (findI s l 0 < 0) ↔ s ∉ l := by
  have h := findI_any s l 0
  constructor
  · intro hlt hm
    have : (l.any fun k => decide (k = s)) = true := List.any_eq_true.2 ⟨s, hm, by simp⟩
    rw [this] at h
    have := of_decide_eq_true h
    omega
  · intro hm
    have : (l.any fun k => decide (k = s)) = false := by
      rw [List.any_eq_false]
      intro x hx
      have : ¬ x = s := fun e => hm (e ▸ hx)
      simpa using this
    rw [this] at h
    have := of_decide_eq_false h
    omega
theorem ent_sIdxC : VM.Enters Tryd.prog 38 := VM.Enters.mk Tryd.func38 rfl
theorem sIdxC_cs (l : List Nm) (s : Nm) (hl : l.length ≤ 900000000) : CS Tryd.prog G 38 [.sl (strs l), .str s] (.d (.int .i64 (findI s l 0))) none := by
  refine CS.of_VK Tryd.func38 rfl Tryd.ntmps38 rfl ?_
  simp [strs_len]
  refine SW.loopF (ι := { i : Nat // i ≤ l.length ∧ findI s l 0 = findI s (l.drop i) i }) (fun i => [(8, .d (.int .i64 i.1))]) (fun _ => []) (fun _ => []) (fun i => l.length - i.1) ⟨0, by simp⟩ (by simp) ?_
  rintro ⟨i, hi, he⟩
  try simp only at hi he
  by_cases hlt : i < l.length
  · have hg := strs_get hlt
    have hw := wrap64s (show i < 9223372036854775807 by omega)
    rw [findI_step hlt] at he
    by_cases hs : l[i] = s
    · rw [if_pos hs] at he
      simp [hlt, hg, hs, he]
    · rw [if_neg hs] at he
      have hs' : ¬ s = l[i] := fun e => hs e.symm
      simp [hlt, hg, hs']
      exact Again.mk ⟨i + 1, hlt, he⟩ (by simp [hw]) (by simp; omega)
  · have : i = l.length := by omega
    subst this
    simp [findI] at he
    simp [he]
theorem ent_containsS : VM.Enters Tryd.prog 21 := VM.Enters.mk Tryd.func21 rfl
theorem containsS_cs (l : List Nm) (s : Nm) (hl : l.length ≤ 900000000) : CS Tryd.prog G 21 [.sl (strs l), .str s] (.d (.bool (decide (s ∈ l)))) none := by
  refine CS.of_VK Tryd.func21 rfl Tryd.ntmps21 rfl ?_
  simp
  refine callK.mk ent_sIdxC (sIdxC_cs l s hl) ?_
  have := find_negC s l
  by_cases hm : s ∈ l
  · have h0 : 0 ≤ findI s l 0 := by
      have := mt (find_negC s l).1 (fun h => h hm)
      omega
    simp [hm, h0]
  · have h0 : ¬ 0 ≤ findI s l 0 := by
      have := (find_negC s l).2 hm
      omega
    simp [hm, h0]
/-! ### A definition with a name -/
theorem df_step {l : List Df} {nm : Nm} {i : Nat} (h : i < l.length) : findI nm ((l.map (·.name)).drop i) i = if l[i].name = nm then (i : Int) else findI nm ((l.map (·.name)).drop (i + 1)) (i + 1) := by
  have h' : i < (l.map (·.name)).length := by simpa using h
  have := findI_step (s := nm) (j := i) h'
  simpa using this
theorem ent_ixDf : Enters Tryd.prog 62 := Enters.mk Tryd.func62 rfl
theorem ent_coDf : Enters Tryd.prog 51 := Enters.mk Tryd.func51 rfl
theorem ent_defs1 : Enters Tryd.prog 52 := Enters.mk Tryd.func52 rfl
theorem ent_defs2 : Enters Tryd.prog 54 := Enters.mk Tryd.func54 rfl
theorem defs1_ch (e d : Df) : CH Tryd.prog G 52 ⟨[.d (.agg (dfC e)), .ptr 100000 0], [(100000, .cells ((dfC d).map .d))], []⟩ ⟨[.d (.bool (decide (e.name = d.name)))], [(100000, .cells ((dfC d).map .d))], []⟩ := by
  refine CH.of_VK Tryd.func52 rfl Tryd.ntmps52 rfl (by simp) ?_
  simp
theorem defs2_ch (e : Df) (d : Md) : CH Tryd.prog G 54 ⟨[.d (.agg (dfC e)), .ptr 100000 0], [(100000, .cells ((mdC d).map .d))], []⟩ ⟨[.d (.bool (decide (e.name = d.name)))], [(100000, .cells ((mdC d).map .d))], []⟩ := by
  refine CH.of_VK Tryd.func54 rfl Tryd.ntmps54 rfl (by simp) ?_
  simp
theorem ixDf1_ch (l : List Df) (d : Df) (r : Int) (hr : findI d.name (l.map (·.name)) 0 = r) (hl : l.length ≤ 900000000) : CH Tryd.prog G 62 ⟨[.d (.sl (l.map dfC)), .clo 52 [.ptr 100000 0]], [(100000, .cells ((dfC d).map .d))], []⟩ ⟨[.d (.int .i64 r)], [(100000, .cells ((dfC d).map .d))], []⟩ := by
  refine CH.of_VK Tryd.func62 rfl Tryd.ntmps62 rfl (by simp) ?_
  simp
  refine SW.loopF (ι := { i : Nat // i ≤ l.length ∧ findI d.name ((l.map (·.name)).drop i) i = r }) (fun i => [(8, .d (.int .i64 i.1))]) (fun _ => [(100000, .cells ((dfC d).map .d))]) (fun _ => []) (fun i => l.length - i.1) ⟨0, by simpa using hr⟩ (by simp) ?_
  rintro ⟨i, hi, hR⟩
  try simp only at hi hR
  by_cases hlt : i < l.length
  · have hg := dfs_get hlt
    have hw := wrap64s (show i < 9223372036854775807 by omega)
    have hc := defs1_ch (G := G) l[i] d
    rw [df_step hlt] at hR
    simp at hg hc
    simp [hlt, hg]
    refine callHK.ro ent_defs1 hc [(100000, 100000)] (by simp) (by simp) (by simp) (by simp) (by simp) ?_
    by_cases he : l[i].name = d.name
    · rw [if_pos he] at hR
      simp [he, hR]
    · rw [if_neg he] at hR
      simp [he]
      exact Again.mk ⟨i + 1, hlt, hR⟩ (by simp [hw]) (by simp; omega)
  · have : i = l.length := by omega
    subst this
    have hd : (l.map (·.name)).drop l.length = [] := by simp
    rw [hd] at hR
    simp [findI] at hR
    simp [hR]
theorem ixDf2_ch (l : List Df) (d : Md) (r : Int) (hr : findI d.name (l.map (·.name)) 0 = r) (hl : l.length ≤ 900000000) : CH Tryd.prog G 62 ⟨[.d (.sl (l.map dfC)), .clo 54 [.ptr 100000 0]], [(100000, .cells ((mdC d).map .d))], []⟩ ⟨[.d (.int .i64 r)], [(100000, .cells ((mdC d).map .d))], []⟩ := by
  refine CH.of_VK Tryd.func62 rfl Tryd.ntmps62 rfl (by simp) ?_
  simp
  refine SW.loopF (ι := { i : Nat // i ≤ l.length ∧ findI d.name ((l.map (·.name)).drop i) i = r }) (fun i => [(8, .d (.int .i64 i.1))]) (fun _ => [(100000, .cells ((mdC d).map .d))]) (fun _ => []) (fun i => l.length - i.1) ⟨0, by simpa using hr⟩ (by simp) ?_
  rintro ⟨i, hi, hR⟩
  try simp only at hi hR
  by_cases hlt : i < l.length
  · have hg := dfs_get hlt
    have hw := wrap64s (show i < 9223372036854775807 by omega)
    have hc := defs2_ch (G := G) l[i] d
    rw [df_step hlt] at hR
    simp at hg hc
    simp [hlt, hg]
    refine callHK.ro ent_defs2 hc [(100000, 100000)] (by simp) (by simp) (by simp) (by simp) (by simp) ?_
    by_cases he : l[i].name = d.name
    · rw [if_pos he] at hR
      simp [he, hR]
    · rw [if_neg he] at hR
      simp [he]
      exact Again.mk ⟨i + 1, hlt, hR⟩ (by simp [hw]) (by simp; omega)
  · have : i = l.length := by omega
    subst this
    have hd : (l.map (·.name)).drop l.length = [] := by simp
    rw [hd] at hR
    simp [findI] at hR
    simp [hR]
theorem coDf1_ch (l : List Df) (d : Df) (b : Bool) (hb : decide (d.name ∈ l.map (·.name)) = b) (hl : l.length ≤ 900000000) : CH Tryd.prog G 51 ⟨[.d (.sl (l.map dfC)), .clo 52 [.ptr 100000 0]], [(100000, .cells ((dfC d).map .d))], []⟩ ⟨[.d (.bool b)], [(100000, .cells ((dfC d).map .d))], []⟩ := by
  obtain ⟨r, hr⟩ : ∃ r, findI d.name (l.map (·.name)) 0 = r := ⟨_, rfl⟩
  have hc := ixDf1_ch (G := G) l d r hr hl
  have hn := find_negC d.name (l.map (·.name))
  rw [hr] at hn
  refine CH.of_VK Tryd.func51 rfl Tryd.ntmps51 rfl (by simp) ?_
  simp at hc
  simp
  refine callHK.ro ent_ixDf hc [(100000, 100000)] (by simp) (by simp) (by simp) (by simp) (by simp) ?_
  cases b with
  | true =>
    have hm := of_decide_eq_true hb
    have h0 : 0 ≤ r := by
      have := mt hn.1 (fun h => h hm)
      omega
    simp [h0]
  | false =>
    have hm := of_decide_eq_false hb
    have h0 : ¬ 0 ≤ r := by
      have := hn.2 hm
      omega
    simp [h0]
theorem coDf2_ch (l : List Df) (d : Md) (b : Bool) (hb : decide (d.name ∈ l.map (·.name)) = b) (hl : l.length ≤ 900000000) : CH Tryd.prog G 51 ⟨[.d (.sl (l.map dfC)), .clo 54 [.ptr 100000 0]], [(100000, .cells ((mdC d).map .d))], []⟩ ⟨[.d (.bool b)], [(100000, .cells ((mdC d).map .d))], []⟩ := by
  obtain ⟨r, hr⟩ : ∃ r, findI d.name (l.map (·.name)) 0 = r := ⟨_, rfl⟩
  have hc := ixDf2_ch (G := G) l d r hr hl
  have hn := find_negC d.name (l.map (·.name))
  rw [hr] at hn
  refine CH.of_VK Tryd.func51 rfl Tryd.ntmps51 rfl (by simp) ?_
  simp at hc
  simp
  refine callHK.ro ent_ixDf hc [(100000, 100000)] (by simp) (by simp) (by simp) (by simp) (by simp) ?_
  cases b with
  | true =>
    have hm := of_decide_eq_true hb
    have h0 : 0 ≤ r := by
      have := mt hn.1 (fun h => h hm)
      omega
    simp [h0]
  | false =>
    have hm := of_decide_eq_false hb
    have h0 : ¬ 0 ≤ r := by
      have := hn.2 hm
      omega
    simp [h0]
end Go.Proofs.YtbacejmdgfalpaaDoor
