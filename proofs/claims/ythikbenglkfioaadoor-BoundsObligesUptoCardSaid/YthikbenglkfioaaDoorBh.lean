/- Abstract refinements: what puts holes into predicates computes; the walks. No condition. -/
import Derived.Test.YthikbenglkfioaaDoorBa
import Derived.Test.YthikbenglkfioaaDoorCa
set_option linter.unusedVariables false
set_option linter.unusedSimpArgs false
set_option linter.unusedSectionVars false
namespace Go.Proofs.YthikbenglkfioaaDoor
open Go Go.VM
set_option maxRecDepth 100000
set_option maxHeartbeats 8000000
variable {G : GT}
def absI (abs : List Vr) (nm : Nm) : Int := findI nm (abs.map (·.1)) 0
/-- The hole that belongs to an abstract refinement. -/
def holeAt (abs : List Vr) (hs : List Ho) (nm : Nm) : Option Ho := if 0 ≤ absI abs nm then hs[(absI abs nm).toNat]? else none
def varP (v : Vr) : Pr := ⟨3, v.1, 0, []⟩
def nodeA (abs : List Vr) (hs : List Ho) (op : Int) (nm : Nm) (n : Int) (l : List Pr) : Pr :=
  if op = 4 ∧ l.length = 1 then (match holeAt abs hs nm with
    | some h => ⟨5, h.1, 0, l ++ (h.2.drop 1).map varP⟩
    | none => ⟨op, nm, n, l⟩) else ⟨op, nm, n, l⟩
mutual
/-- Holes in place of abstract refinements. -/
def absP (abs : List Vr) (hs : List Ho) : Pr → Pr
  | ⟨op, nm, n, l⟩ => nodeA abs hs op nm n (absPs abs hs l)
def absPs (abs : List Vr) (hs : List Ho) : List Pr → List Pr
  | [] => []
  | t :: r => absP abs hs t :: absPs abs hs r
end
theorem absPs_eq (abs : List Vr) (hs : List Ho) : ∀ l, absPs abs hs l = l.map (absP abs hs)
  | [] => by rw [absPs]; rfl
  | t :: r => by rw [absPs, absPs_eq abs hs r]; rfl
theorem absP_eq (abs : List Vr) (hs : List Ho) (p : Pr) : absP abs hs p = nodeA abs hs p.op p.name p.n (p.kids.map (absP abs hs)) := by
  cases p
  rw [absP, absPs_eq]
theorem four_take {α : Type} (f : α → Pr) (l : List α) (i : Nat) : (∀ x : List D, x ∈ List.take i (List.map (prC ∘ f) l) → x.length = 4) = True := eq_true fun x hx => by
  obtain ⟨p, _, rfl⟩ := List.mem_map.1 (List.mem_of_mem_take hx)
  simp
theorem four_map {α : Type} (f : α → Pr) (l : List α) : (∀ x : List D, x ∈ List.map (prC ∘ f) l → x.length = 4) = True := eq_true fun x hx => by
  obtain ⟨p, _, rfl⟩ := List.mem_map.1 hx
  simp
theorem take_map_step {α β : Type} (f : α → β) {l : List α} {i : Nat} (h : i < l.length) : List.take (i + 1) (List.map f l) = List.take i (List.map f l) ++ [f l[i]] := by
  rw [List.take_succ_eq_append_getElem (by simpa using h)]
  simp
attribute [simp] four_take four_map
/-! ### The program -/
theorem ent_mapPP : Enters Tryd.prog 79 := Enters.mk Tryd.func79 rfl
/-- A function that closes over two objects, applied to each predicate. -/
theorem mapPP_ch {x y : D} (F : FuncId) (hF : Enters Tryd.prog F) (a b : AObj) (ha : a = .cells [.d x]) (hb : b = .cells [.d y]) (f : Pr → Pr) (l : List Pr) (hl : l.length ≤ 900000000) (hx : x.one = true) (hy : y.one = true)
    (hcl : ∀ k ∈ l, CH Tryd.prog G F ⟨[.d (.agg (prD k)), .ptr 100000 0, .ptr 100001 0], [(100000, a), (100001, b)], []⟩ ⟨[.d (.agg (prD (f k)))], [(100000, a), (100001, b)], []⟩) :
    CH Tryd.prog G 79 ⟨[.d (.sl (l.map prC)), .clo F [.ptr 100000 0, .ptr 100001 0]], [(100000, a), (100001, b)], []⟩ ⟨[.d (.sl ((l.map f).map prC))], [(100000, a), (100001, b)], []⟩ := by
  subst ha hb
  refine CH.of_VK Tryd.func79 rfl Tryd.ntmps79 rfl (by simp) ?_
  simp
  refine SW.loopF (ι := { i : Nat // i ≤ l.length }) (fun i => [(5, .d (.sl (((l.take i.1).map f).map prC))), (10, .d (.int .i64 i.1))]) (fun _ => [(100000, .cells [.d x]), (100001, .cells [.d y])]) (fun _ => [(31, [.t 5])]) (fun i => l.length - i.1) ⟨0, by simp⟩ (by simp) ?_
  rintro ⟨i, hi⟩
  by_cases hlt : i < l.length
  · have hg := prs_get hlt
    have hw := wrap64s (show i < 9223372036854775807 by omega)
    have hsz : (min i l.length + 1) * 57 ≤ 140737488355328 := by omega
    simp [hlt, hg]
    refine callHK.ro hF (hcl l[i] (List.getElem_mem hlt)) [(100000, 100000), (100001, 100001)] (by simp) (by simp) (by simp) (by simp) (by simp) ?_
    simp [hsz]
    exact Again.mk ⟨i + 1, hlt⟩ (by simp [hw, take_map_step _ hlt, prC_eq]) (by simp; omega)
  · have : i = l.length := by omega
    subst this
    simp
theorem ent_mapVP : Enters Tryd.prog 110 := Enters.mk Tryd.func110 rfl
theorem ent_applied1 : Enters Tryd.prog 111 := Enters.mk Tryd.func111 rfl
theorem applied1_cs (v : Vr) : CS Tryd.prog G 111 [.agg [.str v.1, .str v.2]] (.d (.agg (prD (varP v)))) none := by
  refine CS.of_VK Tryd.func111 rfl Tryd.ntmps111 rfl ?_
  simp [varP]
theorem mapVP_ch (l : List Vr) (hl : l.length ≤ 900000000) : CH Tryd.prog G 110 ⟨[.d (.sl (l.map vrC)), .fn 111], [], []⟩ ⟨[.d (.sl ((l.map varP).map prC))], [], []⟩ := by
  refine CH.of_VK Tryd.func110 rfl Tryd.ntmps110 rfl (by simp) ?_
  simp
  refine SW.loopF (ι := { i : Nat // i ≤ l.length }) (fun i => [(5, .d (.sl (((l.take i.1).map varP).map prC))), (10, .d (.int .i64 i.1))]) (fun _ => []) (fun _ => [(31, [.t 5])]) (fun i => l.length - i.1) ⟨0, by simp⟩ (by simp) ?_
  rintro ⟨i, hi⟩
  by_cases hlt : i < l.length
  · have hg := vrs_get hlt
    have hw := wrap64s (show i < 9223372036854775807 by omega)
    have hsz : (min i l.length + 1) * 57 ≤ 140737488355328 := by omega
    simp [hlt, hg]
    refine callK.mk ent_applied1 (applied1_cs l[i]) ?_
    simp [hsz]
    exact Again.mk ⟨i + 1, hlt⟩ (by simp [hw, take_map_step _ hlt, prC_eq]) (by simp; omega)
  · have : i = l.length := by omega
    subst this
    simp
theorem ent_abstract_applied : VM.Enters Tryd.prog 82 := VM.Enters.mk Tryd.func82 rfl
theorem abstract_applied_cs (nm : Nm) (x : Pr) (l : List Vr) (hl : l.length ≤ 900000000) : CS Tryd.prog G 82 [.str nm, .agg (prD x), .sl (l.map vrC)] (.d (.agg (prD ⟨5, nm, 0, x :: l.map varP⟩))) none := by
  have hsz : (1 + l.length) * 57 ≤ 140737488355328 := by omega
  have hsz2 : (l.length + 1) * 57 ≤ 140737488355328 := by omega
  refine CS.of_VK Tryd.func82 rfl Tryd.ntmps82 rfl ?_
  simp
  refine ⟨lexOk.mk (by kernel_rfl), ?_⟩
  refine callHK.ro ent_mapVP (mapVP_ch l hl) [] (by simp) (by simp) (by simp) (by simp) (by simp) ?_
  simp [hsz, hsz2]
theorem ent_abstract_scope : VM.Enters Tryd.prog 83 := VM.Enters.mk Tryd.func83 rfl
theorem abstract_scope_cs (h : Ho) (hl : h.2.length ≤ 900000000) : CS Tryd.prog G 83 [.agg (hoD h)] (.d (.sl ((h.2.drop 1).map vrC))) none := by
  obtain ⟨nm, l⟩ := h
  refine CS.of_VK Tryd.func83 rfl Tryd.ntmps83 rfl ?_
  cases l with
  | nil => simp
  | cons v r =>
    have h1 : ¬ ((r.length : Int) + 1 = 0) := by omega
    have h2 : (r.map vrC).take r.length = r.map vrC := List.take_of_length_le (by simp)
    simp [h1, h2]
theorem ent_belong1 : Enters Tryd.prog 109 := Enters.mk Tryd.func109 rfl
theorem belong1_ch (v : Vr) (nm : Nm) : CH Tryd.prog G 109 ⟨[.d (.agg [.str v.1, .str v.2]), .ptr 100000 0], [(100000, .cells [.d (.str nm)])], []⟩ ⟨[.d (.bool (decide (v.1 = nm)))], [(100000, .cells [.d (.str nm)])], []⟩ := by
  refine CH.of_VK Tryd.func109 rfl Tryd.ntmps109 rfl (by simp) ?_
  simp
theorem ent_ixAbs : Enters Tryd.prog 108 := Enters.mk Tryd.func108 rfl
theorem absI_step {abs : List Vr} {nm : Nm} {i : Nat} (h : i < abs.length) : findI nm ((abs.map (·.1)).drop i) i = if abs[i].1 = nm then (i : Int) else findI nm ((abs.map (·.1)).drop (i + 1)) (i + 1) := by
  have h' : i < (abs.map (·.1)).length := by simpa using h
  have := findI_step (s := nm) (j := i) h'
  simpa using this
theorem ixAbs_ch (l : List Vr) (nm : Nm) (hl : l.length ≤ 900000000) : CH Tryd.prog G 108 ⟨[.d (.sl (l.map vrC)), .clo 109 [.ptr 100000 0]], [(100000, .cells [.d (.str nm)])], []⟩ ⟨[.d (.int .i64 (absI l nm))], [(100000, .cells [.d (.str nm)])], []⟩ := by
  refine CH.of_VK Tryd.func108 rfl Tryd.ntmps108 rfl (by simp) ?_
  simp
  refine SW.loopF (ι := { i : Nat // i ≤ l.length ∧ findI nm ((l.map (·.1)).drop i) i = absI l nm }) (fun i => [(8, .d (.int .i64 i.1))]) (fun _ => [(100000, .cells [.d (.str nm)])]) (fun _ => []) (fun i => l.length - i.1) ⟨0, by simp [absI]⟩ (by simp) ?_
  rintro ⟨i, hi, hR⟩
  try simp only at hi hR
  by_cases hlt : i < l.length
  · have hg := vrs_get hlt
    have hw := wrap64s (show i < 9223372036854775807 by omega)
    rw [absI_step hlt] at hR
    simp [hlt, hg]
    refine callHK.ro ent_belong1 (belong1_ch l[i] nm) [(100000, 100000)] (by simp) (by simp) (by simp) (by simp) (by simp) ?_
    by_cases he : l[i].1 = nm
    · rw [if_pos he] at hR
      simp [he, hR]
    · rw [if_neg he] at hR
      simp [he]
      exact Again.mk ⟨i + 1, hlt, hR⟩ (by simp [hw]) (by simp; omega)
  · have : i = l.length := by omega
    subst this
    have hd : (l.map (·.1)).drop l.length = [] := by simp
    rw [hd] at hR
    simp [findI] at hR
    simp [hR]
def belR (abs : List Vr) (hs : List Ho) (nm : Nm) : Ho × Bool := match holeAt abs hs nm with
  | some h => (h, true)
  | none => (([], []), false)
theorem ent_abstract_belonging : VM.Enters Tryd.prog 81 := VM.Enters.mk Tryd.func81 rfl
theorem abstract_belonging_cs (abs : List Vr) (hs : List Ho) (nm : Nm) (hl : abs.length ≤ 900000000) (hh : hs.length ≤ 900000000) : CS Tryd.prog G 81 [.sl (abs.map vrC), .sl (hs.map hoC), .str nm] (.tup [.agg (hoD (belR abs hs nm).1), .bool (belR abs hs nm).2]) none := by
  have hm : belR abs hs nm = match holeAt abs hs nm with
    | some h => (h, true)
    | none => (([], []), false) := rfl
  have hix := ixAbs_ch (G := G) abs nm hl
  unfold holeAt at hm
  generalize absI abs nm = i at hm hix
  refine CS.of_VK Tryd.func81 rfl Tryd.ntmps81 rfl ?_
  simp
  refine callHK.ro ent_ixAbs hix [(100000, 5)] (by simp) (by simp) (by simp) (by simp) (by simp) ?_
  by_cases h0 : 0 ≤ i
  · obtain ⟨k, rfl⟩ := Int.eq_ofNat_of_zero_le h0
    have h1 : ¬ ((k : Int) < 0) := by omega
    rw [if_pos h0] at hm
    by_cases hlt : k < hs.length
    · have hg := hos_get hlt
      have h2 : ¬ hs.length ≤ k := by omega
      simp [hlt] at hm
      simp [h1, h2, hlt, hg, hm]
    · have h2 : hs.length ≤ k := by omega
      simp [h2] at hm
      simp [h1, h2, hm]
  · have h1 : i < 0 := by omega
    rw [if_neg h0] at hm
    simp at hm
    simp [h1, hm]
theorem ent_absPred1 : Enters Tryd.prog 80 := Enters.mk Tryd.func80 rfl
abbrev absO (abs : List Vr) : AObj := .cells [.d (.sl (abs.map vrC))]
abbrev holO (hs : List Ho) : AObj := .cells [.d (.sl (hs.map hoC))]
theorem ent_abstract_Pred : VM.Enters Tryd.prog 45 := VM.Enters.mk Tryd.func45 rfl
theorem abstract_Pred_cs (abs : List Vr) (hs : List Ho) (hl : abs.length ≤ 900000000) (hh : hs.length ≤ 900000000) (hpp : ∀ h ∈ hs, h.2.length ≤ 900000000) : ∀ p : Pr, nodP p ≤ 900000000 →
    CS Tryd.prog G 45 [.agg (prD p), .sl (abs.map vrC), .sl (hs.map hoC)] (.d (.agg (prD (absP abs hs p)))) none := by
  refine Pr.ind fun p ih => ?_
  intro hN
  obtain ⟨op, nm, n, l⟩ := p
  simp only at ih
  have hn := nodP_kids ⟨op, nm, n, l⟩
  have hm := absP_eq abs hs ⟨op, nm, n, l⟩
  simp only at hn hm
  have hll := len_le_nodPs l
  have hcl : ∀ k ∈ l, CH Tryd.prog G 80 ⟨[.d (.agg (prD k)), .ptr 100000 0, .ptr 100001 0], [(100000, absO abs), (100001, holO hs)], []⟩ ⟨[.d (.agg (prD (absP abs hs k)))], [(100000, absO abs), (100001, holO hs)], []⟩ := fun k hk => by
    have hnk := nodPs_mem hk
    have hc := ih k hk (by omega)
    refine CH.of_VK Tryd.func80 rfl Tryd.ntmps80 rfl (by simp) ?_
    simp
    refine callK.mk ent_abstract_Pred hc ?_
    simp
  have hmp := mapPP_ch (G := G) _ ent_absPred1 (absO abs) (holO hs) rfl rfl (absP abs hs) l (by omega) rfl rfl hcl
  have hbl := abstract_belonging_cs (G := G) abs hs nm hl hh
  generalize hks : l.map (absP abs hs) = ks at hm hmp
  have hkl : ks.length = l.length := by rw [← hks]; simp
  refine CS.of_VK Tryd.func45 rfl Tryd.ntmps45 rfl ?_
  simp
  refine callHK.ro ent_mapPP hmp [(100000, 4), (100001, 5)] (by simp) (by simp) (by simp) (by simp) (by simp) ?_
  unfold nodeA at hm
  by_cases h4 : op = 4
  rotate_left
  · rw [if_neg (fun h => h4 h.1)] at hm
    rw [hm]
    simp [h4]
  subst h4
  by_cases h1 : l.length = 1
  rotate_left
  · rw [if_neg (fun h => h1 (hkl ▸ h.2))] at hm
    have h1' : ¬ ((l.length : Int) = 1) := by omega
    rw [hm]
    simp [h1, h1']
  obtain ⟨k, rfl⟩ := List.length_eq_one_iff.1 (hkl.trans h1)
  rw [if_pos ⟨rfl, rfl⟩] at hm
  rw [hm]
  simp [h1]
  refine callK.mk ent_abstract_belonging hbl ?_
  have hbe : belR abs hs nm = match holeAt abs hs nm with
    | some h => (h, true)
    | none => (([], []), false) := rfl
  cases hat : holeAt abs hs nm with
  | none =>
    rw [hat] at hbe
    simp only at hbe
    simp [hbe]
  | some h =>
    rw [hat] at hbe
    simp only at hbe
    have hmem : h ∈ hs := by
      unfold holeAt at hat
      split at hat
      · exact List.mem_of_getElem? hat
      · cases hat
    have hsc := abstract_scope_cs (G := G) h (hpp h hmem)
    have hap := abstract_applied_cs (G := G) h.1 k (h.2.drop 1) (by have := hpp h hmem; simp; omega)
    simp at hap
    simp [hbe]
    refine ⟨lexOk.mk (by kernel_rfl), ?_⟩
    refine callK.mk ent_abstract_scope hsc ?_
    simp
    refine callK.mk ent_abstract_applied hap ?_
    simp
end Go.Proofs.YthikbenglkfioaaDoor
