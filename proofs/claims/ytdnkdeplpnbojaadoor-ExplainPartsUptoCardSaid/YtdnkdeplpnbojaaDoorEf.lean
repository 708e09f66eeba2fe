/- Points and goals. No condition. -/
import Derived.Test.YtdnkdeplpnbojaaDoorEh
set_option linter.unusedVariables false
set_option linter.unusedSimpArgs false
set_option linter.unusedSectionVars false
namespace Go.Proofs.YtdnkdeplpnbojaaDoor
open Go Go.VM
set_option maxRecDepth 100000
set_option maxHeartbeats 8000000
variable {G : GT}
/-- The coordinates of a point, as elements of a slice. -/
def coordC (c : List UInt8 × Int) : List D := [.str c.1, .int .i64 c.2]
def coordsC (l : List (List UInt8 × Int)) : List (List D) := l.map coordC
theorem coords_len (l : List (List UInt8 × Int)) : (coordsC l).length = l.length := by simp [coordsC]
theorem coords_two (l : List (List UInt8 × Int)) : (∀ x, x ∈ coordsC l → x.length = 2) = True := eq_true fun x hx => by
  obtain ⟨c, _, rfl⟩ := List.mem_map.1 hx
  rfl
theorem coords_getE {l : List (List UInt8 × Int)} {i : Nat} (h : i < (coordsC l).length) : (coordsC l)[i] = [.str (l[i]'(by rw [← coords_len l]; exact h)).1, .int .i64 (l[i]'(by rw [← coords_len l]; exact h)).2] := by simp [coordsC, coordC]
attribute [simp] coords_len coords_getE coords_two
theorem coords_get {l : List (List UInt8 × Int)} {i : Nat} (h : i < l.length) : (coordsC l)[i]? = some [.str l[i].1, .int .i64 l[i].2] := by simp [coordsC, coordC, h]
def coordW (c : List UInt8 × Int) : List UInt8 := c.1 ++ (32 :: 61 :: 32 :: Lib.itoa c.2)
def ptL (l : List (List UInt8 × Int)) : List (List UInt8) := l.map coordW
def ptW (l : List (List UInt8 × Int)) : List UInt8 := Lib.join (ptL l) [44, 32]
theorem ptL_len (l : List (List UInt8 × Int)) : (ptL l).length = l.length := by simp [ptL]
theorem ptL_step {l : List (List UInt8 × Int)} {i : Nat} (h : i < l.length) : ptL (l.take (i + 1)) = ptL (l.take i) ++ [coordW l[i]] := by
  unfold ptL
  rw [List.take_succ_eq_append_getElem h, List.map_append]
  rfl
theorem ptL_lens : ∀ (l : List (List UInt8 × Int)), (∀ c ∈ l, I64 c.2) → Lib.lens (ptL l) + l.length ≤ 30 * szLL (coordsC l)
  | [], _ => by simp [Lib.lens, ptL]
  | c :: r, h => by
    have h1 := h c (.head _)
    have h2 := ptL_lens r fun y hy => h y (.tail _ hy)
    have h3 := Lib.itoa_length_le c.2 h1.1 h1.2
    simp only [coordsC, ptL, coordC, coordW, List.map_cons, szLL, szL, szD, Lib.lens, List.sum_cons, List.length_cons, List.length_append] at h2 ⊢
    omega
theorem coord_le : ∀ {l : List (List UInt8 × Int)} {i : Nat} (h : i < l.length), l[i].1.length ≤ szLL (coordsC l)
  | c :: r, 0, _ => by
    simp only [coordsC, coordC, List.map_cons, szLL, szL, szD, List.getElem_cons_zero]
    omega
  | c :: r, i + 1, h => by
    have := coord_le (l := r) (i := i) (by simpa using h)
    simp only [coordsC, coordC, List.map_cons, szLL, szL, szD, List.getElem_cons_succ] at this ⊢
    omega
theorem ptW_small {l : List (List UInt8 × Int)} (hI : ∀ c ∈ l, I64 c.2) (hx : szLL (coordsC l) ≤ 1048576) : l.length ≤ 31457280 ∧ (ptW l).length ≤ 100000000 := by
  have h1 := ptL_lens l hI
  have h2 := join_le (ptL l) [44, 32]
  rw [ptL_len] at h2
  simp at h2
  unfold ptW
  omega
theorem ent_e_Point : VM.Enters Tryd.prog 40 := VM.Enters.mk Tryd.func40 rfl
theorem e_Point_cs (hP : G 1 = some powCells) (l : List (List UInt8 × Int)) (hI : ∀ c ∈ l, I64 c.2) (hx : szLL (coordsC l) ≤ 1048576) : CS Tryd.prog G 40 [.sl (coordsC l)] (.d (.str (ptW l))) none := by
  refine CS.of_VK Tryd.func40 rfl Tryd.ntmps40 rfl ?_
  obtain ⟨hs1, hs2⟩ := ptW_small hI hx
  have hj1 : (ptL l).length ≤ 140737488355328 := by rw [ptL_len]; omega
  have hj2 : (Lib.join (ptL l) [44, 32]).length ≤ 140737488355328 := by
    have : (ptW l).length ≤ 140737488355328 := by omega
    exact this
  simp
  refine SW.loopF (ι := { i : Nat // i ≤ l.length }) (fun i => [(3, .d (.sl (strs (ptL (l.take i.1))))), (8, .d (.int .i64 i.1))]) (fun _ => []) (fun _ => [(9, [.t 3])]) (fun i => l.length - i.1) ⟨0, by simp⟩ (by simp [ptL, strs]) ?_
  rintro ⟨i, hi⟩
  by_cases hlt : i < l.length
  · have hg := coords_get hlt
    have hw := wrap64s (show i < 9223372036854775807 by omega)
    have hI1 := hI l[i] (List.getElem_mem hlt)
    have hit := Lib.itoa_length_le l[i].2 hI1.1 hI1.2
    have hlen : l[i].1.length ≤ 1048576 := Nat.le_trans (coord_le hlt) hx
    have hq := ptL_step hlt
    have hpl : (ptL (l.take i)).length ≤ l.length := by rw [ptL_len, List.length_take]; omega
    simp [hlt, hg]
    refine ⟨lexOk.mk (by kernel_rfl), ?_⟩
    repeat (refine stepK_len (by omega) ?_; simp)
    refine callK.mk ent_m_Text (m_Text_cs hP l[i].2 hI1) ?_
    simp
    repeat (refine stepK_len (by omega) ?_; simp)
    exact Again.mk ⟨i + 1, hlt⟩ (by simp [hw, hq, coordW]) (by simp; omega)
  · have : i = l.length := by omega
    subst this
    simp
    refine callK.mk ent_Join (Join_cs hj1 hj2) ?_
    simp [ptW]
theorem ent_r53_Point : VM.Enters Tryd.prog 41 := VM.Enters.mk Tryd.func41 rfl
theorem r53_Point_cs (hP : G 1 = some powCells) (l : List (List UInt8 × Int)) (hI : ∀ c ∈ l, I64 c.2) (hx : szLL (coordsC l) ≤ 1048576) : CS Tryd.prog G 41 [.sl (coordsC l)] (.d (.str (ptW l))) none := by
  refine CS.of_VK Tryd.func41 rfl Tryd.ntmps41 rfl ?_
  obtain ⟨hs1, hs2⟩ := ptW_small hI hx
  have hj1 : (ptL l).length ≤ 140737488355328 := by rw [ptL_len]; omega
  have hj2 : (Lib.join (ptL l) [44, 32]).length ≤ 140737488355328 := by
    have : (ptW l).length ≤ 140737488355328 := by omega
    exact this
  simp
  refine SW.loopF (ι := { i : Nat // i ≤ l.length }) (fun i => [(3, .d (.sl (strs (ptL (l.take i.1))))), (8, .d (.int .i64 i.1))]) (fun _ => []) (fun _ => [(9, [.t 3])]) (fun i => l.length - i.1) ⟨0, by simp⟩ (by simp [ptL, strs]) ?_
  rintro ⟨i, hi⟩
  by_cases hlt : i < l.length
  · have hg := coords_get hlt
    have hw := wrap64s (show i < 9223372036854775807 by omega)
    have hI1 := hI l[i] (List.getElem_mem hlt)
    have hit := Lib.itoa_length_le l[i].2 hI1.1 hI1.2
    have hlen : l[i].1.length ≤ 1048576 := Nat.le_trans (coord_le hlt) hx
    have hq := ptL_step hlt
    have hpl : (ptL (l.take i)).length ≤ l.length := by rw [ptL_len, List.length_take]; omega
    simp [hlt, hg]
    refine ⟨lexOk.mk (by kernel_rfl), ?_⟩
    repeat (refine stepK_len (by omega) ?_; simp)
    refine callK.mk ent_r1_Text (r1_Text_cs l[i].2 hI1) ?_
    simp
    repeat (refine stepK_len (by omega) ?_; simp)
    exact Again.mk ⟨i + 1, hlt⟩ (by simp [hw, hq, coordW]) (by simp; omega)
  · have : i = l.length := by omega
    subst this
    simp
    refine callK.mk ent_r53_joined (r53_joined_cs _ _ hj1 hj2) ?_
    simp [ptW]
end Go.Proofs.YtdnkdeplpnbojaaDoor
