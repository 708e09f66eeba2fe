/- Values and their texts. No condition. -/
import Derived.Test.YtdnkdeplpnbojaaDoorEg
set_option linter.unusedVariables false
set_option linter.unusedSimpArgs false
set_option linter.unusedSectionVars false
namespace Go.Proofs.YtdnkdeplpnbojaaDoor
open Go Go.VM
set_option maxRecDepth 100000
set_option maxHeartbeats 8000000
variable {G : GT}
inductive Val where
  | mk (op n : Int) (name : List UInt8) (kids : List Val) (a b c : D)
mutual
def valC : Val → List D
  | .mk op n name kids a b c => [.int .i64 op, .int .i64 n, .str name, .sl (valsC kids), a, b, c]
def valsC : List Val → List (List D)
  | [] => []
  | v :: r => valC v :: valsC r
end
mutual
def valW : Val → List UInt8
  | .mk op n name kids _ _ _ => if op = 1 then Lib.itoa n else if op = 2 then (if n = 0 then [102, 97, 108, 115, 101] else [116, 114, 117, 101])
    else if op = 4 then 110 :: 101 :: 119 :: 32 :: 40 :: (Lib.itoa n ++ [41]) else if op = 3 then (if kids.length = 0 then name else name ++ (32 :: 40 :: (Lib.join (valsW kids) [44, 32] ++ [41]))) else [102, 117, 110]
def valsW : List Val → List (List UInt8)
  | [] => []
  | v :: r => valW v :: valsW r
end
mutual
def valI : Val → Prop
  | .mk _ n _ kids _ _ _ => I64 n ∧ valsI kids
def valsI : List Val → Prop
  | [] => True
  | v :: r => valI v ∧ valsI r
end
theorem valsC_eq : ∀ l : List Val, valsC l = l.map valC
  | [] => by simp [valsC]
  | v :: r => by simp [valsC, valsC_eq r]
theorem valsW_eq : ∀ l : List Val, valsW l = l.map valW
  | [] => by simp [valsW]
  | v :: r => by simp [valsW, valsW_eq r]
theorem valsI_mem : ∀ {l : List Val}, valsI l → ∀ v ∈ l, valI v
  | [], _, v, h => by cases h
  | x :: r, hI, v, h => by
    unfold valsI at hI
    rcases List.mem_cons.1 h with rfl | h
    · exact hI.1
    · exact valsI_mem hI.2 v h
mutual
theorem valW_len : ∀ v : Val, valI v → (valW v).length + 30 ≤ 40 * szL (valC v)
  | .mk op n name kids a b c, h => by
    have h1 : I64 n ∧ valsI kids := by unfold valI at h; exact h
    have h2 := Lib.itoa_length_le n h1.1.1 h1.1.2
    have h3 := valsW_len kids h1.2
    have h4 := join_le (valsW kids) [44, 32]
    have h5 : (valsW kids).length = kids.length := by rw [valsW_eq]; simp
    simp at h4
    rw [h5] at h4
    unfold valC valW
    simp only [szL, szD]
    split
    · omega
    split
    · split <;> simp <;> omega
    split
    · simp; omega
    split
    · split
      · omega
      · simp at h3 h4 ⊢; omega
    · simp; omega
theorem valsW_len : ∀ l : List Val, valsI l → Lib.lens (valsW l) + 30 * l.length ≤ 40 * szLL (valsC l)
  | [], _ => by simp [valsW, Lib.lens]
  | v :: r, h => by
    unfold valsI at h
    have h1 := valW_len v h.1
    have h2 := valsW_len r h.2
    simp only [valsW, valsC, szLL, Lib.lens, List.map_cons, List.sum_cons, List.length_cons] at h2 ⊢
    omega
end
theorem vals_len (l : List Val) : (valsC l).length = l.length := by rw [valsC_eq]; simp
theorem vals_seven (l : List Val) : (∀ x, x ∈ valsC l → x.length = 7) = True := eq_true fun x hx => by
  rw [valsC_eq] at hx
  obtain ⟨v, _, rfl⟩ := List.mem_map.1 hx
  cases v
  simp [valC]
theorem vals_get {l : List Val} {i : Nat} (h : i < l.length) : (valsC l)[i]? = some (valC l[i]) := by rw [valsC_eq]; simp [h]
theorem vals_getE {l : List Val} {i : Nat} (h : i < (valsC l).length) : (valsC l)[i] = valC (l[i]'(by rw [← vals_len l]; exact h)) := by simp [valsC_eq]
attribute [simp] vals_len vals_seven vals_getE
theorem vals_sz : ∀ {l : List Val} {i : Nat} (h : i < l.length), szL (valC l[i]) ≤ szLL (valsC l)
  | v :: r, 0, _ => by simp only [valsC, szLL, List.getElem_cons_zero]; omega
  | v :: r, i + 1, h => by
    have := vals_sz (l := r) (i := i) (by simpa using h)
    simp only [valsC, szLL, List.getElem_cons_succ]
    omega
theorem valsW_step {l : List Val} {i : Nat} (h : i < l.length) : valsW (l.take (i + 1)) = valsW (l.take i) ++ [valW l[i]] := by
  rw [valsW_eq, valsW_eq, List.take_succ_eq_append_getElem h, List.map_append]
  rfl
end Go.Proofs.YtdnkdeplpnbojaaDoor
