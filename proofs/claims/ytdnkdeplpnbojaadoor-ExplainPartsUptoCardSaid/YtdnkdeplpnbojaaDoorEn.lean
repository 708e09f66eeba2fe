/- How many values there are; whether a failure has short lists. No condition. -/
import Derived.Test.YtdnkdeplpnbojaaDoorEm
set_option linter.unusedVariables false
set_option linter.unusedSimpArgs false
set_option linter.unusedSectionVars false
namespace Go.Proofs.YtdnkdeplpnbojaaDoor
open Go Go.VM
set_option maxRecDepth 100000
set_option maxHeartbeats 8000000
variable {G : GT}
mutual
def nodV (most : Int) : Val → Int
  | .mk _ _ _ kids _ _ _ => nodL most kids 0
def nodL (most : Int) : List Val → Int → Int
  | [], n => n
  | v :: r, n => if most < n then n else nodL most r (n + (1 + nodV most v))
end
mutual
theorem nodV_le (most : Int) : ∀ v : Val, 0 ≤ nodV most v ∧ nodV most v + 1 ≤ szL (valC v)
  | .mk op n name kids a b c => by
    have := nodL_le most kids 0
    simp only [nodV, valC, szL, szD]
    omega
theorem nodL_le (most : Int) : ∀ (l : List Val) (n : Int), n ≤ nodL most l n ∧ nodL most l n ≤ n + szLL (valsC l)
  | [], n => by simp [nodL]; omega
  | v :: r, n => by
    have h1 := nodV_le most v
    have h2 := nodL_le most r (n + (1 + nodV most v))
    simp only [nodL, valsC, szLL]
    split <;> omega
end
def kidsOf : Val → List Val
  | .mk _ _ _ kids _ _ _ => kids
theorem ent_l53_nodes : VM.Enters Tryd.prog 59 := VM.Enters.mk Tryd.func59 rfl
theorem l53_nodes_cs (most : Int) : ∀ (N : Nat) (l : List Val), szLL (valsC l) ≤ N → N ≤ 1048576 → CS Tryd.prog G 59 [.sl (valsC l), .int .i64 most] (.d (.int .i64 (nodL most l 0))) none
  | N, l, hN, hN' => by
    refine CS.of_VK Tryd.func59 rfl Tryd.ntmps59 rfl ?_
    have hlen : ∀ l : List Val, l.length ≤ szLL (valsC l) := fun l => by
      induction l with
      | nil => simp
      | cons v r ih =>
        cases v
        simp only [valsC, valC, szLL, szL, szD, List.length_cons] at ih ⊢
        omega
    have hl := hlen l
    simp
    refine SW.loopF (ι := { x : Nat × Int // x.1 ≤ l.length ∧ 0 ≤ x.2 ∧ x.2 + szLL (valsC (l.drop x.1)) ≤ 1048576 ∧ nodL most (l.drop x.1) x.2 = nodL most l 0 }) (fun x => [(5, .d (.int .i64 x.1.2)), (10, .d (.int .i64 x.1.1))]) (fun _ => []) (fun _ => []) (fun x => l.length - x.1.1) ⟨(0, 0), by simp, by simp, by simp; omega, by simp⟩ (by simp) ?_
    rintro ⟨⟨i, n⟩, hi, hn0, hnb, hR⟩
    simp only at hi hn0 hnb hR
    by_cases hlt : i < l.length
    · have hg := vals_get hlt
      have hw := wrap64s (show i < 9223372036854775807 by omega)
      have hd := List.drop_eq_getElem_cons hlt
      rw [hd] at hR hnb
      simp only [nodL, valsC, szLL] at hR hnb
      have hv := nodV_le most l[i]
      by_cases hm : most < n
      · rw [if_pos hm] at hR
        obtain ⟨x0, x1, x2, x3, x4, x5, x6, he⟩ : ∃ x0 x1 x2 x3 x4 x5 x6, valC l[i] = [x0, x1, x2, x3, x4, x5, x6] := by
          cases l[i]
          exact ⟨_, _, _, _, _, _, _, by simp only [valC]; rfl⟩
        rw [he] at hg
        have hm' := hm
        rw [hR] at hm'
        simp [hlt, hg, he, hm, hm', hR]
      · rw [if_neg hm] at hR
        have hsz := vals_sz hlt
        cases hv' : l[i] with
        | mk op k nm kids a b c =>
          rw [hv'] at hv hg hR hnb hsz
          have he : valC (Val.mk op k nm kids a b c) = [.int .i64 op, .int .i64 k, .str nm, .sl (valsC kids), a, b, c] := by simp only [valC]
          rw [he] at hg hsz
          simp only [szL, szD] at hsz
          simp [hlt, hg, hv', he, hm]
          refine callK.mk ent_l53_nodes (l53_nodes_cs most (N - 1) kids (by omega) (by omega)) ?_
          have w1 : IntKind.i64.wrap (1 + nodL most kids 0) = 1 + nodL most kids 0 := wrap64 (by simp only [nodV] at hv; omega)
          have w2 : IntKind.i64.wrap (n + (1 + nodL most kids 0)) = n + (1 + nodL most kids 0) := wrap64 (by simp only [nodV] at hv; omega)
          simp [w1, w2]
          exact Again.mk ⟨(i + 1, n + (1 + nodL most kids 0)), hlt, by simp only [nodV] at hv; simp only; omega, by simp only [nodV] at hv; simp only; omega, by simpa only [nodV] using hR⟩ (by simp [hw]) (by simp; omega)
    · have : i = l.length := by omega
      subst this
      simp [nodL] at hR
      simp [hR]
  termination_by N => N
  decreasing_by omega
end Go.Proofs.YtdnkdeplpnbojaaDoor
