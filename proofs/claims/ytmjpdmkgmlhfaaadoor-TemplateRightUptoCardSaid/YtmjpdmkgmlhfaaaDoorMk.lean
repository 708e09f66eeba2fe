/- Template, the reference: digits, Fresh. No condition. -/
import Derived.Test.YtmjpdmkgmlhfaaaDoorMf
import Derived.Test.YtmjpdmkgmlhfaaaDoorMj
import Derived.Test.YtmjpdmkgmlhfaaaDoorZ4
set_option linter.unusedVariables false
set_option linter.unusedSimpArgs false
set_option linter.unusedSectionVars false
namespace Go.Proofs.YtmjpdmkgmlhfaaaDoor
open Go Go.VM
set_option maxRecDepth 100000
set_option maxHeartbeats 8000000
variable {G : GT}
theorem ten_cases {n : Nat} (h : n < 10) : n = 0 ∨ n = 1 ∨ n = 2 ∨ n = 3 ∨ n = 4 ∨ n = 5 ∨ n = 6 ∨ n = 7 ∨ n = 8 ∨ n = 9 := by omega
theorem ent_r37_digits : VM.Enters Tryd.prog 111 := VM.Enters.mk Tryd.func111 rfl
theorem r37_digits_cs : ∀ n : Nat, n ≤ 1000000000 → CS Tryd.prog G 111 [.int .i64 n] (.d (.str (Lib.decDigits n))) none := by
  intro n
  induction n using Nat.strongRecOn with
  | ind n ih =>
    intro hn
    have hd := dd_len 19 n (by omega)
    by_cases h : n < 10
    · rw [dd_small h]
      refine CS.of_VK Tryd.func111 rfl Tryd.ntmps111 rfl ?_
      rcases ten_cases h with e | e | e | e | e | e | e | e | e | e <;> subst e <;> simp [show IntKind.i64.wrap 1 = 1 from wrap64 (by omega), show IntKind.i64.wrap 2 = 2 from wrap64 (by omega), show IntKind.i64.wrap 3 = 3 from wrap64 (by omega), show IntKind.i64.wrap 4 = 4 from wrap64 (by omega), show IntKind.i64.wrap 5 = 5 from wrap64 (by omega), show IntKind.i64.wrap 6 = 6 from wrap64 (by omega), show IntKind.i64.wrap 7 = 7 from wrap64 (by omega), show IntKind.i64.wrap 8 = 8 from wrap64 (by omega), show IntKind.i64.wrap 9 = 9 from wrap64 (by omega), show IntKind.i64.wrap 10 = 10 from wrap64 (by omega)]
    · have h1 := ih (n / 10) (by omega) (by omega)
      have h2 := ih (n % 10) (by omega) (by omega)
      have hd1 := dd_len 19 (n / 10) (by omega)
      have hd2 := dd_len 19 (n % 10) (by omega)
      have e1 : (Int.tdiv (n : Int) 10) = ((n / 10 : Nat) : Int) := by rw [Int.tdiv_eq_ediv_of_nonneg (by omega)]; omega
      have e2 : (Int.tmod (n : Int) 10) = ((n % 10 : Nat) : Int) := by rw [Int.tmod_eq_emod_of_nonneg (by omega)]; omega
      have w1 : IntKind.i64.wrap ((n / 10 : Nat) : Int) = ((n / 10 : Nat) : Int) := wrap64 (by omega)
      have hs := dd_step h
      have hsm : Lib.decDigits (n % 10) = [UInt8.ofNat (48 + n % 10)] := dd_small (by omega)
      have hlt : ¬ ((n : Int) < 10) := by omega
      refine CS.of_VK Tryd.func111 rfl Tryd.ntmps111 rfl ?_
      have w1' : IntKind.i64.wrap ((n : Int) / 10) = ((n / 10 : Nat) : Int) := by rw [wrap64 (by omega)]; omega
      have e2' : (n : Int) % 10 = ((n % 10 : Nat) : Int) := by omega
      rw [← w1'] at h1
      rw [← e2'] at h2
      simp [hlt]
      refine callK.mk ent_r37_digits h1 ?_
      simp
      refine callK.mk ent_r37_digits h2 ?_
      simp
      refine stepK_len (by omega) ?_
      simp [hs, hsm]
theorem find_pos (s : Nm) (l : List Nm) : (0 ≤ findI s l 0) ↔ s ∈ l := by
  have h := findI_any s l 0
  constructor
  · intro h0
    rw [decide_eq_true h0] at h
    obtain ⟨x, hx, e⟩ := List.any_eq_true.1 h.symm
    exact (of_decide_eq_true e) ▸ hx
  · intro hm
    have : (l.any fun k => decide (k = s)) = true := List.any_eq_true.2 ⟨s, hm, by simp⟩
    rw [this] at h
    exact of_decide_eq_true h
theorem ent_r4_Fresh : VM.Enters Tryd.prog 109 := VM.Enters.mk Tryd.func109 rfl
theorem r4_Fresh_cs (l : List Nm) (hl : l.length ≤ 1000000) : CS Tryd.prog G 109 [.sl (strs l), .str [120]] (.d (.str (freshN l))) none := by
  obtain ⟨j, hj, hf, hn, hb⟩ := fresh_spec l
  refine CS.of_VK Tryd.func109 rfl Tryd.ntmps109 rfl ?_
  simp
  refine SW.loopF (ι := { k : Nat // k ≤ j }) (fun k => [(5, .d (.str (xN k.1))), (6, .d (.int .i64 (k.1 + 1 : Nat)))]) (fun _ => []) (fun _ => []) (fun k => j - k.1) ⟨0, by omega⟩ (by simp [xN]) ?_
  rintro ⟨k, hkj⟩
  have hw := wrap64s (show k + 1 < 9223372036854775807 by omega)
  have hdl : (Lib.decDigits (k + 1)).length ≤ 20 := dd_len 19 _ (by omega)
  have hxk : xN (k + 1) = 120 :: Lib.decDigits (k + 1) := by rw [xN, if_neg (by omega)]
  simp
  refine callK.mk ent_r4_Find (r4_Find_cs l (xN k) hl) ?_
  simp
  by_cases hin : xN k ∈ l
  · have hp := (find_pos (xN k) l).2 hin
    have hlt : k < j := by
      rcases Nat.lt_or_ge k j with h | h
      · exact h
      · have : k = j := by omega
        subst this
        exact (hn hin).elim
    have htx := r1_Text_cs (G := G) ((k + 1 : Nat) : Int) (by constructor <;> omega)
    rw [itoa_pos] at htx
    simp only [Int.natCast_add, Int.cast_ofNat_Int] at htx hw
    simp [hp]
    refine callK.mk ent_r1_Text htx ?_
    simp
    refine stepK_len (by omega) ?_
    simp
    exact Again.mk ⟨k + 1, by omega⟩ (by simp [hw, hxk]) (by simp; omega)
  · have hp : ¬ 0 ≤ findI (xN k) l 0 := fun h => hin ((find_pos (xN k) l).1 h)
    have : k = j := by
      rcases Nat.lt_or_ge k j with h | h
      · exact (hin (hb k h)).elim
      · omega
    subst this
    simp [hp, hf]
end Go.Proofs.YtmjpdmkgmlhfaaaDoor
