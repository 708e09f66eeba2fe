/- Values in words: the walk. No condition. -/
import Derived.Test.YtdnkdeplpnbojaaDoorEk
set_option linter.unusedVariables false
set_option linter.unusedSimpArgs false
set_option linter.unusedSectionVars false
namespace Go.Proofs.YtdnkdeplpnbojaaDoor
open Go Go.VM
set_option maxRecDepth 100000
set_option maxHeartbeats 8000000
variable {G : GT}
theorem valsW_small {l : List Val} (hI : valsI l) (hx : szLL (valsC l) ≤ 1048576) : l.length ≤ 1048576 ∧ (valsW l).length = l.length ∧ (Lib.join (valsW l) [44, 32]).length ≤ 50000000 := by
  have h1 := valsW_len l hI
  have h2 := join_le (valsW l) [44, 32]
  have h3 : (valsW l).length = l.length := by rw [valsW_eq]; simp
  have h4 : ∀ l : List Val, l.length ≤ szLL (valsC l) := fun l => by
    induction l with
    | nil => simp
    | cons v r ih =>
      cases v
      simp only [valsC, valC, szLL, szL, szD, List.length_cons] at ih ⊢
      omega
  have h5 := h4 l
  simp at h2
  omega
theorem ent_value_Text : VM.Enters Tryd.prog 60 := VM.Enters.mk Tryd.func60 rfl
theorem value_Text_cs (hP : G 1 = some powCells) : ∀ (N : Nat) (v : Val), valI v → szL (valC v) ≤ N → N ≤ 1048576 → CS Tryd.prog G 60 [.agg (valC v)] (.d (.str (valW v))) none
  | 0, .mk op n name kids a b c, hI, hN, _ => by simp only [valC, szL, szD] at hN; omega
  | N + 1, .mk op n name kids a b c, hI, hN, hN' => by
    have hI' : I64 n ∧ valsI kids := by unfold valI at hI; exact hI
    obtain ⟨hn, hk⟩ := hI'
    have hit := Lib.itoa_length_le n hn.1 hn.2
    have hN2 : name.length + szLL (valsC kids) + 4 ≤ N + 1 := by
      simp only [valC, szL, szD] at hN
      omega
    obtain ⟨hs1, hs2, hs3⟩ := valsW_small hk (by omega)
    unfold valC valW
    refine CS.of_VK Tryd.func60 rfl Tryd.ntmps60 rfl ?_
    by_cases h1 : op = 1
    · simp [h1]
      refine callK.mk ent_m_Text (m_Text_cs hP n hn) ?_
      simp
    by_cases h2 : op = 2
    · by_cases h0 : n = 0
      · simp [h2, h0]
      · simp [h2, h0]
    by_cases h4 : op = 4
    · simp [h4]
      refine callK.mk ent_m_Text (m_Text_cs hP n hn) ?_
      simp
      repeat (refine stepK_len (by omega) ?_; simp)
    by_cases h3 : op = 3
    · cases hkk : kids with
      | nil => simp [h3, valsC]
      | cons k0 kr =>
        have hpos : 0 < kids.length := by rw [hkk]; simp
        have hne : ¬ kids.length = 0 := by omega
        rw [← hkk]
        simp [h3, hne]
        refine SW.loopF (ι := { i : Nat // i ≤ kids.length }) (fun i => [(3, .d (.sl (strs (valsW (kids.take i.1))))), (36, .d (.int .i64 i.1))]) (fun _ => [(1, .cells [.int .i64 3, .int .i64 n, .str name, .sl (valsC kids), a, b, c])]) (fun _ => [(9, [.t 3])]) (fun i => kids.length - i.1) ⟨0, by simp⟩ (by simp [valsW, strs]) ?_
        rintro ⟨i, hi⟩
        by_cases hlt : i < kids.length
        · have hg := vals_get hlt
          have hw := wrap64s (show i < 9223372036854775807 by omega)
          have hq := valsW_step hlt
          have hsz := vals_sz hlt
          have hpl : (valsW (kids.take i)).length ≤ kids.length := by rw [valsW_eq]; simp; omega
          have hki := valsI_mem hk kids[i] (List.getElem_mem hlt)
          have ih := value_Text_cs hP N kids[i] hki (by omega) (by omega)
          obtain ⟨x0, x1, x2, x3, x4, x5, x6, he⟩ : ∃ x0 x1 x2 x3 x4 x5 x6, valC kids[i] = [x0, x1, x2, x3, x4, x5, x6] := by
            cases kids[i]
            exact ⟨_, _, _, _, _, _, _, by simp only [valC]; rfl⟩
          rw [he] at hg ih
          simp [hlt, hg, he]
          refine callK.mk ent_value_Text ih ?_
          simp
          repeat (refine stepK_len (by omega) ?_; simp)
          exact Again.mk ⟨i + 1, hlt⟩ (by simp [hw, hq]) (by simp; omega)
        · have : i = kids.length := by omega
          subst this
          simp
          refine ⟨lexOk.mk (by kernel_rfl), ?_⟩
          repeat (refine stepK_len (by omega) ?_; simp)
          refine callK.mk ent_Join (Join_cs (by omega) (by omega)) ?_
          simp
          repeat (refine stepK_len (by omega) ?_; simp)
    simp [h1, h2, h3, h4]
end Go.Proofs.YtdnkdeplpnbojaaDoor
