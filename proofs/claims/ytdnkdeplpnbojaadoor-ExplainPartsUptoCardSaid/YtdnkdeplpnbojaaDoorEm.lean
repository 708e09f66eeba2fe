/- Values in words: the walk of the reference. No condition. -/
import Derived.Test.YtdnkdeplpnbojaaDoorEl
set_option linter.unusedVariables false
set_option linter.unusedSimpArgs false
set_option linter.unusedSectionVars false
namespace Go.Proofs.YtdnkdeplpnbojaaDoor
open Go Go.VM
set_option maxRecDepth 100000
set_option maxHeartbeats 8000000
variable {G : GT}
theorem ent_r29_Text : VM.Enters Tryd.prog 61 := VM.Enters.mk Tryd.func61 rfl
theorem r29_Text_cs  : ∀ (N : Nat) (v : Val), valI v → szL (valC v) ≤ N → N ≤ 1048576 → CS Tryd.prog G 61 [.agg (valC v)] (.d (.str (valW v))) none
  | 0, .mk op n name kids a b c, hI, hN, _ => by simp only [valC, szL, szD] at hN; omega
  | N + 1, .mk op n name kids a b c, hI, hN, hN' => by
    have hI' : I64 n ∧ valsI kids := by unfold valI at hI; exact hI
    obtain ⟨hn, hk⟩ := hI'
    have hit := Lib.itoa_length_le n hn.1 hn.2
    have hN2 : name.length + szLL (valsC kids) + 4 ≤ N + 1 := by
      simp only [valC, szL, szD] at hN
      omega
    obtain ⟨hs1, hs2, hs3⟩ := valsW_small hk (by omega)
    unfold valC valW
    refine CS.of_VK Tryd.func61 rfl Tryd.ntmps61 rfl ?_
    by_cases h1 : op = 1
    · simp [h1]
      refine callK.mk ent_r1_Text (r1_Text_cs n hn) ?_
      simp
    by_cases h2 : op = 2
    · by_cases h0 : n = 0
      · simp [h2, h0]
      · simp [h2, h0]
    by_cases h4 : op = 4
    · simp [h4]
      refine callK.mk ent_r1_Text (r1_Text_cs n hn) ?_
      simp
      repeat (refine stepK_len (by omega) ?_; simp)
    by_cases h3 : op = 3
    · cases hkk : kids with
      | nil => simp [h3, valsC]
      | cons k0 kr =>
        have hpos : 0 < kids.length := by rw [hkk]; simp
        have hne : ¬ kids.length = 0 := by omega
        rw [← hkk]
        simp [h3, hne]
        repeat (refine stepK_len (by omega) ?_; simp)
        refine SW.loopF (ι := { i : Nat // i ≤ kids.length }) (fun i => [(3, .d (.str (name ++ 32 :: 40 :: Lib.join (valsW (kids.take i.1)) [44, 32]))), (4, .d (.int .i64 i.1))]) (fun _ => [(1, .cells [.int .i64 3, .int .i64 n, .str name, .sl (valsC kids), a, b, c])]) (fun _ => []) (fun i => kids.length - i.1) ⟨0, by simp⟩ (by simp [valsW, Lib.join_nil]) ?_
        rintro ⟨i, hi⟩
        by_cases hlt : i < kids.length
        · have hg := vals_get hlt
          have hw := wrap64s (show i < 9223372036854775807 by omega)
          have hsz := vals_sz hlt
          have hki := valsI_mem hk kids[i] (List.getElem_mem hlt)
          have ih := r29_Text_cs N kids[i] hki (by omega) (by omega)
          have hvl := valW_len kids[i] hki
          obtain ⟨x0, x1, x2, x3, x4, x5, x6, he⟩ : ∃ x0 x1 x2 x3 x4 x5 x6, valC kids[i] = [x0, x1, x2, x3, x4, x5, x6] := by
            cases kids[i]
            exact ⟨_, _, _, _, _, _, _, by simp only [valC]; rfl⟩
          rw [he] at hg ih
          have htk : valsW (kids.take i) = (valsW kids).take i := by rw [valsW_eq, valsW_eq, List.map_take]
          have htk1 : valsW (kids.take (i + 1)) = (valsW kids).take (i + 1) := by rw [valsW_eq, valsW_eq, List.map_take]
          have hlW : i < (valsW kids).length := by omega
          have hst := join_step (sep := [44, 32]) hlW
          have hgt : (valsW kids)[i] = valW kids[i] := by simp [valsW_eq]
          rw [hgt] at hst
          have hjl := join_take_le (valsW kids) [44, 32] i
          by_cases h0 : 0 < i
          · rw [if_pos h0] at hst
            simp [hlt, hg, he, h0, htk]
            repeat (refine stepK_len (by omega) ?_; simp [hlt, hg, he])
            refine callK.mk ent_r29_Text ih ?_
            simp
            repeat (refine stepK_len (by omega) ?_; simp)
            exact Again.mk ⟨i + 1, hlt⟩ (by simp [hw, htk1, hst]) (by simp; omega)
          · have hz : i = 0 := by omega
            subst hz
            simp [hlt, hg, he, valsW, Lib.join_nil]
            refine callK.mk ent_r29_Text ih ?_
            simp [valsW, Lib.join_nil]
            repeat (refine stepK_len (by omega) ?_; simp [valsW, Lib.join_nil])
            exact Again.mk ⟨1, hlt⟩ (by rw [Nat.zero_add] at htk1 hst; simp [htk1, hst, show IntKind.i64.wrap 1 = 1 from rfl]) (by simp; omega)
        · have : i = kids.length := by omega
          subst this
          simp
          repeat (refine stepK_len (by omega) ?_; simp)
    simp [h1, h2, h3, h4]
end Go.Proofs.YtdnkdeplpnbojaaDoor
