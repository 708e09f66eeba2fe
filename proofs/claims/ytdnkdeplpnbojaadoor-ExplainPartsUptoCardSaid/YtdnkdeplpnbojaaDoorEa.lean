/- Words of errors. No condition. -/
import Derived.Test.YtdnkdeplpnbojaaDoorNd
set_option linter.unusedVariables false
set_option linter.unusedSimpArgs false
set_option linter.unusedSectionVars false
namespace Go.Proofs.YtdnkdeplpnbojaaDoor
open Go Go.VM
set_option maxRecDepth 100000
set_option maxHeartbeats 4000000
variable {G : GT}
def wordsL : List (List UInt8) := [[110, 111, 32, 101, 114, 114, 111, 114], [119, 114, 111, 110, 103, 32, 107, 105, 110, 100, 32, 111, 114, 32, 102, 105, 101, 108, 100], [110, 117, 109, 98, 101, 114, 32, 111, 117, 116, 32, 111, 102, 32, 114, 97, 110, 103, 101], [119, 114, 111, 110, 103, 32, 110, 97, 109, 101], [111, 99, 99, 117, 114, 115, 32, 116, 119, 105, 99, 101], [117, 110, 107, 110, 111, 119, 110], [119, 114, 111, 110, 103, 32, 102, 111, 114, 109], [116, 111, 111, 32, 108, 111, 110, 103], [116, 111, 111, 32, 100, 101, 101, 112], [119, 114, 111, 110, 103, 32, 111, 114, 100, 101, 114], [116, 111, 111, 32, 115, 104, 111, 114, 116], [115, 111, 114, 116, 115, 32, 100, 111, 32, 110, 111, 116, 32, 102, 105, 116], [116, 121, 112, 101, 115, 32, 100, 111, 32, 110, 111, 116, 32, 102, 105, 116], [119, 114, 111, 110, 103, 32, 110, 117, 109, 98, 101, 114, 32, 111, 102, 32, 97, 114, 103, 117, 109, 101, 110, 116, 115], [116, 101, 120, 116, 32, 99, 97, 110, 110, 111, 116, 32, 98, 101, 32, 114, 101, 97, 100], [99, 101, 108, 108, 32, 117, 115, 101, 100, 32, 116, 119, 105, 99, 101], [118, 97, 114, 105, 97, 98, 108, 101, 32, 110, 111, 116, 32, 118, 105, 115, 105, 98, 108, 101], [110, 111, 32, 105, 110, 115, 116, 97, 110, 99, 101], [102, 117, 108, 108], [110, 111, 116, 32, 112, 111, 115, 115, 105, 98, 108, 101, 32, 110, 111, 119], [119, 114, 111, 110, 103, 32, 112, 114, 111, 111, 102], [110, 111, 116, 32, 112, 114, 111, 118, 101, 100], [116, 101, 114, 109, 105, 110, 97, 116, 105, 111, 110, 32, 110, 111, 116, 32, 112, 114, 111, 118, 101, 100], [110, 111, 32, 98, 114, 97, 110, 99, 104], [111, 117, 116, 32, 111, 102, 32, 115, 116, 101, 112, 115], [110, 117, 109, 98, 101, 114, 32, 111, 117, 116, 32, 111, 102, 32, 98, 111, 117, 110, 100, 115], [97, 115, 115, 117, 109, 101, 100, 32, 102, 117, 110, 99, 116, 105, 111, 110], [100, 105, 118, 105, 115, 105, 111, 110, 32, 98, 121, 32, 122, 101, 114, 111], [114, 101, 102, 105, 110, 101, 109, 101, 110, 116, 32, 118, 105, 111, 108, 97, 116, 101, 100]]
/-- The cells of the table of words. -/
def wordCells : List D := wordsL.map D.str
theorem wordsL_len : wordsL.length = 29 := rfl
def strs (l : List (List UInt8)) : List (List D) := l.map fun s => [.str s]
theorem strs_len (l : List (List UInt8)) : (strs l).length = l.length := by simp [strs]
theorem strs_getE {l : List (List UInt8)} {i : Nat} (h : i < (strs l).length) : (strs l)[i] = [.str (l[i]'(by rw [← strs_len l]; exact h))] := by simp [strs]
theorem strs_one (l : List (List UInt8)) : (∀ x, x ∈ strs l → x.length = 1) = True := by simp [strs]
theorem strs_app (l : List (List UInt8)) (s : List UInt8) : strs (l ++ [s]) = strs l ++ [[.str s]] := by simp [strs]
attribute [simp] strs_len strs_getE strs_one strs_app
theorem strs_get {l : List (List UInt8)} {i : Nat} (h : i < l.length) : (strs l)[i]? = some [.str l[i]] := by simp [strs, h]
/-- The words of an error. -/
def errW (e : Int) : List UInt8 := if h : 0 ≤ e ∧ e < 29 then wordsL[e.toNat]'(by have := wordsL_len; omega) else [101, 114, 114, 111, 114, 32] ++ Lib.itoa e
theorem errW_in {i : Nat} (h : i < wordsL.length) : errW i = wordsL[i] := by
  have := wordsL_len
  unfold errW
  rw [dif_pos (by omega)]
  simp
theorem errW_out {e : Int} (h : ¬ (0 ≤ e ∧ e < 29)) : errW e = [101, 114, 114, 111, 114, 32] ++ Lib.itoa e := by
  unfold errW
  rw [dif_neg h]
theorem ent_e_Err : VM.Enters Tryd.prog 33 := VM.Enters.mk Tryd.func33 rfl
theorem e_Err_cs (hW : G 0 = some wordCells) (hP : G 1 = some powCells) (e : Int) (h : I64 e) : CS Tryd.prog G 33 [.int .i64 e] (.d (.str (errW e))) none := by
  refine CS.of_VK Tryd.func33 rfl Tryd.ntmps33 rfl ?_
  have hlen : wordCells.length = 29 := rfl
  have hI := h
  unfold I64 at hI
  have hit := Lib.itoa_length_le e hI.1 hI.2
  by_cases hr : 0 ≤ e ∧ e < 29
  · obtain ⟨i, rfl⟩ : ∃ i : Nat, e = i := ⟨e.toNat, by omega⟩
    have hl : i < wordsL.length := by have := wordsL_len; omega
    have hget : wordCells[i]? = some (.str wordsL[i]) := by simp [wordCells, hl]
    have hget2 : wordCells[i]'(by rw [hlen]; omega) = .str wordsL[i] := by simp [wordCells]
    have hi : i < 29 := by omega
    simp [hW, hlen, hget, hget2, hi, errW_in hl]
  · rw [errW_out hr]
    by_cases h0 : 0 ≤ e
    · have h1 : ¬ e < 29 := by omega
      simp [h0, h1]
      refine callK.mk ent_m_Text (m_Text_cs hP e h) ?_
      simp [show (Lib.itoa e).length + 6 ≤ 9223372036854775807 by omega, show 6 + (Lib.itoa e).length ≤ 9223372036854775807 by omega]
    · simp [h0]
      refine callK.mk ent_m_Text (m_Text_cs hP e h) ?_
      simp [show (Lib.itoa e).length + 6 ≤ 9223372036854775807 by omega, show 6 + (Lib.itoa e).length ≤ 9223372036854775807 by omega]
theorem ent_r53_words : VM.Enters Tryd.prog 54 := VM.Enters.mk Tryd.func54 rfl
theorem r53_words_cs : CS Tryd.prog G 54 [] (.d (.sl (strs wordsL))) none := by
  refine CS.of_VK Tryd.func54 rfl Tryd.ntmps54 rfl ?_
  simp [show List.range 29 = [0, 1, 2, 3, 4, 5, 6, 7, 8, 9, 10, 11, 12, 13, 14, 15, 16, 17, 18, 19, 20, 21, 22, 23, 24, 25, 26, 27, 28] from rfl]
  simp [strs, wordsL]
theorem ent_r53_Err : VM.Enters Tryd.prog 34 := VM.Enters.mk Tryd.func34 rfl
theorem r53_Err_cs (e : Int) (h : I64 e) : CS Tryd.prog G 34 [.int .i64 e] (.d (.str (errW e))) none := by
  refine CS.of_VK Tryd.func34 rfl Tryd.ntmps34 rfl ?_
  have hlen := wordsL_len
  have hI := h
  unfold I64 at hI
  have hit := Lib.itoa_length_le e hI.1 hI.2
  simp
  refine callK.mk ent_r53_words r53_words_cs ?_
  by_cases hr : 0 ≤ e ∧ e < 29
  · obtain ⟨i, rfl⟩ : ∃ i : Nat, e = i := ⟨e.toNat, by omega⟩
    have hl : i < wordsL.length := by omega
    have hg := strs_get hl
    have hi : i < 29 := by omega
    simp [hlen, hg, hi, errW_in hl]
  · rw [errW_out hr]
    by_cases h0 : 0 ≤ e
    · have h1 : ¬ e < 29 := by omega
      simp [hlen, h0, h1]
      refine callK.mk ent_r1_Text (r1_Text_cs e h) ?_
      simp [show (Lib.itoa e).length + 6 ≤ 9223372036854775807 by omega, show 6 + (Lib.itoa e).length ≤ 9223372036854775807 by omega]
    · simp [hlen, h0]
      refine callK.mk ent_r1_Text (r1_Text_cs e h) ?_
      simp [show (Lib.itoa e).length + 6 ≤ 9223372036854775807 by omega, show 6 + (Lib.itoa e).length ≤ 9223372036854775807 by omega]
end Go.Proofs.YtdnkdeplpnbojaaDoor
