/- The statement NumTexts. No condition. -/
import Derived.Test.YtdnkdeplpnbojaaDoorNm
import Derived.Test.YtdnkdeplpnbojaaDoorNg
import Derived.Test.YtdnkdeplpnbojaaDoorNf
set_option linter.unusedVariables false
set_option linter.unusedSimpArgs false
set_option linter.unusedSectionVars false
namespace Go.Proofs.YtdnkdeplpnbojaaDoor
open Go Go.VM
set_option maxRecDepth 100000
set_option maxHeartbeats 8000000
theorem l1_NumTexts_cs (n : Int) (s : List UInt8) (hn : I64 n) : CS Tryd.prog G0 4 [.int .i64 n, .str s] (.d (.bool true)) none := by
  refine CS.of_VK Tryd.func4 rfl Tryd.ntmps4 rfl ?_
  simp
  by_cases hl : 400 < s.length
  · simp [hl]
    refine callK.mk ent_l1_alive (l1_alive_cs ) ?_
    simp
  simp [hl]
  refine callK.mk ent_m_Parse (m_Parse_cs s) ?_
  simp
  refine callK.mk ent_r1_Parse (r1_Parse_cs s (by omega)) ?_
  simp
  refine callK.mk ent_m_Text (m_Text_cs G0_pow n hn) ?_
  simp
  refine callK.mk ent_m_Parse (m_Parse_cs (Lib.itoa n)) ?_
  have hp := parse_of_itoa n
  simp
  refine callK.mk ent_r1_Text (r1_Text_cs n hn) ?_
  simp
  refine callK.mk ent_m_In (m_In_cs n) ?_
  cases hb : inB n
  · have hp' : parseZ (Lib.itoa n) = (0, false) := by rw [hp]; simp [chk, hb]
    simp [hp']
    cases hx : (parseZ s).2
    · simp
      refine callK.mk ent_l1_alive (l1_alive_cs ) ?_
      simp
    · obtain ⟨q1, q2⟩ := parse_itoa hx
      have q3 := inB_iff.1 q2
      simp
      refine callK.mk ent_m_Text (m_Text_cs G0_pow _ ⟨by omega, by omega⟩) ?_
      simp [q1]
      refine callK.mk ent_l1_alive (l1_alive_cs ) ?_
      simp
  · have hp' : parseZ (Lib.itoa n) = (n, true) := by rw [hp]; simp [chk, hb]
    simp [hp']
    cases hx : (parseZ s).2
    · simp
      refine callK.mk ent_l1_alive (l1_alive_cs ) ?_
      simp
    · obtain ⟨q1, q2⟩ := parse_itoa hx
      have q3 := inB_iff.1 q2
      simp
      refine callK.mk ent_m_Text (m_Text_cs G0_pow _ ⟨by omega, by omega⟩) ?_
      simp [q1]
      refine callK.mk ent_l1_alive (l1_alive_cs ) ?_
      simp
theorem numTexts_all (xs : List D) (h : FitsAll Tryd.prog [3, 9] xs) : CS Tryd.prog G0 4 xs (.d (.bool true)) none := by
  match xs, h with
  | [x, y], ⟨h1, h2, _⟩ =>
    obtain ⟨a, rfl, ha⟩ := fit_int h1
    obtain ⟨s, rfl, _⟩ := fitsV_str tu9 h2
    exact l1_NumTexts_cs a s ha
end Go.Proofs.YtdnkdeplpnbojaaDoor
