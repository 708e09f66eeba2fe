/- Numerals: what the functions answer. No condition. -/
import Derived.Test.YtdnkdeplpnbojaaDoorNc
import Derived.Test.YtdnkdeplpnbojaaDoorShelf
import Derived.Lib.ItoaLen
set_option linter.unusedVariables false
set_option linter.unusedSimpArgs false
set_option linter.unusedSectionVars false
namespace Go.Proofs.YtdnkdeplpnbojaaDoor
open Go Go.VM
set_option maxRecDepth 100000
set_option maxHeartbeats 4000000
variable {G : GT}
def powCells : List D := Lib.pow10Tab.map (.int .u64)
theorem named_pow : Tryd.prog.globalNamed "internal/strconv.uint64pow10" = some 1 := by kernel_rfl
theorem ent_Itoa : VM.Enters Tryd.prog 52 := VM.Enters.mk Tryd.func52 rfl
theorem Itoa_cs (hP : G 1 = some powCells) (n : Int) (h : I64 n) : CS Tryd.prog G 52 [.int .i64 n] (.d (.str (Lib.itoa n))) none :=
  CS.ofLib fun w R args hg hR hs hv => by
    have ha : args = #[args.getD 0 undef] := by
      obtain ⟨l⟩ := args
      match l, hs with
      | [a], _ => rfl
    rw [ha, (hv 0 _ rfl).int_inv]
    exact (Tryd.strconv_Itoa n h.1 h.2 w (hg.tab named_pow hP)).mono fun e w' ⟨he, k, os, hw⟩ => ⟨_, he, .str _, below_grow hw⟩
theorem ent_m_Text : VM.Enters Tryd.prog 23 := VM.Enters.mk Tryd.func23 rfl
theorem m_Text_cs (hP : G 1 = some powCells) (n : Int) (h : I64 n) : CS Tryd.prog G 23 [.int .i64 n] (.d (.str (Lib.itoa n))) none := by
  refine CS.of_VK Tryd.func23 rfl Tryd.ntmps23 rfl ?_
  simp
  refine callK.mk ent_Itoa (Itoa_cs hP n h) ?_
  simp
theorem ent_r1_Text : VM.Enters Tryd.prog 24 := VM.Enters.mk Tryd.func24 rfl
/-- The digits of a number that is not 0; of 0 none. -/
def dig0 (u : Nat) : List UInt8 := if u = 0 then [] else Lib.decDigits u
theorem dig0_step {u : Nat} (h : ¬ u = 0) : dig0 u = dig0 (u / 10) ++ [UInt8.ofNat (48 + u % 10)] := by
  unfold dig0
  rw [if_neg h]
  by_cases hu : u < 10
  · have : u / 10 = 0 := by omega
    rw [if_pos this, dd_small hu]
    have : u % 10 = u := Nat.mod_eq_of_lt hu
    rw [this]; rfl
  · rw [if_neg (by omega), dd_step hu]
theorem r1_Text_cs (n : Int) (h : I64 n) : CS Tryd.prog G 24 [.int .i64 n] (.d (.str (Lib.itoa n))) none := by
  refine CS.of_VK Tryd.func24 rfl Tryd.ntmps24 rfl ?_
  have hI := h
  unfold I64 at hI
  by_cases h0 : n = 0
  · subst h0
    have : Lib.itoa 0 = [48] := by
      show Lib.itoa ((0 : Nat) : Int) = _
      rw [itoa_pos, dd_small (by omega)]; rfl
    simp [this]
  simp [h0]
  have hlen := Lib.itoa_length_le n hI.1 hI.2
  refine SW.loopF (ι := { x : Int × List UInt8 // I64 x.1 ∧ x.2.length ≤ 21 ∧ dig0 x.1.natAbs ++ x.2 = Lib.decDigits n.natAbs }) (fun x => [(3, .d (.str x.1.2)), (4, .d (.int .i64 x.1.1))]) (fun _ => []) (fun _ => []) (fun x => x.1.1.natAbs) ⟨(n, []), h, by simp, by unfold dig0; rw [if_neg (by omega)]; simp⟩ (by simp) ?_
  rintro ⟨⟨m, s⟩, hm, hl, hs⟩
  simp only at hm hl hs
  unfold I64 at hm
  by_cases hz : m = 0
  · subst hz
    simp [dig0] at hs
    subst hs
    simp
    by_cases hn : n < 0
    · have : Lib.itoa n = 45 :: Lib.decDigits n.natAbs := by unfold Lib.itoa; rw [if_pos hn]
      have hb : 1 + (Lib.decDigits n.natAbs).length ≤ 9223372036854775807 := by rw [this] at hlen; simp at hlen; omega
      simp [hn, this, hb]
    · have : Lib.itoa n = Lib.decDigits n.natAbs := by
        unfold Lib.itoa
        rw [if_neg hn, show n.toNat = n.natAbs by omega]
      simp [hn, this]
  · obtain ⟨q, r, e1, e2, e3, e4, e5, e6, e7⟩ := tm_parts m 10 (by omega)
    have w1 : IntKind.i64.wrap q = q := wrap64 (by omega)
    have hq : q.natAbs = m.natAbs / 10 := by rw [← e1, Int.natAbs_tdiv]; rfl
    have hr : r.natAbs = m.natAbs % 10 := by rw [← e2, Int.natAbs_tmod]; rfl
    have hd : ∀ d : Int, d = r.natAbs → UInt8.ofNat ((IntKind.u8.wrap (48 + d)).toNat) = UInt8.ofNat (48 + m.natAbs % 10) := fun d hd => by
      have : IntKind.u8.wrap (48 + d) = 48 + d := by
        unfold IntKind.wrap
        simp [IntKind.bits, IntKind.signed]
        omega
      rw [this, hd, hr]
      rfl
    rw [dig0_step (by omega), ← hq, List.append_assoc] at hs
    have hl2 : (UInt8.ofNat (48 + m.natAbs % 10) :: s).length ≤ 21 := by
      have h1 := congrArg List.length hs
      have h2 : (Lib.decDigits n.natAbs).length ≤ 21 := by
        have : (Lib.decDigits n.natAbs).length ≤ (Lib.itoa n).length := by
          unfold Lib.itoa
          split
          · simp
          · rw [show n.toNat = n.natAbs by omega]; exact Nat.le_refl _
        omega
      simp at h1 ⊢
      omega
    have hb : 1 + s.length ≤ 9223372036854775807 := by omega
    have hmz : decide (m = 0) = false := by simp [hz]
    have w5 : ∀ d : Int, 0 ≤ d ∧ d < 10 → IntKind.i64.wrap (48 + d) = 48 + d := fun d h => wrap64 (by omega)
    by_cases hneg : r < 0
    · have w2 : IntKind.i64.wrap (-r) = -r := wrap64 (by omega)
      have hdd := hd (-r) (by omega)
      simp [hz, e2, hneg, w2, w5 (-r) (by omega), hdd, hb, e1, w1]
      exact Again.mk ⟨(q, UInt8.ofNat (48 + m.natAbs % 10) :: s), ⟨by omega, by omega⟩, hl2, hs⟩ (by simp) (by simp; omega)
    · have hdd := hd r (by omega)
      simp [hz, e2, hneg, w5 r (by omega), hdd, hb, e1, w1]
      exact Again.mk ⟨(q, UInt8.ofNat (48 + m.natAbs % 10) :: s), ⟨by omega, by omega⟩, hl2, hs⟩ (by simp) (by simp; omega)
end Go.Proofs.YtdnkdeplpnbojaaDoor
