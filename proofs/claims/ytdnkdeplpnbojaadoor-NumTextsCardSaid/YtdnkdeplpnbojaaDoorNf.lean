/- Numerals: the reference's Parse. No condition. -/
import Derived.Test.YtdnkdeplpnbojaaDoorNe
set_option linter.unusedVariables false
set_option linter.unusedSimpArgs false
set_option linter.unusedSectionVars false
namespace Go.Proofs.YtdnkdeplpnbojaaDoor
open Go Go.VM
set_option maxRecDepth 100000
set_option maxHeartbeats 8000000
variable {G : GT}
/-- What the loop has read behind i bytes. -/
def offN (s : List UInt8) : Nat := if negB s then 1 else 0
theorem body_at {s : List UInt8} {i : Nat} (h : i < s.length) (ho : offN s ≤ i) : ∃ h' : i - offN s < (bodyL s).length, (bodyL s)[i - offN s] = s[i] := by
  unfold offN bodyL at *
  cases hn : negB s
  · simp [hn] at ho ⊢
    exact h
  · simp [hn] at ho ⊢
    refine ⟨by omega, ?_⟩
    congr 1
    omega
theorem body_len (s : List UInt8) : (bodyL s).length = s.length - offN s := by
  unfold offN bodyL
  cases hn : negB s <;> simp
theorem off_le (s : List UInt8) : offN s ≤ 1 := by unfold offN; split <;> omega
theorem r1_Parse_cs (s : List UInt8) (hs : s.length ≤ 1000000) : CS Tryd.prog G 22 [.str s] (.tup [.int .i64 (parseZ s).1, .bool (parseZ s).2]) none := by
  refine CS.of_VK Tryd.func22 rfl Tryd.ntmps22 rfl ?_
  simp
  have ho := off_le s
  refine SW.loopF (ι := { i : Nat // i ≤ s.length ∧ (∀ c ∈ (bodyL s).take (i - offN s), isDg c = true) ∧ valN ((bodyL s).take (i - offN s)) ≤ 10000000000009 }) (fun i => [(4, .d (.int .i64 (valN ((bodyL s).take (i.1 - offN s)) : Nat))), (5, .d (.int .i64 i.1))]) (fun _ => []) (fun _ => []) (fun i => s.length - i.1) ⟨0, by simp [valN_nil]⟩ (by simp [valN_nil]) ?_
  rintro ⟨i, hi, ht, hv⟩
  by_cases hlt : i < s.length
  · have hw := wrap64s (show i < 9223372036854775807 by omega)
    have h0 : 0 < s.length := by omega
    by_cases hfirst : s[i].toNat = 45 ∧ i = 0
    · obtain ⟨hc, h1⟩ := hfirst
      subst h1
      have hneg : negB s = true := by rw [neg_at h0]; simp [hc]
      have hoff : offN s = 1 := by unfold offN; rw [hneg]; rfl
      simp [hlt, hc, hw]
      exact Again.mk ⟨1, by omega, by rw [hoff]; simp, by rw [hoff]; simp [valN_nil]⟩ (by simp [hoff, show IntKind.i64.wrap 1 = 1 from rfl]) (by simp; omega)
    · have hoi : offN s ≤ i := by
        unfold offN
        rw [neg_at h0]
        split
        · rename_i hd
          simp only [decide_eq_true_eq] at hd
          by_cases h : i = 0
          · subst h; exact absurd ⟨hd, rfl⟩ hfirst
          · omega
        · omega
      obtain ⟨hb1, hb2⟩ := body_at hlt hoi
      have hsub : i + 1 - offN s = (i - offN s) + 1 := by omega
      have htk := List.take_succ_eq_append_getElem hb1
      rw [hb2] at htk
      have hvt := valN_take hb1
      rw [hb2] at hvt
      have hcond : (decide (s[i].toNat = 45) && decide (i = 0)) = false := by simpa using hfirst
      by_cases hd : isDg s[i] = true
      · have hdd := isDg_iff.1 hd
        have h48 : ¬ s[i].toNat < 48 := by omega
        have h57 : ¬ 57 < s[i].toNat := by omega
        have h45 : ¬ s[i].toNat = 45 := by omega
        by_cases hbig : 1000000000000 < valN ((bodyL s).take (i - offN s))
        · have : parseZ s = (0, false) := parse_big (by have := valN_mono (bodyL s) (i - offN s); omega)
          simp [hlt, h45, h48, h57, hbig, this]
        · have w1 : IntKind.i64.wrap (((valN ((bodyL s).take (i - offN s)) : Nat) : Int) * 10) = ((valN ((bodyL s).take (i - offN s)) : Nat) : Int) * 10 := wrap64 (by omega)
          have w2 := u8sub hd
          have w3 : IntKind.i64.wrap (((valN ((bodyL s).take (i - offN s)) : Nat) : Int) * 10 + ((s[i].toNat - 48 : Nat) : Int)) = ((valN ((bodyL s).take (i + 1 - offN s)) : Nat) : Int) := by
            rw [hsub, hvt, wrap64 (by omega)]
            omega
          simp [hlt, h45, h48, h57, hbig, w1, w2, w3, hw]
          exact Again.mk ⟨i + 1, hlt, fun c hc => by
            rw [hsub, htk] at hc
            rcases List.mem_append.1 hc with hc | hc
            · exact ht c hc
            · rw [List.mem_singleton] at hc; rw [hc]; exact hd, by rw [hsub, hvt]; omega⟩ (by simp) (by simp; omega)
      · have hbad : (bodyL s).all isDg = false := by
          cases h : (bodyL s).all isDg
          · rfl
          · rw [List.all_eq_true] at h
            have := h _ (List.getElem_mem hb1)
            rw [hb2] at this
            exact absurd this hd
        by_cases h45 : s[i].toNat = 45
        · have hi0 : ¬ i = 0 := fun e => hfirst ⟨h45, e⟩
          simp [hlt, h45, hi0, parse_bad hbad]
        · by_cases h48 : s[i].toNat < 48
          · simp [hlt, h45, h48, parse_bad hbad]
          · have h57 : 57 < s[i].toNat := by
              rw [isDg_iff] at hd
              omega
            simp [hlt, h45, h48, h57, parse_bad hbad]
  · have hi' : i = s.length := by omega
    subst hi'
    have htake : (bodyL s).take (s.length - offN s) = bodyL s := by rw [← body_len, List.take_length]
    rw [htake] at ht hv
    have hall : (bodyL s).all isDg = true := by rw [List.all_eq_true]; exact ht
    have hend := parse_end hall
    have hsg : I64 (sgn (negB s) (valN (bodyL s))) := by unfold sgn I64; split <;> omega
    by_cases h0 : 0 < s.length
    · have hna := neg_at h0
      by_cases hc : s[0].toNat = 45
      · simp only [hc, decide_true] at hna
        rw [hna] at hend hsg
        simp only [sgn, if_true] at hend hsg
        have w1 : IntKind.i64.wrap (-((valN (bodyL s) : Nat) : Int)) = -((valN (bodyL s) : Nat) : Int) := wrap64 hsg
        simp [htake, h0, hc, w1]
        refine callK.mk ent_r1_In (r1_In_cs _) ?_
        cases hb : inB (-((valN (bodyL s) : Nat) : Int))
        · simp [hend, hb]
        simp
        refine callK.mk ent_r1_Text (r1_Text_cs _ hsg) ?_
        by_cases ht' : Lib.itoa (-((valN (bodyL s) : Nat) : Int)) = s
        · simp [hend, hb, ht']
        · simp [hend, hb, ht']
      · simp only [hc, decide_false] at hna
        rw [hna] at hend hsg
        simp only [sgn, Bool.false_eq_true, if_false] at hend hsg
        simp [htake, h0, hc]
        refine callK.mk ent_r1_In (r1_In_cs _) ?_
        cases hb : inB ((valN (bodyL s) : Nat) : Int)
        · simp [hend, hb]
        simp
        refine callK.mk ent_r1_Text (r1_Text_cs _ hsg) ?_
        by_cases ht' : Lib.itoa ((valN (bodyL s) : Nat) : Int) = s
        · simp [hend, hb, ht']
        · simp [hend, hb, ht']
    · have hs0 : s = [] := List.length_eq_zero_iff.1 (by omega)
      subst hs0
      have e1 : Lib.itoa 0 = [48] := by
        show Lib.itoa ((0 : Nat) : Int) = _
        rw [itoa_pos, dd_small (by omega)]; rfl
      have e2 : bodyL [] = [] := rfl
      have e3 : parseZ [] = (0, false) := by simp [parseZ, formB, e2]
      have e4 : inB 0 = true := by decide
      simp [e2, valN_nil]
      refine callK.mk ent_r1_In (r1_In_cs _) ?_
      simp [e4]
      refine callK.mk ent_r1_Text (r1_Text_cs _ (by unfold I64; omega)) ?_
      simp [e1, e3]
end Go.Proofs.YtdnkdeplpnbojaaDoor
