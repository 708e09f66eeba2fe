/- Numerals: Parse. No condition. -/
import Derived.Test.YtoiokobokencdaaDoorNd
set_option linter.unusedVariables false
set_option linter.unusedSimpArgs false
set_option linter.unusedSectionVars false
namespace Go.Proofs.YtoiokobokencdaaDoor
open Go Go.VM
set_option maxRecDepth 100000
set_option maxHeartbeats 8000000
variable {G : GT}
theorem ent_m_Parse : VM.Enters Tryd.prog 45 := VM.Enters.mk Tryd.func45 rfl
theorem u8sub {c : UInt8} (h : isDg c = true) : IntKind.i64.wrap (IntKind.u8.wrap ((c.toNat : Int) - 48)) = ((c.toNat - 48 : Nat) : Int) := by
  have := isDg_iff.1 h
  have e : IntKind.u8.wrap ((c.toNat : Int) - 48) = ((c.toNat - 48 : Nat) : Int) := by
    unfold IntKind.wrap
    simp [IntKind.bits, IntKind.signed]
    omega
  rw [e]
  exact wrap64 (by omega)
theorem valN_lt : ∀ (n : Nat) (l : List UInt8), l.length = n → (∀ c ∈ l, isDg c = true) → valN l < 10 ^ n := by
  intro n
  induction n with
  | zero => intro l hl _; rw [List.length_eq_zero_iff.1 hl]; simp [valN_nil]
  | succ n ih =>
    intro l hl h
    have hne : l ≠ [] := fun e => by rw [e] at hl; simp at hl
    have hs := List.dropLast_concat_getLast hne
    have hc := isDg_iff.1 (h _ (List.getLast_mem hne))
    have := ih l.dropLast (by simp; omega) fun c hc => h c (List.dropLast_subset _ hc)
    rw [← hs, valN_snoc, Nat.pow_succ]
    omega
theorem dg_lo {c : UInt8} (h : isDg c = true) : ((c.toNat : Int) < 48) = False := by have := isDg_iff.1 h; simp; omega
/-- The loop over the digits, and what follows it. -/
theorem neg_at {s : List UInt8} (h : 0 < s.length) : negB s = decide (s[0].toNat = 45) := by
  cases s with
  | nil => simp at h
  | cons c r =>
    simp only [negB, List.head?_cons, Option.some.injEq, List.getElem_cons_zero]
    have : c = 45 ↔ c.toNat = 45 := ⟨fun e => by rw [e]; rfl, fun e => UInt8.toNat.inj (by simpa using e)⟩
    simp [this]
theorem head_at {s : List UInt8} (h : 0 < s.length) : (s.head? = some 48) ↔ s[0].toNat = 48 := by
  cases s with
  | nil => simp at h
  | cons c r =>
    simp only [List.head?_cons, Option.some.injEq, List.getElem_cons_zero]
    exact ⟨fun e => by rw [e]; rfl, fun e => UInt8.toNat.inj (by simpa using e)⟩
theorem m_Parse_cs (s : List UInt8) : CS Tryd.prog G 45 [.str s] (.tup [.int .i64 (parseZ s).1, .bool (parseZ s).2]) none := by
  refine CS.of_VK Tryd.func45 rfl Tryd.ntmps45 rfl ?_
  by_cases h0 : 0 < s.length
  rotate_left
  · have : s = [] := List.length_eq_zero_iff.1 (by omega)
    subst this
    simp [parseZ, formB, bodyL, negB]
  by_cases hc : s[0].toNat = 45
  · obtain ⟨ds, hds⟩ : ∃ ds, s.tail = ds := ⟨_, rfl⟩
    have hneg : negB s = true := by rw [neg_at h0]; simp [hc]
    have hbody : bodyL s = ds := by unfold bodyL; rw [hneg, ← hds]; simp
    have hle : 1 ≤ s.length := h0
    simp [h0, hc, hds, hle]
    by_cases e0 : ds.length = 0
    · first
      | (exfalso; omega; done)
      | (have hf : formB s = false := by unfold formB; rw [hbody]; simp [e0]
         have e1 : ds = [] := List.length_eq_zero_iff.1 e0
         simp [hbody, e1, parseZ, hf])
    have e1 : 0 < ds.length := by omega
    have e2 : ¬ ds = [] := fun e => e0 (by rw [e]; rfl)
    by_cases hl : 13 < ds.length
    · have hf : formB s = false := by unfold formB; rw [hbody]; simp; omega
      simp [hbody, e0, e2, hl, parseZ, hf]
    have hh := head_at e1
    by_cases hd : ds[0].toNat = 48
    · have hf : formB s = false := by simp [formB, hbody, hneg, hh.2 hd]
      simp [e0, e1, e2, hl, hd, parseZ, hf]
    have hd' : ¬ ds.head? = some 48 := fun e => hd (hh.1 e)
    have hform : formB s = true := by simp [formB, hbody, hneg, hd']; omega
    simp [e0, e1, e2, hl, hd]
    have hlen : ds.length ≤ 13 := by
      have := hform
      simp only [formB, Bool.and_eq_true, decide_eq_true_eq, hbody] at this
      exact this.1.2
    refine SW.loopF (ι := { i : Nat // i ≤ ds.length ∧ ∀ c ∈ ds.take i, isDg c = true }) (fun i => [(6, .d (.int .i64 (valN (ds.take i.1) : Nat))), (43, .d (.int .i64 i.1))]) (fun _ => []) (fun _ => []) (fun i => ds.length - i.1) ⟨0, by simp⟩ (by simp [valN_nil]) ?_
    rintro ⟨i, hi, ht⟩
    by_cases hlt : i < ds.length
    · have hw := wrap64s (show i < 9223372036854775807 by omega)
      by_cases hd : isDg ds[i] = true
      · have hv := valN_lt _ (ds.take (i + 1)) rfl fun c hc => by
          rw [List.take_succ_eq_append_getElem hlt] at hc
          rcases List.mem_append.1 hc with hc | hc
          · exact ht c hc
          · rw [List.mem_singleton] at hc; rw [hc]; exact hd
        have hp : 10 ^ (ds.take (i + 1)).length ≤ 10 ^ 13 := Nat.pow_le_pow_right (by omega) (by simp; omega)
        rw [valN_take hlt] at hv
        have hdd := isDg_iff.1 hd
        have h48 : ¬ ds[i].toNat < 48 := by omega
        have h57 : ¬ 57 < ds[i].toNat := by omega
        have w1 : IntKind.i64.wrap (10 * ((valN (ds.take i) : Nat) : Int)) = 10 * ((valN (ds.take i) : Nat) : Int) := wrap64 (by omega)
        have w2 := u8sub hd
        have w3 : IntKind.i64.wrap (10 * ((valN (ds.take i) : Nat) : Int) + ((ds[i].toNat - 48 : Nat) : Int)) = ((valN (ds.take (i + 1)) : Nat) : Int) := by
          rw [valN_take hlt, wrap64 (by omega)]
          simp
        simp [hlt, h48, h57, w1, w2, w3]
        exact Again.mk ⟨i + 1, hlt, fun c hc => by
          rw [List.take_succ_eq_append_getElem hlt] at hc
          rcases List.mem_append.1 hc with hc | hc
          · exact ht c hc
          · rw [List.mem_singleton] at hc; rw [hc]; exact hd⟩ (by simp [hw]) (by simp; omega)
      · have hbad : (bodyL s).all isDg = false := by
          cases h : (bodyL s).all isDg
          · rfl
          · rw [hbody, List.all_eq_true] at h
            exact absurd (h _ (List.getElem_mem hlt)) hd
        by_cases h48 : ds[i].toNat < 48
        · simp [hlt, h48, parse_bad hbad]
        · have h57 : 57 < ds[i].toNat := by
            rw [isDg_iff] at hd
            omega
          simp [hlt, h48, h57, parse_bad hbad]
    · have hi' : i = ds.length := by omega
      subst hi'
      rw [List.take_length] at ht
      have hall : (bodyL s).all isDg = true := by rw [hbody, List.all_eq_true]; exact ht
      have hv := valN_lt _ ds rfl ht
      have hp : 10 ^ ds.length ≤ 10 ^ 13 := Nat.pow_le_pow_right (by omega) hlen
      have hres : parseZ s = chk (sgn (negB s) (valN (bodyL s))) true := by simp [parseZ, hform, hall]
      rw [hneg, hbody] at hres
      simp [sgn] at hres
      have w1 : IntKind.i64.wrap (-((valN ds : Nat) : Int)) = -((valN ds : Nat) : Int) := wrap64 (by omega)
      simp [w1]
      refine callK.mk ent_m_checked (m_checked_cs _ _) ?_
      simp [hres]
  · have hneg : negB s = false := by rw [neg_at h0]; simp [hc]
    have hbody : bodyL s = s := by unfold bodyL; rw [hneg]; rfl
    simp [h0, hc]
    by_cases e0 : s.length = 0
    · first
      | (exfalso; omega; done)
      | (have hf : formB s = false := by unfold formB; rw [hbody]; simp [e0]
         have e1 : s = [] := List.length_eq_zero_iff.1 e0
         simp [hbody, e1, parseZ, hf])
    have e1 : 0 < s.length := by omega
    have e2 : ¬ s = [] := fun e => e0 (by rw [e]; rfl)
    by_cases hl : 13 < s.length
    · have hf : formB s = false := by unfold formB; rw [hbody]; simp; omega
      simp [hbody, e0, e2, hl, parseZ, hf]
    have hh := head_at e1
    by_cases hd : s[0].toNat = 48
    · by_cases h1 : 1 < s.length
      · have hf : formB s = false := by simp [formB, hbody, hh.2 hd, h1]
        simp [e0, e1, e2, hl, hd, h1, parseZ, hf]
      · have hform : formB s = true := by simp [formB, hbody, hneg, h1]; omega
        simp [e0, e1, e2, hl, hd, h1]
        have hlen : s.length ≤ 13 := by
          have := hform
          simp only [formB, Bool.and_eq_true, decide_eq_true_eq, hbody] at this
          exact this.1.2
        refine SW.loopF (ι := { i : Nat // i ≤ s.length ∧ ∀ c ∈ s.take i, isDg c = true }) (fun i => [(6, .d (.int .i64 (valN (s.take i.1) : Nat))), (43, .d (.int .i64 i.1))]) (fun _ => []) (fun _ => []) (fun i => s.length - i.1) ⟨0, by simp⟩ (by simp [valN_nil]) ?_
        rintro ⟨i, hi, ht⟩
        by_cases hlt : i < s.length
        · have hw := wrap64s (show i < 9223372036854775807 by omega)
          by_cases hd : isDg s[i] = true
          · have hv := valN_lt _ (s.take (i + 1)) rfl fun c hc => by
              rw [List.take_succ_eq_append_getElem hlt] at hc
              rcases List.mem_append.1 hc with hc | hc
              · exact ht c hc
              · rw [List.mem_singleton] at hc; rw [hc]; exact hd
            have hp : 10 ^ (s.take (i + 1)).length ≤ 10 ^ 13 := Nat.pow_le_pow_right (by omega) (by simp; omega)
            rw [valN_take hlt] at hv
            have hdd := isDg_iff.1 hd
            have h48 : ¬ s[i].toNat < 48 := by omega
            have h57 : ¬ 57 < s[i].toNat := by omega
            have w1 : IntKind.i64.wrap (10 * ((valN (s.take i) : Nat) : Int)) = 10 * ((valN (s.take i) : Nat) : Int) := wrap64 (by omega)
            have w2 := u8sub hd
            have w3 : IntKind.i64.wrap (10 * ((valN (s.take i) : Nat) : Int) + ((s[i].toNat - 48 : Nat) : Int)) = ((valN (s.take (i + 1)) : Nat) : Int) := by
              rw [valN_take hlt, wrap64 (by omega)]
              simp
            simp [hlt, h48, h57, w1, w2, w3]
            exact Again.mk ⟨i + 1, hlt, fun c hc => by
              rw [List.take_succ_eq_append_getElem hlt] at hc
              rcases List.mem_append.1 hc with hc | hc
              · exact ht c hc
              · rw [List.mem_singleton] at hc; rw [hc]; exact hd⟩ (by simp [hw]) (by simp; omega)
          · have hbad : (bodyL s).all isDg = false := by
              cases h : (bodyL s).all isDg
              · rfl
              · rw [hbody, List.all_eq_true] at h
                exact absurd (h _ (List.getElem_mem hlt)) hd
            by_cases h48 : s[i].toNat < 48
            · simp [hlt, h48, parse_bad hbad]
            · have h57 : 57 < s[i].toNat := by
                rw [isDg_iff] at hd
                omega
              simp [hlt, h48, h57, parse_bad hbad]
        · have hi' : i = s.length := by omega
          subst hi'
          rw [List.take_length] at ht
          have hall : (bodyL s).all isDg = true := by rw [hbody, List.all_eq_true]; exact ht
          have hv := valN_lt _ s rfl ht
          have hp : 10 ^ s.length ≤ 10 ^ 13 := Nat.pow_le_pow_right (by omega) hlen
          have hres : parseZ s = chk (sgn (negB s) (valN (bodyL s))) true := by simp [parseZ, hform, hall]
          rw [hneg, hbody] at hres
          simp [sgn] at hres
          have w1 : IntKind.i64.wrap (-((valN s : Nat) : Int)) = -((valN s : Nat) : Int) := wrap64 (by omega)
          simp [w1]
          refine callK.mk ent_m_checked (m_checked_cs _ _) ?_
          simp [hres]
    · have hd' : ¬ s.head? = some 48 := fun e => hd (hh.1 e)
      have hform : formB s = true := by simp [formB, hbody, hd']; omega
      simp [e0, e1, e2, hl, hd]
      have hlen : s.length ≤ 13 := by
        have := hform
        simp only [formB, Bool.and_eq_true, decide_eq_true_eq, hbody] at this
        exact this.1.2
      refine SW.loopF (ι := { i : Nat // i ≤ s.length ∧ ∀ c ∈ s.take i, isDg c = true }) (fun i => [(6, .d (.int .i64 (valN (s.take i.1) : Nat))), (43, .d (.int .i64 i.1))]) (fun _ => []) (fun _ => []) (fun i => s.length - i.1) ⟨0, by simp⟩ (by simp [valN_nil]) ?_
      rintro ⟨i, hi, ht⟩
      by_cases hlt : i < s.length
      · have hw := wrap64s (show i < 9223372036854775807 by omega)
        by_cases hd : isDg s[i] = true
        · have hv := valN_lt _ (s.take (i + 1)) rfl fun c hc => by
            rw [List.take_succ_eq_append_getElem hlt] at hc
            rcases List.mem_append.1 hc with hc | hc
            · exact ht c hc
            · rw [List.mem_singleton] at hc; rw [hc]; exact hd
          have hp : 10 ^ (s.take (i + 1)).length ≤ 10 ^ 13 := Nat.pow_le_pow_right (by omega) (by simp; omega)
          rw [valN_take hlt] at hv
          have hdd := isDg_iff.1 hd
          have h48 : ¬ s[i].toNat < 48 := by omega
          have h57 : ¬ 57 < s[i].toNat := by omega
          have w1 : IntKind.i64.wrap (10 * ((valN (s.take i) : Nat) : Int)) = 10 * ((valN (s.take i) : Nat) : Int) := wrap64 (by omega)
          have w2 := u8sub hd
          have w3 : IntKind.i64.wrap (10 * ((valN (s.take i) : Nat) : Int) + ((s[i].toNat - 48 : Nat) : Int)) = ((valN (s.take (i + 1)) : Nat) : Int) := by
            rw [valN_take hlt, wrap64 (by omega)]
            simp
          simp [hlt, h48, h57, w1, w2, w3]
          exact Again.mk ⟨i + 1, hlt, fun c hc => by
            rw [List.take_succ_eq_append_getElem hlt] at hc
            rcases List.mem_append.1 hc with hc | hc
            · exact ht c hc
            · rw [List.mem_singleton] at hc; rw [hc]; exact hd⟩ (by simp [hw]) (by simp; omega)
        · have hbad : (bodyL s).all isDg = false := by
            cases h : (bodyL s).all isDg
            · rfl
            · rw [hbody, List.all_eq_true] at h
              exact absurd (h _ (List.getElem_mem hlt)) hd
          by_cases h48 : s[i].toNat < 48
          · simp [hlt, h48, parse_bad hbad]
          · have h57 : 57 < s[i].toNat := by
              rw [isDg_iff] at hd
              omega
            simp [hlt, h48, h57, parse_bad hbad]
      · have hi' : i = s.length := by omega
        subst hi'
        rw [List.take_length] at ht
        have hall : (bodyL s).all isDg = true := by rw [hbody, List.all_eq_true]; exact ht
        have hv := valN_lt _ s rfl ht
        have hp : 10 ^ s.length ≤ 10 ^ 13 := Nat.pow_le_pow_right (by omega) hlen
        have hres : parseZ s = chk (sgn (negB s) (valN (bodyL s))) true := by simp [parseZ, hform, hall]
        rw [hneg, hbody] at hres
        simp [sgn] at hres
        have w1 : IntKind.i64.wrap (-((valN s : Nat) : Int)) = -((valN s : Nat) : Int) := wrap64 (by omega)
        simp [w1]
        refine callK.mk ent_m_checked (m_checked_cs _ _) ?_
        simp [hres]
end Go.Proofs.YtoiokobokencdaaDoor
