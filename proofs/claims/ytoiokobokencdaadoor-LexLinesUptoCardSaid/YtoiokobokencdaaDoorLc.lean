/- Tokens: the longest beginning whose runes satisfy a function; blanks and comments; the walks. No condition. -/
import Derived.Test.YtoiokobokencdaaDoorLb
set_option linter.unusedVariables false
set_option linter.unusedSimpArgs false
set_option linter.unusedSectionVars false
namespace Go.Proofs.YtoiokobokencdaaDoor
open Go Go.VM
set_option maxRecDepth 100000
set_option maxHeartbeats 8000000
variable {G : GT}
theorem takeWhile_stop {p : UInt8 → Bool} {s : List UInt8} {i : Nat} (h : i < s.length) (ht : ∀ b ∈ s.take i, p b = true) (hn : p s[i] = false) : (s.takeWhile p).length = i := by
  have e : s = s.take i ++ s[i] :: s.drop (i + 1) := by rw [← List.drop_eq_getElem_cons h, List.take_append_drop]
  generalize hx : s[i] = x at e hn
  rw [e, List.takeWhile_append_of_pos ht, List.takeWhile_cons, hn]
  simp
  omega
theorem takeWhile_all {p : UInt8 → Bool} {s : List UInt8} (ht : ∀ b ∈ s, p b = true) : s.takeWhile p = s := by
  have := List.takeWhile_append_of_pos (l₂ := []) ht
  simpa using this
theorem ent_lex_span : VM.Enters Tryd.prog 29 := VM.Enters.mk Tryd.func29 rfl
theorem lex_span_ch (F : FuncId) (p : Int → Bool) (pb : UInt8 → Bool) (hF : VM.Enters Tryd.prog F) (hcs : ∀ c, CS Tryd.prog G F [.int .i32 c] (.d (.bool (p c))) none) (hlo : ∀ b : UInt8, p b.toNat = pb b) (hhi : ∀ c, 128 ≤ c → p c = false) (s : List UInt8) :
    CH Tryd.prog G 29 ⟨[.d (.str s), .fn F], [], []⟩ ⟨[.d (.int .i64 (s.takeWhile pb).length)], [], []⟩ := by
  refine CH.of_VK Tryd.func29 rfl Tryd.ntmps29 rfl (by simp) ?_
  simp
  refine SW.loopF (ι := { i : Nat // i ≤ s.length ∧ ∀ b ∈ s.take i, pb b = true }) (fun _ => []) (fun i => [(8, .iter s i.1)]) (fun _ => []) (fun i => s.length - i.1) ⟨0, by simp⟩ (by simp) ?_
  rintro ⟨i, hi, ht⟩
  try simp only at hi ht
  by_cases hlt : i < s.length
  · simp [hlt]
    refine callK.mk hF (hcs _) ?_
    by_cases hb : s[i].toNat < 128
    · have hd := dec_lo hlt hb
      have hpl := hlo s[i]
      by_cases hpb : pb s[i] = true
      · rw [hpb] at hpl
        simp [hd, hpl]
        refine Again.mk ⟨i + 1, hlt, fun b hm => ?_⟩ (by simp) (by simp; omega)
        rw [List.take_succ_eq_append_getElem hlt] at hm
        rcases List.mem_append.1 hm with hm | hm
        · exact ht b hm
        · simp at hm; rw [hm]; exact hpb
      · have hpf : pb s[i] = false := by simpa using hpb
        rw [hpf] at hpl
        simp [hd, hpl, takeWhile_stop hlt ht hpf]
    · obtain ⟨h1, _⟩ := dec_hi hlt (by omega)
      have hpf : pb s[i] = false := by rw [← hlo]; exact hhi _ (by omega)
      have hpl := hhi ((Utf8.decode ⟨s.toArray⟩ i).1 : Int) (by omega)
      simp [hpl, takeWhile_stop hlt ht hpf]
  · have : i = s.length := by omega
    subst this
    rw [List.take_length] at ht
    simp [takeWhile_all ht]
/-! ### Blanks and comments -/
def skipG : List UInt8 → Nat → Bool → List UInt8 × Nat
  | [], n, _ => ([], n)
  | c :: r, n, cm => if c = 10 then skipG r (n + 1) false else if cm = true ∨ c = 32 ∨ c = 9 then skipG r n cm else if c = 35 then skipG r n true else (c :: r, n)
theorem skipG_le : ∀ (s : List UInt8) (n : Nat) (cm : Bool), (skipG s n cm).2 ≤ n + s.length ∧ (skipG s n cm).1.length ≤ s.length
  | [], n, cm => by simp [skipG]
  | c :: r, n, cm => by
    unfold skipG
    split
    · have := skipG_le r (n + 1) false; simp only [List.length_cons]; omega
    · split
      · have := skipG_le r n cm; simp only [List.length_cons]; omega
      · split
        · have := skipG_le r n true; simp only [List.length_cons]; omega
        · simp only [List.length_cons]; omega
theorem skipG_hi (s : List UInt8) (n : Nat) : ∀ (k i : Nat), (∀ j, i ≤ j → j < i + k → ∃ h : j < s.length, 128 ≤ s[j].toNat) → skipG (s.drop i) n true = skipG (s.drop (i + k)) n true
  | 0, i, _ => rfl
  | k + 1, i, h => by
    obtain ⟨hi, hb⟩ := h i (by omega) (by omega)
    have ih := skipG_hi s n k (i + 1) fun j h1 h2 => h j (by omega) (by omega)
    have h10 : s[i] ≠ 10 := fun e => by rw [e] at hb; simp at hb
    rw [List.drop_eq_getElem_cons hi, skipG, if_neg h10, if_pos (.inl rfl), ih]
    congr 2
    omega
theorem nat_u8 (c : UInt8) (k : Nat) (hk : k < 256) : ((c.toNat : Int) = (k : Int)) ↔ c = UInt8.ofNat k := by
  constructor
  · intro h
    apply UInt8.toNat.inj
    simp
    omega
  · rintro rfl
    simp
    omega
theorem ent_lex_skip : VM.Enters Tryd.prog 18 := VM.Enters.mk Tryd.func18 rfl
theorem lex_skip_cs (s : List UInt8) (hl : s.length ≤ 900000000) : CS Tryd.prog G 18 [.str s] (.tup [.str (skipG s 0 false).1, .int .i64 (skipG s 0 false).2]) none := by
  obtain ⟨res, hres0⟩ : ∃ x, skipG s 0 false = x := ⟨_, rfl⟩
  rw [hres0]
  refine CS.of_VK Tryd.func18 rfl Tryd.ntmps18 rfl ?_
  simp
  refine SW.loopF (ι := { x : Nat × Nat × Bool // x.1 ≤ s.length ∧ x.2.1 ≤ x.1 ∧ skipG (s.drop x.1) x.2.1 x.2.2 = res }) (fun x => [(4, .d (.int .i64 x.1.2.1)), (5, .d (.bool x.1.2.2))]) (fun x => [(9, .iter s x.1.1)]) (fun _ => []) (fun x => s.length - x.1.1) ⟨(0, 0, false), by simp [hres0]⟩ (by simp) ?_
  rintro ⟨⟨i, n, cm⟩, hi, hn, hR⟩
  try simp only at hi hn hR
  by_cases hlt : i < s.length
  · have hw := wrap64s (show n < 9223372036854775807 by omega)
    have hle := Nat.le_of_lt hlt
    have hdrop : s.drop i = s[i] :: s.drop (i + 1) := List.drop_eq_getElem_cons hlt
    by_cases hb : s[i].toNat < 128
    · have hd := dec_lo hlt hb
      have c10 := nat_u8 s[i] 10 (by omega)
      have c32 := nat_u8 s[i] 32 (by omega)
      have c9 := nat_u8 s[i] 9 (by omega)
      have c35 := nat_u8 s[i] 35 (by omega)
      simp at c10 c32 c9 c35
      by_cases h10 : s[i] = 10
      · have e := c10.2 h10
        simp [hlt, hd, e]
        refine Again.mk ⟨(i + 1, n + 1, false), hlt, by simp; omega, ?_⟩ (by simp [hw]) (by simp; omega)
        rw [← hR, hdrop, skipG, if_pos h10]
      · have e : ¬ s[i].toNat = 10 := fun h => h10 (c10.1 h)
        simp [hlt, hd, e]
        cases cm with
        | true =>
          try simp
          refine Again.mk ⟨(i + 1, n, true), hlt, by simp; omega, ?_⟩ (by simp) (by simp; omega)
          rw [← hR, hdrop, skipG, if_neg h10, if_pos (.inl rfl)]
        | false =>
          try simp
          by_cases h32 : s[i] = 32
          · have e2 := c32.2 h32
            simp [e2]
            refine Again.mk ⟨(i + 1, n, false), hlt, by simp; omega, ?_⟩ (by simp) (by simp; omega)
            rw [← hR, hdrop, skipG, if_neg h10, if_pos (.inr (.inl h32))]
          · have e2 : ¬ s[i].toNat = 32 := fun h => h32 (c32.1 h)
            simp [e2]
            by_cases h9 : s[i] = 9
            · have e3 := c9.2 h9
              simp [e3]
              refine Again.mk ⟨(i + 1, n, false), hlt, by simp; omega, ?_⟩ (by simp) (by simp; omega)
              rw [← hR, hdrop, skipG, if_neg h10, if_pos (.inr (.inr h9))]
            · have e3 : ¬ s[i].toNat = 9 := fun h => h9 (c9.1 h)
              simp [e3]
              by_cases h35 : s[i] = 35
              · have e4 := c35.2 h35
                simp [e4]
                refine Again.mk ⟨(i + 1, n, true), hlt, by simp; omega, ?_⟩ (by simp) (by simp; omega)
                rw [← hR, hdrop, skipG, if_neg h10, if_neg (by simp [h32, h9]), if_pos h35]
              · have e4 : ¬ s[i].toNat = 35 := fun h => h35 (c35.1 h)
                have hres : res = (s.drop i, n) := by rw [← hR, hdrop, skipG, if_neg h10, if_neg (by simp [h32, h9]), if_neg h35]
                simp [e4, hres, hle]
    · obtain ⟨h1, h2, h3, h4⟩ := dec_hi hlt (by omega)
      obtain ⟨rw, hrw⟩ : ∃ rw, Utf8.decode ⟨s.toArray⟩ i = rw := ⟨_, rfl⟩
      rw [hrw] at h1 h2 h3 h4
      have e10 : ¬ ((rw.1 : Int) = 10) := by omega
      have e32 : ¬ ((rw.1 : Int) = 32) := by omega
      have e9 : ¬ ((rw.1 : Int) = 9) := by omega
      have e35 : ¬ ((rw.1 : Int) = 35) := by omega
      have hbb : ∀ k, k < 128 → s[i] ≠ UInt8.ofNat k := fun k hk e => by
        rw [e] at hb
        simp at hb
        omega
      have b10 : s[i] ≠ 10 := hbb 10 (by omega)
      have b32 : s[i] ≠ 32 := hbb 32 (by omega)
      have b9 : s[i] ≠ 9 := hbb 9 (by omega)
      have b35 : s[i] ≠ 35 := hbb 35 (by omega)
      simp [hlt, hrw, e10]
      cases cm with
      | true =>
        simp
        refine Again.mk ⟨(i + rw.2, n, true), h3, by simp; omega, ?_⟩ (by simp) (by simp; omega)
        rw [← hR, skipG_hi s n rw.2 i h4]
      | false =>
        have hres : res = (s.drop i, n) := by rw [← hR, hdrop, skipG, if_neg b10, if_neg (by simp [b32, b9]), if_neg b35]
        simp [e32, e9, e35, hres, hle]
  · have : i = s.length := by omega
    subst this
    rw [List.drop_length] at hR
    have hres : res = ([], n) := by rw [← hR, skipG]
    simp [hres]
end Go.Proofs.YtoiokobokencdaaDoor
