/- Tokens: what the library's functions give; numbers; the walks. No condition. -/
import Derived.Test.YtoiokobokencdaaDoorLa
import Derived.Test.YtoiokobokencdaaDoorNe
import Derived.Lib.TrimByte
import Derived.Lib.Repeat
set_option linter.unusedVariables false
set_option linter.unusedSimpArgs false
set_option linter.unusedSectionVars false
namespace Go.Proofs.YtoiokobokencdaaDoor
open Go Go.VM Go.RowKit
set_option maxRecDepth 100000
set_option maxHeartbeats 8000000
variable {G : GT}
theorem ent_Repeat : VM.Enters Tryd.prog 23 := VM.Enters.mk Tryd.func23 rfl
theorem ent_TrimLeft : VM.Enters Tryd.prog 44 := VM.Enters.mk Tryd.func44 rfl
theorem ent_HasPrefix : VM.Enters Tryd.prog 34 := VM.Enters.mk Tryd.func34 rfl
theorem args2 {args : Array Value} (h : args.size = 2) : args = #[args.getD 0 undef, args.getD 1 undef] := by
  obtain ⟨l⟩ := args
  match l, h with
  | [a, b], _ => rfl
theorem Repeat_cs (s : List UInt8) (c : Nat) (h : s.length * c ≤ 140737488355328) (hc : c ≤ 9223372036854775807) : CS Tryd.prog G 23 [.str s, .int .i64 c] (.d (.str (Lib.repeatL s c))) none :=
  CS.ofLib fun w R args hg hR hs hv => by
    rw [args2 hs, (hv 0 _ rfl).str_inv, (hv 1 _ rfl).int_inv]
    exact (Tryd.strings_Repeat ⟨s.toArray⟩ c w hc (by simpa [ByteArray.size] using h)).mono fun e w' ⟨he, hw⟩ => ⟨_, he, .str _, hw⟩
theorem TrimLeft_cs (s : List UInt8) (c : UInt8) (hc : c.toNat < 128) : CS Tryd.prog G 44 [.str s, .str [c]] (.d (.str (Lib.trimLeftB s c))) none :=
  CS.ofLib fun w R args hg hR hs hv => by
    rw [args2 hs, (hv 0 _ rfl).str_inv, (hv 1 _ rfl).str_inv]
    exact (Tryd.strings_TrimLeft_one ⟨s.toArray⟩ c hc w).mono fun e w' ⟨he, hw⟩ => ⟨_, he, .str _, hw ▸ Below.refl _ _⟩
theorem HasPrefix_cs (s p : List UInt8) : CS Tryd.prog G 34 [.str s, .str p] (.d (.bool (p.isPrefixOf s))) none :=
  CS.ofLib fun w R args hg hR hs hv => by
    rw [args2 hs, (hv 0 _ rfl).str_inv, (hv 1 _ rfl).str_inv]
    exact (Tryd.strings_HasPrefix ⟨s.toArray⟩ ⟨p.toArray⟩ w).mono fun e w' ⟨he, hw⟩ => ⟨_, he, .bool _, hw ▸ Below.refl _ _⟩
/-! ### Numbers -/
def numL (s : List UInt8) : Int × Bool := if valN s ≤ 1000000000000 then ((valN s : Int), true) else (0, false)
theorem valF_ge (l : List UInt8) : ∀ a, a * 10 ^ l.length ≤ valF a l := by
  induction l with
  | nil => intro a; simp [valF]
  | cons c r ih =>
    intro a
    have h := ih (10 * a + (c.toNat - 48))
    have e : valF a (c :: r) = valF (10 * a + (c.toNat - 48)) r := rfl
    rw [e]
    refine Nat.le_trans ?_ h
    rw [List.length_cons, Nat.pow_succ]
    have : a * (10 ^ r.length * 10) = (10 * a) * 10 ^ r.length := by rw [Nat.mul_comm (10 ^ r.length) 10, ← Nat.mul_assoc, Nat.mul_comm a 10]
    rw [this]
    exact Nat.mul_le_mul_right _ (by omega)
theorem valN_trim (s : List UInt8) : valN (Lib.trimLeftB s 48) = valN s := by
  unfold Lib.trimLeftB
  induction s with
  | nil => rfl
  | cons c r ih =>
    by_cases h : c = 48
    · subst h
      have e : valN (48 :: r) = valN r := rfl
      rw [e, ← ih]
      simp
    · have : (c == 48) = false := by simpa using h
      rw [List.dropWhile_cons, this]
      rfl
theorem trim_head {s : List UInt8} (h : Lib.trimLeftB s 48 ≠ []) : ∃ c r, Lib.trimLeftB s 48 = c :: r ∧ c ≠ 48 := by
  unfold Lib.trimLeftB at h ⊢
  induction s with
  | nil => exact absurd rfl h
  | cons c r ih =>
    by_cases hc : c = 48
    · subst hc
      simp only [List.dropWhile_cons, beq_self_eq_true, if_true] at h ⊢
      exact ih h
    · have : (c == 48) = false := by simpa using hc
      rw [List.dropWhile_cons, this]
      exact ⟨c, r, rfl, hc⟩
theorem trim_sub {s : List UInt8} : ∀ c ∈ Lib.trimLeftB s 48, c ∈ s := fun c hc => (List.dropWhile_sublist _).subset hc
theorem number_plain {s : List UInt8} (hs : ∀ c ∈ s, isDg c = true) (hne : Lib.trimLeftB s 48 ≠ []) : parseZ (Lib.trimLeftB s 48) = numL s := by
  obtain ⟨c, r, he, hc⟩ := trim_head hne
  have hall : ∀ x ∈ c :: r, isDg x = true := fun x hx => hs x (trim_sub x (he ▸ hx))
  have hv : valN s = valN (c :: r) := by rw [← he, valN_trim]
  rw [he]
  have hcd := isDg_iff.1 (hall c (.head _))
  have hn : negB (c :: r) = false := by
    have : c ≠ 45 := by rintro rfl; revert hcd; decide
    simp [negB, this]
  have hb : bodyL (c :: r) = c :: r := by simp [bodyL, hn]
  have hlow : 10 ^ r.length ≤ valN (c :: r) := by
    have h1 : 1 ≤ c.toNat - 48 := by
      have : c.toNat ≠ 48 := fun e => hc (UInt8.toNat.inj (by simpa using e))
      omega
    have e : valN (c :: r) = valF (10 * 0 + (c.toNat - 48)) r := rfl
    rw [e]
    refine Nat.le_trans ?_ (valF_ge r _)
    calc 10 ^ r.length = 1 * 10 ^ r.length := by rw [Nat.one_mul]
      _ ≤ _ := Nat.mul_le_mul_right _ (by omega)
  have hform : formB (c :: r) = decide (r.length ≤ 12) := by
    simp only [formB, hb, hn]
    by_cases h : r.length ≤ 12 <;> simp [h, hc] <;> omega
  have hd : (c :: r).all isDg = true := List.all_eq_true.2 hall
  unfold parseZ numL
  rw [hform, hb, hd, hn, hv]
  by_cases h : r.length ≤ 12
  · have hup := valN_lt _ _ rfl hall
    simp [h, sgn, chk]
    have hi : inB ((valN (c :: r) : Nat) : Int) = decide (valN (c :: r) ≤ 1000000000000) := by
      unfold inB
      by_cases h2 : valN (c :: r) ≤ 1000000000000 <;> simp [h2] <;> omega
    rw [hi]
    by_cases h2 : valN (c :: r) ≤ 1000000000000 <;> simp [h2]
  · have : 10 ^ 13 ≤ valN (c :: r) := Nat.le_trans (Nat.pow_le_pow_right (by omega) (by omega)) hlow
    have h2 : ¬ valN (c :: r) ≤ 1000000000000 := by omega
    simp [h, h2]
theorem ent_lex_number : VM.Enters Tryd.prog 33 := VM.Enters.mk Tryd.func33 rfl
theorem lex_number_cs (s : List UInt8) (hs : ∀ c ∈ s, isDg c = true) : CS Tryd.prog G 33 [.str s] (.tup [.int .i64 (numL s).1, .bool (numL s).2]) none := by
  refine CS.of_VK Tryd.func33 rfl Tryd.ntmps33 rfl ?_
  simp
  refine callK.mk ent_TrimLeft (TrimLeft_cs s 48 (by decide)) ?_
  by_cases h : Lib.trimLeftB s 48 = []
  · have hv : valN s = 0 := by rw [← valN_trim, h]; rfl
    simp [h, numL, hv]
  · have he : (Lib.trimLeftB s 48).isEmpty = false := by simpa using h
    simp [he]
    refine callK.mk ent_m_Parse (m_Parse_cs (Lib.trimLeftB s 48)) ?_
    simp [number_plain hs h]
end Go.Proofs.YtoiokobokencdaaDoor
