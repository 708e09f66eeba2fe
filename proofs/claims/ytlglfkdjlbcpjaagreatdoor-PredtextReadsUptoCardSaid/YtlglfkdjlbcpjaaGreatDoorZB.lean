/- Joined texts. Tokens: what runes are; the longest beginning whose runes satisfy a function; the walks. Tokens: what the library's functions give; numbers; the walks. Tokens: the longest beginning whose runes satisfy a function; blanks and comments; the walks. Tokens: the token with which a text begins; the walk. Tokens: Tokens; the walk. Tokens: right, Same; the walks. No condition. -/
import Derived.Test.YtlglfkdjlbcpjaaGreatDoorZV
import Derived.Test.YtlglfkdjlbcpjaaGreatDoorTy
import Derived.Test.YtlglfkdjlbcpjaaGreatDoorZL
import Derived.Test.YtlglfkdjlbcpjaaGreatDoorZ7
import Derived.Lib.TrimByte
import Derived.Lib.Repeat
section
set_option linter.unusedVariables false
set_option linter.unusedSimpArgs false
set_option linter.unusedSectionVars false
namespace Go.Proofs.YtlglfkdjlbcpjaaGreatDoor
open Go Go.VM
set_option maxRecDepth 100000
set_option maxHeartbeats 8000000
variable {G : GT}
def smI (c : Int) : Bool := decide (97 ≤ c) && decide (c ≤ 122)
def caI (c : Int) : Bool := decide (65 ≤ c) && decide (c ≤ 90)
def dgI (c : Int) : Bool := decide (48 ≤ c) && decide (c ≤ 57)
def inI (c : Int) : Bool := smI c || caI c || dgI c || decide (c = 95)
theorem ent_lex_small : VM.Enters Tryz.prog 72 := VM.Enters.mk Tryz.func72 rfl
theorem ent_lex_capital : VM.Enters Tryz.prog 75 := VM.Enters.mk Tryz.func75 rfl
theorem ent_lex_digit : VM.Enters Tryz.prog 76 := VM.Enters.mk Tryz.func76 rfl
theorem ent_lex_inner : VM.Enters Tryz.prog 74 := VM.Enters.mk Tryz.func74 rfl
theorem lex_small_cs (c : Int) : CS Tryz.prog G 72 [.int .i32 c] (.d (.bool (smI c))) none := by
  refine CS.of_VK Tryz.func72 rfl Tryz.ntmps72 rfl ?_
  by_cases h : 97 ≤ c <;> simp [h, smI]
theorem lex_capital_cs (c : Int) : CS Tryz.prog G 75 [.int .i32 c] (.d (.bool (caI c))) none := by
  refine CS.of_VK Tryz.func75 rfl Tryz.ntmps75 rfl ?_
  by_cases h : 65 ≤ c <;> simp [h, caI]
theorem lex_digit_cs (c : Int) : CS Tryz.prog G 76 [.int .i32 c] (.d (.bool (dgI c))) none := by
  refine CS.of_VK Tryz.func76 rfl Tryz.ntmps76 rfl ?_
  by_cases h : 48 ≤ c <;> simp [h, dgI]
theorem lex_inner_cs (c : Int) : CS Tryz.prog G 74 [.int .i32 c] (.d (.bool (inI c))) none := by
  refine CS.of_VK Tryz.func74 rfl Tryz.ntmps74 rfl ?_
  simp
  refine callK.mk ent_lex_small (lex_small_cs c) ?_
  by_cases h1 : smI c = true
  · simp [h1, inI]
  · simp [h1]
    refine callK.mk ent_lex_capital (lex_capital_cs c) ?_
    by_cases h2 : caI c = true
    · simp [h2, inI]
    · simp [h2]
      refine callK.mk ent_lex_digit (lex_digit_cs c) ?_
      by_cases h3 : dgI c = true
      · simp [h3, inI]
      · simp [h1, h2, h3, inI]
end Go.Proofs.YtlglfkdjlbcpjaaGreatDoor
end

section
set_option linter.unusedVariables false
set_option linter.unusedSimpArgs false
set_option linter.unusedSectionVars false
namespace Go.Proofs.YtlglfkdjlbcpjaaGreatDoor
open Go Go.VM Go.RowKit
set_option maxRecDepth 100000
set_option maxHeartbeats 8000000
variable {G : GT}
theorem ent_TrimLeft : VM.Enters Tryz.prog 106 := VM.Enters.mk Tryz.func106 rfl
theorem ent_HasPrefix : VM.Enters Tryz.prog 78 := VM.Enters.mk Tryz.func78 rfl
theorem args2 {args : Array Value} (h : args.size = 2) : args = #[args.getD 0 undef, args.getD 1 undef] := by
  obtain ⟨l⟩ := args
  match l, h with
  | [a, b], _ => rfl
theorem TrimLeft_cs (s : List UInt8) (c : UInt8) (hc : c.toNat < 128) : CS Tryz.prog G 106 [.str s, .str [c]] (.d (.str (Lib.trimLeftB s c))) none :=
  CS.ofLib fun w R args hg hR hs hv => by
    rw [args2 hs, (hv 0 _ rfl).str_inv, (hv 1 _ rfl).str_inv]
    exact (Tryz.strings_TrimLeft_one ⟨s.toArray⟩ c hc w).mono fun e w' ⟨he, hw⟩ => ⟨_, he, .str _, hw ▸ Below.refl _ _⟩
theorem HasPrefix_cs (s p : List UInt8) : CS Tryz.prog G 78 [.str s, .str p] (.d (.bool (p.isPrefixOf s))) none :=
  CS.ofLib fun w R args hg hR hs hv => by
    rw [args2 hs, (hv 0 _ rfl).str_inv, (hv 1 _ rfl).str_inv]
    exact (Tryz.strings_HasPrefix ⟨s.toArray⟩ ⟨p.toArray⟩ w).mono fun e w' ⟨he, hw⟩ => ⟨_, he, .bool _, hw ▸ Below.refl _ _⟩
/-! ### Numbers -/
def numL (s : List UInt8) : Int × Bool := if valN s ≤ 1000000000000 then ((valN s : Int), true) else (0, false)
theorem valF_ge (l : List UInt8) : ∀ a, a * 10 ^ l.length ≤ valF a l := by
  induction l with
  | nil => intro a; simp [valF]
  | cons c r ih =>
    intro a
    have h := ih (10 * a + (c.toNat - 48))
    have e : valF a (c :: r) = valF (10 * a + (c.toNat - 48)) r := rfl
    rw [e]
    refine Nat.le_trans ?_ h
    rw [List.length_cons, Nat.pow_succ]
    have : a * (10 ^ r.length * 10) = (10 * a) * 10 ^ r.length := by rw [Nat.mul_comm (10 ^ r.length) 10, ← Nat.mul_assoc, Nat.mul_comm a 10]
    rw [this]
    exact Nat.mul_le_mul_right _ (by omega)
theorem valN_trim (s : List UInt8) : valN (Lib.trimLeftB s 48) = valN s := by
  unfold Lib.trimLeftB
  induction s with
  | nil => rfl
  | cons c r ih =>
    by_cases h : c = 48
    · subst h
      have e : valN (48 :: r) = valN r := rfl
      rw [e, ← ih]
      simp
    · have : (c == 48) = false := by simpa using h
      rw [List.dropWhile_cons, this]
      rfl
theorem trim_head {s : List UInt8} (h : Lib.trimLeftB s 48 ≠ []) : ∃ c r, Lib.trimLeftB s 48 = c :: r ∧ c ≠ 48 := by
  unfold Lib.trimLeftB at h ⊢
  induction s with
  | nil => exact absurd rfl h
  | cons c r ih =>
    by_cases hc : c = 48
    · subst hc
      simp only [List.dropWhile_cons, beq_self_eq_true, if_true] at h ⊢
      exact ih h
    · have : (c == 48) = false := by simpa using hc
      rw [List.dropWhile_cons, this]
      exact ⟨c, r, rfl, hc⟩
theorem trim_sub {s : List UInt8} : ∀ c ∈ Lib.trimLeftB s 48, c ∈ s := fun c hc => (List.dropWhile_sublist _).subset hc
theorem number_plain {s : List UInt8} (hs : ∀ c ∈ s, isDg c = true) (hne : Lib.trimLeftB s 48 ≠ []) : parseZ (Lib.trimLeftB s 48) = numL s := by
  obtain ⟨c, r, he, hc⟩ := trim_head hne
  have hall : ∀ x ∈ c :: r, isDg x = true := fun x hx => hs x (trim_sub x (he ▸ hx))
  have hv : valN s = valN (c :: r) := by rw [← he, valN_trim]
  rw [he]
  have hcd := isDg_iff.1 (hall c (.head _))
  have hn : negB (c :: r) = false := by
    have : c ≠ 45 := by rintro rfl; revert hcd; decide
    simp [negB, this]
  have hb : bodyL (c :: r) = c :: r := by simp [bodyL, hn]
  have hlow : 10 ^ r.length ≤ valN (c :: r) := by
    have h1 : 1 ≤ c.toNat - 48 := by
      have : c.toNat ≠ 48 := fun e => hc (UInt8.toNat.inj (by simpa using e))
      omega
    have e : valN (c :: r) = valF (10 * 0 + (c.toNat - 48)) r := rfl
    rw [e]
    refine Nat.le_trans ?_ (valF_ge r _)
    calc 10 ^ r.length = 1 * 10 ^ r.length := by rw [Nat.one_mul]
      _ ≤ _ := Nat.mul_le_mul_right _ (by omega)
  have hform : formB (c :: r) = decide (r.length ≤ 12) := by
    simp only [formB, hb, hn]
    by_cases h : r.length ≤ 12 <;> simp [h, hc] <;> omega
  have hd : (c :: r).all isDg = true := List.all_eq_true.2 hall
  unfold parseZ numL
  rw [hform, hb, hd, hn, hv]
  by_cases h : r.length ≤ 12
  · have hup := valN_lt _ _ rfl hall
    simp [h, sgn, chk]
    have hi : inB ((valN (c :: r) : Nat) : Int) = decide (valN (c :: r) ≤ 1000000000000) := by
      unfold inB
      by_cases h2 : valN (c :: r) ≤ 1000000000000 <;> simp [h2] <;> omega
    rw [hi]
    by_cases h2 : valN (c :: r) ≤ 1000000000000 <;> simp [h2]
  · have : 10 ^ 13 ≤ valN (c :: r) := Nat.le_trans (Nat.pow_le_pow_right (by omega) (by omega)) hlow
    have h2 : ¬ valN (c :: r) ≤ 1000000000000 := by omega
    simp [h, h2]
theorem ent_lex_number : VM.Enters Tryz.prog 77 := VM.Enters.mk Tryz.func77 rfl
theorem lex_number_cs (s : List UInt8) (hs : ∀ c ∈ s, isDg c = true) : CS Tryz.prog G 77 [.str s] (.tup [.int .i64 (numL s).1, .bool (numL s).2]) none := by
  refine CS.of_VK Tryz.func77 rfl Tryz.ntmps77 rfl ?_
  simp
  refine callK.mk ent_TrimLeft (TrimLeft_cs s 48 (by decide)) ?_
  by_cases h : Lib.trimLeftB s 48 = []
  · have hv : valN s = 0 := by rw [← valN_trim, h]; rfl
    simp [h, numL, hv]
  · have he : (Lib.trimLeftB s 48).isEmpty = false := by simpa using h
    simp [he]
    refine callK.mk ent_m_Parse (m_Parse_cs (Lib.trimLeftB s 48)) ?_
    simp [number_plain hs h]
end Go.Proofs.YtlglfkdjlbcpjaaGreatDoor
end

section
set_option linter.unusedVariables false
set_option linter.unusedSimpArgs false
set_option linter.unusedSectionVars false
namespace Go.Proofs.YtlglfkdjlbcpjaaGreatDoor
open Go Go.VM
set_option maxRecDepth 100000
set_option maxHeartbeats 8000000
variable {G : GT}
theorem takeWhile_stop {p : UInt8 → Bool} {s : List UInt8} {i : Nat} (h : i < s.length) (ht : ∀ b ∈ s.take i, p b = true) (hn : p s[i] = false) : (s.takeWhile p).length = i := by
  have e : s = s.take i ++ s[i] :: s.drop (i + 1) := by rw [← List.drop_eq_getElem_cons h, List.take_append_drop]
  generalize hx : s[i] = x at e hn
  rw [e, List.takeWhile_append_of_pos ht, List.takeWhile_cons, hn]
  simp
  omega
theorem takeWhile_all {p : UInt8 → Bool} {s : List UInt8} (ht : ∀ b ∈ s, p b = true) : s.takeWhile p = s := by
  have := List.takeWhile_append_of_pos (l₂ := []) ht
  simpa using this
theorem ent_lex_span : VM.Enters Tryz.prog 73 := VM.Enters.mk Tryz.func73 rfl
theorem lex_span_ch (F : FuncId) (p : Int → Bool) (pb : UInt8 → Bool) (hF : VM.Enters Tryz.prog F) (hcs : ∀ c, CS Tryz.prog G F [.int .i32 c] (.d (.bool (p c))) none) (hlo : ∀ b : UInt8, p b.toNat = pb b) (hhi : ∀ c, 128 ≤ c → p c = false) (s : List UInt8) :
    CH Tryz.prog G 73 ⟨[.d (.str s), .fn F], [], []⟩ ⟨[.d (.int .i64 (s.takeWhile pb).length)], [], []⟩ := by
  refine CH.of_VK Tryz.func73 rfl Tryz.ntmps73 rfl (by simp) ?_
  simp
  refine SW.loopF (ι := { i : Nat // i ≤ s.length ∧ ∀ b ∈ s.take i, pb b = true }) (fun _ => []) (fun i => [(8, .iter s i.1)]) (fun _ => []) (fun i => s.length - i.1) ⟨0, by simp⟩ (by simp) ?_
  rintro ⟨i, hi, ht⟩
  try simp only at hi ht
  by_cases hlt : i < s.length
  · simp [hlt]
    refine callK.mk hF (hcs _) ?_
    by_cases hb : s[i].toNat < 128
    · have hd := dec_lo hlt hb
      have hpl := hlo s[i]
      by_cases hpb : pb s[i] = true
      · rw [hpb] at hpl
        simp [hd, hpl]
        refine Again.mk ⟨i + 1, hlt, fun b hm => ?_⟩ (by simp) (by simp; omega)
        rw [List.take_succ_eq_append_getElem hlt] at hm
        rcases List.mem_append.1 hm with hm | hm
        · exact ht b hm
        · simp at hm; rw [hm]; exact hpb
      · have hpf : pb s[i] = false := by simpa using hpb
        rw [hpf] at hpl
        simp [hd, hpl, takeWhile_stop hlt ht hpf]
    · obtain ⟨h1, _⟩ := dec_hi hlt (by omega)
      have hpf : pb s[i] = false := by rw [← hlo]; exact hhi _ (by omega)
      have hpl := hhi ((Utf8.decode ⟨s.toArray⟩ i).1 : Int) (by omega)
      simp [hpl, takeWhile_stop hlt ht hpf]
  · have : i = s.length := by omega
    subst this
    rw [List.take_length] at ht
    simp [takeWhile_all ht]
/-! ### Blanks and comments -/
def skipG : List UInt8 → Nat → Bool → List UInt8 × Nat
  | [], n, _ => ([], n)
  | c :: r, n, cm => if c = 10 then skipG r (n + 1) false else if cm = true ∨ c = 32 ∨ c = 9 then skipG r n cm else if c = 35 then skipG r n true else (c :: r, n)
theorem skipG_le : ∀ (s : List UInt8) (n : Nat) (cm : Bool), (skipG s n cm).2 ≤ n + s.length ∧ (skipG s n cm).1.length ≤ s.length
  | [], n, cm => by simp [skipG]
  | c :: r, n, cm => by
    unfold skipG
    split
    · have := skipG_le r (n + 1) false; simp only [List.length_cons]; omega
    · split
      · have := skipG_le r n cm; simp only [List.length_cons]; omega
      · split
        · have := skipG_le r n true; simp only [List.length_cons]; omega
        · simp only [List.length_cons]; omega
theorem skipG_hi (s : List UInt8) (n : Nat) : ∀ (k i : Nat), (∀ j, i ≤ j → j < i + k → ∃ h : j < s.length, 128 ≤ s[j].toNat) → skipG (s.drop i) n true = skipG (s.drop (i + k)) n true
  | 0, i, _ => rfl
  | k + 1, i, h => by
    obtain ⟨hi, hb⟩ := h i (by omega) (by omega)
    have ih := skipG_hi s n k (i + 1) fun j h1 h2 => h j (by omega) (by omega)
    have h10 : s[i] ≠ 10 := fun e => by rw [e] at hb; simp at hb
    rw [List.drop_eq_getElem_cons hi, skipG, if_neg h10, if_pos (.inl rfl), ih]
    congr 2
    omega
theorem nat_u8 (c : UInt8) (k : Nat) (hk : k < 256) : ((c.toNat : Int) = (k : Int)) ↔ c = UInt8.ofNat k := by
  constructor
  · intro h
    apply UInt8.toNat.inj
    simp
    omega
  · rintro rfl
    simp
    omega
theorem ent_lex_skip : VM.Enters Tryz.prog 43 := VM.Enters.mk Tryz.func43 rfl
theorem lex_skip_cs (s : List UInt8) (hl : s.length ≤ 900000000) : CS Tryz.prog G 43 [.str s] (.tup [.str (skipG s 0 false).1, .int .i64 (skipG s 0 false).2]) none := by
  obtain ⟨res, hres0⟩ : ∃ x, skipG s 0 false = x := ⟨_, rfl⟩
  rw [hres0]
  refine CS.of_VK Tryz.func43 rfl Tryz.ntmps43 rfl ?_
  simp
  refine SW.loopF (ι := { x : Nat × Nat × Bool // x.1 ≤ s.length ∧ x.2.1 ≤ x.1 ∧ skipG (s.drop x.1) x.2.1 x.2.2 = res }) (fun x => [(4, .d (.int .i64 x.1.2.1)), (5, .d (.bool x.1.2.2))]) (fun x => [(9, .iter s x.1.1)]) (fun _ => []) (fun x => s.length - x.1.1) ⟨(0, 0, false), by simp [hres0]⟩ (by simp) ?_
  rintro ⟨⟨i, n, cm⟩, hi, hn, hR⟩
  try simp only at hi hn hR
  by_cases hlt : i < s.length
  · have hw := wrap64s (show n < 9223372036854775807 by omega)
    have hle := Nat.le_of_lt hlt
    have hdrop : s.drop i = s[i] :: s.drop (i + 1) := List.drop_eq_getElem_cons hlt
    by_cases hb : s[i].toNat < 128
    · have hd := dec_lo hlt hb
      have c10 := nat_u8 s[i] 10 (by omega)
      have c32 := nat_u8 s[i] 32 (by omega)
      have c9 := nat_u8 s[i] 9 (by omega)
      have c35 := nat_u8 s[i] 35 (by omega)
      simp at c10 c32 c9 c35
      by_cases h10 : s[i] = 10
      · have e := c10.2 h10
        simp [hlt, hd, e]
        refine Again.mk ⟨(i + 1, n + 1, false), hlt, by simp; omega, ?_⟩ (by simp [hw]) (by simp; omega)
        rw [← hR, hdrop, skipG, if_pos h10]
      · have e : ¬ s[i].toNat = 10 := fun h => h10 (c10.1 h)
        simp [hlt, hd, e]
        cases cm with
        | true =>
          try simp
          refine Again.mk ⟨(i + 1, n, true), hlt, by simp; omega, ?_⟩ (by simp) (by simp; omega)
          rw [← hR, hdrop, skipG, if_neg h10, if_pos (.inl rfl)]
        | false =>
          try simp
          by_cases h32 : s[i] = 32
          · have e2 := c32.2 h32
            simp [e2]
            refine Again.mk ⟨(i + 1, n, false), hlt, by simp; omega, ?_⟩ (by simp) (by simp; omega)
            rw [← hR, hdrop, skipG, if_neg h10, if_pos (.inr (.inl h32))]
          · have e2 : ¬ s[i].toNat = 32 := fun h => h32 (c32.1 h)
            simp [e2]
            by_cases h9 : s[i] = 9
            · have e3 := c9.2 h9
              simp [e3]
              refine Again.mk ⟨(i + 1, n, false), hlt, by simp; omega, ?_⟩ (by simp) (by simp; omega)
              rw [← hR, hdrop, skipG, if_neg h10, if_pos (.inr (.inr h9))]
            · have e3 : ¬ s[i].toNat = 9 := fun h => h9 (c9.1 h)
              simp [e3]
              by_cases h35 : s[i] = 35
              · have e4 := c35.2 h35
                simp [e4]
                refine Again.mk ⟨(i + 1, n, true), hlt, by simp; omega, ?_⟩ (by simp) (by simp; omega)
                rw [← hR, hdrop, skipG, if_neg h10, if_neg (by simp [h32, h9]), if_pos h35]
              · have e4 : ¬ s[i].toNat = 35 := fun h => h35 (c35.1 h)
                have hres : res = (s.drop i, n) := by rw [← hR, hdrop, skipG, if_neg h10, if_neg (by simp [h32, h9]), if_neg h35]
                simp [e4, hres, hle]
    · obtain ⟨h1, h2, h3, h4⟩ := dec_hi hlt (by omega)
      obtain ⟨rw, hrw⟩ : ∃ rw, Utf8.decode ⟨s.toArray⟩ i = rw := ⟨_, rfl⟩
      rw [hrw] at h1 h2 h3 h4
      have e10 : ¬ ((rw.1 : Int) = 10) := by omega
      have e32 : ¬ ((rw.1 : Int) = 32) := by omega
      have e9 : ¬ ((rw.1 : Int) = 9) := by omega
      have e35 : ¬ ((rw.1 : Int) = 35) := by omega
      have hbb : ∀ k, k < 128 → s[i] ≠ UInt8.ofNat k := fun k hk e => by
        rw [e] at hb
        simp at hb
        omega
      have b10 : s[i] ≠ 10 := hbb 10 (by omega)
      have b32 : s[i] ≠ 32 := hbb 32 (by omega)
      have b9 : s[i] ≠ 9 := hbb 9 (by omega)
      have b35 : s[i] ≠ 35 := hbb 35 (by omega)
      simp [hlt, hrw, e10]
      cases cm with
      | true =>
        simp
        refine Again.mk ⟨(i + rw.2, n, true), h3, by simp; omega, ?_⟩ (by simp) (by simp; omega)
        rw [← hR, skipG_hi s n rw.2 i h4]
      | false =>
        have hres : res = (s.drop i, n) := by rw [← hR, hdrop, skipG, if_neg b10, if_neg (by simp [b32, b9]), if_neg b35]
        simp [e32, e9, e35, hres, hle]
  · have : i = s.length := by omega
    subst this
    rw [List.drop_length] at hR
    have hres : res = ([], n) := by rw [← hR, skipG]
    simp [hres]
end Go.Proofs.YtlglfkdjlbcpjaaGreatDoor
end

section
set_option linter.unusedVariables false
set_option linter.unusedSimpArgs false
set_option linter.unusedSectionVars false
namespace Go.Proofs.YtlglfkdjlbcpjaaGreatDoor
open Go Go.VM
set_option maxRecDepth 100000
set_option maxHeartbeats 8000000
variable {G : GT}
def sgCells : List D := [.sl (signsL.map fun t => [D.str t])]
theorem sm_u8 (b : UInt8) : smI b.toNat = smU b := by
  rw [Bool.eq_iff_iff]; simp only [smI, smU, Bool.and_eq_true, decide_eq_true_eq]; omega
theorem ca_u8 (b : UInt8) : caI b.toNat = caU b := by
  rw [Bool.eq_iff_iff]; simp only [caI, caU, Bool.and_eq_true, decide_eq_true_eq]; omega
theorem dg_u8 (b : UInt8) : dgI b.toNat = dgU b := by
  rw [Bool.eq_iff_iff]; simp only [dgI, dgU, Bool.and_eq_true, decide_eq_true_eq]; omega
theorem in_u8 (b : UInt8) : inI b.toNat = inU b := by
  unfold inI inU
  rw [sm_u8, ca_u8, dg_u8]
  congr 1
  simp only [decide_eq_decide]
  omega
theorem in_hi {c : Int} (h : 128 ≤ c) : inI c = false := by
  simp only [inI, smI, caI, dgI, Bool.or_eq_false_iff, Bool.and_eq_false_iff, decide_eq_false_iff_not]
  omega
theorem dg_hi {c : Int} (h : 128 ≤ c) : dgI c = false := by
  simp only [dgI, Bool.and_eq_false_iff, decide_eq_false_iff_not]
  omega
theorem take_tw (p : UInt8 → Bool) (s : List UInt8) : s.take (s.takeWhile p).length = s.takeWhile p := by
  have h := List.takeWhile_prefix (l := s) p
  exact (List.prefix_iff_eq_take.1 h).symm
theorem tw_le (p : UInt8 → Bool) (s : List UInt8) : (s.takeWhile p).length ≤ s.length := (List.takeWhile_prefix (l := s) p).length_le
theorem w32 (c : UInt8) : IntKind.i32.wrap (c.toNat : Int) = c.toNat := by
  have := c.toNat_lt
  unfold IntKind.wrap
  simp [IntKind.bits, IntKind.signed]
  omega
theorem dg_isDg (c : UInt8) : dgU c = isDg c := by
  rw [Bool.eq_iff_iff]; simp only [dgU, isDg, Bool.and_eq_true, decide_eq_true_eq]
theorem tw_mem {p : UInt8 → Bool} : ∀ {s : List UInt8} {b : UInt8}, b ∈ s.takeWhile p → p b = true
  | [], b, h => by simp at h
  | c :: r, b, h => by
    rw [List.takeWhile_cons] at h
    split at h
    · rename_i hc
      rcases List.mem_cons.1 h with rfl | h
      · exact hc
      · exact tw_mem h
    · cases h
def firstC (s : List UInt8) : List D := [.int .i64 (firstT numL s).1, .str (firstT numL s).2.1, .int .i64 (firstT numL s).2.2.1, .int .i64 0]
theorem span_in (s : List UInt8) : CH Tryz.prog G 73 ⟨[.d (.str s), .fn 74], [], []⟩ ⟨[.d (.int .i64 (s.takeWhile inU).length)], [], []⟩ := lex_span_ch 74 inI inU ent_lex_inner lex_inner_cs in_u8 (fun _ => in_hi) s
theorem span_dg (s : List UInt8) : CH Tryz.prog G 73 ⟨[.d (.str s), .fn 76], [], []⟩ ⟨[.d (.int .i64 (s.takeWhile dgU).length)], [], []⟩ := lex_span_ch 76 dgI dgU ent_lex_digit lex_digit_cs dg_u8 (fun _ => dg_hi) s
theorem sign_at {s : List UInt8} {i : Nat} (h : i < signsL.length) (hn : ∀ t ∈ signsL.take i, t.isPrefixOf s = false) (hp : signsL[i].isPrefixOf s = true) : signT s = signsL[i] := by
  have e : signsL = signsL.take i ++ signsL[i] :: signsL.drop (i + 1) := by rw [← List.drop_eq_getElem_cons h, List.take_append_drop]
  generalize signsL[i] = x at e hp ⊢
  unfold signT
  rw [e, List.find?_append]
  have h0 : (signsL.take i).find? (fun t => t.isPrefixOf s) = none := List.find?_eq_none.2 fun t ht => by rw [hn t ht]; simp
  rw [h0]
  simp [List.find?_cons, hp]
theorem sign_none {s : List UInt8} (hn : ∀ t ∈ signsL, t.isPrefixOf s = false) : signT s = [] := by
  unfold signT
  rw [List.find?_eq_none.2 fun t ht => by rw [hn t ht]; simp]
  rfl
theorem sign_ne : ∀ t ∈ signsL, t ≠ [] := by decide
theorem ent_span : VM.Enters Tryz.prog 73 := VM.Enters.mk Tryz.func73 rfl
theorem ent_lex_first : VM.Enters Tryz.prog 44 := VM.Enters.mk Tryz.func44 rfl
theorem lex_first_cs (hS : G 0 = some sgCells) (c : UInt8) (r : List UInt8) (hl : (c :: r).length ≤ 900000000) : CS Tryz.prog G 44 [.str (c :: r)] (.tup [.agg (firstC (c :: r)), .bool (firstT numL (c :: r)).2.2.2]) none := by
  obtain ⟨s, hs⟩ : ∃ s, c :: r = s := ⟨_, rfl⟩
  have h0 : 0 < s.length := by rw [← hs]; simp
  have hc0 : s[0] = c := by subst hs; rfl
  have hf : firstT numL s = if smU c then (1, s.takeWhile inU, 0, true) else if caU c then (2, s.takeWhile inU, 0, true)
    else if dgU c then (3, s.takeWhile dgU, (numL (s.takeWhile dgU)).1, (numL (s.takeWhile dgU)).2)
    else if signT s = [] then (0, [], 0, false) else (4, signT s, 0, true) := by subst hs; rfl
  rw [hs] at hl ⊢
  clear hs
  have hw := w32 c
  have l1 := tw_le inU s
  have l2 := tw_le dgU s
  have t1 := take_tw inU s
  have t2 := take_tw dgU s
  refine CS.of_VK Tryz.func44 rfl Tryz.ntmps44 rfl ?_
  simp [h0, hc0, hw]
  refine callK.mk ent_lex_small (lex_small_cs (c.toNat : Int)) ?_
  rw [sm_u8]
  by_cases h1 : smU c = true
  · simp [h1]
    refine callHK.ro ent_span (span_in s) [] (by simp) (by simp) (by simp) (by simp) (by simp) ?_
    simp [l1, t1, firstC, hf, h1]
  simp [h1]
  refine callK.mk ent_lex_capital (lex_capital_cs (c.toNat : Int)) ?_
  rw [ca_u8]
  by_cases h2 : caU c = true
  · simp [h2]
    refine callHK.ro ent_span (span_in s) [] (by simp) (by simp) (by simp) (by simp) (by simp) ?_
    simp [l1, t1, firstC, hf, h1, h2]
  simp [h2]
  refine callK.mk ent_lex_digit (lex_digit_cs (c.toNat : Int)) ?_
  rw [dg_u8]
  by_cases h3 : dgU c = true
  · simp [h3]
    refine callHK.ro ent_span (span_dg s) [] (by simp) (by simp) (by simp) (by simp) (by simp) ?_
    simp [l2, t2]
    refine callK.mk ent_lex_number (lex_number_cs (s.takeWhile dgU) (fun b hb => by rw [← dg_isDg]; exact tw_mem hb)) ?_
    simp [firstC, hf, h1, h2, h3]
  simp [h3, hS, sgCells]
  have hlen : (signsL.map fun t => [D.str t]).length = signsL.length := by simp
  refine SW.loopF (ι := { i : Nat // i ≤ signsL.length ∧ ∀ t ∈ signsL.take i, t.isPrefixOf s = false }) (fun i => [(47, .d (.int .i64 i.1))]) (fun _ => [(2, .cells [.d (.int .i64 0), .d (.str []), .d (.int .i64 0), .d (.int .i64 0)])]) (fun _ => []) (fun i => signsL.length - i.1) ⟨0, by simp⟩ (by simp) ?_
  rintro ⟨i, hi, hn⟩
  try simp only at hi hn
  by_cases hlt : i < signsL.length
  · have hsl : signsL.length = 31 := rfl
    have hw2 := wrap64s (show i < 9223372036854775807 by omega)
    have hg : (signsL.map fun t => [D.str t])[i]? = some [.str signsL[i]] := by simp [hlt]
    simp [hlt, hg]
    refine callK.mk ent_HasPrefix (HasPrefix_cs s signsL[i]) ?_
    by_cases hp : signsL[i].isPrefixOf s = true
    · have hsg := sign_at hlt hn hp
      have hne := sign_ne _ (List.getElem_mem hlt)
      simp [hp, firstC, hf, h1, h2, h3, hsg, hne]
    · have hp' : signsL[i].isPrefixOf s = false := Bool.eq_false_iff.2 hp
      simp [hp']
      refine Again.mk ⟨i + 1, hlt, fun t ht => ?_⟩ (by simp [hw2]) (by simp; omega)
      rw [List.take_succ_eq_append_getElem hlt] at ht
      rcases List.mem_append.1 ht with ht | ht
      · exact hn t ht
      · simp at ht; rw [ht]; exact hp'
  · have : i = signsL.length := by omega
    subst this
    rw [List.take_length] at hn
    have hsg := sign_none hn
    simp [firstC, hf, h1, h2, h3, hsg]
end Go.Proofs.YtlglfkdjlbcpjaaGreatDoor
end

section
set_option linter.unusedVariables false
set_option linter.unusedSimpArgs false
set_option linter.unusedSectionVars false
namespace Go.Proofs.YtlglfkdjlbcpjaaGreatDoor
open Go Go.VM
set_option maxRecDepth 100000
set_option maxHeartbeats 8000000
variable {G : GT}
def tokE (t : Tok) : List D := [.int .i64 t.kind, .str t.text, .int .i64 t.n, .int .i64 t.line]
def toks (l : List Tok) : List (List D) := l.map tokE
@[simp] theorem toks_len (l : List Tok) : (toks l).length = l.length := by simp [toks]
@[simp] theorem toks_nil : toks [] = [] := rfl
@[simp] theorem toks_all (l : List Tok) : ((toks l).all fun c => c.length == 4) = true := by simp [toks, tokE]
theorem toks_snoc (l : List Tok) (t : Tok) : toks (l ++ [t]) = toks l ++ [[.int .i64 t.kind, .str t.text, .int .i64 t.n, .int .i64 t.line]] := by simp [toks, tokE]
theorem lexG_skip : ∀ (s : List UInt8) (n : Nat) (cm : Bool) (ln : Int), lexG numL s 0 (ln + n) cm = lexG numL (skipG s n cm).1 0 (ln + (skipG s n cm).2) false
  | [], n, cm, ln => by simp [skipG, lexG]
  | c :: r, n, cm, ln => by
    unfold skipG
    split
    · rename_i h
      rw [← lexG_skip r (n + 1) false ln, lexG, if_pos h]
      congr 1
      omega
    · rename_i h
      split
      · rename_i h2
        rw [← lexG_skip r n cm ln]
        conv => lhs; rw [lexG]
        rw [if_neg h, if_pos h2]
      · rename_i h2
        split
        · rename_i h3
          rw [← lexG_skip r n true ln]
          conv => lhs; rw [lexG]
          rw [if_neg h, if_neg h2, if_pos h3]
        · simp only [not_or, Bool.not_eq_true] at h2
          rw [h2.1]
theorem skipG_sum : ∀ (s : List UInt8) (n : Nat) (cm : Bool), (skipG s n cm).2 + (skipG s n cm).1.length ≤ n + s.length
  | [], n, cm => by simp [skipG]
  | c :: r, n, cm => by
    unfold skipG
    split
    · have := skipG_sum r (n + 1) false; simp only [List.length_cons]; omega
    · split
      · have := skipG_sum r n cm; simp only [List.length_cons]; omega
      · split
        · have := skipG_sum r n true; simp only [List.length_cons]; omega
        · simp only [List.length_cons]; omega
theorem skip_head : ∀ (s : List UInt8) (n : Nat) (cm : Bool) (c : UInt8) (r : List UInt8), (skipG s n cm).1 = c :: r → c ≠ 10 ∧ c ≠ 32 ∧ c ≠ 9 ∧ c ≠ 35
  | [], n, cm, c, r, h => by simp [skipG] at h
  | a :: s, n, cm, c, r, h => by
    unfold skipG at h
    split at h
    · exact skip_head s _ _ c r h
    · rename_i h1
      split at h
      · exact skip_head s _ _ c r h
      · rename_i h2
        split at h
        · exact skip_head s _ _ c r h
        · rename_i h3
          simp only [not_or] at h2
          cases h
          exact ⟨h1, h2.2.1, h2.2.2, h3⟩
def preR (out : List Tok) : Except Int (List Tok) → Except Int (List Tok)
  | .ok l => .ok (out ++ l)
  | .error e => .error e
def tokD : Except Int (List Tok) → D
  | .ok l => .sl (toks l)
  | .error _ => .nils
def tokN : Except Int (List Tok) → Int
  | .ok _ => 0
  | .error e => e
def tokF : Except Int (List Tok) → Int
  | .ok _ => 0
  | .error _ => 14
theorem ent_lex_Tokens : VM.Enters Tryz.prog 21 := VM.Enters.mk Tryz.func21 rfl
theorem lex_Tokens_cs (hS : G 0 = some sgCells) (s : List UInt8) (hl : s.length ≤ 900000000) : CS Tryz.prog G 21 [.str s] (.tup (if 40000 < s.length then [.nils, .int .i64 0, .int .i64 7] else
    [tokD (lexG numL s 0 1 false), .int .i64 (tokN (lexG numL s 0 1 false)), .int .i64 (tokF (lexG numL s 0 1 false))])) none := by
  obtain ⟨res, hres⟩ : ∃ x, lexG numL s 0 1 false = x := ⟨_, rfl⟩
  rw [hres]
  refine CS.of_VK Tryz.func21 rfl Tryz.ntmps21 rfl ?_
  by_cases hlong : 40000 < s.length
  · have h2 : (40000 : Int) < s.length := by omega
    simp [hlong, h2]
  have h2 : ¬ (40000 : Int) < s.length := by omega
  simp [hlong, h2]
  refine SW.loopF (ι := { x : List UInt8 × List Tok × Int // x.1.length ≤ s.length ∧ 1 ≤ x.2.2 ∧ x.2.2 + x.1.length ≤ s.length + 1 ∧ x.2.1.length + x.1.length ≤ s.length ∧ preR x.2.1 (lexG numL x.1 0 x.2.2 false) = res }) (fun x => [(0, .d (.str x.1.1)), (5, .d (.sl (toks x.1.2.1))), (6, .d (.int .i64 x.1.2.2))]) (fun _ => []) (fun _ => [(46, [.t 5])]) (fun x => x.1.1.length) ⟨(s, [], 1), by refine ⟨Nat.le_refl _, by simp, by simp; omega, by simp, ?_⟩; simp only; rw [hres]; cases res <;> rfl⟩ (by simp) ?_
  rintro ⟨⟨t, out, ln⟩, ht, hln, hb, ho, hR⟩
  try simp only at ht hln hb ho hR
  obtain ⟨q1, q2⟩ := skipG_le t 0 false
  have q3 := skipG_sum t 0 false
  have hsk := lexG_skip t 0 false ln
  have hhd := skip_head t 0 false
  simp
  refine callK.mk ent_lex_skip (lex_skip_cs t (by omega)) ?_
  obtain ⟨⟨rest, n⟩, hrn⟩ : ∃ x, skipG t 0 false = x := ⟨_, rfl⟩
  rw [hrn] at hsk hhd q1 q2 q3
  simp only [Int.natCast_zero, Int.add_zero] at hsk
  simp only at hsk hhd q1 q2 q3
  rw [hsk] at hR
  have hw : IntKind.i64.wrap (ln + n) = ln + n := wrap64 (by omega)
  have hsz : (out.length + 1) * 41 ≤ 140737488355328 := by omega
  simp [hrn, hw]
  cases rest with
  | nil =>
    have e : res = .ok (out ++ [⟨0, [], 0, ln + n⟩]) := by rw [← hR]; rfl
    simp [e, tokD, tokN, tokF, toks_snoc, hsz]
  | cons c r =>
    obtain ⟨g1, g2, g3, g4⟩ := hhd c r rfl
    rw [lexG_first (ln + n) g1 g2 g3 g4] at hR
    simp
    refine callK.mk ent_lex_first (lex_first_cs hS c r (by omega)) ?_
    obtain ⟨ff, hff⟩ : ∃ ff, firstT numL (c :: r) = ff := ⟨_, rfl⟩
    have hok := @first_ok numL (c :: r)
    rw [hff] at hR hok
    obtain ⟨k, tx, m, ok⟩ := ff
    simp only at hR hok
    cases ok with
    | false =>
      have e : res = .error (ln + n) := by rw [← hR]; rfl
      simp [hff, firstC, e, tokD, tokN, tokF]
    | true =>
      obtain ⟨p1, p2, _⟩ := hok rfl
      have hle := p2.length_le
      have hpos : 0 < tx.length := List.length_pos_iff.2 p1
      simp only [List.length_cons] at hle q2 q3
      simp [hff, firstC, hsz, hle]
      have hR2 : preR (out ++ [⟨k, tx, m, ln + n⟩]) (lexG numL ((c :: r).drop tx.length) 0 (ln + n) false) = res := by
        rw [← hR, if_pos rfl]
        generalize lexG numL ((c :: r).drop tx.length) 0 (ln + n) false = y
        cases y with
        | ok l => simp [preR]
        | error e => rfl
      have hdl : ((c :: r).drop tx.length).length = r.length + 1 - tx.length := by simp
      refine Again.mk ⟨((c :: r).drop tx.length, out ++ [⟨k, tx, m, ln + n⟩], ln + n), ?_⟩ (by simp [toks_snoc]) (by simp only [hdl]; omega)
      refine ⟨by simp only [hdl]; omega, by simp only; omega, by simp only [hdl]; omega, by simp only [hdl, List.length_append, List.length_cons, List.length_nil]; omega, hR2⟩
end Go.Proofs.YtlglfkdjlbcpjaaGreatDoor
end

section
set_option linter.unusedVariables false
set_option linter.unusedSimpArgs false
set_option linter.unusedSectionVars false
namespace Go.Proofs.YtlglfkdjlbcpjaaGreatDoor
open Go Go.VM
set_option maxRecDepth 100000
set_option maxHeartbeats 8000000
variable {G : GT}
def rightB (t : Tok) (last : Bool) : Bool :=
  if t.line < 1 then false else if t.kind = 0 then last && decide (t.text = []) && decide (t.n = 0)
  else if t.text = [] then false else decide (firstT numL t.text = (t.kind, t.text, t.n, true))
end Go.Proofs.YtlglfkdjlbcpjaaGreatDoor
end
