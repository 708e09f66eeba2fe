/- Joined texts. Numbers: bounds, sums, differences, products. Numbers: quotients, rests, greatest common divisors. Numerals: digits, values, what is read. The library's contracts: this seat wants none. Numerals: what the functions answer. No condition. -/
import Derived.Test.YtbacejmdgfalpaaDoorTy
import Derived.Test.YtbacejmdgfalpaaDoorZ4
import Derived.Test.YtbacejmdgfalpaaDoorZ6
import Derived.Test.YtbacejmdgfalpaaDoorProg
import Derived.Lib.ItoaLen
section
set_option linter.unusedVariables false
set_option linter.unusedSimpArgs false
set_option linter.unusedSectionVars false
namespace Go.Proofs.YtbacejmdgfalpaaDoor
open Go Go.VM
set_option maxRecDepth 100000
set_option maxHeartbeats 4000000
variable {G : GT}
/-- A number that an int holds. -/
def I64 (n : Int) : Prop := -9223372036854775808 ≤ n ∧ n ≤ 9223372036854775807
def inB (n : Int) : Bool := decide (-1000000000000 ≤ n) && decide (n ≤ 1000000000000)
theorem inB_iff {n : Int} : inB n = true ↔ -1000000000000 ≤ n ∧ n ≤ 1000000000000 := by simp [inB]
/-- A number, if it is right and in bounds. -/
def chk (n : Int) (ok : Bool) : Int × Bool := if ok && inB n then (n, true) else (0, false)
def addZ (a b : Int) : Int × Bool := chk (a + b) (inB a && inB b)
def subZ (a b : Int) : Int × Bool := chk (a - b) (inB a && inB b)
def mulZ (a b : Int) : Int × Bool := chk (a * b) (inB a && inB b)
/-- The absolute value; the least int counts as the greatest number. -/
def absZ (n : Int) : Int := if n = -9223372036854775808 then 1000000000000 else n.natAbs
theorem absZ_in {n : Int} (h : inB n = true) : absZ n = n.natAbs := by
  have := inB_iff.1 h
  unfold absZ
  rw [if_neg (by omega)]
theorem mul_fit {a b : Int} (ha : inB a = true) (hb : inB b = true) (h0 : ¬ a = 0) (h1 : ¬ b = 0) :
    (1000000000000 : Int).tdiv (a.natAbs : Int) < (b.natAbs : Int) ↔ inB (a * b) = false := by
  have e1 : (1000000000000 : Int).tdiv (a.natAbs : Int) = ((1000000000000 / a.natAbs : Nat) : Int) := rfl
  rw [e1, Int.ofNat_lt, Nat.div_lt_iff_lt_mul (by omega), ← Nat.mul_comm, ← Int.natAbs_mul]
  have : inB (a * b) = false ↔ ¬ inB (a * b) = true := by simp
  rw [this, inB_iff]
  omega
end Go.Proofs.YtbacejmdgfalpaaDoor
end

section
set_option linter.unusedVariables false
set_option linter.unusedSimpArgs false
set_option linter.unusedSectionVars false
namespace Go.Proofs.YtbacejmdgfalpaaDoor
open Go Go.VM
set_option maxRecDepth 100000
set_option maxHeartbeats 4000000
variable {G : GT}
theorem tm_parts (a b : Int) (hb : ¬ b = 0) : ∃ q r, a.tdiv b = q ∧ a.tmod b = r ∧ b * q + r = a ∧ r.natAbs < b.natAbs ∧ q.natAbs ≤ a.natAbs ∧ (0 ≤ a → 0 ≤ r) ∧ (a ≤ 0 → r ≤ 0) := by
  refine ⟨_, _, rfl, rfl, Int.mul_tdiv_add_tmod a b, ?_, ?_, Int.tmod_nonneg b, fun h => ?_⟩
  · rw [Int.natAbs_tmod]
    exact Nat.mod_lt _ (by omega)
  · rw [Int.natAbs_tdiv]
    exact Nat.div_le_self _ _
  · have := Int.tmod_nonneg (a := -a) b (by omega)
    rw [Int.neg_tmod] at this
    omega
def adjB (b r : Int) : Bool := decide (¬ r = 0) && (decide (r < 0) != decide (b < 0))
def quoZ (a b : Int) : Int := if adjB b (a.tmod b) then a.tdiv b - 1 else a.tdiv b
def remZ (a b : Int) : Int := if adjB b (a.tmod b) then a.tmod b + b else a.tmod b
def dOk (a b : Int) : Bool := inB a && inB b && !decide (b = 0)
def divZ (a b : Int) : Int × Bool := if dOk a b then (quoZ a b, true) else (0, false)
def modZ (a b : Int) : Int × Bool := if dOk a b then (remZ a b, true) else (0, false)
/-- The greatest common divisor. -/
def gcdZ (a b : Int) : Int := ((Nat.gcd (absZ a).natAbs (absZ b).natAbs : Nat) : Int)
theorem absZ_bound {n : Int} (h : I64 n) : 0 ≤ absZ n ∧ absZ n ≤ 9223372036854775807 := by
  unfold I64 at h
  unfold absZ
  split <;> omega
end Go.Proofs.YtbacejmdgfalpaaDoor
end

section
set_option linter.unusedVariables false
set_option linter.unusedSimpArgs false
set_option linter.unusedSectionVars false
namespace Go.Proofs.YtbacejmdgfalpaaDoor
open Go Go.VM
set_option maxRecDepth 100000
def isDg (c : UInt8) : Bool := decide (48 ≤ c.toNat) && decide (c.toNat ≤ 57)
def valF (a : Nat) (l : List UInt8) : Nat := l.foldl (fun a c => 10 * a + (c.toNat - 48)) a
def valN (l : List UInt8) : Nat := valF 0 l
theorem valN_snoc (l : List UInt8) (c : UInt8) : valN (l ++ [c]) = 10 * valN l + (c.toNat - 48) := by simp [valN, valF]
theorem valN_nil : valN [] = 0 := rfl
theorem valN_take {l : List UInt8} {i : Nat} (h : i < l.length) : valN (l.take (i + 1)) = 10 * valN (l.take i) + (l[i].toNat - 48) := by
  rw [List.take_succ_eq_append_getElem h, valN_snoc]
theorem isDg_iff {c : UInt8} : isDg c = true ↔ 48 ≤ c.toNat ∧ c.toNat ≤ 57 := by simp [isDg]
theorem ofDg {k : Nat} (h : k < 10) : (UInt8.ofNat (48 + k)).toNat = 48 + k := by simp; omega
theorem dg_eq {c : UInt8} (h : isDg c = true) : UInt8.ofNat (48 + (c.toNat - 48)) = c := by
  have := isDg_iff.1 h
  apply UInt8.toNat.inj
  rw [ofDg (by omega)]
  omega
theorem dd_small {u : Nat} (h : u < 10) : Lib.decDigits u = [UInt8.ofNat (48 + u)] := by unfold Lib.decDigits; rw [dif_pos h]
theorem dd_step {u : Nat} (h : ¬ u < 10) : Lib.decDigits u = Lib.decDigits (u / 10) ++ [UInt8.ofNat (48 + u % 10)] := by
  conv => lhs; unfold Lib.decDigits
  rw [dif_neg h]
theorem dd_all (u : Nat) : Lib.decDigits u ≠ [] ∧ (∀ c ∈ Lib.decDigits u, isDg c = true) ∧ valN (Lib.decDigits u) = u ∧ (1 ≤ u → (Lib.decDigits u).head? ≠ some 48) := by
  induction u using Nat.strongRecOn with
  | _ u ih =>
    by_cases hu : u < 10
    · rw [dd_small hu]
      refine ⟨by simp, fun c hc => ?_, ?_, fun h1 => ?_⟩
      · rw [List.mem_singleton] at hc
        subst hc
        rw [isDg_iff, ofDg hu]
        omega
      · rw [show [UInt8.ofNat (48 + u)] = [] ++ [UInt8.ofNat (48 + u)] from rfl, valN_snoc, valN_nil, ofDg hu]
        omega
      · simp only [List.head?_cons, ne_eq, Option.some.injEq]
        intro he
        have := congrArg UInt8.toNat he
        rw [ofDg hu] at this
        simp at this
        omega
    · have hlt : u % 10 < 10 := Nat.mod_lt _ (by omega)
      obtain ⟨q1, q2, q3, q4⟩ := ih (u / 10) (by omega)
      rw [dd_step hu]
      refine ⟨by simp, fun c hc => ?_, ?_, fun h1 => ?_⟩
      · rcases List.mem_append.1 hc with hc | hc
        · exact q2 c hc
        · rw [List.mem_singleton] at hc
          subst hc
          rw [isDg_iff, ofDg hlt]
          omega
      · rw [valN_snoc, q3, ofDg hlt]
        omega
      · have := q4 (by omega)
        cases hd : Lib.decDigits (u / 10) with
        | nil => exact absurd hd q1
        | cons c r => rw [hd] at this; simpa using this
theorem dd_len : ∀ (k u : Nat), u < 10 ^ (k + 1) → (Lib.decDigits u).length ≤ k + 1
  | 0, u, h => by rw [dd_small (by simpa using h)]; simp
  | k + 1, u, h => by
    by_cases hu : u < 10
    · rw [dd_small hu]; simp
    · rw [dd_step hu, List.length_append]
      have := dd_len k (u / 10) (by rw [Nat.div_lt_iff_lt_mul (by omega)]; simpa [Nat.pow_succ] using h)
      simp
      omega
/-- A numeral: digits, the first not 0 unless it is the only one. -/
def canon (l : List UInt8) : Prop := l ≠ [] ∧ (∀ c ∈ l, isDg c = true) ∧ (l.head? = some 48 → l.length = 1)
theorem canon_dd : ∀ (n : Nat) (l : List UInt8), l.length = n → canon l → Lib.decDigits (valN l) = l ∧ (l.head? ≠ some 48 → 1 ≤ valN l) := by
  intro n
  induction n with
  | zero => intro l hl h; exact absurd (List.length_eq_zero_iff.1 hl) h.1
  | succ n ih =>
    intro l hl h
    obtain ⟨h1, h2, h3⟩ := h
    have hs := List.dropLast_concat_getLast h1
    have hc := h2 _ (List.getLast_mem h1)
    generalize hm : l.getLast h1 = c at *
    generalize hk : l.dropLast = r at *
    subst hs
    have hcd := isDg_iff.1 hc
    rw [valN_snoc]
    cases r with
    | nil =>
      rw [valN_nil, Nat.mul_zero, Nat.zero_add, dd_small (by omega), List.nil_append, dg_eq hc]
      refine ⟨rfl, fun hh => ?_⟩
      simp at hh
      have : c.toNat ≠ 48 := fun e => hh (UInt8.toNat.inj (by simpa using e))
      omega
    | cons d r =>
      have hhd : d ≠ 48 := fun e => by
        have := h3 (by simp [e])
        simp at this
      obtain ⟨q1, q2⟩ := ih (d :: r) (by simpa using hl) ⟨by simp, fun x hx => h2 x (by simp at hx ⊢; rcases hx with hx | hx <;> simp [hx]), fun e => by simp at e; exact absurd e hhd⟩
      have hv := q2 (by simpa using hhd)
      refine ⟨?_, fun _ => by omega⟩
      rw [dd_step (by omega)]
      have e1 : (10 * valN (d :: r) + (c.toNat - 48)) / 10 = valN (d :: r) := by omega
      have e2 : (10 * valN (d :: r) + (c.toNat - 48)) % 10 = c.toNat - 48 := by omega
      rw [e1, e2, q1, dg_eq hc]
/-- Is it a minus sign that stands first? -/
def negB (s : List UInt8) : Bool := decide (s.head? = some 45)
def bodyL (s : List UInt8) : List UInt8 := if negB s then s.tail else s
def sgn (b : Bool) (v : Nat) : Int := if b then -(v : Int) else v
/-- The form of what can be read. -/
def formB (s : List UInt8) : Bool := decide (1 ≤ (bodyL s).length) && decide ((bodyL s).length ≤ 13) && !(decide ((bodyL s).head? = some 48) && (negB s || decide (1 < (bodyL s).length)))
def parseZ (s : List UInt8) : Int × Bool := if formB s && (bodyL s).all isDg then chk (sgn (negB s) (valN (bodyL s))) true else (0, false)
theorem form_canon {s : List UInt8} (h1 : formB s = true) (h2 : (bodyL s).all isDg = true) : canon (bodyL s) ∧ (bodyL s).length ≤ 13 ∧ (negB s = true → (bodyL s).head? ≠ some 48) := by
  simp only [formB, Bool.and_eq_true, decide_eq_true_eq, Bool.not_eq_true', Bool.and_eq_false_iff, decide_eq_false_iff_not, Bool.or_eq_false_iff] at h1
  obtain ⟨⟨g1, g2⟩, g3⟩ := h1
  refine ⟨⟨fun e => by rw [e] at g1; simp at g1, by simpa using h2, fun e => ?_⟩, g2, fun e hh => ?_⟩
  · rcases g3 with g3 | g3
    · exact absurd e g3
    · omega
  · rcases g3 with g3 | g3
    · exact absurd hh g3
    · rw [e] at g3; exact absurd g3.1 (by simp)
theorem body_neg {s : List UInt8} (h : negB s = true) : s = 45 :: bodyL s := by
  unfold bodyL
  rw [if_pos h]
  simp only [negB, decide_eq_true_eq] at h
  cases s with
  | nil => simp at h
  | cons c r => simp at h; simp [h]
theorem body_pos {s : List UInt8} (h : negB s = false) : s = bodyL s := by
  unfold bodyL
  rw [h]
  rfl
theorem itoa_pos (v : Nat) : Lib.itoa (v : Int) = Lib.decDigits v := by unfold Lib.itoa; rw [if_neg (by omega)]; simp
theorem itoa_neg {v : Nat} (h : 1 ≤ v) : Lib.itoa (-(v : Int)) = 45 :: Lib.decDigits v := by unfold Lib.itoa; rw [if_pos (by omega)]; simp
/-- What is read is written so. -/
theorem itoa_form {s : List UInt8} (h1 : formB s = true) (h2 : (bodyL s).all isDg = true) : Lib.itoa (sgn (negB s) (valN (bodyL s))) = s := by
  obtain ⟨g1, g2, g3⟩ := form_canon h1 h2
  obtain ⟨g4, g5⟩ := canon_dd _ _ rfl g1
  cases hn : negB s
  · have hb := body_pos hn
    simp only [sgn, Bool.false_eq_true, if_false]
    rw [itoa_pos, g4, ← hb]
  · have hb := body_neg hn
    simp only [sgn, if_true]
    rw [itoa_neg (g5 (g3 hn)), g4, ← hb]
theorem chk_fst {n : Int} (h : (chk n true).2 = true) : (chk n true).1 = n ∧ inB n = true := by
  unfold chk at h ⊢
  cases hn : inB n <;> simp [hn] at h ⊢
theorem parse_itoa {s : List UInt8} (h : (parseZ s).2 = true) : Lib.itoa (parseZ s).1 = s ∧ inB (parseZ s).1 = true := by
  unfold parseZ at h ⊢
  split at h
  · rename_i hc
    rw [if_pos hc]
    simp only [Bool.and_eq_true] at hc
    obtain ⟨g1, g2⟩ := chk_fst h
    rw [g1]
    exact ⟨itoa_form hc.1 hc.2, g2⟩
  · cases h
theorem itoa_parts (n : Int) : negB (Lib.itoa n) = decide (n < 0) ∧ bodyL (Lib.itoa n) = Lib.decDigits n.natAbs ∧ sgn (negB (Lib.itoa n)) (valN (bodyL (Lib.itoa n))) = n := by
  have hd := fun u => dd_all u
  have hneg : negB (Lib.itoa n) = decide (n < 0) := by
    unfold negB Lib.itoa
    by_cases h : n < 0
    · simp [h]
    · rw [if_neg h]
      obtain ⟨q1, q2, _⟩ := hd n.toNat
      cases hc : Lib.decDigits n.toNat with
      | nil => exact absurd hc q1
      | cons c r =>
        have := q2 c (by rw [hc]; simp)
        rw [isDg_iff] at this
        have h45 : ¬ c = 45 := fun e => by rw [e] at this; simp at this
        simp [h, h45]
  have hbody : bodyL (Lib.itoa n) = Lib.decDigits n.natAbs := by
    unfold bodyL
    rw [hneg]
    unfold Lib.itoa
    by_cases h : n < 0
    · simp [h]
    · have : n.toNat = n.natAbs := by omega
      simp [h, this]
  refine ⟨hneg, hbody, ?_⟩
  rw [hneg, hbody, (hd n.natAbs).2.2.1]
  unfold sgn
  by_cases h : n < 0
  · simp [h]; omega
  · simp [h]; omega
/-- What is written is read, if it is in bounds. -/
theorem parse_of_itoa (n : Int) : parseZ (Lib.itoa n) = chk n true := by
  obtain ⟨h1, h2, h3⟩ := itoa_parts n
  obtain ⟨q1, q2, q3, q4⟩ := dd_all n.natAbs
  unfold parseZ
  by_cases hf : formB (Lib.itoa n) = true
  · have hall : (bodyL (Lib.itoa n)).all isDg = true := by rw [h2]; simpa using q2
    rw [hf, hall, h3]
    simp
  · have hb : inB n = false := by
      cases hn : inB n
      · rfl
      · exfalso
        have hb := inB_iff.1 hn
        apply hf
        unfold formB
        rw [h2, h1]
        have hl : 1 ≤ (Lib.decDigits n.natAbs).length := by
          cases hc : Lib.decDigits n.natAbs with
          | nil => exact absurd hc q1
          | cons => simp
        have hl2 := dd_len 12 n.natAbs (by simp; omega)
        by_cases h0 : n = 0
        · subst h0
          have : Lib.decDigits (0 : Int).natAbs = [48] := by rw [dd_small (by decide)]; rfl
          rw [this]
          rfl
        · have := q4 (by omega)
          simp [hl, hl2, this]
    simp [hf, chk, hb]
/-- A value out of bounds is not read. -/
theorem parse_big {s : List UInt8} (h : 1000000000000 < valN (bodyL s)) : parseZ s = (0, false) := by
  unfold parseZ
  split
  · have : inB (sgn (negB s) (valN (bodyL s))) = false := by
      cases hb : inB (sgn (negB s) (valN (bodyL s)))
      · rfl
      · have := inB_iff.1 hb
        unfold sgn at this
        split at this <;> omega
    simp [chk, this]
  · rfl
theorem parse_bad {s : List UInt8} (h : (bodyL s).all isDg = false) : parseZ s = (0, false) := by simp [parseZ, h]
/-- What the reference asks at its end. -/
theorem parse_end {s : List UInt8} (h : (bodyL s).all isDg = true) : parseZ s = if inB (sgn (negB s) (valN (bodyL s))) && decide (Lib.itoa (sgn (negB s) (valN (bodyL s))) = s) then (sgn (negB s) (valN (bodyL s)), true) else (0, false) := by
  generalize hn : sgn (negB s) (valN (bodyL s)) = n
  by_cases hi : Lib.itoa n = s
  · have := parse_of_itoa n
    rw [hi] at this
    rw [this, hi]
    simp [chk]
  · have hf : formB s = false := by
      cases hf : formB s
      · rfl
      · exact absurd (hn ▸ itoa_form hf h) hi
    simp [hi, parseZ, hf]
theorem valF_le (l : List UInt8) (a : Nat) : a ≤ valF a l := by
  induction l generalizing a with
  | nil => exact Nat.le_refl _
  | cons c r ih =>
    have := ih (10 * a + (c.toNat - 48))
    simp only [valF, List.foldl_cons] at this ⊢
    omega
theorem valN_app (l r : List UInt8) : valN (l ++ r) = valF (valN l) r := by simp [valN, valF]
theorem valN_mono (l : List UInt8) (i : Nat) : valN (l.take i) ≤ valN l := by
  conv => rhs; rw [← List.take_append_drop i l, valN_app]
  exact valF_le _ _
/-- A further digit makes a number ten times as large. -/
theorem valN_more {l : List UInt8} {i : Nat} (h : i < l.length) : 10 * valN (l.take i) ≤ valN l := by
  have h1 := valN_take h
  have h2 := valN_mono l (i + 1)
  omega
end Go.Proofs.YtbacejmdgfalpaaDoor
end

section
namespace Go.Proofs
end Go.Proofs
end

section
set_option linter.unusedVariables false
set_option linter.unusedSimpArgs false
set_option linter.unusedSectionVars false
namespace Go.Proofs.YtbacejmdgfalpaaDoor
open Go Go.VM
set_option maxRecDepth 100000
set_option maxHeartbeats 4000000
variable {G : GT}
def powCells : List D := Lib.pow10Tab.map (.int .u64)
/-- The digits of a number that is not 0; of 0 none. -/
def dig0 (u : Nat) : List UInt8 := if u = 0 then [] else Lib.decDigits u
theorem dig0_step {u : Nat} (h : ¬ u = 0) : dig0 u = dig0 (u / 10) ++ [UInt8.ofNat (48 + u % 10)] := by
  unfold dig0
  rw [if_neg h]
  by_cases hu : u < 10
  · have : u / 10 = 0 := by omega
    rw [if_pos this, dd_small hu]
    have : u % 10 = u := Nat.mod_eq_of_lt hu
    rw [this]; rfl
  · rw [if_neg (by omega), dd_step hu]
end Go.Proofs.YtbacejmdgfalpaaDoor
end
