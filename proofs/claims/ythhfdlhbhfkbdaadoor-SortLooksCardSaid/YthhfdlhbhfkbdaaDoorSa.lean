/- Names: what the functions of the packages 'names' and its reference compute. No condition. -/
import Derived.Test.YthhfdlhbhfkbdaaDoorTy
set_option linter.unusedVariables false
set_option linter.unusedSimpArgs false
set_option linter.unusedSectionVars false
namespace Go.Proofs.YthhfdlhbhfkbdaaDoor
open Go Go.VM
set_option maxRecDepth 100000
variable {G : GT}

theorem wrap64 {n : Int} (h : -9223372036854775808 ≤ n ∧ n ≤ 9223372036854775807) : IntKind.i64.wrap n = n := by
  unfold IntKind.wrap
  simp [IntKind.bits, IntKind.signed]
  omega
theorem wrap64s {i : Nat} (h : i < 9223372036854775807) : IntKind.i64.wrap ((i : Int) + 1) = ((i + 1 : Nat) : Int) := by rw [wrap64 (by omega)]; simp

def smallB (c : Int) : Bool := decide (97 ≤ c) && decide (c ≤ 122)
def capB (c : Int) : Bool := decide (65 ≤ c) && decide (c ≤ 90)
def digB (c : Int) : Bool := decide (48 ≤ c) && decide (c ≤ 57)
def anB (c : Int) : Bool := smallB c || capB c || digB c
def wdB (c : Int) : Bool := smallB c || digB c || c == 95
def sizedB (s : List UInt8) : Bool := decide (1 ≤ s.length) && decide (s.length ≤ 24)
def all8 (p : Int → Bool) (s : List UInt8) : Bool := s.all fun c => p c.toNat
theorem all8_nil (p : Int → Bool) : all8 p [] = true := rfl
theorem all8_step {p : Int → Bool} {s : List UInt8} {i : Nat} {b : Bool} (he : b = all8 p (s.drop i)) (hlt : i < s.length) (hp : p s[i].toNat = true) : b = all8 p (s.drop (i + 1)) := by
  unfold all8 at he
  rw [he, List.drop_eq_getElem_cons hlt]
  simp only [List.all_cons, hp, Bool.true_and, all8]
theorem all8_stop {p : Int → Bool} {s : List UInt8} {i : Nat} {b : Bool} (he : b = all8 p (s.drop i)) (hlt : i < s.length) (hp : p s[i].toNat = false) : b = false := by
  unfold all8 at he
  rw [he, List.drop_eq_getElem_cons hlt]
  simp only [List.all_cons, hp, Bool.false_and]
theorem all8_end {p : Int → Bool} {s : List UInt8} {i : Nat} {b : Bool} (he : b = all8 p (s.drop i)) (hlt : ¬ i < s.length) : b = true := by
  rw [he, List.drop_of_length_le (by omega)]
  rfl

theorem any_step {α : Type} {f : α → Bool} {l : List α} {i : Nat} {b : Bool} (he : b = (l.drop i).any f) (hlt : i < l.length) (hp : f l[i] = false) : b = (l.drop (i + 1)).any f := by
  rw [he, List.drop_eq_getElem_cons hlt]
  simp only [List.any_cons, hp, Bool.false_or]
theorem any_stop {α : Type} {f : α → Bool} {l : List α} {i : Nat} {b : Bool} (he : b = (l.drop i).any f) (hlt : i < l.length) (hp : f l[i] = true) : b = true := by
  rw [he, List.drop_eq_getElem_cons hlt]
  simp only [List.any_cons, hp, Bool.true_or]
theorem any_end {α : Type} {f : α → Bool} {l : List α} {i : Nat} {b : Bool} (he : b = (l.drop i).any f) (hlt : ¬ i < l.length) : b = false := by
  rw [he, List.drop_of_length_le (by omega)]
  rfl
theorem all_step {α : Type} {f : α → Bool} {l : List α} {i : Nat} {b : Bool} (he : b = (l.drop i).all f) (hlt : i < l.length) (hp : f l[i] = true) : b = (l.drop (i + 1)).all f := by
  rw [he, List.drop_eq_getElem_cons hlt]
  simp only [List.all_cons, hp, Bool.true_and]
theorem all_stop {α : Type} {f : α → Bool} {l : List α} {i : Nat} {b : Bool} (he : b = (l.drop i).all f) (hlt : i < l.length) (hp : f l[i] = false) : b = false := by
  rw [he, List.drop_eq_getElem_cons hlt]
  simp only [List.all_cons, hp, Bool.false_and]
theorem all_end {α : Type} {f : α → Bool} {l : List α} {i : Nat} {b : Bool} (he : b = (l.drop i).all f) (hlt : ¬ i < l.length) : b = true := by
  rw [he, List.drop_of_length_le (by omega)]
  rfl
theorem ent_n_small : Enters Tryd.prog 63 := Enters.mk Tryd.func63 rfl
theorem ent_n_digit : Enters Tryd.prog 65 := Enters.mk Tryd.func65 rfl
theorem ent_n_capital : Enters Tryd.prog 66 := Enters.mk Tryd.func66 rfl
theorem ent_r4_small : Enters Tryd.prog 59 := Enters.mk Tryd.func59 rfl
theorem ent_r4_digit : Enters Tryd.prog 61 := Enters.mk Tryd.func61 rfl
theorem ent_r4_capital : Enters Tryd.prog 62 := Enters.mk Tryd.func62 rfl
theorem ent_n_sized : Enters Tryd.prog 55 := Enters.mk Tryd.func55 rfl
theorem ent_n_alphanumeric : Enters Tryd.prog 56 := Enters.mk Tryd.func56 rfl
theorem ent_n_word : Enters Tryd.prog 57 := Enters.mk Tryd.func57 rfl
theorem n_small_cs (c : Int) : CS Tryd.prog G 63 [.int .u8 c] (.d (.bool (smallB c))) none := by
  refine CS.of_VK Tryd.func63 rfl Tryd.ntmps63 rfl ?_
  by_cases h : 97 ≤ c <;> simp [smallB, h]
theorem n_digit_cs (c : Int) : CS Tryd.prog G 65 [.int .u8 c] (.d (.bool (digB c))) none := by
  refine CS.of_VK Tryd.func65 rfl Tryd.ntmps65 rfl ?_
  by_cases h : 48 ≤ c <;> simp [digB, h]
theorem n_capital_cs (c : Int) : CS Tryd.prog G 66 [.int .u8 c] (.d (.bool (capB c))) none := by
  refine CS.of_VK Tryd.func66 rfl Tryd.ntmps66 rfl ?_
  by_cases h : 65 ≤ c <;> simp [capB, h]
theorem r4_small_cs (c : Int) : CS Tryd.prog G 59 [.int .u8 c] (.d (.bool (smallB c))) none := by
  refine CS.of_VK Tryd.func59 rfl Tryd.ntmps59 rfl ?_
  by_cases h : 97 ≤ c <;> simp [smallB, h]
theorem r4_digit_cs (c : Int) : CS Tryd.prog G 61 [.int .u8 c] (.d (.bool (digB c))) none := by
  refine CS.of_VK Tryd.func61 rfl Tryd.ntmps61 rfl ?_
  by_cases h : 48 ≤ c <;> simp [digB, h]
theorem r4_capital_cs (c : Int) : CS Tryd.prog G 62 [.int .u8 c] (.d (.bool (capB c))) none := by
  refine CS.of_VK Tryd.func62 rfl Tryd.ntmps62 rfl ?_
  by_cases h : 65 ≤ c <;> simp [capB, h]
theorem n_sized_cs (s : List UInt8) : CS Tryd.prog G 55 [.str s] (.d (.bool (sizedB s))) none := by
  refine CS.of_VK Tryd.func55 rfl Tryd.ntmps55 rfl ?_
  by_cases h : 1 ≤ s.length <;> simp [sizedB, h]
theorem n_alphanumeric_cs (s : List UInt8) (hs : s.length ≤ 1000000) : CS Tryd.prog G 56 [.str s] (.d (.bool (all8 anB s))) none := by
  refine CS.of_VK Tryd.func56 rfl Tryd.ntmps56 rfl ?_
  simp
  refine SW.loopF (ι := { i : Nat // i ≤ s.length ∧ all8 anB s = all8 anB (s.drop i) }) (fun i => [(3, .d (.int .i64 i.1))]) (fun _ => []) (fun _ => []) (fun i => s.length - i.1) ⟨0, by simp⟩ (by simp) ?_
  rintro ⟨i, hi, he⟩
  by_cases hlt : i < s.length
  · simp [hlt]
    refine callK.mk ent_n_small (n_small_cs _) ?_
    have hw := wrap64s (show i < 9223372036854775807 by omega)
    cases h1 : smallB s[i].toNat
    · simp [hlt]
      refine callK.mk ent_n_capital (n_capital_cs _) ?_
      cases h2 : capB s[i].toNat
      · simp [hlt]
        refine callK.mk ent_n_digit (n_digit_cs _) ?_
        cases h3 : digB s[i].toNat
        · simp [hlt]
          exact all8_stop he hlt (by simp [anB, h1, h2, h3])
        · simp [hlt]
          exact Again.mk ⟨i + 1, hlt, all8_step he hlt (by simp [anB, h3])⟩ (by simp [hw]) (by simp; omega)
      · simp [hlt]
        exact Again.mk ⟨i + 1, hlt, all8_step he hlt (by simp [anB, h2])⟩ (by simp [hw]) (by simp; omega)
    · simp [hlt]
      exact Again.mk ⟨i + 1, hlt, all8_step he hlt (by simp [anB, h1])⟩ (by simp [hw]) (by simp; omega)
  · simp [hlt]
    exact all8_end he hlt
/-- A word, its first byte a small letter. -/
def wordB (s : List UInt8) : Bool := all8 wdB s && (match s with | [] => true | c :: _ => smallB c.toNat)
theorem n_word_cs (s : List UInt8) (hs : s.length ≤ 1000000) : CS Tryd.prog G 57 [.str s] (.d (.bool (wordB s))) none := by
  refine CS.of_VK Tryd.func57 rfl Tryd.ntmps57 rfl ?_
  simp
  refine SW.loopF (ι := { i : Nat // i ≤ s.length ∧ (0 < i → all8 wdB s = all8 wdB (s.drop i) ∧ wordB s = all8 wdB s) }) (fun i => [(3, .d (.int .i64 i.1))]) (fun _ => []) (fun _ => []) (fun i => s.length - i.1) ⟨0, by simp⟩ (by simp) ?_
  rintro ⟨i, hi, he⟩
  by_cases hlt : i < s.length
  · have hnx : wdB s[i].toNat = true → (i = 0 → smallB s[i].toNat = true) → (0 < i + 1 → all8 wdB s = all8 wdB (s.drop (i + 1)) ∧ wordB s = all8 wdB s) := fun hp h0 _ => by
        rcases Nat.eq_zero_or_pos i with hz | hz
        · subst hz
          refine ⟨all8_step (i := 0) rfl hlt hp, ?_⟩
          cases s with
          | nil => rfl
          | cons c s => have := h0 rfl; simp at this; simp [wordB, this]
        · exact ⟨all8_step (he hz).1 hlt hp, (he hz).2⟩
    have hw := wrap64s (show i < 9223372036854775807 by omega)
    have hst : wdB s[i].toNat = false → wordB s = false := fun hp => by
      rcases Nat.eq_zero_or_pos i with hz | hz
      · subst hz
        have := all8_stop (b := all8 wdB s) (i := 0) rfl hlt hp
        simp [wordB, this]
      · rw [(he hz).2]; exact all8_stop (he hz).1 hlt hp
    simp [hlt]
    refine callK.mk ent_n_small (n_small_cs _) ?_
    cases h1 : smallB s[i].toNat
    · rcases Nat.eq_zero_or_pos i with hz | hz
      · subst hz
        simp [hlt]
        cases s with
        | nil => simp at hlt
        | cons c s => simp at h1; simp [wordB, h1]
      · have hz' : ¬ i = 0 := by omega
        simp [hlt, hz']
        refine callK.mk ent_n_digit (n_digit_cs _) ?_
        cases h3 : digB s[i].toNat
        · by_cases h4 : s[i].toNat = 95
          · simp [hlt, h4]
            exact Again.mk ⟨i + 1, hlt, hnx (by simp [wdB, h4]) (fun h => absurd h hz')⟩ (by simp [hw]) (by simp; omega)
          · have h5 : ¬ ((s[i].toNat : Int) = 95) := by omega
            simp [hlt, h4, h5]
            exact hst (by simp [wdB, h1, h3, h5])
        · simp [hlt]
          exact Again.mk ⟨i + 1, hlt, hnx (by simp [wdB, h3]) (fun h => absurd h hz')⟩ (by simp [hw]) (by simp; omega)
    · simp [hlt]
      exact Again.mk ⟨i + 1, hlt, hnx (by simp [wdB, h1]) (fun _ => h1)⟩ (by simp [hw]) (by simp; omega)
  · simp [hlt]
    rcases Nat.eq_zero_or_pos i with hz | hz
    · subst hz
      have : s = [] := by simpa using hlt
      subst this
      rfl
    · rw [(he hz).2]; exact all8_end (he hz).1 hlt
end Go.Proofs.YthhfdlhbhfkbdaaDoor
