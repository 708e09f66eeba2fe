/- Joined texts. Names: what the functions of the packages 'names' and its reference compute. Names: keywords, names, titles. Names: core names, in the package 'names'. Names: the reference. No condition. -/
import Derived.Test.YtcmpodbjhoeblaaDoorTy
set_option linter.unusedVariables false
set_option linter.unusedSimpArgs false
set_option linter.unusedSectionVars false
namespace Go.Proofs.YtcmpodbjhoeblaaDoor
open Go Go.VM
set_option maxRecDepth 100000
variable {G : GT}

theorem wrap64 {n : Int} (h : -9223372036854775808 ≤ n ∧ n ≤ 9223372036854775807) : IntKind.i64.wrap n = n := by
  unfold IntKind.wrap
  simp [IntKind.bits, IntKind.signed]
  omega
theorem wrap64s {i : Nat} (h : i < 9223372036854775807) : IntKind.i64.wrap ((i : Int) + 1) = ((i + 1 : Nat) : Int) := by rw [wrap64 (by omega)]; simp

def smallB (c : Int) : Bool := decide (97 ≤ c) && decide (c ≤ 122)
def capB (c : Int) : Bool := decide (65 ≤ c) && decide (c ≤ 90)
def digB (c : Int) : Bool := decide (48 ≤ c) && decide (c ≤ 57)
def anB (c : Int) : Bool := smallB c || capB c || digB c
def wdB (c : Int) : Bool := smallB c || digB c || c == 95
def sizedB (s : List UInt8) : Bool := decide (1 ≤ s.length) && decide (s.length ≤ 24)
def all8 (p : Int → Bool) (s : List UInt8) : Bool := s.all fun c => p c.toNat
theorem all8_nil (p : Int → Bool) : all8 p [] = true := rfl
theorem all8_step {p : Int → Bool} {s : List UInt8} {i : Nat} {b : Bool} (he : b = all8 p (s.drop i)) (hlt : i < s.length) (hp : p s[i].toNat = true) : b = all8 p (s.drop (i + 1)) := by
  unfold all8 at he
  rw [he, List.drop_eq_getElem_cons hlt]
  simp only [List.all_cons, hp, Bool.true_and, all8]
theorem all8_stop {p : Int → Bool} {s : List UInt8} {i : Nat} {b : Bool} (he : b = all8 p (s.drop i)) (hlt : i < s.length) (hp : p s[i].toNat = false) : b = false := by
  unfold all8 at he
  rw [he, List.drop_eq_getElem_cons hlt]
  simp only [List.all_cons, hp, Bool.false_and]
theorem all8_end {p : Int → Bool} {s : List UInt8} {i : Nat} {b : Bool} (he : b = all8 p (s.drop i)) (hlt : ¬ i < s.length) : b = true := by
  rw [he, List.drop_of_length_le (by omega)]
  rfl

theorem any_step {α : Type} {f : α → Bool} {l : List α} {i : Nat} {b : Bool} (he : b = (l.drop i).any f) (hlt : i < l.length) (hp : f l[i] = false) : b = (l.drop (i + 1)).any f := by
  rw [he, List.drop_eq_getElem_cons hlt]
  simp only [List.any_cons, hp, Bool.false_or]
theorem any_stop {α : Type} {f : α → Bool} {l : List α} {i : Nat} {b : Bool} (he : b = (l.drop i).any f) (hlt : i < l.length) (hp : f l[i] = true) : b = true := by
  rw [he, List.drop_eq_getElem_cons hlt]
  simp only [List.any_cons, hp, Bool.true_or]
theorem any_end {α : Type} {f : α → Bool} {l : List α} {i : Nat} {b : Bool} (he : b = (l.drop i).any f) (hlt : ¬ i < l.length) : b = false := by
  rw [he, List.drop_of_length_le (by omega)]
  rfl
theorem all_step {α : Type} {f : α → Bool} {l : List α} {i : Nat} {b : Bool} (he : b = (l.drop i).all f) (hlt : i < l.length) (hp : f l[i] = true) : b = (l.drop (i + 1)).all f := by
  rw [he, List.drop_eq_getElem_cons hlt]
  simp only [List.all_cons, hp, Bool.true_and]
theorem all_stop {α : Type} {f : α → Bool} {l : List α} {i : Nat} {b : Bool} (he : b = (l.drop i).all f) (hlt : i < l.length) (hp : f l[i] = false) : b = false := by
  rw [he, List.drop_eq_getElem_cons hlt]
  simp only [List.all_cons, hp, Bool.false_and]
theorem all_end {α : Type} {f : α → Bool} {l : List α} {i : Nat} {b : Bool} (he : b = (l.drop i).all f) (hlt : ¬ i < l.length) : b = true := by
  rw [he, List.drop_of_length_le (by omega)]
  rfl
theorem ent_n_small : VM.Enters Tryd.prog 60 := VM.Enters.mk Tryd.func60 rfl
theorem ent_n_digit : VM.Enters Tryd.prog 62 := VM.Enters.mk Tryd.func62 rfl
theorem ent_n_capital : VM.Enters Tryd.prog 63 := VM.Enters.mk Tryd.func63 rfl
theorem ent_n_sized : VM.Enters Tryd.prog 55 := VM.Enters.mk Tryd.func55 rfl
theorem ent_n_alphanumeric : VM.Enters Tryd.prog 56 := VM.Enters.mk Tryd.func56 rfl
theorem ent_n_word : VM.Enters Tryd.prog 57 := VM.Enters.mk Tryd.func57 rfl
theorem n_small_cs (c : Int) : CS Tryd.prog G 60 [.int .u8 c] (.d (.bool (smallB c))) none := by
  refine CS.of_VK Tryd.func60 rfl Tryd.ntmps60 rfl ?_
  by_cases h : 97 ≤ c <;> simp [smallB, h]
theorem n_digit_cs (c : Int) : CS Tryd.prog G 62 [.int .u8 c] (.d (.bool (digB c))) none := by
  refine CS.of_VK Tryd.func62 rfl Tryd.ntmps62 rfl ?_
  by_cases h : 48 ≤ c <;> simp [digB, h]
theorem n_capital_cs (c : Int) : CS Tryd.prog G 63 [.int .u8 c] (.d (.bool (capB c))) none := by
  refine CS.of_VK Tryd.func63 rfl Tryd.ntmps63 rfl ?_
  by_cases h : 65 ≤ c <;> simp [capB, h]
theorem n_sized_cs (s : List UInt8) : CS Tryd.prog G 55 [.str s] (.d (.bool (sizedB s))) none := by
  refine CS.of_VK Tryd.func55 rfl Tryd.ntmps55 rfl ?_
  by_cases h : 1 ≤ s.length <;> simp [sizedB, h]
theorem n_alphanumeric_cs (s : List UInt8) (hs : s.length ≤ 1000000) : CS Tryd.prog G 56 [.str s] (.d (.bool (all8 anB s))) none := by
  refine CS.of_VK Tryd.func56 rfl Tryd.ntmps56 rfl ?_
  simp
  refine SW.loopF (ι := { i : Nat // i ≤ s.length ∧ all8 anB s = all8 anB (s.drop i) }) (fun i => [(3, .d (.int .i64 i.1))]) (fun _ => []) (fun _ => []) (fun i => s.length - i.1) ⟨0, by simp⟩ (by simp) ?_
  rintro ⟨i, hi, he⟩
  by_cases hlt : i < s.length
  · simp [hlt]
    refine callK.mk ent_n_small (n_small_cs _) ?_
    have hw := wrap64s (show i < 9223372036854775807 by omega)
    cases h1 : smallB s[i].toNat
    · simp [hlt]
      refine callK.mk ent_n_capital (n_capital_cs _) ?_
      cases h2 : capB s[i].toNat
      · simp [hlt]
        refine callK.mk ent_n_digit (n_digit_cs _) ?_
        cases h3 : digB s[i].toNat
        · simp [hlt]
          exact all8_stop he hlt (by simp [anB, h1, h2, h3])
        · simp [hlt]
          exact Again.mk ⟨i + 1, hlt, all8_step he hlt (by simp [anB, h3])⟩ (by simp [hw]) (by simp; omega)
      · simp [hlt]
        exact Again.mk ⟨i + 1, hlt, all8_step he hlt (by simp [anB, h2])⟩ (by simp [hw]) (by simp; omega)
    · simp [hlt]
      exact Again.mk ⟨i + 1, hlt, all8_step he hlt (by simp [anB, h1])⟩ (by simp [hw]) (by simp; omega)
  · simp [hlt]
    exact all8_end he hlt
/-- A word, its first byte a small letter. -/
def wordB (s : List UInt8) : Bool := all8 wdB s && (match s with | [] => true | c :: _ => smallB c.toNat)
theorem n_word_cs (s : List UInt8) (hs : s.length ≤ 1000000) : CS Tryd.prog G 57 [.str s] (.d (.bool (wordB s))) none := by
  refine CS.of_VK Tryd.func57 rfl Tryd.ntmps57 rfl ?_
  simp
  refine SW.loopF (ι := { i : Nat // i ≤ s.length ∧ (0 < i → all8 wdB s = all8 wdB (s.drop i) ∧ wordB s = all8 wdB s) }) (fun i => [(3, .d (.int .i64 i.1))]) (fun _ => []) (fun _ => []) (fun i => s.length - i.1) ⟨0, by simp⟩ (by simp) ?_
  rintro ⟨i, hi, he⟩
  by_cases hlt : i < s.length
  · have hnx : wdB s[i].toNat = true → (i = 0 → smallB s[i].toNat = true) → (0 < i + 1 → all8 wdB s = all8 wdB (s.drop (i + 1)) ∧ wordB s = all8 wdB s) := fun hp h0 _ => by
        rcases Nat.eq_zero_or_pos i with hz | hz
        · subst hz
          refine ⟨all8_step (i := 0) rfl hlt hp, ?_⟩
          cases s with
          | nil => rfl
          | cons c s => have := h0 rfl; simp at this; simp [wordB, this]
        · exact ⟨all8_step (he hz).1 hlt hp, (he hz).2⟩
    have hw := wrap64s (show i < 9223372036854775807 by omega)
    have hst : wdB s[i].toNat = false → wordB s = false := fun hp => by
      rcases Nat.eq_zero_or_pos i with hz | hz
      · subst hz
        have := all8_stop (b := all8 wdB s) (i := 0) rfl hlt hp
        simp [wordB, this]
      · rw [(he hz).2]; exact all8_stop (he hz).1 hlt hp
    simp [hlt]
    refine callK.mk ent_n_small (n_small_cs _) ?_
    cases h1 : smallB s[i].toNat
    · rcases Nat.eq_zero_or_pos i with hz | hz
      · subst hz
        simp [hlt]
        cases s with
        | nil => simp at hlt
        | cons c s => simp at h1; simp [wordB, h1]
      · have hz' : ¬ i = 0 := by omega
        simp [hlt, hz']
        refine callK.mk ent_n_digit (n_digit_cs _) ?_
        cases h3 : digB s[i].toNat
        · by_cases h4 : s[i].toNat = 95
          · simp [hlt, h4]
            exact Again.mk ⟨i + 1, hlt, hnx (by simp [wdB, h4]) (fun h => absurd h hz')⟩ (by simp [hw]) (by simp; omega)
          · have h5 : ¬ ((s[i].toNat : Int) = 95) := by omega
            simp [hlt, h4, h5]
            exact hst (by simp [wdB, h1, h3, h5])
        · simp [hlt]
          exact Again.mk ⟨i + 1, hlt, hnx (by simp [wdB, h3]) (fun h => absurd h hz')⟩ (by simp [hw]) (by simp; omega)
    · simp [hlt]
      exact Again.mk ⟨i + 1, hlt, hnx (by simp [wdB, h1]) (fun _ => h1)⟩ (by simp [hw]) (by simp; omega)
  · simp [hlt]
    rcases Nat.eq_zero_or_pos i with hz | hz
    · subst hz
      have : s = [] := by simpa using hlt
      subst this
      rfl
    · rw [(he hz).2]; exact all8_end (he hz).1 hlt
end Go.Proofs.YtcmpodbjhoeblaaDoor

set_option linter.unusedVariables false
set_option linter.unusedSimpArgs false
set_option linter.unusedSectionVars false
namespace Go.Proofs.YtcmpodbjhoeblaaDoor
open Go Go.VM
set_option maxRecDepth 100000
variable {G : GT}

def kwL : List (List UInt8) := [[97, 110, 100], [97, 115, 115, 117, 109, 101], [98, 111, 111, 108], [98, 111, 117, 110, 100], [99, 97, 115, 101], [99, 101, 108, 108], [99, 108, 97, 115, 115], [100, 97, 116, 97], [100, 101, 102], [100, 105, 118], [101, 108, 115, 101], [101, 110, 100], [102, 97, 108, 115, 101], [102, 111, 114, 97, 108, 108], [102, 117, 110], [103, 101, 116], [105, 102], [105, 110], [105, 110, 115, 116], [105, 110, 116], [105, 110, 118, 97, 114, 105, 97, 110, 116], [108, 101, 116], [109, 97, 116, 99, 104], [109, 101, 97, 115, 117, 114, 101], [109, 101, 116, 114, 105, 99], [109, 111, 100], [109, 117], [110, 101, 119], [110, 111, 116], [111, 102], [111, 114], [113, 117, 97, 108], [114, 101, 102, 108, 101, 99, 116], [115, 101, 116], [116, 104, 101, 110], [116, 114, 117, 101], [117, 115, 101], [118], [118, 97, 108], [116, 97, 103], [119, 104, 101, 114, 101], [119, 105, 116, 104]]
def kwB (s : List UInt8) : Bool := kwL.any fun k => decide (k = s)
/-- The cells of the table of keywords. -/
def kwCells : List D := kwL.map D.str
theorem kwL_len : kwL.length = 42 := rfl
theorem ent_n_Keyword : VM.Enters Tryd.prog 61 := VM.Enters.mk Tryd.func61 rfl
theorem n_Keyword_cs (hG : G 0 = some kwCells) (s : List UInt8) : CS Tryd.prog G 61 [.str s] (.d (.bool (kwB s))) none := by
  refine CS.of_VK Tryd.func61 rfl Tryd.ntmps61 rfl ?_
  have hlen : kwCells.length = 42 := rfl
  have htake : List.take 42 kwCells = kwCells := by rw [← hlen, List.take_length]
  simp [hG, hlen, htake]
  refine SW.loopF (ι := { i : Nat // i ≤ 42 ∧ kwB s = (kwL.drop i).any fun k => decide (k = s) }) (fun i => [(6, .d (.int .i64 i.1))]) (fun _ => []) (fun _ => []) (fun i => 42 - i.1) ⟨0, by simp [kwB]⟩ (by simp) ?_
  rintro ⟨i, hi, he⟩
  by_cases hlt : i < 42
  · have hl : i < kwL.length := hlt
    have hget : kwCells[i]? = some (.str kwL[i]) := by simp [kwCells, hl]
    have hget2 : kwCells[i]'(by rw [hlen]; exact hlt) = .str kwL[i] := by simp [kwCells]
    by_cases hk : kwL[i] = s
    · simp [hlt, hlen, hget, hget2, hk]
      exact any_stop he hl (by simp [hk])
    · simp [hlt, hlen, hget, hget2, hk]
      exact Again.mk ⟨i + 1, hlt, any_step he hl (by simp [hk])⟩ (by simp [wrap64s (show i < 9223372036854775807 by omega)]) (by simp; omega)
  · simp [hlt]
    exact any_end he hlt

theorem lt_or_nil (s : List UInt8) : s = [] ∨ 0 < s.length := by cases s <;> simp
def headB (p : Int → Bool) (s : List UInt8) : Bool := match s with
  | [] => false
  | c :: _ => p c.toNat
theorem headB_get {p : Int → Bool} {s : List UInt8} (h : 0 < s.length) : headB p s = p s[0].toNat := by
  cases s with
  | nil => simp at h
  | cons c s => rfl
def nameB (s : List UInt8) : Bool := sizedB s && headB smallB s && !kwB s && all8 wdB s
theorem ent_n_name : VM.Enters Tryd.prog 53 := VM.Enters.mk Tryd.func53 rfl
theorem n_name_cs (hG : G 0 = some kwCells) (s : List UInt8) : CS Tryd.prog G 53 [.str s] (.d (.bool (nameB s))) none := by
  refine CS.of_VK Tryd.func53 rfl Tryd.ntmps53 rfl ?_
  simp
  refine callK.mk ent_n_sized (n_sized_cs _) ?_
  cases hz : sizedB s
  · simp [nameB, hz]
  · have hl : 1 ≤ s.length ∧ s.length ≤ 24 := by simpa [sizedB] using hz
    have h0 : 0 < s.length := by omega
    simp [h0]
    refine callK.mk ent_n_small (n_small_cs _) ?_
    cases h1 : smallB s[0].toNat
    · simp [nameB, headB_get h0, h1]
    · simp
      refine callK.mk ent_n_Keyword (n_Keyword_cs hG _) ?_
      cases h2 : kwB s
      · simp
        have hb : nameB s = all8 wdB s := by simp [nameB, hz, headB_get h0, h1, h2]
        refine SW.loopF (ι := { i : Nat // 1 ≤ i ∧ i ≤ s.length ∧ all8 wdB s = all8 wdB (s.drop i) }) (fun i => [(3, .d (.int .i64 i.1))]) (fun _ => []) (fun _ => []) (fun i => s.length - i.1) ⟨1, Nat.le_refl _, hl.1, all8_step (i := 0) rfl h0 (by simp [wdB, h1])⟩ (by simp) ?_
        rintro ⟨i, hi1, hi, he⟩
        by_cases hlt : i < s.length
        · have hw := wrap64s (show i < 9223372036854775807 by omega)
          simp [hlt]
          refine callK.mk ent_n_small (n_small_cs _) ?_
          cases h1 : smallB s[i].toNat
          · simp [hlt]
            refine callK.mk ent_n_digit (n_digit_cs _) ?_
            cases h3 : digB s[i].toNat
            · by_cases h4 : s[i].toNat = 95
              · simp [hlt, h4]
                exact Again.mk ⟨i + 1, by omega, hlt, all8_step he hlt (by simp [wdB, h4])⟩ (by simp [hw]) (by simp; omega)
              · simp [hlt, h4]
                rw [hb]
                exact all8_stop he hlt (by simp [wdB, h1, h3]; omega)
            · simp [hlt]
              exact Again.mk ⟨i + 1, by omega, hlt, all8_step he hlt (by simp [wdB, h3])⟩ (by simp [hw]) (by simp; omega)
          · simp [hlt]
            exact Again.mk ⟨i + 1, by omega, hlt, all8_step he hlt (by simp [wdB, h1])⟩ (by simp [hw]) (by simp; omega)
        · simp [hlt]
          rw [hb]
          exact all8_end he hlt
      · simp [nameB, h2]
theorem ent_n_title : VM.Enters Tryd.prog 54 := VM.Enters.mk Tryd.func54 rfl
def titleB (s : List UInt8) : Bool := sizedB s && headB capB s && all8 anB s && !decide (s = [73, 110, 116]) && !decide (s = [66, 111, 111, 108]) && !decide (s = [67, 101, 108, 108]) && !decide (s = [70, 117, 110])
theorem n_title_cs (s : List UInt8) : CS Tryd.prog G 54 [.str s] (.d (.bool (titleB s))) none := by
  refine CS.of_VK Tryd.func54 rfl Tryd.ntmps54 rfl ?_
  simp
  refine callK.mk ent_n_sized (n_sized_cs _) ?_
  cases hz : sizedB s
  · simp [titleB, hz]
  · have hl : 1 ≤ s.length ∧ s.length ≤ 24 := by simpa [sizedB] using hz
    have h0 : 0 < s.length := by omega
    simp [h0]
    refine callK.mk ent_n_capital (n_capital_cs _) ?_
    cases h1 : capB s[0].toNat
    · simp [titleB, headB_get h0, h1]
    · simp
      refine callK.mk ent_n_alphanumeric (n_alphanumeric_cs _ (by omega)) ?_
      cases h2 : all8 anB s
      · simp [titleB, h2]
      · by_cases e1 : s = [73, 110, 116]
        · simp [titleB, e1]
        by_cases e2 : s = [66, 111, 111, 108]
        · simp [titleB, e2]
        by_cases e3 : s = [67, 101, 108, 108]
        · simp [titleB, e3]
        simp [titleB, hz, headB_get h0, h1, h2, e1, e2, e3]
/-- What stands ahead of the first point, and what behind. -/
def cutL : List UInt8 → List UInt8 × List UInt8 × Bool
  | [] => ([], [], false)
  | c :: r => if c.toNat = 46 then ([], r, true) else (c :: (cutL r).1, (cutL r).2)
theorem ent_n_cut : VM.Enters Tryd.prog 52 := VM.Enters.mk Tryd.func52 rfl
theorem cutL_at : ∀ (s : List UInt8) (i : Nat), (∀ j (h : j < s.length), j < i → s[j].toNat ≠ 46) → i ≤ s.length → cutL s = (s.take i ++ (cutL (s.drop i)).1, (cutL (s.drop i)).2)
  | s, 0, _, _ => by simp
  | [], i + 1, _, h => by simp at h
  | c :: r, i + 1, hj, h => by
    have h0 := hj 0 (by simp) (by omega)
    simp at h0 h
    have ih := cutL_at r i (fun j h hji => by have := hj (j + 1) (by simp; omega) (by omega); simpa using this) h
    simp [cutL, h0, ih]
theorem n_cut_cs (s : List UInt8) (hs : s.length ≤ 1000000) : CS Tryd.prog G 52 [.str s] (.tup [.str (cutL s).1, .str (cutL s).2.1, .bool (cutL s).2.2]) none := by
  refine CS.of_VK Tryd.func52 rfl Tryd.ntmps52 rfl ?_
  simp
  refine SW.loopF (ι := { i : Nat // i ≤ s.length ∧ ∀ j (h : j < s.length), j < i → s[j].toNat ≠ 46 }) (fun i => [(5, .d (.int .i64 i.1))]) (fun _ => []) (fun _ => []) (fun i => s.length - i.1) ⟨0, by simp⟩ (by simp) ?_
  rintro ⟨i, hi, he⟩
  have hcut := cutL_at s i he hi
  by_cases hlt : i < s.length
  · by_cases h4 : s[i].toNat = 46
    · have hw : IntKind.i64.wrap ((i : Int) + 1) = ((i + 1 : Nat) : Int) := wrap64s (by omega)
      rw [List.drop_eq_getElem_cons hlt] at hcut
      simp only [cutL, h4, if_true] at hcut
      have h1 : i + 1 ≤ s.length := hlt
      simp [hlt, h4, hcut, hw, hi, h1]
      exact lexOk.mk
    · simp [hlt, h4]
      refine Again.mk ⟨i + 1, hlt, fun j h hj => ?_⟩ (by simp [wrap64s (show i < 9223372036854775807 by omega)]) (by simp; omega)
      by_cases hji : j = i
      · subst hji; exact h4
      · exact he j h (by omega)
  · have : i = s.length := by omega
    subst this
    rw [List.drop_length] at hcut
    simp [cutL] at hcut
    simp [hlt, hcut]
end Go.Proofs.YtcmpodbjhoeblaaDoor

set_option linter.unusedVariables false
set_option linter.unusedSimpArgs false
set_option linter.unusedSectionVars false
namespace Go.Proofs.YtcmpodbjhoeblaaDoor
open Go Go.VM
set_option maxRecDepth 100000
set_option maxHeartbeats 4000000
variable {G : GT}

/-- The parts between points. -/
def partsL : List UInt8 → List (List UInt8)
  | [] => [[]]
  | c :: r => if c.toNat = 46 then [] :: partsL r else match partsL r with
    | p :: ps => (c :: p) :: ps
    | [] => [[c]]
theorem partsL_cut : ∀ s, partsL s = (cutL s).1 :: (if (cutL s).2.2 = true then partsL (cutL s).2.1 else [])
  | [] => rfl
  | c :: r => by
    by_cases hc : c.toNat = 46
    · simp [partsL, cutL, hc]
    · simp only [partsL, cutL, hc, if_false]
      rw [partsL_cut r]
theorem cutL_lt : ∀ s, (cutL s).2.2 = true → (cutL s).2.1.length < s.length
  | [], h => by simp [cutL] at h
  | c :: r, h => by
    unfold cutL at h ⊢
    split
    · simp
    · rename_i hc
      simp [hc] at h
      have := cutL_lt r h
      simp; omega
theorem cutL_len : ∀ s, (cutL s).1.length ≤ s.length
  | [] => by simp [cutL]
  | c :: r => by
    unfold cutL
    split
    · simp
    · simp; exact cutL_len r
theorem cutL_rest : ∀ s, (cutL s).2.1.length ≤ s.length
  | [] => by simp [cutL]
  | c :: r => by
    unfold cutL
    split
    · simp
    · simp; have := cutL_rest r; omega
def partB (p : List UInt8) : Bool := sizedB p && (all8 anB p || wordB p)
def coreB (s : List UInt8) : Bool := decide (s.length ≤ 120) && (match partsL s with
  | [] => false
  | p :: ps => (nameB p || titleB p || (decide (p = [118]) && !ps.isEmpty)) && ps.all partB)
def errName (b : Bool) : Int := if b then 0 else 3
theorem coreB_cut (s : List UInt8) : coreB s = (decide (s.length ≤ 120) && ((nameB (cutL s).1 || titleB (cutL s).1 || (decide ((cutL s).1 = [118]) && (cutL s).2.2)) && (if (cutL s).2.2 = true then (partsL (cutL s).2.1).all partB else true))) := by
  unfold coreB
  rw [partsL_cut s]
  cases hm : (cutL s).2.2
  · simp
  · have : (partsL (cutL s).2.1).isEmpty = false := by rw [partsL_cut]; rfl
    simp [this]
theorem ent_n_Core : VM.Enters Tryd.prog 49 := VM.Enters.mk Tryd.func49 rfl
theorem n_Core_cs (hG : G 0 = some kwCells) (s : List UInt8) : CS Tryd.prog G 49 [.str s] (.d (.int .i64 (errName (coreB s)))) none := by
  refine CS.of_VK Tryd.func49 rfl Tryd.ntmps49 rfl ?_
  by_cases hl : 120 < s.length
  · have : ¬ s.length ≤ 120 := by omega
    simp [hl, coreB, this, errName]
  · have hl' : s.length ≤ 120 := by omega
    simp [hl]
    refine callK.mk ent_n_cut (n_cut_cs _ (by omega)) ?_
    simp
    refine callK.mk ent_n_name (n_name_cs hG _) ?_
    have hcore := coreB_cut s
    simp only [hl', decide_true, Bool.true_and] at hcore
    -- what follows the head
    have hfail : (nameB (cutL s).1 || titleB (cutL s).1 || (decide ((cutL s).1 = [118]) && (cutL s).2.2)) = false → coreB s = false := fun h => by rw [hcore, h]; rfl
    have hgo : (nameB (cutL s).1 || titleB (cutL s).1 || (decide ((cutL s).1 = [118]) && (cutL s).2.2)) = true → coreB s = if (cutL s).2.2 = true then (partsL (cutL s).2.1).all partB else true := fun h => by rw [hcore, h]; rfl
    cases h1 : nameB (cutL s).1
    rotate_left
    simp
    replace hgo := hgo (by simp [h1])
    rotate_left
    simp
    refine callK.mk ent_n_title (n_title_cs _) ?_
    cases h2 : titleB (cutL s).1
    rotate_left
    simp
    replace hgo := hgo (by simp [h1, h2])
    rotate_left 2
    by_cases h3 : (cutL s).1 = [118]
    rotate_left
    · simp [h3]
      rw [hfail (by rw [h1, h2]; simp [h3])]
      rfl
    rotate_left 2
    cases h4 : (cutL s).2.2
    · simp [h3, h4]
      rw [hfail (by rw [h1, h2]; simp [h3, h4])]
      rfl
    simp [h3, h4]
    replace hgo := hgo (by rw [h1, h2]; simp [h3, h4])
    all_goals
      refine SW.loopF (ι := { x : List UInt8 × Bool // x.1.length ≤ 120 ∧ coreB s = if x.2 = true then (partsL x.1).all partB else true }) (fun x => [(4, .d (.str x.1.1)), (5, .d (.bool x.1.2))]) (fun _ => []) (fun _ => []) (fun x => if x.1.2 = true then x.1.1.length + 1 else 0) ⟨((cutL s).2.1, (cutL s).2.2), by have := cutL_rest s; simp; omega, hgo⟩ (by simp [*]) ?_
      rintro ⟨⟨r, m⟩, hr, he⟩
      cases m
      · simp
        rw [he]
        rfl
      · simp at hr he
        simp
        refine callK.mk ent_n_cut (n_cut_cs _ (by omega)) ?_
        have hlen := cutL_len r
        simp
        refine callK.mk ent_n_sized (n_sized_cs _) ?_
        have hall : coreB s = (partB (cutL r).1 && (if (cutL r).2.2 = true then (partsL (cutL r).2.1).all partB else true)) := by
          rw [he, partsL_cut r]
          cases (cutL r).2.2 <;> simp
        have hnx : partB (cutL r).1 = true → coreB s = (if (cutL r).2.2 = true then (partsL (cutL r).2.1).all partB else true) := fun hp => by rw [hall, hp]; rfl
        have hm : (if (cutL r).2.2 = true then (cutL r).2.1.length + 1 else 0) < r.length + 1 := by
          cases hm : (cutL r).2.2
          · simp
          · have := cutL_lt r hm; simp; exact this
        have hr' : (cutL r).2.1.length ≤ 120 := by have := cutL_rest r; omega
        have hno : partB (cutL r).1 = false → coreB s = false := fun hp => by rw [hall, hp]; rfl
        cases g1 : sizedB (cutL r).1
        · simp
          rw [hno (by simp [partB, g1])]
          rfl
        · simp
          refine callK.mk ent_n_alphanumeric (n_alphanumeric_cs _ (by omega)) ?_
          cases g2 : all8 anB (cutL r).1
          · simp
            refine callK.mk ent_n_word (n_word_cs _ (by omega)) ?_
            cases g3 : wordB (cutL r).1
            · simp
              rw [hno (by simp [partB, g1, g2, g3])]
              rfl
            · simp
              exact Again.mk ⟨((cutL r).2.1, (cutL r).2.2), hr', hnx (by simp [partB, g1, g3])⟩ (by simp) (by simpa using hm)
          · simp
            exact Again.mk ⟨((cutL r).2.1, (cutL r).2.2), hr', hnx (by simp [partB, g1, g2])⟩ (by simp) (by simpa using hm)
end Go.Proofs.YtcmpodbjhoeblaaDoor

set_option linter.unusedVariables false
set_option linter.unusedSimpArgs false
set_option linter.unusedSectionVars false
namespace Go.Proofs.YtcmpodbjhoeblaaDoor
open Go Go.VM
set_option maxRecDepth 100000
set_option maxHeartbeats 4000000
variable {G : GT}

/-- The texts of a list, as elements of a slice. -/
def strs (l : List (List UInt8)) : List (List D) := l.map fun s => [.str s]
theorem strs_len (l : List (List UInt8)) : (strs l).length = l.length := by simp [strs]
theorem strs_getE {l : List (List UInt8)} {i : Nat} (h : i < (strs l).length) : (strs l)[i] = [.str (l[i]'(by rw [← strs_len l]; exact h))] := by simp [strs]
theorem strs_one (l : List (List UInt8)) : (∀ x, x ∈ strs l → x.length = 1) = True := by simp [strs]
theorem strs_app (l : List (List UInt8)) (s : List UInt8) : strs (l ++ [s]) = strs l ++ [[.str s]] := by simp [strs]
attribute [simp] strs_len strs_getE strs_one strs_app
theorem strs_get {l : List (List UInt8)} {i : Nat} (h : i < l.length) : (strs l)[i]? = some [.str l[i]] := by simp [strs, h]
def findI (s : List UInt8) : List (List UInt8) → Nat → Int
  | [], _ => -1
  | k :: r, i => if k = s then i else findI s r (i + 1)
theorem findI_step {s : List UInt8} {l : List (List UInt8)} {i j : Nat} (h : i < l.length) : findI s (l.drop i) j = if l[i] = s then (j : Int) else findI s (l.drop (i + 1)) (j + 1) := by
  rw [List.drop_eq_getElem_cons h]
  rfl
theorem findI_any (s : List UInt8) : ∀ (l : List (List UInt8)) (i : Nat), decide (0 ≤ findI s l i) = l.any fun k => decide (k = s)
  | [], i => by simp [findI]
  | k :: r, i => by
    unfold findI
    by_cases h : k = s
    · simp [h]
    · simp [h, findI_any s r]
theorem ent_r4_Find : VM.Enters Tryd.prog 31 := VM.Enters.mk Tryd.func31 rfl
theorem r4_Find_cs (l : List (List UInt8)) (s : List UInt8) (hl : l.length ≤ 1000000) : CS Tryd.prog G 31 [.sl (strs l), .str s] (.d (.int .i64 (findI s l 0))) none := by
  refine CS.of_VK Tryd.func31 rfl Tryd.ntmps31 rfl ?_
  simp [strs_len]
  refine SW.loopF (ι := { i : Nat // i ≤ l.length ∧ findI s l 0 = findI s (l.drop i) i }) (fun i => [(8, .d (.int .i64 i.1))]) (fun _ => []) (fun _ => []) (fun i => l.length - i.1) ⟨0, by simp⟩ (by simp) ?_
  rintro ⟨i, hi, he⟩
  by_cases hlt : i < l.length
  · have hg := strs_get hlt
    rw [findI_step hlt] at he
    by_cases hk : l[i] = s
    · simp [hlt, strs_len, hg, hk]
      rw [if_pos hk] at he
      rw [he]
    · simp [hlt, strs_len, hg, hk]
      rw [if_neg hk] at he
      exact Again.mk ⟨i + 1, hlt, he⟩ (by simp [wrap64s (show i < 9223372036854775807 by omega)]) (by simp; omega)
  · simp [hlt]
    rw [he, List.drop_of_length_le (by omega)]
    rfl
end Go.Proofs.YtcmpodbjhoeblaaDoor
