/- Joined texts. Names: the reference's parts of a text, core names. Names: the reference's core names. No condition. -/
import Derived.Test.YtcmpodbjhoeblaaDoorZ4
set_option linter.unusedVariables false
set_option linter.unusedSimpArgs false
set_option linter.unusedSectionVars false
namespace Go.Proofs.YtcmpodbjhoeblaaDoor
open Go Go.VM
set_option maxRecDepth 100000
set_option maxHeartbeats 4000000
variable {G : GT}
/-- The parts, with the bytes of the first already read. -/
def partsC (cur s : List UInt8) : List (List UInt8) := match partsL s with
  | p :: ps => (cur ++ p) :: ps
  | [] => [cur]
theorem partsL_ne : ∀ s, partsL s ≠ []
  | [] => by simp [partsL]
  | c :: r => by
    unfold partsL
    split
    · simp
    · split <;> simp
theorem partsC_nil (s : List UInt8) : partsC [] s = partsL s := by
  unfold partsC
  cases h : partsL s with
  | nil => exact absurd h (partsL_ne s)
  | cons p ps => simp
theorem partsC_end (cur : List UInt8) : partsC cur [] = [cur] := by simp [partsC, partsL]
theorem partsC_dot (cur r : List UInt8) (c : UInt8) (h : c.toNat = 46) : partsC cur (c :: r) = cur :: partsL r := by simp [partsC, partsL, h]
theorem partsC_else (cur r : List UInt8) (c : UInt8) (h : c.toNat ≠ 46) : partsC cur (c :: r) = partsC (cur ++ [c]) r := by
  unfold partsC
  simp only [partsL, h, if_false]
  cases hp : partsL r with
  | nil => exact absurd hp (partsL_ne r)
  | cons p ps => simp
theorem take_drop_succ {s : List UInt8} {b i : Nat} (hb : b ≤ i) (h : i < s.length) : (s.take (i + 1)).drop b = (s.take i).drop b ++ [s[i]] := by
  rw [List.take_succ_eq_append_getElem h, List.drop_append_of_le_length (by simp; omega)]
theorem partsL_len : ∀ s, (partsL s).length ≤ s.length + 1
  | [] => by simp [partsL]
  | c :: r => by
    have := partsL_len r
    unfold partsL
    split
    · simp; omega
    · split
      · rename_i p ps h; rw [h] at this; simp at this ⊢; omega
      · simp
theorem part_word {s : List UInt8} (h : 0 < s.length) : wordB s = (smallB s[0].toNat && all8 wdB s) := by
  cases s with
  | nil => simp at h
  | cons c s => simp [wordB, Bool.and_comm]
end Go.Proofs.YtcmpodbjhoeblaaDoor

set_option linter.unusedVariables false
set_option linter.unusedSimpArgs false
set_option linter.unusedSectionVars false
namespace Go.Proofs.YtcmpodbjhoeblaaDoor
open Go Go.VM
set_option maxRecDepth 100000
set_option maxHeartbeats 4000000
variable {G : GT}
end Go.Proofs.YtcmpodbjhoeblaaDoor
