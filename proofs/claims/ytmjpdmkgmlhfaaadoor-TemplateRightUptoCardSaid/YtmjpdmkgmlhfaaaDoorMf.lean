/- Template: names.Fresh. No condition. -/
import Derived.Test.YtmjpdmkgmlhfaaaDoorMd
set_option linter.unusedVariables false
set_option linter.unusedSimpArgs false
set_option linter.unusedSectionVars false
namespace Go.Proofs.YtmjpdmkgmlhfaaaDoor
open Go Go.VM
set_option maxRecDepth 100000
set_option maxHeartbeats 8000000
variable {G : GT}
def insN (acc : List Nm) (n : Nm) : List Nm := if n ∈ acc then acc else acc ++ [n]
def setN (l : List Nm) : List Nm := l.foldl insN []
theorem insN_mem {acc : List Nm} {n x : Nm} : x ∈ insN acc n ↔ x ∈ acc ∨ x = n := by
  unfold insN
  split
  · rename_i h
    exact ⟨.inl, fun h' => h'.elim id fun e => e ▸ h⟩
  · simp
theorem foldN_mem : ∀ (l acc : List Nm) (x : Nm), x ∈ l.foldl insN acc ↔ x ∈ acc ∨ x ∈ l
  | [], acc, x => by simp
  | n :: l, acc, x => by
    rw [List.foldl_cons, foldN_mem l, insN_mem, List.mem_cons]
    exact or_assoc
theorem setN_mem (l : List Nm) (x : Nm) : x ∈ setN l ↔ x ∈ l := by
  unfold setN
  rw [foldN_mem]
  simp
theorem setN_step {l : List Nm} {i : Nat} (h : i < l.length) : setN (l.take (i + 1)) = insN (setN (l.take i)) l[i] := by
  unfold setN
  rw [List.take_succ_eq_append_getElem h, List.foldl_append]
  rfl
theorem seen_same {nm : Nm} : ∀ {acc : List Nm}, nm ∈ acc → setKeyD (.str nm) (.bool true) (seenOf acc) = some (seenOf acc)
  | [], h => by cases h
  | x :: r, h => by
    by_cases e : nm = x
    · subst e
      simp [seenOf, setKeyD, eqCell]
    · have := seen_same (nm := nm) (acc := r) (by simpa [e] using h)
      simp only [seenOf] at this
      simp [seenOf, setKeyD, eqCell, e, this]
theorem seen_ins (nm : Nm) (acc : List Nm) : setKeyD (.str nm) (.bool true) (seenOf acc) = some (seenOf (insN acc nm)) := by
  unfold insN
  split
  · exact seen_same ‹_›
  · exact seen_set ‹_›
theorem ent_names_Fresh : VM.Enters Tryd.prog 41 := VM.Enters.mk Tryd.func41 rfl
theorem t_Fresh_cs (hP : G 1 = some powCells) (l : List Nm) (hl : l.length ≤ 2000000) : CS Tryd.prog G 41 [.sl (strs l), .str [120]] (.d (.str (freshN l))) none := by
  obtain ⟨j, hj, hf, hn, hb⟩ := fresh_spec l
  refine CS.of_VK Tryd.func41 rfl Tryd.ntmps41 rfl ?_
  simp
  refine SW.loopF (ι := { i : Nat // i ≤ l.length }) (fun i => [(13, .d (.int .i64 i.1))]) (fun i => [(10, .map (seenOf (setN (l.take i.1))))]) (fun _ => []) (fun i => l.length - i.1) ⟨0, by simp⟩ (by simp [setN]) ?_
  rintro ⟨i, hi⟩
  by_cases hlt : i < l.length
  · have hg := strs_get hlt
    have hw := wrap64s (show i < 9223372036854775807 by omega)
    have hs := setN_step hlt
    simp [hlt, hg, seen_ins]
    exact Again.mk ⟨i + 1, hlt⟩ (by simp [hw, hs]) (by simp; omega)
  have hil : i = l.length := by omega
  subst hil
  simp [seen_find, setN_mem]
  by_cases h0 : [120] ∈ l
  · have hj1 : 1 ≤ j := by
      rcases Nat.eq_zero_or_pos j with h | h
      · subst h
        exact (hn h0).elim
      · exact h
    simp [h0]
    refine SW.loopF (ι := { k : Nat // 1 ≤ k ∧ k ≤ j }) (fun k => [(8, .d (.int .i64 k.1))]) (fun _ => [(10, .map (seenOf (setN l)))]) (fun _ => []) (fun k => j - k.1) ⟨1, by omega⟩ (by simp) ?_
    rintro ⟨k, hk1, hkj⟩
    have hw := wrap64s (show k < 9223372036854775807 by omega)
    have hdl : (Lib.decDigits k).length ≤ 20 := dd_len 19 _ (by omega)
    have hxk : xN k = 120 :: Lib.decDigits k := by rw [xN, if_neg (by omega)]
    simp
    refine callK.mk ent_Itoa (Itoa_cs hP k (by constructor <;> omega)) ?_
    rw [itoa_pos]
    simp
    refine stepK_len (by omega) ?_
    simp [seen_find, setN_mem]
    by_cases hin : 120 :: Lib.decDigits k ∈ l
    · have hlt : k < j := by
        rcases Nat.lt_or_ge k j with h | h
        · exact h
        · have : k = j := by omega
          subst this
          rw [hxk] at hn
          exact (hn hin).elim
      simp [hin]
      exact Again.mk ⟨k + 1, by omega⟩ (by simp [hw]) (by simp; omega)
    · have : k = j := by
        rcases Nat.lt_or_ge k j with h | h
        · exact (hin (hxk ▸ hb k h)).elim
        · omega
      subst this
      simp [hin, hf, hxk]
  · have : j = 0 := by
      rcases Nat.eq_zero_or_pos j with h | h
      · exact h
      · exact (h0 (hb 0 h)).elim
    subst this
    simp [h0, hf, xN]
end Go.Proofs.YtmjpdmkgmlhfaaaDoor
