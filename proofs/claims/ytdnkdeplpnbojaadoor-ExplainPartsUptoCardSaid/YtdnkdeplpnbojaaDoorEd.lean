/- Texts joined; the words of kinds and of states; reports. No condition. -/
import Derived.Test.YtdnkdeplpnbojaaDoorEb
set_option linter.unusedVariables false
set_option linter.unusedSimpArgs false
set_option linter.unusedSectionVars false
namespace Go.Proofs.YtdnkdeplpnbojaaDoor
open Go Go.VM
set_option maxRecDepth 100000
set_option maxHeartbeats 8000000
variable {G : GT}
theorem join_step {xs : List (List UInt8)} {sep : List UInt8} {i : Nat} (h : i < xs.length) : Lib.join (xs.take (i + 1)) sep = (if 0 < i then Lib.join (xs.take i) sep ++ sep else []) ++ xs[i] := by
  cases xs with
  | nil => simp at h
  | cons x r =>
    cases i with
    | zero => simp [Lib.join_cons, Lib.joinTail]
    | succ k =>
      have hk : k < r.length := by simpa using h
      rw [if_pos (by omega), List.take_succ_cons, List.take_succ_cons, Lib.join_cons, Lib.join_cons, Lib.joinTail_take_succ sep r k r[k] (by simp [hk])]
      simp [List.append_assoc]
theorem join_take_le (xs : List (List UInt8)) (sep : List UInt8) (i : Nat) : (Lib.join (xs.take i) sep).length ≤ (Lib.join xs sep).length := by
  cases xs with
  | nil => simp
  | cons x r =>
    cases i with
    | zero => simp [Lib.join_nil]
    | succ k =>
      rw [List.take_succ_cons, Lib.join_cons, Lib.join_cons]
      have := Lib.joinTail_take_le sep r k
      simp
      omega
theorem ent_r53_joined : VM.Enters Tryd.prog 58 := VM.Enters.mk Tryd.func58 rfl
theorem r53_joined_cs (xs : List (List UInt8)) (sep : List UInt8) (hl : xs.length ≤ 140737488355328) (hj : (Lib.join xs sep).length ≤ 140737488355328) : CS Tryd.prog G 58 [.sl (strs xs), .str sep] (.d (.str (Lib.join xs sep))) none := by
  refine CS.of_VK Tryd.func58 rfl Tryd.ntmps58 rfl ?_
  simp
  refine SW.loopF (ι := { i : Nat // i ≤ xs.length }) (fun i => [(5, .d (.str (Lib.join (xs.take i.1) sep))), (10, .d (.int .i64 i.1))]) (fun _ => []) (fun _ => []) (fun i => xs.length - i.1) ⟨0, by simp⟩ (by simp [Lib.join_nil]) ?_
  rintro ⟨i, hi⟩
  by_cases hlt : i < xs.length
  · have hg := strs_get hlt
    have hw := wrap64s (show i < 9223372036854775807 by omega)
    have hs := join_step (sep := sep) hlt
    have hn := join_take_le xs sep (i + 1)
    by_cases h0 : 0 < i
    · rw [if_pos h0] at hs
      have hb := congrArg List.length hs
      simp at hb
      have hb1 : (Lib.join (xs.take i) sep).length + sep.length ≤ 9223372036854775807 := by omega
      have hb2 : (Lib.join (xs.take i) sep).length + (sep.length + xs[i].length) ≤ 9223372036854775807 := by omega
      have hb3 : (Lib.join (xs.take i) sep).length + sep.length + xs[i].length ≤ 9223372036854775807 := by omega
      simp [hlt, hg, h0, hb1, hb2, hb3]
      exact Again.mk ⟨i + 1, hlt⟩ (by simp [hw, hs]) (by simp; omega)
    · rw [if_neg h0] at hs
      have hz : i = 0 := by omega
      subst hz
      have hb : xs[0].length ≤ 9223372036854775807 := by
        rw [hs] at hn
        simp at hn
        omega
      simp [hlt, hg, hb, Lib.join_nil]
      exact Again.mk ⟨1, hlt⟩ (by rw [Nat.zero_add] at hs; simp [hs, show IntKind.i64.wrap 1 = 1 from rfl]) (by simp; omega)
  · have : i = xs.length := by omega
    subst this
    simp
theorem ent_e_Path : VM.Enters Tryd.prog 38 := VM.Enters.mk Tryd.func38 rfl
theorem e_Path_cs (xs : List (List UInt8)) (hl : xs.length ≤ 140737488355328) (hj : (Lib.join xs [32, 62, 32]).length ≤ 140737488355328) : CS Tryd.prog G 38 [.sl (strs xs)] (.d (.str (Lib.join xs [32, 62, 32]))) none := by
  refine CS.of_VK Tryd.func38 rfl Tryd.ntmps38 rfl ?_
  simp
  refine callK.mk ent_Join (Join_cs hl hj) ?_
  simp
theorem ent_r53_Path : VM.Enters Tryd.prog 39 := VM.Enters.mk Tryd.func39 rfl
theorem r53_Path_cs (xs : List (List UInt8)) (hl : xs.length ≤ 140737488355328) (hj : (Lib.join xs [32, 62, 32]).length ≤ 140737488355328) : CS Tryd.prog G 39 [.sl (strs xs)] (.d (.str (Lib.join xs [32, 62, 32]))) none := by
  refine CS.of_VK Tryd.func39 rfl Tryd.ntmps39 rfl ?_
  simp
  refine callK.mk ent_r53_joined (r53_joined_cs xs _ hl hj) ?_
  simp
/-- The word of a status. -/
def statW (k : Int) : List UInt8 := if k = 0 then [114, 101, 106, 101, 99, 116, 101, 100] else if k = 1 then [97, 99, 99, 101, 112, 116, 101, 100] else if k = 2 then [97, 115, 115, 117, 109, 101, 100] else [117, 110, 107, 110, 111, 119, 110]
theorem statW_len (k : Int) : (statW k).length ≤ 8 := by
  unfold statW
  repeat (first | (split <;> try simp))
theorem ent_e_status : VM.Enters Tryd.prog 62 := VM.Enters.mk Tryd.func62 rfl
theorem e_status_cs (k : Int) : CS Tryd.prog G 62 [.int .i64 k] (.d (.str (statW k))) none := by
  refine CS.of_VK Tryd.func62 rfl Tryd.ntmps62 rfl ?_
  by_cases h0 : k = 0
  · subst h0; simp [statW]
  by_cases h1 : k = 1
  · subst h1; simp [statW]
  by_cases h2 : k = 2
  · subst h2; simp [statW]
  simp [h0, h1, h2, statW]
theorem ent_r53_status : VM.Enters Tryd.prog 63 := VM.Enters.mk Tryd.func63 rfl
theorem r53_status_cs (k : Int) : CS Tryd.prog G 63 [.int .i64 k] (.d (.str (statW k))) none := by
  refine CS.of_VK Tryd.func63 rfl Tryd.ntmps63 rfl ?_
  by_cases h0 : k = 0
  · subst h0; simp [statW]
  by_cases h1 : k = 1
  · subst h1; simp [statW]
  by_cases h2 : k = 2
  · subst h2; simp [statW]
  simp [h0, h1, h2, statW]
/-- How a kind of goals is called, and the way to speak about it. -/
def phrW (k : Int) : List UInt8 × Int := if k = 1 then ([97, 114, 103, 117, 109, 101, 110, 116], 1) else if k = 2 then ([114, 101, 115, 117, 108, 116], 1) else if k = 3 then ([102, 105, 101, 108, 100], 1) else if k = 4 then ([109, 97, 116, 99, 104], 2) else if k = 5 then ([100, 105, 118, 105, 115, 111, 114], 1) else if k = 6 then ([109, 101, 116, 114, 105, 99], 1) else if k = 7 then ([98, 111, 117, 110, 100], 3) else if k = 8 then ([105, 110, 118, 97, 114, 105, 97, 110, 116], 1) else ([103, 111, 97, 108], 0)
def kindW (k : Int) (n : List UInt8) : List UInt8 := if (phrW k).2 = 1 then (phrW k).1 ++ ([32, 111, 102, 32] ++ n) else if (phrW k).2 = 2 then (phrW k).1 ++ ([32, 111, 110, 32] ++ n) else if (phrW k).2 = 3 then (phrW k).1 ++ ([32] ++ n) else (phrW k).1
theorem phrW_len (k : Int) : (phrW k).1.length ≤ 9 := by
  unfold phrW
  repeat (first | (split <;> try simp))
theorem ent_e_phrase : VM.Enters Tryd.prog 55 := VM.Enters.mk Tryd.func55 rfl
theorem e_phrase_cs (k : Int) : CS Tryd.prog G 55 [.int .i64 k] (.tup [.str (phrW k).1, .int .i64 (phrW k).2]) none := by
  refine CS.of_VK Tryd.func55 rfl Tryd.ntmps55 rfl ?_
  by_cases h1 : k = 1
  · subst h1; simp [phrW]
  by_cases h2 : k = 2
  · subst h2; simp [phrW]
  by_cases h3 : k = 3
  · subst h3; simp [phrW]
  by_cases h4 : k = 4
  · subst h4; simp [phrW]
  by_cases h5 : k = 5
  · subst h5; simp [phrW]
  by_cases h6 : k = 6
  · subst h6; simp [phrW]
  by_cases h7 : k = 7
  · subst h7; simp [phrW]
  by_cases h8 : k = 8
  · subst h8; simp [phrW]
  simp [h1, h2, h3, h4, h5, h6, h7, h8, phrW]
theorem ent_r53_kind : VM.Enters Tryd.prog 56 := VM.Enters.mk Tryd.func56 rfl
theorem r53_kind_cs (k : Int) (n : List UInt8) (hn : n.length ≤ 140737488355328) : CS Tryd.prog G 56 [.int .i64 k, .str n] (.d (.str (kindW k n))) none := by
  refine CS.of_VK Tryd.func56 rfl Tryd.ntmps56 rfl ?_
  by_cases h1 : k = 1
  · subst h1; simp [phrW, kindW, show n.length + 12 ≤ 9223372036854775807 by omega, show 12 + n.length ≤ 9223372036854775807 by omega]
  by_cases h2 : k = 2
  · subst h2; simp [phrW, kindW, show n.length + 10 ≤ 9223372036854775807 by omega, show 10 + n.length ≤ 9223372036854775807 by omega]
  by_cases h3 : k = 3
  · subst h3; simp [phrW, kindW, show n.length + 9 ≤ 9223372036854775807 by omega, show 9 + n.length ≤ 9223372036854775807 by omega]
  by_cases h4 : k = 4
  · subst h4; simp [phrW, kindW, show n.length + 9 ≤ 9223372036854775807 by omega, show 9 + n.length ≤ 9223372036854775807 by omega]
  by_cases h5 : k = 5
  · subst h5; simp [phrW, kindW, show n.length + 11 ≤ 9223372036854775807 by omega, show 11 + n.length ≤ 9223372036854775807 by omega]
  by_cases h6 : k = 6
  · subst h6; simp [phrW, kindW, show n.length + 10 ≤ 9223372036854775807 by omega, show 10 + n.length ≤ 9223372036854775807 by omega]
  by_cases h7 : k = 7
  · subst h7; simp [phrW, kindW, show n.length + 6 ≤ 9223372036854775807 by omega, show 6 + n.length ≤ 9223372036854775807 by omega]
  by_cases h8 : k = 8
  · subst h8; simp [phrW, kindW, show n.length + 13 ≤ 9223372036854775807 by omega, show 13 + n.length ≤ 9223372036854775807 by omega]
  simp [h1, h2, h3, h4, h5, h6, h7, h8, phrW, kindW]
end Go.Proofs.YtdnkdeplpnbojaaDoor
