/- Reports. No condition. -/
import Derived.Test.YtdnkdeplpnbojaaDoorEd
import Derived.Test.YtdnkdeplpnbojaaDoorNm
import Derived.Test.YtdnkdeplpnbojaaDoorUp
set_option linter.unusedVariables false
set_option linter.unusedSimpArgs false
set_option linter.unusedSectionVars false
namespace Go.Proofs.YtdnkdeplpnbojaaDoor
open Go Go.VM
set_option maxRecDepth 100000
set_option maxHeartbeats 8000000
variable {G : GT}
theorem lens_le : ∀ xs : List (List UInt8), xs.length + Lib.lens xs ≤ szLL (strs xs)
  | [] => by simp [Lib.lens]
  | x :: r => by
    have := lens_le r
    simp only [strs, List.map_cons, szLL, szL, szD, Lib.lens, List.sum_cons, List.length_cons] at this ⊢
    omega
theorem join_le (xs : List (List UInt8)) (sep : List UInt8) : (Lib.join xs sep).length ≤ sep.length * xs.length + Lib.lens xs := by
  cases xs with
  | nil => simp [Lib.join_nil]
  | cons x r =>
    rw [Lib.join_length, List.length_cons, Nat.mul_succ]
    omega
theorem join_small {xs : List (List UInt8)} {sep : List UInt8} (hx : szLL (strs xs) ≤ 1048576) (hs : sep.length ≤ 3) : xs.length ≤ 1048576 ∧ (Lib.join xs sep).length ≤ 5000000 := by
  have h1 := lens_le xs
  have h2 := join_le xs sep
  have h3 := Nat.mul_le_mul_right xs.length hs
  omega
/-- What a report says. -/
def repW (name : List UInt8) (st : Int) (nf : Nat) (xs : List (List UInt8)) : List UInt8 :=
  name ++ ([58, 32] ++ (statW st ++ ((if nf = 1 then [32, 40, 49, 32, 102, 97, 105, 108, 117, 114, 101, 41] else if 1 < nf then [32, 40] ++ (Lib.itoa nf ++ [32, 102, 97, 105, 108, 117, 114, 101, 115, 41]) else []) ++ (if 0 < xs.length then [44, 32, 97, 115, 115, 117, 109, 105, 110, 103, 32] ++ Lib.join xs [44, 32] else []))))
theorem stepK_len {P : Program} {q : Bool} {x : Out} {c : Prop} [Decidable c] {dst : Option Tmp} {all : Array Oper} {rest : List Oper} {k : List KI} {Q : Exit → St → Prop} (hc : c) (h : stepK P G q (some x) dst all rest k Q) : stepK P G q (if c then some x else none) dst all rest k Q := by
  rw [if_pos hc]
  exact h
theorem ent_e_Report : VM.Enters Tryd.prog 45 := VM.Enters.mk Tryd.func45 rfl
theorem e_Report_cs (hP : G 1 = some powCells) (name : List UInt8) (st : Int) (fs : List (List D)) (xs : List (List UInt8)) (tm : D) (c : Int) (hn : name.length ≤ 1048576) (hf : fs.length ≤ 1048576) (ha : szLL (strs xs) ≤ 1048576) : CS Tryd.prog G 45 [.agg [.str name, .int .i64 st, .sl fs, .sl (strs xs), tm, .int .i64 c]] (.d (.str (repW name st fs.length xs))) none := by
  refine CS.of_VK Tryd.func45 rfl Tryd.ntmps45 rfl ?_
  obtain ⟨hj1, hj2⟩ := join_small (xs := xs) (sep := [44, 32]) ha (by decide)
  have hs := statW_len st
  have hI : I64 fs.length := ⟨by omega, by omega⟩
  have hit := Lib.itoa_length_le fs.length hI.1 hI.2
  simp
  refine ⟨lexOk.mk (by kernel_rfl), ?_⟩
  repeat (refine stepK_len (by omega) ?_; simp)
  refine callK.mk ent_e_status (e_status_cs st) ?_
  by_cases h1 : fs.length = 1
  · by_cases hx : 0 < xs.length
    · simp [h1, hx]
      repeat (refine stepK_len (by omega) ?_; simp [h1, hx])
      refine callK.mk ent_Join (Join_cs (xs := xs) (by omega) (by omega)) ?_
      simp
      repeat (refine stepK_len (by omega) ?_; simp [h1, hx, repW])
    · simp [h1, hx, repW]
      repeat (refine stepK_len (by omega) ?_; simp [h1, hx, repW])
  · by_cases h2 : 1 < fs.length
    · simp [h1, h2]
      repeat (refine stepK_len (by omega) ?_; simp [h1, h2])
      refine callK.mk ent_m_Text (m_Text_cs hP _ hI) ?_
      by_cases hx : 0 < xs.length
      · simp [h1, h2, hx]
        repeat (refine stepK_len (by omega) ?_; simp [h1, h2, hx])
        refine callK.mk ent_Join (Join_cs (xs := xs) (by omega) (by omega)) ?_
        simp
        repeat (refine stepK_len (by omega) ?_; simp [h1, h2, hx, repW])
      · simp [h1, h2, hx, repW]
        repeat (refine stepK_len (by omega) ?_; simp [h1, h2, hx, repW])
    · by_cases hx : 0 < xs.length
      · simp [h1, h2, hx]
        repeat (refine stepK_len (by omega) ?_; simp [h1, h2, hx])
        refine callK.mk ent_Join (Join_cs (xs := xs) (by omega) (by omega)) ?_
        simp
        repeat (refine stepK_len (by omega) ?_; simp [h1, h2, hx, repW])
      · simp [h1, h2, hx, repW]
        repeat (refine stepK_len (by omega) ?_; simp [h1, h2, hx, repW])
theorem ent_r53_Report : VM.Enters Tryd.prog 46 := VM.Enters.mk Tryd.func46 rfl
theorem r53_Report_cs (hP : G 1 = some powCells) (name : List UInt8) (st : Int) (fs : List (List D)) (xs : List (List UInt8)) (tm : D) (c : Int) (hn : name.length ≤ 1048576) (hf : fs.length ≤ 1048576) (ha : szLL (strs xs) ≤ 1048576) : CS Tryd.prog G 46 [.agg [.str name, .int .i64 st, .sl fs, .sl (strs xs), tm, .int .i64 c]] (.d (.str (repW name st fs.length xs))) none := by
  refine CS.of_VK Tryd.func46 rfl Tryd.ntmps46 rfl ?_
  obtain ⟨hj1, hj2⟩ := join_small (xs := xs) (sep := [44, 32]) ha (by decide)
  have hs := statW_len st
  have hI : I64 fs.length := ⟨by omega, by omega⟩
  have hit := Lib.itoa_length_le fs.length hI.1 hI.2
  simp
  refine ⟨lexOk.mk (by kernel_rfl), ?_⟩
  repeat (refine stepK_len (by omega) ?_; simp)
  refine callK.mk ent_r53_status (r53_status_cs st) ?_
  by_cases h1 : fs.length = 1
  · by_cases hx : 0 < xs.length
    · simp [h1, hx]
      repeat (refine stepK_len (by omega) ?_; simp [h1, hx])
      refine callK.mk ent_r53_joined (r53_joined_cs xs _ (by omega) (by omega)) ?_
      simp
      repeat (refine stepK_len (by omega) ?_; simp [h1, hx, repW])
    · simp [h1, hx, repW]
      repeat (refine stepK_len (by omega) ?_; simp [h1, hx, repW])
  · by_cases h2 : 1 < fs.length
    · simp [h1, h2]
      repeat (refine stepK_len (by omega) ?_; simp [h1, h2])
      refine callK.mk ent_r1_Text (r1_Text_cs _ hI) ?_
      by_cases hx : 0 < xs.length
      · simp [h1, h2, hx]
        repeat (refine stepK_len (by omega) ?_; simp [h1, h2, hx])
        refine callK.mk ent_r53_joined (r53_joined_cs xs _ (by omega) (by omega)) ?_
        simp
        repeat (refine stepK_len (by omega) ?_; simp [h1, h2, hx, repW])
      · simp [h1, h2, hx, repW]
        repeat (refine stepK_len (by omega) ?_; simp [h1, h2, hx, repW])
    · by_cases hx : 0 < xs.length
      · simp [h1, h2, hx]
        repeat (refine stepK_len (by omega) ?_; simp [h1, h2, hx])
        refine callK.mk ent_r53_joined (r53_joined_cs xs _ (by omega) (by omega)) ?_
        simp
        repeat (refine stepK_len (by omega) ?_; simp [h1, h2, hx, repW])
      · simp [h1, h2, hx, repW]
        repeat (refine stepK_len (by omega) ?_; simp [h1, h2, hx, repW])
end Go.Proofs.YtdnkdeplpnbojaaDoor
