/-
  NARROWER THAN 'FOR EVERY INPUT', by the rows' own cells (each row's printed sentence says how): NumDivides: laid · NumTexts: laid · NumRests: laid · NumGcds: laid · NumAdds: laid · NumUndoes: laid · ExplainErrors: laid · ExplainGoals: laid · ExplainFailures: loops, laid · ExplainReports: loops, laid · ExplainParts: loops, laid.
  DERIVED. THE GIVEN ROWS OF THIS SEAT. 11 by the template 'for every input the law returns true; each argument reads behind the call as it read before'; 0 by the template 'total and deterministic' (their statements: YtdnkdeplpnbojaaDoorTotals.lean).
  GIVEN WITH THE SEED: the statements are not yours to turn. If you find one false, say at which input.
  Laid BY PROGRAM, IN A SANDBOX (cutbox-rows.mjs): the forced cells as the released guide's own fill.sh prints them over the translation a66fc4e374371fe8… (all of the seat's roots in one cut). By AI agents, Wed Nov 11 2026. No macro, syntax, notation, axiom, sorry.
-/
import Derived.Test.YtdnkdeplpnbojaaDoorChecked
import GoSem.Claim
import GoSem.ClaimJoined
import GoSem.ClaimMapViews
import Derived.JoinedTies
import Derived.KernelRfl
namespace Go.Proofs.YtdnkdeplpnbojaaDoor
/- THE CELL 'sum', in the pinned program and in every row, IS THE sha256 OF THE DUMP (.gsa) THAT YtdnkdeplpnbojaaDoorProg.lean LOADS. Nothing in Lean hashes anything: it is a label: what it is worth is what the hold of that sum in a sandbox is worth. -/
noncomputable def Tryd.pinned : Pinned := { name := "ytdnkdeplpnbojaadoor", sum := "a66fc4e374371fe8704d13ab2bcb8a7babbca8dd4c337987b49220a0d75c9b83", checked := Tryd.checked }
namespace Rows
def none {H : Type} : Left H := { results := [], args := [] }

/- WHAT THE LISTED PACKAGE-LEVEL VARIABLES READ AS WHEN THE CALL BEGINS. Each datum BY PROGRAM (the guide's laid-datum.mjs) off the statement by which the dump's own 'gosem.cut.vars' lays the variable. In a bare row this is a premise. The card (YtdnkdeplpnbojaaDoorCards.lean) ties it to the program's text. -/
def laid_math_bits_deBruijn32tab {H : Type} : DataW H := .agg [.lit (.int .u8 0), .lit (.int .u8 1), .lit (.int .u8 28), .lit (.int .u8 2), .lit (.int .u8 29), .lit (.int .u8 14), .lit (.int .u8 24), .lit (.int .u8 3), .lit (.int .u8 30), .lit (.int .u8 22), .lit (.int .u8 20), .lit (.int .u8 15), .lit (.int .u8 25), .lit (.int .u8 17), .lit (.int .u8 4), .lit (.int .u8 8), .lit (.int .u8 31), .lit (.int .u8 27), .lit (.int .u8 13), .lit (.int .u8 23), .lit (.int .u8 21), .lit (.int .u8 19), .lit (.int .u8 16), .lit (.int .u8 7), .lit (.int .u8 26), .lit (.int .u8 12), .lit (.int .u8 18), .lit (.int .u8 6), .lit (.int .u8 11), .lit (.int .u8 5), .lit (.int .u8 10), .lit (.int .u8 9)]
def laid_math_bits_deBruijn64tab {H : Type} : DataW H := .agg [.lit (.int .u8 0), .lit (.int .u8 1), .lit (.int .u8 56), .lit (.int .u8 2), .lit (.int .u8 57), .lit (.int .u8 49), .lit (.int .u8 28), .lit (.int .u8 3), .lit (.int .u8 61), .lit (.int .u8 58), .lit (.int .u8 42), .lit (.int .u8 50), .lit (.int .u8 38), .lit (.int .u8 29), .lit (.int .u8 17), .lit (.int .u8 4), .lit (.int .u8 62), .lit (.int .u8 47), .lit (.int .u8 59), .lit (.int .u8 36), .lit (.int .u8 45), .lit (.int .u8 43), .lit (.int .u8 51), .lit (.int .u8 22), .lit (.int .u8 53), .lit (.int .u8 39), .lit (.int .u8 33), .lit (.int .u8 30), .lit (.int .u8 24), .lit (.int .u8 18), .lit (.int .u8 12), .lit (.int .u8 5), .lit (.int .u8 63), .lit (.int .u8 55), .lit (.int .u8 48), .lit (.int .u8 27), .lit (.int .u8 60), .lit (.int .u8 41), .lit (.int .u8 37), .lit (.int .u8 16), .lit (.int .u8 46), .lit (.int .u8 35), .lit (.int .u8 44), .lit (.int .u8 21), .lit (.int .u8 52), .lit (.int .u8 32), .lit (.int .u8 23), .lit (.int .u8 11), .lit (.int .u8 54), .lit (.int .u8 26), .lit (.int .u8 40), .lit (.int .u8 15), .lit (.int .u8 34), .lit (.int .u8 20), .lit (.int .u8 31), .lit (.int .u8 10), .lit (.int .u8 25), .lit (.int .u8 14), .lit (.int .u8 19), .lit (.int .u8 9), .lit (.int .u8 13), .lit (.int .u8 8), .lit (.int .u8 7), .lit (.int .u8 6)]
def laid_internal_strconv_uint64pow10 {H : Type} : DataW H := .agg [.lit (.int .u64 1), .lit (.int .u64 10), .lit (.int .u64 100), .lit (.int .u64 1000), .lit (.int .u64 10000), .lit (.int .u64 100000), .lit (.int .u64 1000000), .lit (.int .u64 10000000), .lit (.int .u64 100000000), .lit (.int .u64 1000000000), .lit (.int .u64 10000000000), .lit (.int .u64 100000000000), .lit (.int .u64 1000000000000), .lit (.int .u64 10000000000000), .lit (.int .u64 100000000000000), .lit (.int .u64 1000000000000000), .lit (.int .u64 10000000000000000), .lit (.int .u64 100000000000000000), .lit (.int .u64 1000000000000000000), .lit (.int .u64 10000000000000000000)]
def laid_liquidcheck_explain_words {H : Type} : DataW H := .agg [.lit (.string [110, 111, 32, 101, 114, 114, 111, 114]), .lit (.string [119, 114, 111, 110, 103, 32, 107, 105, 110, 100, 32, 111, 114, 32, 102, 105, 101, 108, 100]), .lit (.string [110, 117, 109, 98, 101, 114, 32, 111, 117, 116, 32, 111, 102, 32, 114, 97, 110, 103, 101]), .lit (.string [119, 114, 111, 110, 103, 32, 110, 97, 109, 101]), .lit (.string [111, 99, 99, 117, 114, 115, 32, 116, 119, 105, 99, 101]), .lit (.string [117, 110, 107, 110, 111, 119, 110]), .lit (.string [119, 114, 111, 110, 103, 32, 102, 111, 114, 109]), .lit (.string [116, 111, 111, 32, 108, 111, 110, 103]), .lit (.string [116, 111, 111, 32, 100, 101, 101, 112]), .lit (.string [119, 114, 111, 110, 103, 32, 111, 114, 100, 101, 114]), .lit (.string [116, 111, 111, 32, 115, 104, 111, 114, 116]), .lit (.string [115, 111, 114, 116, 115, 32, 100, 111, 32, 110, 111, 116, 32, 102, 105, 116]), .lit (.string [116, 121, 112, 101, 115, 32, 100, 111, 32, 110, 111, 116, 32, 102, 105, 116]), .lit (.string [119, 114, 111, 110, 103, 32, 110, 117, 109, 98, 101, 114, 32, 111, 102, 32, 97, 114, 103, 117, 109, 101, 110, 116, 115]), .lit (.string [116, 101, 120, 116, 32, 99, 97, 110, 110, 111, 116, 32, 98, 101, 32, 114, 101, 97, 100]), .lit (.string [99, 101, 108, 108, 32, 117, 115, 101, 100, 32, 116, 119, 105, 99, 101]), .lit (.string [118, 97, 114, 105, 97, 98, 108, 101, 32, 110, 111, 116, 32, 118, 105, 115, 105, 98, 108, 101]), .lit (.string [110, 111, 32, 105, 110, 115, 116, 97, 110, 99, 101]), .lit (.string [102, 117, 108, 108]), .lit (.string [110, 111, 116, 32, 112, 111, 115, 115, 105, 98, 108, 101, 32, 110, 111, 119]), .lit (.string [119, 114, 111, 110, 103, 32, 112, 114, 111, 111, 102]), .lit (.string [110, 111, 116, 32, 112, 114, 111, 118, 101, 100]), .lit (.string [116, 101, 114, 109, 105, 110, 97, 116, 105, 111, 110, 32, 110, 111, 116, 32, 112, 114, 111, 118, 101, 100]), .lit (.string [110, 111, 32, 98, 114, 97, 110, 99, 104]), .lit (.string [111, 117, 116, 32, 111, 102, 32, 115, 116, 101, 112, 115]), .lit (.string [110, 117, 109, 98, 101, 114, 32, 111, 117, 116, 32, 111, 102, 32, 98, 111, 117, 110, 100, 115]), .lit (.string [97, 115, 115, 117, 109, 101, 100, 32, 102, 117, 110, 99, 116, 105, 111, 110]), .lit (.string [100, 105, 118, 105, 115, 105, 111, 110, 32, 98, 121, 32, 122, 101, 114, 111]), .lit (.string [114, 101, 102, 105, 110, 101, 109, 101, 110, 116, 32, 118, 105, 111, 108, 97, 116, 101, 100])]

/-- 'liquidchecklaw01.NumDivides': WHATEVER THE INPUT: true; the input reads as it did. -/
def numDividesSpec : ChangeSpec := { name := "numDivides", fn := fun _ => fun
  | [d1, d2] => { results := [.lit (.bool true)], args := [d1, d2] }
  | _ => none }
def numDividesRow : OpenClaim := { program := "ytdnkdeplpnbojaadoor", sum := "a66fc4e374371fe8704d13ab2bcb8a7babbca8dd4c337987b49220a0d75c9b83", func := "liquidcheck/liquidchecklaw01.NumDivides", spec := "numDivides", named := ["internal/strconv.uint64pow10", "math/bits.deBruijn32tab", "math/bits.deBruijn64tab"], apart := false, laid := [("math/bits.deBruijn32tab", laid_math_bits_deBruijn32tab), ("math/bits.deBruijn64tab", laid_math_bits_deBruijn64tab), ("internal/strconv.uint64pow10", laid_internal_strconv_uint64pow10)] }
def NumDividesSaid : Prop := numDividesRow.holds Tryd.pinned (OpenSpec.ofChange numDividesSpec)

/-- ITS FALSE NEIGHBOUR: 'it returns false'. Refute it at one input. -/
def numDividesWrong : ChangeSpec := { name := "numDivides", fn := fun _ => fun
  | [d1, d2] => { results := [.lit (.bool false)], args := [d1, d2] }
  | _ => none }
def NumDividesWrongFalsely : Prop := numDividesRow.holds Tryd.pinned (OpenSpec.ofChange numDividesWrong)

/-- 'liquidchecklaw01.NumTexts': WHATEVER THE INPUT: true; the input reads as it did. -/
def numTextsSpec : ChangeSpec := { name := "numTexts", fn := fun _ => fun
  | [d1, d2] => { results := [.lit (.bool true)], args := [d1, d2] }
  | _ => none }
def numTextsRow : OpenClaim := { program := "ytdnkdeplpnbojaadoor", sum := "a66fc4e374371fe8704d13ab2bcb8a7babbca8dd4c337987b49220a0d75c9b83", func := "liquidcheck/liquidchecklaw01.NumTexts", spec := "numTexts", named := ["internal/strconv.uint64pow10", "math/bits.deBruijn32tab", "math/bits.deBruijn64tab"], apart := false, laid := [("math/bits.deBruijn32tab", laid_math_bits_deBruijn32tab), ("math/bits.deBruijn64tab", laid_math_bits_deBruijn64tab), ("internal/strconv.uint64pow10", laid_internal_strconv_uint64pow10)] }
def NumTextsSaid : Prop := numTextsRow.holds Tryd.pinned (OpenSpec.ofChange numTextsSpec)

/-- ITS FALSE NEIGHBOUR: 'it returns false'. Refute it at one input. -/
def numTextsWrong : ChangeSpec := { name := "numTexts", fn := fun _ => fun
  | [d1, d2] => { results := [.lit (.bool false)], args := [d1, d2] }
  | _ => none }
def NumTextsWrongFalsely : Prop := numTextsRow.holds Tryd.pinned (OpenSpec.ofChange numTextsWrong)

/-- 'liquidchecklaw01.NumRests': WHATEVER THE INPUT: true; the input reads as it did. -/
def numRestsSpec : ChangeSpec := { name := "numRests", fn := fun _ => fun
  | [d1, d2] => { results := [.lit (.bool true)], args := [d1, d2] }
  | _ => none }
def numRestsRow : OpenClaim := { program := "ytdnkdeplpnbojaadoor", sum := "a66fc4e374371fe8704d13ab2bcb8a7babbca8dd4c337987b49220a0d75c9b83", func := "liquidcheck/liquidchecklaw01.NumRests", spec := "numRests", named := ["internal/strconv.uint64pow10", "math/bits.deBruijn32tab", "math/bits.deBruijn64tab"], apart := false, laid := [("math/bits.deBruijn32tab", laid_math_bits_deBruijn32tab), ("math/bits.deBruijn64tab", laid_math_bits_deBruijn64tab), ("internal/strconv.uint64pow10", laid_internal_strconv_uint64pow10)] }
def NumRestsSaid : Prop := numRestsRow.holds Tryd.pinned (OpenSpec.ofChange numRestsSpec)

/-- ITS FALSE NEIGHBOUR: 'it returns false'. Refute it at one input. -/
def numRestsWrong : ChangeSpec := { name := "numRests", fn := fun _ => fun
  | [d1, d2] => { results := [.lit (.bool false)], args := [d1, d2] }
  | _ => none }
def NumRestsWrongFalsely : Prop := numRestsRow.holds Tryd.pinned (OpenSpec.ofChange numRestsWrong)

/-- 'liquidchecklaw01.NumGcds': WHATEVER THE INPUT: true; the input reads as it did. -/
def numGcdsSpec : ChangeSpec := { name := "numGcds", fn := fun _ => fun
  | [d1, d2, d3] => { results := [.lit (.bool true)], args := [d1, d2, d3] }
  | _ => none }
def numGcdsRow : OpenClaim := { program := "ytdnkdeplpnbojaadoor", sum := "a66fc4e374371fe8704d13ab2bcb8a7babbca8dd4c337987b49220a0d75c9b83", func := "liquidcheck/liquidchecklaw01.NumGcds", spec := "numGcds", named := ["internal/strconv.uint64pow10", "math/bits.deBruijn32tab", "math/bits.deBruijn64tab"], apart := false, laid := [("math/bits.deBruijn32tab", laid_math_bits_deBruijn32tab), ("math/bits.deBruijn64tab", laid_math_bits_deBruijn64tab), ("internal/strconv.uint64pow10", laid_internal_strconv_uint64pow10)] }
def NumGcdsSaid : Prop := numGcdsRow.holds Tryd.pinned (OpenSpec.ofChange numGcdsSpec)

/-- ITS FALSE NEIGHBOUR: 'it returns false'. Refute it at one input. -/
def numGcdsWrong : ChangeSpec := { name := "numGcds", fn := fun _ => fun
  | [d1, d2, d3] => { results := [.lit (.bool false)], args := [d1, d2, d3] }
  | _ => none }
def NumGcdsWrongFalsely : Prop := numGcdsRow.holds Tryd.pinned (OpenSpec.ofChange numGcdsWrong)

/-- 'liquidchecklaw01.NumAdds': WHATEVER THE INPUT: true; the input reads as it did. -/
def numAddsSpec : ChangeSpec := { name := "numAdds", fn := fun _ => fun
  | [d1, d2] => { results := [.lit (.bool true)], args := [d1, d2] }
  | _ => none }
def numAddsRow : OpenClaim := { program := "ytdnkdeplpnbojaadoor", sum := "a66fc4e374371fe8704d13ab2bcb8a7babbca8dd4c337987b49220a0d75c9b83", func := "liquidcheck/liquidchecklaw01.NumAdds", spec := "numAdds", named := ["internal/strconv.uint64pow10", "math/bits.deBruijn32tab", "math/bits.deBruijn64tab"], apart := false, laid := [("math/bits.deBruijn32tab", laid_math_bits_deBruijn32tab), ("math/bits.deBruijn64tab", laid_math_bits_deBruijn64tab), ("internal/strconv.uint64pow10", laid_internal_strconv_uint64pow10)] }
def NumAddsSaid : Prop := numAddsRow.holds Tryd.pinned (OpenSpec.ofChange numAddsSpec)

/-- ITS FALSE NEIGHBOUR: 'it returns false'. Refute it at one input. -/
def numAddsWrong : ChangeSpec := { name := "numAdds", fn := fun _ => fun
  | [d1, d2] => { results := [.lit (.bool false)], args := [d1, d2] }
  | _ => none }
def NumAddsWrongFalsely : Prop := numAddsRow.holds Tryd.pinned (OpenSpec.ofChange numAddsWrong)

/-- 'liquidchecklaw01.NumUndoes': WHATEVER THE INPUT: true; the input reads as it did. -/
def numUndoesSpec : ChangeSpec := { name := "numUndoes", fn := fun _ => fun
  | [d1, d2] => { results := [.lit (.bool true)], args := [d1, d2] }
  | _ => none }
def numUndoesRow : OpenClaim := { program := "ytdnkdeplpnbojaadoor", sum := "a66fc4e374371fe8704d13ab2bcb8a7babbca8dd4c337987b49220a0d75c9b83", func := "liquidcheck/liquidchecklaw01.NumUndoes", spec := "numUndoes", named := ["internal/strconv.uint64pow10", "math/bits.deBruijn32tab", "math/bits.deBruijn64tab"], apart := false, laid := [("math/bits.deBruijn32tab", laid_math_bits_deBruijn32tab), ("math/bits.deBruijn64tab", laid_math_bits_deBruijn64tab), ("internal/strconv.uint64pow10", laid_internal_strconv_uint64pow10)] }
def NumUndoesSaid : Prop := numUndoesRow.holds Tryd.pinned (OpenSpec.ofChange numUndoesSpec)

/-- ITS FALSE NEIGHBOUR: 'it returns false'. Refute it at one input. -/
def numUndoesWrong : ChangeSpec := { name := "numUndoes", fn := fun _ => fun
  | [d1, d2] => { results := [.lit (.bool false)], args := [d1, d2] }
  | _ => none }
def NumUndoesWrongFalsely : Prop := numUndoesRow.holds Tryd.pinned (OpenSpec.ofChange numUndoesWrong)

/-- 'liquidchecklaw53.ExplainErrors': WHATEVER THE INPUT: true; the input reads as it did. -/
def explainErrorsSpec : ChangeSpec := { name := "explainErrors", fn := fun _ => fun
  | [d] => { results := [.lit (.bool true)], args := [d] }
  | _ => none }
def explainErrorsRow : OpenClaim := { program := "ytdnkdeplpnbojaadoor", sum := "a66fc4e374371fe8704d13ab2bcb8a7babbca8dd4c337987b49220a0d75c9b83", func := "liquidcheck/liquidchecklaw53.ExplainErrors", spec := "explainErrors", inPlace := ["internal/abi.NoEscape", "internal/bytealg.MakeNoZero"], recurses := true, named := ["liquidcheck/explain.words", "internal/strconv.uint64pow10", "math/bits.deBruijn32tab", "math/bits.deBruijn64tab"], apart := false, laid := [("math/bits.deBruijn32tab", laid_math_bits_deBruijn32tab), ("math/bits.deBruijn64tab", laid_math_bits_deBruijn64tab), ("internal/strconv.uint64pow10", laid_internal_strconv_uint64pow10), ("liquidcheck/explain.words", laid_liquidcheck_explain_words)] }
def ExplainErrorsSaid : Prop := explainErrorsRow.holds Tryd.pinned (OpenSpec.ofChange explainErrorsSpec)

/-- ITS FALSE NEIGHBOUR: 'it returns false'. Refute it at one input. -/
def explainErrorsWrong : ChangeSpec := { name := "explainErrors", fn := fun _ => fun
  | [d] => { results := [.lit (.bool false)], args := [d] }
  | _ => none }
def ExplainErrorsWrongFalsely : Prop := explainErrorsRow.holds Tryd.pinned (OpenSpec.ofChange explainErrorsWrong)

/-- 'liquidchecklaw53.ExplainGoals': WHATEVER THE INPUT: true; the input reads as it did. -/
def explainGoalsSpec : ChangeSpec := { name := "explainGoals", fn := fun _ => fun
  | [d1, d2] => { results := [.lit (.bool true)], args := [d1, d2] }
  | _ => none }
def explainGoalsRow : OpenClaim := { program := "ytdnkdeplpnbojaadoor", sum := "a66fc4e374371fe8704d13ab2bcb8a7babbca8dd4c337987b49220a0d75c9b83", func := "liquidcheck/liquidchecklaw53.ExplainGoals", spec := "explainGoals", inPlace := ["internal/abi.NoEscape", "internal/bytealg.MakeNoZero"], recurses := true, named := ["liquidcheck/explain.words", "internal/strconv.uint64pow10", "math/bits.deBruijn32tab", "math/bits.deBruijn64tab"], apart := false, laid := [("math/bits.deBruijn32tab", laid_math_bits_deBruijn32tab), ("math/bits.deBruijn64tab", laid_math_bits_deBruijn64tab), ("internal/strconv.uint64pow10", laid_internal_strconv_uint64pow10), ("liquidcheck/explain.words", laid_liquidcheck_explain_words)] }
def ExplainGoalsSaid : Prop := explainGoalsRow.holds Tryd.pinned (OpenSpec.ofChange explainGoalsSpec)

/-- ITS FALSE NEIGHBOUR: 'it returns false'. Refute it at one input. -/
def explainGoalsWrong : ChangeSpec := { name := "explainGoals", fn := fun _ => fun
  | [d1, d2] => { results := [.lit (.bool false)], args := [d1, d2] }
  | _ => none }
def ExplainGoalsWrongFalsely : Prop := explainGoalsRow.holds Tryd.pinned (OpenSpec.ofChange explainGoalsWrong)

/-- 'liquidchecklaw53.ExplainFailures': WHATEVER THE INPUT: true; the input reads as it did. -/
def explainFailuresSpec : ChangeSpec := { name := "explainFailures", fn := fun _ => fun
  | [d] => { results := [.lit (.bool true)], args := [d] }
  | _ => none }
def explainFailuresRow : OpenClaim := { program := "ytdnkdeplpnbojaadoor", sum := "a66fc4e374371fe8704d13ab2bcb8a7babbca8dd4c337987b49220a0d75c9b83", func := "liquidcheck/liquidchecklaw53.ExplainFailures", spec := "explainFailures", inPlace := ["internal/abi.NoEscape", "internal/bytealg.MakeNoZero"], recurses := true, named := ["liquidcheck/explain.words", "internal/strconv.uint64pow10", "math/bits.deBruijn32tab", "math/bits.deBruijn64tab"], loops := true, apart := false, laid := [("math/bits.deBruijn32tab", laid_math_bits_deBruijn32tab), ("math/bits.deBruijn64tab", laid_math_bits_deBruijn64tab), ("internal/strconv.uint64pow10", laid_internal_strconv_uint64pow10), ("liquidcheck/explain.words", laid_liquidcheck_explain_words)] }
def ExplainFailuresSaid : Prop := explainFailuresRow.holds Tryd.pinned (OpenSpec.ofChange explainFailuresSpec)

/-- ITS FALSE NEIGHBOUR: 'it returns false'. Refute it at one input. -/
def explainFailuresWrong : ChangeSpec := { name := "explainFailures", fn := fun _ => fun
  | [d] => { results := [.lit (.bool false)], args := [d] }
  | _ => none }
def ExplainFailuresWrongFalsely : Prop := explainFailuresRow.holds Tryd.pinned (OpenSpec.ofChange explainFailuresWrong)

/-- 'liquidchecklaw53.ExplainReports': WHATEVER THE INPUT: true; the input reads as it did. -/
def explainReportsSpec : ChangeSpec := { name := "explainReports", fn := fun _ => fun
  | [d] => { results := [.lit (.bool true)], args := [d] }
  | _ => none }
def explainReportsRow : OpenClaim := { program := "ytdnkdeplpnbojaadoor", sum := "a66fc4e374371fe8704d13ab2bcb8a7babbca8dd4c337987b49220a0d75c9b83", func := "liquidcheck/liquidchecklaw53.ExplainReports", spec := "explainReports", inPlace := ["internal/abi.NoEscape", "internal/bytealg.MakeNoZero"], recurses := true, named := ["internal/strconv.uint64pow10", "math/bits.deBruijn32tab", "math/bits.deBruijn64tab", "liquidcheck/explain.words"], loops := true, apart := false, laid := [("math/bits.deBruijn32tab", laid_math_bits_deBruijn32tab), ("math/bits.deBruijn64tab", laid_math_bits_deBruijn64tab), ("internal/strconv.uint64pow10", laid_internal_strconv_uint64pow10), ("liquidcheck/explain.words", laid_liquidcheck_explain_words)] }
def ExplainReportsSaid : Prop := explainReportsRow.holds Tryd.pinned (OpenSpec.ofChange explainReportsSpec)

/-- ITS FALSE NEIGHBOUR: 'it returns false'. Refute it at one input. -/
def explainReportsWrong : ChangeSpec := { name := "explainReports", fn := fun _ => fun
  | [d] => { results := [.lit (.bool false)], args := [d] }
  | _ => none }
def ExplainReportsWrongFalsely : Prop := explainReportsRow.holds Tryd.pinned (OpenSpec.ofChange explainReportsWrong)

/-- 'liquidchecklaw53.ExplainParts': WHATEVER THE INPUT: true; the input reads as it did. -/
def explainPartsSpec : ChangeSpec := { name := "explainParts", fn := fun _ => fun
  | [d1, d2, d3] => { results := [.lit (.bool true)], args := [d1, d2, d3] }
  | _ => none }
def explainPartsRow : OpenClaim := { program := "ytdnkdeplpnbojaadoor", sum := "a66fc4e374371fe8704d13ab2bcb8a7babbca8dd4c337987b49220a0d75c9b83", func := "liquidcheck/liquidchecklaw53.ExplainParts", spec := "explainParts", inPlace := ["internal/abi.NoEscape", "internal/bytealg.MakeNoZero"], recurses := true, named := ["liquidcheck/explain.words", "internal/strconv.uint64pow10", "math/bits.deBruijn32tab", "math/bits.deBruijn64tab"], loops := true, apart := false, laid := [("math/bits.deBruijn32tab", laid_math_bits_deBruijn32tab), ("math/bits.deBruijn64tab", laid_math_bits_deBruijn64tab), ("internal/strconv.uint64pow10", laid_internal_strconv_uint64pow10), ("liquidcheck/explain.words", laid_liquidcheck_explain_words)] }
def ExplainPartsSaid : Prop := explainPartsRow.holds Tryd.pinned (OpenSpec.ofChange explainPartsSpec)

/-- ITS FALSE NEIGHBOUR: 'it returns false'. Refute it at one input. -/
def explainPartsWrong : ChangeSpec := { name := "explainParts", fn := fun _ => fun
  | [d1, d2, d3] => { results := [.lit (.bool false)], args := [d1, d2, d3] }
  | _ => none }
def ExplainPartsWrongFalsely : Prop := explainPartsRow.holds Tryd.pinned (OpenSpec.ofChange explainPartsWrong)

/- THE SECOND FORM. 'bulk': how many values and letters a reading holds, each counted each time it is reached (what is shared counts as often as it is met; a slice's spare places count too). A statement '..UptoSaid' is the law's where the arguments, and the package variables that the reading takes, are together of bulk at most 1048576: NARROWER than '..Said'. Prove '..Said' where nothing that the law and all that it calls make is longer than what came in: it says more and counts as full. Else prove '..UptoSaid'. A law counts once. -/
mutual
def uptoBulk {H : Type} : DataW H → Nat
  | .lit (.string bytes) => bytes.length + 1
  | .lit _ => 1
  | .nil => 1
  | .ptr d => uptoBulk d + 1
  | .slice elems spare => uptoBulkAll elems + uptoBulkAll spare + 1
  | .agg parts => uptoBulkAll parts + 1
  | .iface _ d => uptoBulk d + 1
  | .map entries => uptoBulkEntries entries + 1
  | .held _ => 1
def uptoBulkAll {H : Type} : List (DataW H) → Nat
  | [] => 0
  | d :: r => uptoBulk d + uptoBulkAll r
def uptoBulkEntries {H : Type} : List (Lit × DataW H) → Nat
  | [] => 0
  | x :: r => uptoBulkEntry x + uptoBulkEntries r
def uptoBulkEntry {H : Type} : Lit × DataW H → Nat
  | (.string bytes, d) => bytes.length + uptoBulk d + 1
  | (_, d) => uptoBulk d + 1
 end
def uptoSmall : (H : Type) → List (DataW H) → Bool := fun _ ds => decide (uptoBulkAll ds ≤ 1048576)
def OpenSpec.upto (s : _root_.Go.ChangeSpec) : _root_.Go.OpenSpec := { _root_.Go.OpenSpec.ofChange s with cond := some uptoSmall }

/-- 'liquidchecklaw01.NumDivides', WHERE WHAT IT READS IS OF BULK AT MOST 1048576: true; the input reads as it did. -/
def numDividesUptoRow : OpenClaim := { program := "ytdnkdeplpnbojaadoor", sum := "a66fc4e374371fe8704d13ab2bcb8a7babbca8dd4c337987b49220a0d75c9b83", func := "liquidcheck/liquidchecklaw01.NumDivides", spec := "numDivides", named := ["internal/strconv.uint64pow10", "math/bits.deBruijn32tab", "math/bits.deBruijn64tab"], apart := false, laid := [("math/bits.deBruijn32tab", laid_math_bits_deBruijn32tab), ("math/bits.deBruijn64tab", laid_math_bits_deBruijn64tab), ("internal/strconv.uint64pow10", laid_internal_strconv_uint64pow10)], narrowed := true }
def NumDividesUptoSaid : Prop := numDividesUptoRow.holds Tryd.pinned (OpenSpec.upto numDividesSpec)

/-- 'liquidchecklaw01.NumTexts', WHERE WHAT IT READS IS OF BULK AT MOST 1048576: true; the input reads as it did. -/
def numTextsUptoRow : OpenClaim := { program := "ytdnkdeplpnbojaadoor", sum := "a66fc4e374371fe8704d13ab2bcb8a7babbca8dd4c337987b49220a0d75c9b83", func := "liquidcheck/liquidchecklaw01.NumTexts", spec := "numTexts", named := ["internal/strconv.uint64pow10", "math/bits.deBruijn32tab", "math/bits.deBruijn64tab"], apart := false, laid := [("math/bits.deBruijn32tab", laid_math_bits_deBruijn32tab), ("math/bits.deBruijn64tab", laid_math_bits_deBruijn64tab), ("internal/strconv.uint64pow10", laid_internal_strconv_uint64pow10)], narrowed := true }
def NumTextsUptoSaid : Prop := numTextsUptoRow.holds Tryd.pinned (OpenSpec.upto numTextsSpec)

/-- 'liquidchecklaw01.NumRests', WHERE WHAT IT READS IS OF BULK AT MOST 1048576: true; the input reads as it did. -/
def numRestsUptoRow : OpenClaim := { program := "ytdnkdeplpnbojaadoor", sum := "a66fc4e374371fe8704d13ab2bcb8a7babbca8dd4c337987b49220a0d75c9b83", func := "liquidcheck/liquidchecklaw01.NumRests", spec := "numRests", named := ["internal/strconv.uint64pow10", "math/bits.deBruijn32tab", "math/bits.deBruijn64tab"], apart := false, laid := [("math/bits.deBruijn32tab", laid_math_bits_deBruijn32tab), ("math/bits.deBruijn64tab", laid_math_bits_deBruijn64tab), ("internal/strconv.uint64pow10", laid_internal_strconv_uint64pow10)], narrowed := true }
def NumRestsUptoSaid : Prop := numRestsUptoRow.holds Tryd.pinned (OpenSpec.upto numRestsSpec)

/-- 'liquidchecklaw01.NumGcds', WHERE WHAT IT READS IS OF BULK AT MOST 1048576: true; the input reads as it did. -/
def numGcdsUptoRow : OpenClaim := { program := "ytdnkdeplpnbojaadoor", sum := "a66fc4e374371fe8704d13ab2bcb8a7babbca8dd4c337987b49220a0d75c9b83", func := "liquidcheck/liquidchecklaw01.NumGcds", spec := "numGcds", named := ["internal/strconv.uint64pow10", "math/bits.deBruijn32tab", "math/bits.deBruijn64tab"], apart := false, laid := [("math/bits.deBruijn32tab", laid_math_bits_deBruijn32tab), ("math/bits.deBruijn64tab", laid_math_bits_deBruijn64tab), ("internal/strconv.uint64pow10", laid_internal_strconv_uint64pow10)], narrowed := true }
def NumGcdsUptoSaid : Prop := numGcdsUptoRow.holds Tryd.pinned (OpenSpec.upto numGcdsSpec)

/-- 'liquidchecklaw01.NumAdds', WHERE WHAT IT READS IS OF BULK AT MOST 1048576: true; the input reads as it did. -/
def numAddsUptoRow : OpenClaim := { program := "ytdnkdeplpnbojaadoor", sum := "a66fc4e374371fe8704d13ab2bcb8a7babbca8dd4c337987b49220a0d75c9b83", func := "liquidcheck/liquidchecklaw01.NumAdds", spec := "numAdds", named := ["internal/strconv.uint64pow10", "math/bits.deBruijn32tab", "math/bits.deBruijn64tab"], apart := false, laid := [("math/bits.deBruijn32tab", laid_math_bits_deBruijn32tab), ("math/bits.deBruijn64tab", laid_math_bits_deBruijn64tab), ("internal/strconv.uint64pow10", laid_internal_strconv_uint64pow10)], narrowed := true }
def NumAddsUptoSaid : Prop := numAddsUptoRow.holds Tryd.pinned (OpenSpec.upto numAddsSpec)

/-- 'liquidchecklaw01.NumUndoes', WHERE WHAT IT READS IS OF BULK AT MOST 1048576: true; the input reads as it did. -/
def numUndoesUptoRow : OpenClaim := { program := "ytdnkdeplpnbojaadoor", sum := "a66fc4e374371fe8704d13ab2bcb8a7babbca8dd4c337987b49220a0d75c9b83", func := "liquidcheck/liquidchecklaw01.NumUndoes", spec := "numUndoes", named := ["internal/strconv.uint64pow10", "math/bits.deBruijn32tab", "math/bits.deBruijn64tab"], apart := false, laid := [("math/bits.deBruijn32tab", laid_math_bits_deBruijn32tab), ("math/bits.deBruijn64tab", laid_math_bits_deBruijn64tab), ("internal/strconv.uint64pow10", laid_internal_strconv_uint64pow10)], narrowed := true }
def NumUndoesUptoSaid : Prop := numUndoesUptoRow.holds Tryd.pinned (OpenSpec.upto numUndoesSpec)

/-- 'liquidchecklaw53.ExplainErrors', WHERE WHAT IT READS IS OF BULK AT MOST 1048576: true; the input reads as it did. -/
def explainErrorsUptoRow : OpenClaim := { program := "ytdnkdeplpnbojaadoor", sum := "a66fc4e374371fe8704d13ab2bcb8a7babbca8dd4c337987b49220a0d75c9b83", func := "liquidcheck/liquidchecklaw53.ExplainErrors", spec := "explainErrors", inPlace := ["internal/abi.NoEscape", "internal/bytealg.MakeNoZero"], recurses := true, named := ["liquidcheck/explain.words", "internal/strconv.uint64pow10", "math/bits.deBruijn32tab", "math/bits.deBruijn64tab"], apart := false, laid := [("math/bits.deBruijn32tab", laid_math_bits_deBruijn32tab), ("math/bits.deBruijn64tab", laid_math_bits_deBruijn64tab), ("internal/strconv.uint64pow10", laid_internal_strconv_uint64pow10), ("liquidcheck/explain.words", laid_liquidcheck_explain_words)], narrowed := true }
def ExplainErrorsUptoSaid : Prop := explainErrorsUptoRow.holds Tryd.pinned (OpenSpec.upto explainErrorsSpec)

/-- 'liquidchecklaw53.ExplainGoals', WHERE WHAT IT READS IS OF BULK AT MOST 1048576: true; the input reads as it did. -/
def explainGoalsUptoRow : OpenClaim := { program := "ytdnkdeplpnbojaadoor", sum := "a66fc4e374371fe8704d13ab2bcb8a7babbca8dd4c337987b49220a0d75c9b83", func := "liquidcheck/liquidchecklaw53.ExplainGoals", spec := "explainGoals", inPlace := ["internal/abi.NoEscape", "internal/bytealg.MakeNoZero"], recurses := true, named := ["liquidcheck/explain.words", "internal/strconv.uint64pow10", "math/bits.deBruijn32tab", "math/bits.deBruijn64tab"], apart := false, laid := [("math/bits.deBruijn32tab", laid_math_bits_deBruijn32tab), ("math/bits.deBruijn64tab", laid_math_bits_deBruijn64tab), ("internal/strconv.uint64pow10", laid_internal_strconv_uint64pow10), ("liquidcheck/explain.words", laid_liquidcheck_explain_words)], narrowed := true }
def ExplainGoalsUptoSaid : Prop := explainGoalsUptoRow.holds Tryd.pinned (OpenSpec.upto explainGoalsSpec)

/-- 'liquidchecklaw53.ExplainFailures', WHERE WHAT IT READS IS OF BULK AT MOST 1048576: true; the input reads as it did. -/
def explainFailuresUptoRow : OpenClaim := { program := "ytdnkdeplpnbojaadoor", sum := "a66fc4e374371fe8704d13ab2bcb8a7babbca8dd4c337987b49220a0d75c9b83", func := "liquidcheck/liquidchecklaw53.ExplainFailures", spec := "explainFailures", inPlace := ["internal/abi.NoEscape", "internal/bytealg.MakeNoZero"], recurses := true, named := ["liquidcheck/explain.words", "internal/strconv.uint64pow10", "math/bits.deBruijn32tab", "math/bits.deBruijn64tab"], loops := true, apart := false, laid := [("math/bits.deBruijn32tab", laid_math_bits_deBruijn32tab), ("math/bits.deBruijn64tab", laid_math_bits_deBruijn64tab), ("internal/strconv.uint64pow10", laid_internal_strconv_uint64pow10), ("liquidcheck/explain.words", laid_liquidcheck_explain_words)], narrowed := true }
def ExplainFailuresUptoSaid : Prop := explainFailuresUptoRow.holds Tryd.pinned (OpenSpec.upto explainFailuresSpec)

/-- 'liquidchecklaw53.ExplainReports', WHERE WHAT IT READS IS OF BULK AT MOST 1048576: true; the input reads as it did. -/
def explainReportsUptoRow : OpenClaim := { program := "ytdnkdeplpnbojaadoor", sum := "a66fc4e374371fe8704d13ab2bcb8a7babbca8dd4c337987b49220a0d75c9b83", func := "liquidcheck/liquidchecklaw53.ExplainReports", spec := "explainReports", inPlace := ["internal/abi.NoEscape", "internal/bytealg.MakeNoZero"], recurses := true, named := ["internal/strconv.uint64pow10", "math/bits.deBruijn32tab", "math/bits.deBruijn64tab", "liquidcheck/explain.words"], loops := true, apart := false, laid := [("math/bits.deBruijn32tab", laid_math_bits_deBruijn32tab), ("math/bits.deBruijn64tab", laid_math_bits_deBruijn64tab), ("internal/strconv.uint64pow10", laid_internal_strconv_uint64pow10), ("liquidcheck/explain.words", laid_liquidcheck_explain_words)], narrowed := true }
def ExplainReportsUptoSaid : Prop := explainReportsUptoRow.holds Tryd.pinned (OpenSpec.upto explainReportsSpec)

/-- 'liquidchecklaw53.ExplainParts', WHERE WHAT IT READS IS OF BULK AT MOST 1048576: true; the input reads as it did. -/
def explainPartsUptoRow : OpenClaim := { program := "ytdnkdeplpnbojaadoor", sum := "a66fc4e374371fe8704d13ab2bcb8a7babbca8dd4c337987b49220a0d75c9b83", func := "liquidcheck/liquidchecklaw53.ExplainParts", spec := "explainParts", inPlace := ["internal/abi.NoEscape", "internal/bytealg.MakeNoZero"], recurses := true, named := ["liquidcheck/explain.words", "internal/strconv.uint64pow10", "math/bits.deBruijn32tab", "math/bits.deBruijn64tab"], loops := true, apart := false, laid := [("math/bits.deBruijn32tab", laid_math_bits_deBruijn32tab), ("math/bits.deBruijn64tab", laid_math_bits_deBruijn64tab), ("internal/strconv.uint64pow10", laid_internal_strconv_uint64pow10), ("liquidcheck/explain.words", laid_liquidcheck_explain_words)], narrowed := true }
def ExplainPartsUptoSaid : Prop := explainPartsUptoRow.holds Tryd.pinned (OpenSpec.upto explainPartsSpec)

end Rows
end Go.Proofs.YtdnkdeplpnbojaaDoor
