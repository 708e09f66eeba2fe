/- The examples of the statements about classes, run. No condition. -/
import Derived.Test.YtbacejmdgfalpaaDoorKr
import Derived.Test.YtbacejmdgfalpaaDoorZ6
set_option linter.unusedVariables false
set_option linter.unusedSimpArgs false
set_option linter.unusedSectionVars false
namespace Go.Proofs.YtbacejmdgfalpaaDoor
open Go Go.VM Go.RowKit
set_option maxRecDepth 100000
set_option maxHeartbeats 8000000
/-- The package-level variables whose cells are used. -/
def G0 : GT := fun g => if g = 0 then some kwCells else none
theorem G0_kw : G0 0 = some kwCells := rfl
def libN : CallF := fun _ _ => none
theorem libN_ok : CallOk Tryd.prog G0 libN := fun _ _ _ _ h => by cases h
theorem run_cs {f : FuncId} {ds : List D} {r : DV} {own : Option TypeId} (h : evalF Tryd.prog G0 libN 60 f ds = some (r, own)) : CS Tryd.prog G0 f ds r own := (evalF_ok libN_ok 60 f ds r own h).2
def moE : Mo := moX [in1, in2]
theorem findA : CS Tryd.prog G0 18 [.agg (moC moE), .str [69, 113], .agg (tyD (tL (tL tI)))] (resF (some (1, [tL tI]))) none := by
  have h := classes_Find_cs G0_kw moE (by simp [moE, moX]) (by simp [moE, moX, in1, in2, nodT, nodTs, allT, allTs, nodPs, nodP, strs]) 3 [69, 113] (tL (tL tI)) (by simp [nodT, nodTs]) (by omega)
  rw [show (if varsT (tL (tL tI)) [] = [] then findF moE.ins 3 [69, 113] (tL (tL tI)) else none) = some (1, [tL tI]) by kernel_rfl] at h
  exact h
theorem findB : CS Tryd.prog G0 18 [.agg (moC moE), .str [69, 113], .agg (tyD (tL tBo))] (resF none) none := by
  have h := classes_Find_cs G0_kw moE (by simp [moE, moX]) (by simp [moE, moX, in1, in2, nodT, nodTs, allT, allTs, nodPs, nodP, strs]) 3 [69, 113] (tL tBo) (by simp [nodT, nodTs]) (by omega)
  rw [show (if varsT (tL tBo) [] = [] then findF moE.ins 3 [69, 113] (tL tBo) else none) = none by kernel_rfl] at h
  exact h
abbrev litA : List D := [.int .i64 5, .str [97], .sl [], .sl [], .int .i64 0, .str [], .int .i64 0, .sl [], .sl []]
abbrev litI : List D := [.int .i64 1, .str [], .sl [], .sl [], .int .i64 0, .str [], .int .i64 0, .sl [], .sl []]
abbrev litL : List D := [.int .i64 4, .str [76, 105, 115, 116], .sl [litA], .sl [], .int .i64 0, .str [], .int .i64 0, .sl [], .sl []]
abbrev litDf : D := .sl [[.str [101, 113], .sl [[.str [120]], [.str [121]]], .int .i64 0, .str [], .int .i64 0, .sl [], .sl [], .sl [], .sl [], .int .i64 0, .bool false, .sl [], .sl [], .sl [], .sl [], .int .i64 0, .str [], .sl [], .sl [], .int .i64 0, .str [], .int .i64 0, .sl [], .sl [], .sl []]]
abbrev litCl : List D := [.str [69, 113], .str [97], .sl [[.str [101, 113], .int .i64 6, .str [], .sl [litA, litA, rawBo], .nils, .int .i64 0, .str [], .int .i64 0, .nils, .nils]]]
abbrev litMo (df : D) : List D := [.nils, .sl [litCl], .sl [[.str [69, 113]] ++ litI ++ [.nils, litDf], [.str [69, 113]] ++ litL ++ [.sl [[.str [69, 113], .str [97]]], df]], .nils, .nils, .nils]
theorem lit0 : rawMo df0 = litMo litDf := by simp [rawMo, litMo, litDf, litI, litL, litA, litCl, rawIn, tyD, dfC, dfX, strs, ndC, zeroTy]
theorem lit1 : rawMo .nils = litMo .nils := by simp [rawMo, litMo, litDf, litI, litL, litA, litCl, rawIn, tyD, dfC, dfX, strs, ndC, zeroTy]
theorem wkMo : WkL [.agg (litMo litDf)] [.agg (moC moE)] := by simp [moE, moX, in1, in2, moC, clX, clC, mdC, inC, litMo, litDf, litI, litL, litA, litCl, tyD, dfC, dfX, strs, ndC, zeroTy]
theorem WkL_cons1 {a b : D} {l : List D} (h : WkL [a] [b]) : WkL (a :: l) (b :: l) := by
  rw [WkL_cons] at h ⊢
  exact ⟨h.1, by simp⟩
theorem SW_weaken {c : Code} {st st' : St} {Q : Exit → St → Prop} {G : GT} (h : SW Tryd.prog G c st' Q) (hw : Weak st st') : SW Tryd.prog G c st Q := fun base R μ a w hr => h base R μ a w (hr.weak hw)
def endTrue : Option (Exit × St) → Bool
  | some (.ret, s) => (match s.tmps.getD 0 (.tup []) with
    | .d (.bool true) => true
    | _ => false)
  | _ => false
theorem run_end {c : Code} {st : St} {Q : Exit → St → Prop} (h : endTrue (runC Tryd.prog G0 (evalB Tryd.prog G0 libN 60).1 (evalB Tryd.prog G0 libN 60).2 60 c st) = true) (hQ : ∀ s : St, s.tmps[0]?.getD (.tup []) = .d (.bool true) → Q .ret s) : SW Tryd.prog G0 c st Q := by
  unfold endTrue at h
  split at h
  · rename_i s hr
    refine runC_ok (evalB_ok libN_ok 60).1 (evalB_ok libN_ok 60).2 c hr _ (hQ s ?_)
    split at h
    · rename_i hs
      simpa using hs
    · cases h
  · cases h
abbrev litLL : D := .sl [[.int .i64 4, .str [76, 105, 115, 116], .sl [litI], .sl [], .int .i64 0, .str [], .int .i64 0, .sl [], .sl []]]
def stZ : St := ⟨[.d (.bool false), .ptr 1 0, .d (.int .i64 1), .d litLL, .d (.bool true), .d (.int .i64 0), .d (.sl []), .d (.bool false), .ptr 8 0, .ptr 9 0] ++ List.replicate 109 .undef, [(1, .cells ((litMo litDf).map .d)), (8, .cells ((litMo .nils).map .d)), (9, .cells ((litMo litDf).map .d))], [(tIn, [.c 9 2])]⟩
theorem l25_alive_cs : CS Tryd.prog G0 9 [] (.d (.bool true)) none := by
  have hI := l25_integer_cs (G := G0)
  have hL1 := l25_list_cs (G := G0) tI
  have hL2 := l25_list_cs (G := G0) (tL tI)
  have hL3 := l25_list_cs (G := G0) tBo
  have hA := findA
  have hB := findB
  refine CS.of_SWK Tryd.func9 rfl Tryd.ntmps9 rfl ?_
  refine SW.seqq (SW.vk ?_)
  simp
  refine SW.seqq (SW_take (by decide) (by decide) (by simp) (by simp) ?_)
  show SW _ _ _ _ _
  rw [coreSt, midSt, lit0]
  refine SW.seqq (SW.vk ?_)
  simp
  refine ⟨lexOk.mk (by kernel_rfl), ?_⟩
  refine callK.mk ent_l25_integer hI ?_
  simp
  refine callK.mk ent_l25_list hL1 ?_
  simp [range1]
  refine callK.mk ent_l25_list hL2 ?_
  simp [range1]
  refine callK.mk (hkl := rfl) ent_classes_Find (CS.args hA (by simp [moE, moX, in1, in2, moC, clX, clC, mdC, inC, litMo, litDf, litI, litL, litA, litCl, tyD, dfC, dfX, strs, ndC, zeroTy])) ?_
  simp [resF]
  refine SW.seqq (SW.vk ?_)
  simp
  refine ⟨lexOk.mk (by kernel_rfl), ?_⟩
  refine callK.mk ent_l25_list (CS.args hL3 (by simp [tyD])) ?_
  simp [range1]
  refine callK.mk (hkl := rfl) ent_classes_Find (CS.args hB (by simp [moE, moX, in1, in2, moC, clX, clC, mdC, inC, litMo, litDf, litI, litL, litA, litCl, tyD, dfC, dfX, strs, ndC, zeroTy])) ?_
  simp [resF]
  refine SW_less (by decide) (by decide) (by simp) (by simp) (by simp) ?_
  rw [coreSt, midSt, lit1]
  refine SW.seqq (SW_take (by decide) (by decide) (by simp) (by simp) ?_)
  show SW _ _ _ _ _
  rw [coreSt, midSt, lit0]
  refine SW_weaken (st' := stZ) (run_end (by kernel_rfl) fun s hs => by rw [hs]; simp) ?_
  simp [stZ, List.replicate]
end Go.Proofs.YtbacejmdgfalpaaDoor
