/- The statement 'PredtextTexts' of the package liquidchecklaw08, where what it reads is of bulk at most 1048576: for every input the law answers true and leaves its arguments as they were. Its row lists the package-level variables that its road reads, tied to the program's text. No further condition. -/
import Derived.Test.YtlglfkdjlbcpjaaGreatDoorBaseT
import Derived.Test.YtlglfkdjlbcpjaaGreatDoorZG
namespace Go.Proofs.YtlglfkdjlbcpjaaGreatDoor.predtextTexts
open Go Go.VM Go.ChangeShapes Go.WideShapes Go.ChangeAt Go.RowKit
set_option maxRecDepth 100000
set_option linter.unusedVariables false
abbrev ARGS : Array Value := #[Value.agg #[.int .i64 0, .string ⟨#[]⟩, .int .i64 0, .slice none 0 0]]
theorem contract (H : Type) (enc : TypeId × Value → H) (W : World) (base : Nat) (args : Array Value) (ds gs : List (DataW H)) (before : List MemPlace)
    (hval : ∀ (j : Nat) t v, Tryz.f3.params[j]? = some t → args[j]? = some v → Value.okWide Tryz.prog W .any base t v)
    (hW : DataW.Whole enc Tryz.prog Tryz.f3.params.toList Rows.predtextTextsSpec.vars false W args.toList ds gs before) (hL : laidMetH Tryz.prog Rows.predtextTextsRow.laid W) (hk : Rows.uptoSmall H (ds ++ gs) = true) :
    Calls Tryz.prog 3 args W fun e W' => ∃ v, e = .returned v ∧ Rows.predtextTextsSpec.post enc Tryz.prog Tryz.f3 false true false false W args v W' :=
  law_of_cs_upto hlo hmr hsf hplain (ts := [25]) (by rw [Tryz.params3]) (by decide) rfl rfl (by kernel_rfl : Tryz.prog.underlying 4 = some .bool)
    (fun ds h => match ds, h with | [_], _ => rfl) predtextTexts_all hval hW (glob_predtextTexts hL) hk
theorem laid_met (os : Os) : laidMetH Tryz.prog Rows.predtextTextsRow.laid ((laidWorld os).forCall (fun _ _ => 0) ⟨#[], ARGS, []⟩).memory :=
  laidMetH_of (by rfl) (laidMet_of_run' 8 (by kernel_rfl) (by kernel_rfl))
theorem reads (os : Os) {H : Type} (enc : TypeId × Value → H) : ∃ ds places, DataW.whole enc Tryz.prog ((laidWorld os).forCall (fun _ _ => 0) ⟨#[], ARGS, []⟩).memory Tryz.f3.params.toList Rows.predtextTextsSpec.vars false ARGS.toList 8 = some (ds, [], places) ∧ Rows.uptoSmall H (ds ++ []) = true :=
  ⟨[.agg [.lit (.int .i64 0), .lit (.string []), .lit (.int .i64 0), .nil]], [], by kernel_rfl, by kernel_rfl⟩
theorem lifted (os : Os) (started : os.Started) (H : Type) (enc : TypeId × Value → H) (F : Stop.Interp) :
    ReturnsInHanded {} Tryz.checked os 3 .any ((Rows.OpenSpec.upto Rows.predtextTextsSpec).preRow enc Tryz.prog Tryz.f3 Rows.predtextTextsUptoRow.domain false Rows.predtextTextsUptoRow.laid) (((Rows.OpenSpec.upto Rows.predtextTextsSpec).at F).post enc Tryz.prog Tryz.f3 false true false false) := by
  obtain ⟨ds0, places, hx, hk0⟩ := reads os enc
  refine returnsInHanded_of_row (C := Tryz.checked) (s := (Rows.OpenSpec.upto Rows.predtextTextsSpec)) hown started (by kernel_rfl) Tryz.func3
    (witness_row_atRef (enc := enc) (C := Tryz.checked) false (laidWorld os) ARGS rfl (by kernel_rfl) (by kernel_rfl) (by kernel_rfl)
      (OpenSpec.preRow_of_cond 8 hx (by kernel_rfl) (fun k hk => by cases hk; exact hk0) (by kernel_rfl) (laid_met os))) ?_
  intro W base args ds gs before hval hW _ hcond _ hL _ _
  exact contract H enc W base args ds gs before hval hW hL (hcond _ rfl)
theorem said : Rows.PredtextTextsUptoSaid :=
  OpenClaim.holds_of_cond 3 Tryz.f3 rfl rfl rfl rfl rfl rfl rfl ⟨rfl, rfl, rfl, rfl, rfl⟩ rfl rfl rfl rfl rfl (by kernel_rfl) Tryz.func3 (by kernel_rfl)
    (of_decide_eq_true (by kernel_rfl)) (by unfold Func.isWrapper; first | (rw [if_pos (by decide +kernel)]; kernel_rfl) | (rw [if_neg (by decide +kernel)]; exact ⟨rfl, rfl⟩))
    (fun os started H enc _ F => by rw [OpenClaim.pre_eq_preRow]; exact lifted os started H enc F)
theorem plain (f : FuncId) (fn : Func) (hf : Tryz.pinned.checked.prog.funcNamed "liquidcheck/liquidchecklaw08.PredtextTexts" = some f) (hfn : Tryz.pinned.checked.prog.funcs[f]? = some fn) :
    false = Tryz.pinned.checked.prog.looks [] ∧ ∀ (j : Nat) t, fn.params[j]? = some t → Tryz.pinned.checked.prog.wantsStandIn t = false := by
  obtain rfl : f = 3 := Option.some.inj ((show Tryz.prog.funcNamed "liquidcheck/liquidchecklaw08.PredtextTexts" = some 3 by kernel_rfl).symm.trans hf) |>.symm
  obtain rfl : fn = Tryz.f3 := (Option.some.inj (Tryz.func3.symm.trans hfn)).symm
  refine ⟨by kernel_rfl, fun j t ht => ?_⟩
  rw [Tryz.params3] at ht
  have hm : t ∈ [25] := by simpa using Array.mem_of_getElem? ht
  have hall : ([25].all fun t => !Tryz.prog.wantsStandIn t) = true := by kernel_rfl
  have hw := List.all_eq_true.1 hall t hm
  have hw' : Tryz.prog.wantsStandIn t = false := by simpa using hw
  exact hw'
theorem card : Rows.PredtextTextsUptoCardSaid :=
  Claim7.holds_tied_plain_at .later [] _ _ _ _ said (fun _ h => by cases h) (by kernel_rfl) (fun _ h => by cases h) predtextTextsUpto_row_tie rfl ⟨rfl, rfl⟩ (by kernel_rfl) rfl plain (by kernel_rfl)
#print axioms card
end Go.Proofs.YtlglfkdjlbcpjaaGreatDoor.predtextTexts
