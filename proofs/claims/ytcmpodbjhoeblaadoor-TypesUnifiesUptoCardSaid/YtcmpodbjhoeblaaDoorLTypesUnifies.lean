/- The statement 'TypesUnifies' of the package liquidchecklaw19, where what it reads is of bulk at most 1048576: for every input the law answers true and leaves its arguments as they were. Its row lists the package-level variables that its road reads, tied to the program's text. No further condition. -/
import Derived.Test.YtcmpodbjhoeblaaDoorBaseT
import Derived.Test.YtcmpodbjhoeblaaDoorWh
namespace Go.Proofs.YtcmpodbjhoeblaaDoor.typesUnifies
open Go Go.VM Go.ChangeShapes Go.WideShapes Go.ChangeAt Go.RowKit
set_option maxRecDepth 100000
set_option linter.unusedVariables false
abbrev ARGS : Array Value := #[Value.agg #[.int .i64 0, .string ⟨#[]⟩, .slice none 0 0, .slice none 0 0, .int .i64 0, .string ⟨#[]⟩, .int .i64 0, .slice none 0 0, .slice none 0 0], Value.agg #[.int .i64 0, .string ⟨#[]⟩, .slice none 0 0, .slice none 0 0, .int .i64 0, .string ⟨#[]⟩, .int .i64 0, .slice none 0 0, .slice none 0 0]]
theorem contract (H : Type) (enc : TypeId × Value → H) (W : World) (base : Nat) (args : Array Value) (ds gs : List (DataW H)) (before : List MemPlace)
    (hval : ∀ (j : Nat) t v, Tryd.f3.params[j]? = some t → args[j]? = some v → Value.okWide Tryd.prog W .any base t v)
    (hW : DataW.Whole enc Tryd.prog Tryd.f3.params.toList Rows.typesUnifiesSpec.vars false W args.toList ds gs before) (hL : laidMetH Tryd.prog Rows.typesUnifiesRow.laid W) (hk : Rows.uptoSmall H (ds ++ gs) = true) :
    Calls Tryd.prog 3 args W fun e W' => ∃ v, e = .returned v ∧ Rows.typesUnifiesSpec.post enc Tryd.prog Tryd.f3 false true false false W args v W' :=
  law_of_cs_upto hlo hmr hsf hplain (ts := [30, 30]) (by rw [Tryd.params3]) (by decide) rfl rfl (by kernel_rfl : Tryd.prog.underlying 4 = some .bool)
    (fun ds h => match ds, h with | [_, _], _ => rfl) typesUnifies_all hval hW (glob_typesUnifies hL) hk
theorem laid_met (os : Os) : laidMetH Tryd.prog Rows.typesUnifiesRow.laid ((laidWorld os).forCall (fun _ _ => 0) ⟨#[], ARGS, []⟩).memory :=
  laidMetH_of (by rfl) (laidMet_of_run' 8 (by kernel_rfl) (by kernel_rfl))
theorem reads (os : Os) {H : Type} (enc : TypeId × Value → H) : ∃ ds places, DataW.whole enc Tryd.prog ((laidWorld os).forCall (fun _ _ => 0) ⟨#[], ARGS, []⟩).memory Tryd.f3.params.toList Rows.typesUnifiesSpec.vars false ARGS.toList 8 = some (ds, [], places) ∧ Rows.uptoSmall H (ds ++ []) = true :=
  ⟨[.agg [.lit (.int .i64 0), .lit (.string []), .nil, .nil, .agg [.lit (.int .i64 0), .lit (.string []), .lit (.int .i64 0), .nil], .nil], .agg [.lit (.int .i64 0), .lit (.string []), .nil, .nil, .agg [.lit (.int .i64 0), .lit (.string []), .lit (.int .i64 0), .nil], .nil]], [], by kernel_rfl, by kernel_rfl⟩
theorem lifted (os : Os) (started : os.Started) (H : Type) (enc : TypeId × Value → H) (F : Stop.Interp) :
    ReturnsInHanded {} Tryd.checked os 3 .any ((Rows.OpenSpec.upto Rows.typesUnifiesSpec).preRow enc Tryd.prog Tryd.f3 Rows.typesUnifiesUptoRow.domain false Rows.typesUnifiesUptoRow.laid) (((Rows.OpenSpec.upto Rows.typesUnifiesSpec).at F).post enc Tryd.prog Tryd.f3 false true false false) := by
  obtain ⟨ds0, places, hx, hk0⟩ := reads os enc
  refine returnsInHanded_of_row (C := Tryd.checked) (s := (Rows.OpenSpec.upto Rows.typesUnifiesSpec)) hown started (by kernel_rfl) Tryd.func3
    (witness_row_at (enc := enc) (C := Tryd.checked) false (laidWorld os) ARGS rfl (by kernel_rfl) (by kernel_rfl) (by kernel_rfl)
      (OpenSpec.preRow_of_cond 8 hx (by kernel_rfl) (fun k hk => by cases hk; exact hk0) (by kernel_rfl) (laid_met os))) ?_
  intro W base args ds gs before hval hW _ hcond _ hL _ _
  exact contract H enc W base args ds gs before hval hW hL (hcond _ rfl)
theorem said : Rows.TypesUnifiesUptoSaid :=
  OpenClaim.holds_of_cond 3 Tryd.f3 rfl rfl rfl rfl rfl rfl rfl ⟨rfl, rfl, rfl, rfl, rfl⟩ rfl rfl rfl rfl rfl (by kernel_rfl) Tryd.func3 (by kernel_rfl)
    (of_decide_eq_true (by kernel_rfl)) (by unfold Func.isWrapper; first | (rw [if_pos (by decide +kernel)]; kernel_rfl) | (rw [if_neg (by decide +kernel)]; exact ⟨rfl, rfl⟩))
    (fun os started H enc _ F => by rw [OpenClaim.pre_eq_preRow]; exact lifted os started H enc F)
theorem plain (f : FuncId) (fn : Func) (hf : Tryd.pinned.checked.prog.funcNamed "liquidcheck/liquidchecklaw19.TypesUnifies" = some f) (hfn : Tryd.pinned.checked.prog.funcs[f]? = some fn) :
    false = Tryd.pinned.checked.prog.looks [] ∧ ∀ (j : Nat) t, fn.params[j]? = some t → Tryd.pinned.checked.prog.wantsStandIn t = false := by
  obtain rfl : f = 3 := Option.some.inj ((show Tryd.prog.funcNamed "liquidcheck/liquidchecklaw19.TypesUnifies" = some 3 by kernel_rfl).symm.trans hf) |>.symm
  obtain rfl : fn = Tryd.f3 := (Option.some.inj (Tryd.func3.symm.trans hfn)).symm
  refine ⟨by kernel_rfl, fun j t ht => ?_⟩
  rw [Tryd.params3] at ht
  have hm : t ∈ [30, 30] := by simpa using Array.mem_of_getElem? ht
  have hall : ([30, 30].all fun t => !Tryd.prog.wantsStandIn t) = true := by kernel_rfl
  have hw := List.all_eq_true.1 hall t hm
  have hw' : Tryd.prog.wantsStandIn t = false := by simpa using hw
  exact hw'
theorem card : Rows.TypesUnifiesUptoCardSaid :=
  Claim7.holds_tied_plain_at .later [] _ _ _ _ said (fun _ h => by cases h) (by kernel_rfl) (fun _ h => by cases h) typesUnifiesUpto_row_tie rfl ⟨rfl, rfl⟩ (by kernel_rfl) rfl plain (by kernel_rfl)
#print axioms card
end Go.Proofs.YtcmpodbjhoeblaaDoor.typesUnifies
