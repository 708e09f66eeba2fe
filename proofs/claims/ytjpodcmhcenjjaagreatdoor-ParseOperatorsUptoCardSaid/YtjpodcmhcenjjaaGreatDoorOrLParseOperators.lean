/- The statement 'ParseOperators' of the package liquidchecklaw21, where what it reads is of bulk at most 1048576: for every input the law answers true and leaves its arguments as they were. Its row lists the package-level variables that its road reads, tied to the program's text. No further condition. -/
import Derived.Test.YtjpodcmhcenjjaaGreatDoorOrBaseP
set_option linter.unusedVariables false
set_option linter.unusedSimpArgs false
set_option linter.unusedSectionVars false
set_option maxRecDepth 100000
set_option maxHeartbeats 64000000
namespace Go.Proofs.YtjpodcmhcenjjaaGreatDoor.parseOperators
open Go Go.VM Go.ChangeShapes Go.WideShapes Go.ChangeAt Go.RowKit
abbrev d1n:Array Value:= #[Value.string ⟨#[]⟩,Value.string ⟨#[]⟩,Value.string ⟨#[]⟩]
theorem c7d (H:Type)(enc:TypeId×Value→H)(W:World)(base:Nat)(args:Array Value)(ds gs:List (DataW H))(before:List MemPlace)(hval:∀(j:Nat) t v,Tryz.f3.params[j]? =some t→args[j]? =some v→Value.okWide Tryz.prog W .any base t v)(hW:DataW.Whole enc Tryz.prog Tryz.f3.params.toList Rows.parseOperatorsSpec.vars false W args.toList ds gs before)(hL:laidMetH Tryz.prog Rows.parseOperatorsRow.laid W)(hk:Rows.uptoSmall H (ds++gs)=true):
  Calls Tryz.prog 3 args W fun e W'=>∃v,e= .returned v∧Rows.parseOperatorsSpec.post enc Tryz.prog Tryz.f3 false true false false W args v W':=
 a9y sO hmr hsf c0y (ts:=[9,9,9]) (by rw [Tryz.params3]) (by decide) rfl rfl (by kernel_rfl:Tryz.prog.underlying 4=some .bool)
  (fun ds h=>match ds,h with|[_,_,_],_=>rfl) a4Q hval hW (a3z hL) hk
theorem c7e (os:Os):laidMetH Tryz.prog Rows.parseOperatorsRow.laid ((a7b os).forCall (fun _ _=>0) ⟨#[],d1n,[]⟩).memory:=
 b6y (by rfl) (laidMet_of_run' 8 (by kernel_rfl) (by kernel_rfl))
theorem reads (os:Os){H:Type}(enc:TypeId×Value→H):∃ds places,DataW.whole enc Tryz.prog ((a7b os).forCall (fun _ _=>0) ⟨#[],d1n,[]⟩).memory Tryz.f3.params.toList Rows.parseOperatorsSpec.vars false d1n.toList 8=some (ds,[],places)∧Rows.uptoSmall H (ds++[])=true:=
 ⟨[.lit (.string []),.lit (.string []),.lit (.string [])],[],by kernel_rfl,by kernel_rfl⟩
theorem lifted (os:Os)(started:os.Started)(H:Type)(enc:TypeId×Value→H)(F:Stop.Interp):
  ReturnsInHanded {} Tryz.checked os 3 .any ((Rows.OpenSpec.upto Rows.parseOperatorsSpec).preRow enc Tryz.prog Tryz.f3 Rows.parseOperatorsUptoRow.domain false Rows.parseOperatorsUptoRow.laid) (((Rows.OpenSpec.upto Rows.parseOperatorsSpec).at F).post enc Tryz.prog Tryz.f3 false true false false):=by
 obtain ⟨ds0,places,hx,hk0⟩:=reads os enc;refine returnsInHanded_of_row (C:=Tryz.checked) (s:=(Rows.OpenSpec.upto Rows.parseOperatorsSpec)) jW started (by kernel_rfl) Tryz.func3
  (witness_row_atRef (enc:=enc) (C:=Tryz.checked) false (a7b os) d1n rfl (by kernel_rfl) (by kernel_rfl) (by kernel_rfl)
   (OpenSpec.preRow_of_cond 8 hx (by kernel_rfl) (fun k hk=>by cases hk;exact hk0) (by kernel_rfl) (c7e os))) ?_
 intro W base args ds gs before hval hW _ hcond _ hL _ _;exact c7d H enc W base args ds gs before hval hW hL (hcond _ rfl)
theorem closed:joinedFacts Tryz.prog 3 Tryz.f3 (Rows.OpenSpec.upto Rows.parseOperatorsSpec).bare Rows.parseOperatorsUptoRow=true:=by unfold joinedFacts;simp only [d8D];refine ⟨⟨⟨⟨⟨⟨⟨⟨⟨⟨⟨⟨⟨⟨⟨⟨⟨⟨⟨⟨⟨⟨⟨⟨⟨⟨⟨⟨⟨⟨⟨?_,?_⟩,?_⟩,?_⟩,?_⟩,?_⟩,?_⟩,?_⟩,?_⟩,?_⟩,?_⟩,?_⟩,?_⟩,?_⟩,?_⟩,?_⟩,?_⟩,?_⟩,?_⟩,?_⟩,?_⟩,?_⟩,?_⟩,?_⟩,?_⟩,?_⟩,?_⟩,?_⟩,?_⟩,?_⟩,?_⟩,?_⟩<;>as_aux_lemma=>kernel_rfl
theorem said:Rows.ParseOperatorsUptoSaid:=
 OpenClaim.holds_of_cond 3 Tryz.f3 rfl rfl rfl rfl rfl rfl rfl ⟨rfl,rfl,rfl,rfl,rfl⟩ rfl rfl rfl rfl rfl (by kernel_rfl) Tryz.func3 closed
  (of_decide_eq_true (by kernel_rfl)) (by unfold Func.isWrapper;first|(rw [if_pos (by decide+kernel)];kernel_rfl)|(rw [if_neg (by decide+kernel)];exact ⟨rfl,rfl⟩))
  (fun os started H enc _ F=>by rw [OpenClaim.pre_eq_preRow];exact lifted os started H enc F)
theorem plain (f:FuncId)(fn:Func)(hf:Tryz.pinned.checked.prog.funcNamed "liquidcheck/liquidchecklaw21.ParseOperators" =some f) (hfn:Tryz.pinned.checked.prog.funcs[f]? =some fn):
  true=Tryz.pinned.checked.prog.looks []∧∀(j:Nat) t,fn.params[j]? =some t→Tryz.pinned.checked.prog.wantsStandIn t=false:=by
 obtain rfl:f=3:=Option.some.inj ((show Tryz.prog.funcNamed "liquidcheck/liquidchecklaw21.ParseOperators" =some 3 by kernel_rfl).symm.trans hf) |>.symm
 obtain rfl:fn=Tryz.f3:=(Option.some.inj (Tryz.func3.symm.trans hfn)).symm;refine ⟨by kernel_rfl,fun j t ht=>?_⟩;rw [Tryz.params3] at ht;have hm:t∈[9,9,9]:=by simpa using Array.mem_of_getElem? ht
 have hall:([9,9,9].all fun t=> !Tryz.prog.wantsStandIn t)=true:=by kernel_rfl
 have hw:=d8G.1 hall t hm;have hw':Tryz.prog.wantsStandIn t=false:=by simpa using hw
 exact hw'
theorem card:Rows.ParseOperatorsUptoCardSaid:=
 Claim7.holds_tied_plain_at .later [] _ _ _ _ said (fun _ h=>by cases h) (by kernel_rfl) (fun _ h=>by cases h) parseOperatorsUpto_row_tie rfl ⟨rfl,rfl⟩ (by kernel_rfl) rfl plain (by kernel_rfl)
#print axioms card
end Go.Proofs.YtjpodcmhcenjjaaGreatDoor.parseOperators
