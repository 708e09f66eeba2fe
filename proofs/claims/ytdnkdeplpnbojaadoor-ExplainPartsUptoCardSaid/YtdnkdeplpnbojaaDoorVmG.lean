/- The abstract machine on plain data: what simp runs the machine by. No condition. -/
import Derived.Test.YtdnkdeplpnbojaaDoorVmF
set_option linter.unusedVariables false
set_option linter.unusedSimpArgs false
set_option linter.unusedSectionVars false
namespace Go.VM
open Go Go.RowKit
attribute [simp] VK_nil VK_skip VK_seq VK_cond VK_block VK_region VK_drawn actQ qAct noisy appArgs appDsts quietOp VK_exit VK_ret VK_loop VK_code_ret VK_code_exit VK_blk_normal VK_blk_ret VK_blk_exit VK_ops_nil VK_ops_some VK_ops_guard runOp stepK_some condK_true condK_false condK_any guardK_tup
  yieldedD callOf vop vMove vPick vAlloc vBox vBuild vBuildSlice vLoad vStore vNilCheck vBin vBinN isNilC vNilTest vUn vConv vMakeMap vLookup vMapUpdate vExtract vField vIndex vIndexAddr vFieldAddr vSlice vRange vNext vLen vAppend vDelete vBuiltin
  St.eval ofConst ofScalar ofScalars finish ownAct newObjAt getKey setKey killRef dropLoc dropKey addAlias Loc.ofKey slAct tmpAct takeD descAgg dbinT dbin dunary eqCell eqCells fitDesc fitDescs keyFits overwrite fillD isD allD partsD idx bound optBound
  findKeyD setKeyD delKeyD takeOwn asSl dconv isU8 bytesOfEs D.one D.cells ownOA initSt resD resDs vres vown

/-- The slots that a code writes. -/
def dsts : Code → List Nat
  | .region _ ops _ => ops.toList.filterMap (·.dst)
  | .seq a b => dsts a ++ dsts b
  | .cond _ a b => dsts a ++ dsts b
  | .block _ c => dsts c
  | .loop c => dsts c
  | _ => []
def eraseAll : List Nat → List DV → List DV
  | [], l => l
  | i :: r, l => eraseAll r (l.set i .undef)
def setAll : List (Nat × DV) → List DV → List DV
  | [], l => l
  | (i, v) :: r, l => setAll r (l.set i v)
/-- The frame at a loop's head: what the body writes is not known, but for these slots. -/
def frameOf (c : Code) (st : St) (ws : List (Nat × DV)) (H : List (Nat × AObj)) (own : List (TypeId × List Loc)) : St := ⟨setAll ws (eraseAll (dsts c) st.tmps), H, own⟩
theorem weak_iff (s s' : St) : Weak s s' ↔ WkT s.tmps s'.tmps ∧ WkH s.H s'.H ∧ wkOwn s s.own s'.own = true ∧ keysIn s'.H s'.own = true := ⟨fun h => ⟨h.tmps, h.H, h.own, h.keys⟩, fun h => ⟨h.1, h.2.1, h.2.2.1, h.2.2.2⟩⟩
/-- The loop's next round: the state is one of the family, and the number is smaller. -/
def Again {ι : Type} (F : ι → St) (m : ι → Nat) (x : ι) (s : St) : Prop := ∃ y, Weak s (F y) ∧ m y < m x
theorem Again.mk {ι : Type} {F : ι → St} {m : ι → Nat} {x : ι} {s : St} (y : ι) (h : Weak s (F y)) (hm : m y < m x) : Again F m x s := ⟨y, h, hm⟩
theorem SW.loopF {P : Program} {G : GT} {st : St} {Q : Exit → St → Prop} {c : Code} {ι : Type} (ws : ι → List (Nat × DV)) (H : ι → List (Nat × AObj)) (own : ι → List (TypeId × List Loc)) (m : ι → Nat) (x0 : ι) (h0 : Weak st (frameOf c st (ws x0) (H x0) (own x0)))
    (round : ∀ x, VK P G [.code c] .normal (frameOf c st (ws x) (H x) (own x)) fun e s => match e with
      | .normal => Again (fun y => frameOf c st (ws y) (H y) (own y)) m x s
      | e => Q e s) : SW P G (.loop c) st Q := SW.loopK (fun x => frameOf c st (ws x) (H x) (own x)) m x0 h0 round
attribute [irreducible] Again
attribute [simp] dsts eraseAll setAll frameOf weak_iff WkT WkC WkO WkH wkOwn nilCls isNil takeCls keysIn

/-- An operation under a guard that is a known truth. -/
theorem guardK_tt {P : Program} {G : GT} {k : List KI} {st : St} {Q : Exit → St → Prop} {q : Bool} (o : Oper) (all : Array Oper) (rest : List Oper) : guardK P G q (.d (.bool true)) true o all rest k st Q = runOp P G q o all rest k st Q := by rw [guardK_bool, if_pos rfl]
theorem guardK_ff {P : Program} {G : GT} {k : List KI} {st : St} {Q : Exit → St → Prop} {q : Bool} (o : Oper) (all : Array Oper) (rest : List Oper) : guardK P G q (.d (.bool false)) false o all rest k st Q = runOp P G q o all rest k st Q := by rw [guardK_bool, if_pos rfl]
theorem guardK_tf {P : Program} {G : GT} {k : List KI} {st : St} {Q : Exit → St → Prop} {q : Bool} (o : Oper) (all : Array Oper) (rest : List Oper) : guardK P G q (.d (.bool true)) false o all rest k st Q = VK P G (.ops q all rest :: k) .normal (finish st o.dst (.tup []) .no) Q := by rw [guardK_bool, if_neg (by decide)]
theorem guardK_ft {P : Program} {G : GT} {k : List KI} {st : St} {Q : Exit → St → Prop} {q : Bool} (o : Oper) (all : Array Oper) (rest : List Oper) : guardK P G q (.d (.bool false)) true o all rest k st Q = VK P G (.ops q all rest :: k) .normal (finish st o.dst (.tup []) .no) Q := by rw [guardK_bool, if_neg (by decide)]
attribute [simp] guardK_tt guardK_ff guardK_tf guardK_ft
attribute [simp] WkL_nil WkL_cons WkLL_nil WkLL_cons WkL_refl WkLL_refl WkD_refl WkD_nils WkD_agg WkD_sl WkD_int WkD_bool WkD_str WkDV resOk ownOk
theorem int_beq (a b : Int) : (a == b) = decide (a = b) := rfl
theorem int_bne (a b : Int) : (a != b) = !decide (a = b) := rfl
theorem bs_beq (a b : List UInt8) : (a == b) = decide (a = b) := by by_cases h : a = b <;> simp [h]
attribute [simp] int_beq int_bne bs_beq
theorem lit_le_cast (n m : Nat) : ((no_index (OfNat.ofNat n) : Int) ≤ (m : Int)) = ((OfNat.ofNat n : Nat) ≤ m) := propext Int.ofNat_le
theorem cast_le_lit (n m : Nat) : ((m : Int) ≤ (no_index (OfNat.ofNat n) : Int)) = (m ≤ (OfNat.ofNat n : Nat)) := propext Int.ofNat_le
theorem lit_lt_cast (n m : Nat) : ((no_index (OfNat.ofNat n) : Int) < (m : Int)) = ((OfNat.ofNat n : Nat) < m) := propext Int.ofNat_lt
theorem cast_lt_lit (n m : Nat) : ((m : Int) < (no_index (OfNat.ofNat n) : Int)) = (m < (OfNat.ofNat n : Nat)) := propext Int.ofNat_lt
theorem cast_eq_lit (n m : Nat) : ((m : Int) = (no_index (OfNat.ofNat n) : Int)) = (m = (OfNat.ofNat n : Nat)) := propext Int.ofNat_inj
theorem succ_le_cast (n m : Nat) : (((n : Int) + 1) ≤ (m : Int)) = (n + 1 ≤ m) := by apply propext; omega
theorem succ_lt_cast (n m : Nat) : (((n : Int) + 1) < (m : Int)) = (n + 1 < m) := by apply propext; omega
theorem succ_nonneg (n : Nat) : (0 ≤ (n : Int) + 1) = True := by apply propext; simp; omega
theorem succ_eq_lit (n m : Nat) : (((n : Int) + 1) = (no_index (OfNat.ofNat m) : Int)) = (n + 1 = (OfNat.ofNat m : Nat)) := by
  apply propext
  have : (OfNat.ofNat m : Int) = ((OfNat.ofNat m : Nat) : Int) := rfl
  rw [this]
  omega
attribute [simp] succ_eq_lit
theorem succ_eq_cast (n m : Nat) : (((n : Int) + 1) = (m : Int)) = (n + 1 = m) := by apply propext; omega
attribute [simp] succ_le_cast succ_lt_cast succ_nonneg succ_eq_cast
attribute [simp] lit_le_cast cast_le_lit lit_lt_cast cast_lt_lit cast_eq_lit
end Go.VM
