/- strings.Builder: copyCheck and String, with the worlds that they leave. No condition. -/
import Derived.Lib.Builder
import Derived.Lib.UnsafeStr
import Derived.Lib.Strings
import Derived.Lib.Walk
import Derived.WalkKit
import Derived.Deep.AppendSrc
import Derived.Test.YtoiokobokencdaaDoorProg
set_option linter.unusedVariables false
set_option linter.unusedSimpArgs false
set_option linter.unusedSectionVars false
namespace Go.Proofs.YtoiokobokencdaaDoor
open Go Go.RowKit
set_option maxRecDepth 100000
set_option maxHeartbeats 2000000
set_option linter.unusedVariables false
theorem bldInfo : ∃ j, Tryd.prog.info? 45 = some j ∧ j.size = 2 := Option.map_eq_some_iff.1 (by kernel_rfl : (Tryd.prog.info? 45).map (·.size) = some 2)
theorem bldPtr : Tryd.prog.underlying 42 = some (.pointer 45) := by kernel_rfl
theorem bldUns : Tryd.prog.underlying 71 = some .unsafePointer := by kernel_rfl
theorem bldLies : liesAt Tryd.prog Tryd.prog.depth 45 (2 / Tryd.prog.cellsOf 45) 0 45 1 = true := by kernel_rfl
/-- A builder that has been used: nothing turns. -/
theorem copyCheck_used (b : Nat) (w : World) (h0 : w.cell? ⟨b, 0, none⟩ = some (.pointer (some ⟨b, 0, none⟩))) :
    Calls Tryd.prog 41 #[.pointer (some ⟨b, 0, none⟩)] w fun e w' => e = .returned (.tuple #[]) ∧ w' = w := by
  obtain ⟨j, hj, _⟩ := bldInfo
  go_enter Tryd.func41, Tryd.ntmps41
  go_wp2
  rw [Lib.run_neq_ptr_same w _ bldPtr hj]
  go_wp2
  go_end0
  exact ⟨rfl, rfl⟩
/-- A builder that has not been used: it stores its own address. -/
theorem copyCheck_fresh (b : Nat) (w : World) (h0 : w.cell? ⟨b, 0, none⟩ = some (.pointer none)) (hsh : w.shape? b = some (45, 2)) (hfz : w.frozen? ⟨b, 0, none⟩ = false) :
    Calls Tryd.prog 41 #[.pointer (some ⟨b, 0, none⟩)] w fun e w' => e = .returned (.tuple #[]) ∧ w' = w.setCell ⟨b, 0, none⟩ (.pointer (some ⟨b, 0, none⟩)) := by
  obtain ⟨j, hj, hjs⟩ := bldInfo
  go_enter Tryd.func41, Tryd.ntmps41
  go_wp2
  rw [Lib.run_to_unsafe w ⟨b, 0, none⟩ bldPtr bldUns hj (by rw [hjs]; decide) hsh (Nat.zero_lt_succ 1)]
  simp only [Result.andThen]
  rw [Oper.upon_value]
  go_wp2
  rw [run_callFunc_extern Tryd.func48 (by kernel_rfl) (by kernel_rfl) (by kernel_rfl) (e := Extern.AbiNoEscape.same) (by kernel_rfl)]
  rw [Lib.run_noEscape]
  simp only [Result.andThen]
  rw [Oper.upon_value]
  go_wp2
  rw [Lib.run_from_unsafe w ⟨b, 0, none⟩ bldUns bldPtr hj hsh bldLies]
  simp only [Result.andThen]
  rw [Oper.upon_value]
  go_wp2
  go_end0
  exact ⟨rfl, rfl⟩
/-- An append that gives back what it got. -/
theorem wpList_appSame {P : Program} {w : World} {ops : Array Oper} {rest : List Oper} {o : Oper} {a : Act} {Q : Exit → Act → World → Prop} (hgd : o.guard = none) (sl x : Operand) (t u : TypeId) (ho : o.op = .call { callee := .builtin .append, args := #[sl, x], argTypes := #[t, u] })
    (v s : Value) (hs : a.eval sl = v) (hx : a.eval x = s) (hr : (Builtin.append_ #[t, u] o.type #[v, s]).run P w = .ok v w) (h : ∀ u, u = v → wpList P ops Q rest (a.put o.dst u) w) : wpList P ops Q (o :: rest) a w := by
  refine wpList_plain hgd fun K hK => ?_
  unfold Oper.wp execOp
  simp only [ho, resolve, invoke, builtin, Sem.run_bind, Sem.run_pure, Result.andThen_ok, List.map_toArray, List.map_cons, List.map_nil, hs, hx, hr]
  exact hK _ _ (h v rfl)
/-- WriteString of no text to a builder that holds none: it is a used one, no more. -/
theorem WriteString_zero (b : Nat) (ao : Option Addr) (cap : Nat) (w w1 : World) (hcc : Calls Tryd.prog 41 #[.pointer (some ⟨b, 0, none⟩)] w fun e w' => e = .returned (.tuple #[]) ∧ w' = w1)
    (v : Value) (hv : v = .slice ao 0 cap) (hc : w1.cell? ⟨b, 1, none⟩ = some v) (hfz : w1.frozen? ⟨b, 1, none⟩ = false) :
    Calls Tryd.prog 22 #[.pointer (some ⟨b, 0, none⟩), .string ⟨#[]⟩] w fun e w' => e = .returned (.tuple #[.int .i64 0, .nilIface]) ∧ w' = w1.setCell ⟨b, 1, none⟩ v := by
  subst hv
  have hap : ∀ W : World, (Builtin.append_ #[43, 9] 43 #[.slice ao 0 cap, .string ⟨#[]⟩]).run Tryd.prog W = .ok (.slice ao 0 cap) W := fun W => by
    have hu : Tryd.prog.underlying 43 = some (.slice 5) := by kernel_rfl
    have hk : Tryd.prog.underlying 9 = some .string := by kernel_rfl
    obtain ⟨i, hi, hi1⟩ := Option.map_eq_some_iff.1 (by kernel_rfl : (Tryd.prog.info? 5).map (·.size) = some 1)
    have hs : Src Tryd.prog i.size 9 (.string ⟨#[]⟩) 0 [] W := by
      rw [hi1]
      exact Src.ofString W hk ⟨#[]⟩
    rcases hs.kind with ⟨e', hk'⟩ | hk' <;> cases ao <;> simp [Builtin.append_, run_underlying hu, run_underlying hk', sizeOf, typeInfo, hi, hs.len, hs.cells, storeCells]
  go_enter Tryd.func22, Tryd.ntmps22
  go_wp2_with (go_at_call 41; refine hcc.mono ?_)
  rintro e w' ⟨rfl, rfl⟩
  go_wp2_with (at_builtin; refine wpList_appSame rfl _ _ _ _ rfl _ _ rfl rfl (hap _) ?_; intro u hu; subst hu)
  go_ret2
  exact ⟨rfl, rfl⟩
/-- Len: nothing turns. -/
theorem Len_same (b : Nat) (ao : Option Addr) (n cap : Nat) (w : World) (hc : w.cell? ⟨b, 1, none⟩ = some (.slice ao n cap)) :
    Calls Tryd.prog 25 #[.pointer (some ⟨b, 0, none⟩)] w fun e w' => e = .returned (.int .i64 n) ∧ w' = w := by
  go_enter Tryd.func25, Tryd.ntmps25
  go_wp2
  go_ret
  exact ⟨rfl, rfl⟩
/-- String of a builder that holds bytes: they are frozen in its row. -/
theorem String_row (b g n cap : Nat) (cur : Array Value) (l : List UInt8) (w : World) (hc : w.cell? ⟨b, 1, none⟩ = some (.slice (some ⟨g, 0, none⟩) n cap)) (hn : n = l.length) (h0 : l ≠ []) (hnc : n ≤ cap) (hcm : cap ≤ maxLen) (hg : w.heap[g]? = some (.cells cur 5 (0, 0))) (hcs : cur.size = cap)
    (hcells : ∀ (j : Nat) (x : UInt8), l[j]? = some x → w.cell? ⟨g, j, none⟩ = some (.int .u8 x.toNat)) :
    Calls Tryd.prog 26 #[.pointer (some ⟨b, 0, none⟩)] w fun e w' => e = .returned (.string ⟨l.toArray⟩) ∧ w' = w.drew.freeze ⟨g, 0, none⟩ l.length := by
  subst hn
  have c1 : w.drew.cell? ⟨b, 1, none⟩ = some (.slice (some ⟨g, 0, none⟩) l.length cap) := hc
  have hl0 : l.length ≠ 0 := by simpa using h0
  have hSD : (Builtin.unsafeSliceData_ #[43] 68 #[.slice (some ⟨g, 0, none⟩) l.length cap]).run Tryd.prog w.drew = .ok (.pointer (some ⟨g, 0, none⟩)) w.drew :=
    Lib.run_unsafeSliceData_row _ _ _ _ _ _ (by omega)
  have hUS : (Builtin.unsafeString_ #[68, 3] 9 #[.pointer (some ⟨g, 0, none⟩), .int .i64 l.length]).run Tryd.prog w.drew = .ok (.string ⟨l.toArray⟩) (w.drew.freeze ⟨g, 0, none⟩ l.length) := by
    refine Lib.run_unsafeString_row w.drew 68 3 9 5 (by kernel_rfl) (by kernel_rfl) g cur.size (by have hg' : w.drew.heap[g]? = some (.cells cur 5 (0, 0)) := hg; simp [World.shape?, hg']) l h0 (by omega) (by unfold maxLen at hcm; omega) ?_
    intro j x hx
    have := hcells j x hx
    by_cases hj : j = 0
    · subst hj; simpa [Addr.add] using this
    · simpa [Addr.add, hj] using this
  go_enter Tryd.func26, Tryd.ntmps26
  go_wp2
  go_region
  all_goals (go_wp2; go_ret; exact ⟨rfl, rfl⟩)
/-- String of a builder that holds none. -/
theorem String_none (b : Nat) (ao : Option Addr) (cap : Nat) (w : World) (hc : w.cell? ⟨b, 1, none⟩ = some (.slice ao 0 cap)) (hx : ao = none ∨ cap ≠ 0) :
    Calls Tryd.prog 26 #[.pointer (some ⟨b, 0, none⟩)] w fun e w' => e = .returned (.string ⟨#[]⟩) ∧ w' = w.drew := by
  have c1 : w.drew.cell? ⟨b, 1, none⟩ = some (.slice ao 0 cap) := hc
  have hUS : ∀ (W : World) (q : Option Addr), (Builtin.unsafeString_ #[68, 3] 9 #[.pointer q, .int .i64 0]).run Tryd.prog W = .ok (.string .empty) W := fun W q => Lib.run_unsafeString_none W _ _ _ q
  have hSD : (Builtin.unsafeSliceData_ #[43] 68 #[.slice ao 0 cap]).run Tryd.prog w.drew = .ok (.pointer ao) w.drew := by
    rcases hx with rfl | hx
    · rfl
    · cases ao with
      | none => rfl
      | some a => exact Lib.run_unsafeSliceData_row _ _ _ _ _ _ hx
  clear hx
  go_enter Tryd.func26, Tryd.ntmps26
  go_wp2
  go_region
  all_goals (go_wp2; go_ret; exact ⟨rfl, rfl⟩)
end Go.Proofs.YtoiokobokencdaaDoor
