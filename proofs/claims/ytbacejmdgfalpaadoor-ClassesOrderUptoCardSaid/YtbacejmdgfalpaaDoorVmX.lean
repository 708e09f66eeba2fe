/- The abstract machine: operations at the level of worlds, one by one; what a value reads as does not lean on a block that it cannot name. No condition. -/
import Derived.Test.YtbacejmdgfalpaaDoorZV
set_option linter.unusedVariables false
set_option linter.unusedSimpArgs false
set_option linter.unusedSectionVars false
namespace Go.VM
open Go Go.RowKit
section
variable {P : Program} {G : GT} {base : Base} {R : Nat → Nat → Prop} {μ : Nat → Nat} {st : St} {a : Act} {w : World}
/-! ### Operations -/
theorem run_alloc_at {o : Oper} {e : TypeId} (ho : o.op = .alloc e) {z : Value} (hz : (P.info? e).bind (·.zero) = some z) : (execOp a.eval o).run P w = .ok (.value (.pointer (some ⟨w.heap.size, 0, none⟩))) (w.alloc (.cells z.cells e)) := by
  obtain ⟨i, hi, hz⟩ := Option.bind_eq_some_iff.1 hz
  simp [execOp, ho, Instr.alloc, zeroValue, typeInfo, hi, hz, newVar, newRow]
theorem run_fieldAddr_at {o : Oper} {t u : TypeId} {x : Operand} {i fo : Nat} (ho : o.op = .fieldAddr t x i) (hf : fieldOf P t i = some (fo, u)) (hne : P.cellsOf u ≠ 0) {b off : Nat} (hx : a.eval x = .pointer (some ⟨b, off, none⟩)) :
    (execOp a.eval o).run P w = .ok (.value (.pointer (some ⟨b, off + fo, none⟩))) w := by
  obtain ⟨fs, f, h1, h2, rfl, rfl⟩ := fieldOf_spec hf
  obtain ⟨ti, hti⟩ : ∃ i, P.info? f.type = some i := by
    cases hi : P.info? f.type with
    | none => simp [Program.cellsOf, hi] at hne
    | some i => exact ⟨i, rfl⟩
  simp [execOp, ho, hx, Instr.fieldAt, run_underlying h1, h2, Instr.sureAddr, run_fieldPlace (w := w) b off f hti hne]
theorem run_load_one {o : Oper} {t : TypeId} {d : TypeDesc} {x : Operand} (ho : o.op = .load t x) (hd : P.underlying t = some d) (hagg : descAgg d = false) {b off : Nat} (hx : a.eval x = .pointer (some ⟨b, off, none⟩)) {v : Value} (hc : w.cell? ⟨b, off, none⟩ = some v) :
    (execOp a.eval o).run P w = .ok (.value v) w := by
  have hlv : (loadVar t ⟨b, off, none⟩).run P w = .ok v w := by
    unfold loadVar
    simp only [Sem.run_bind, run_isAgg hd, Result.andThen_ok, hagg, Bool.false_eq_true, if_false, run_load, hc]
  simp [execOp, ho, hx, Instr.loadAt, Instr.sureAddr, hlv]
/-! ### Values that do not lean on a block -/
mutual
/-- Each slice in it that has elements has one with a cell of the kind S. -/
def gdD (S : D → Bool) : D → Bool
  | .sl es => (es.isEmpty || es.any fun c => c.any S) && gdLL S es
  | .agg cs => gdL S cs
  | _ => true
def gdL (S : D → Bool) : List D → Bool
  | [] => true
  | d :: r => gdD S d && gdL S r
def gdLL (S : D → Bool) : List (List D) → Bool
  | [] => true
  | c :: r => gdL S c && gdLL S r
end
theorem gdL_mem {S : D → Bool} : ∀ {l : List D}, gdL S l = true → ∀ d ∈ l, gdD S d = true
  | [], _, d, h => by cases h
  | x :: r, h, d, hd => by
    simp only [gdL, Bool.and_eq_true] at h
    rcases List.mem_cons.1 hd with rfl | hd
    · exact h.1
    · exact gdL_mem h.2 d hd
theorem gdLL_mem {S : D → Bool} : ∀ {l : List (List D)}, gdLL S l = true → ∀ c ∈ l, gdL S c = true
  | [], _, d, h => by cases h
  | x :: r, h, d, hd => by
    simp only [gdLL, Bool.and_eq_true] at h
    rcases List.mem_cons.1 hd with rfl | hd
    · exact h.1
    · exact gdLL_mem h.2 d hd
theorem V.avoid {S : D → Bool} {g : Nat} {cur : Array Value} {T : TypeId} (hg : w.heap[g]? = some (.cells cur T (0, 0))) (hS : ∀ j v x, R g j → cur[j]? = some v → S x = true → ¬ V R w v x) {v : Value} {d : D} (h : V R w v d) : gdD S d = true → V (fun b o => R b o ∧ b ≠ g) w v d := by
  induction h with
  | int k n => exact fun _ => .int k n
  | bool b => exact fun _ => .bool b
  | str s => exact fun _ => .str s
  | nils ao => exact fun _ => .nils ao
  | emp ao cap => exact fun _ => .emp ao cap
  | sl b o n cap size es f h1 h2 h3 h4 h5 h6 h7 ih =>
    intro hd
    simp only [gdD, Bool.and_eq_true, Bool.or_eq_true] at hd
    obtain ⟨hd1, hd2⟩ := hd
    have hne : es = [] ∨ b ≠ g := by
      rcases hd1 with hd1 | hd1
      · exact .inl (by simpa using hd1)
      · right
        rintro rfl
        obtain ⟨c, hc, hx⟩ := List.any_eq_true.1 hd1
        obtain ⟨x, hx, hSx⟩ := List.any_eq_true.1 hx
        obtain ⟨i, hi⟩ := List.getElem?_of_mem hc
        obtain ⟨j, hj⟩ := List.getElem?_of_mem hx
        have hil : i < n := by rw [h1]; exact (List.getElem?_eq_some_iff.1 hi).1
        have hjl : j < size := by rw [← h4 c hc]; exact (List.getElem?_eq_some_iff.1 hj).1
        obtain ⟨q1, q2⟩ := h5 i j hil hjl
        rw [cell_of_row w _ _ cur T (0, 0) hg] at q2
        exact hS _ _ _ q1 q2 hSx (h7 i j c x hi hj)
    rcases hne with rfl | hne
    · have : n = 0 := h1
      subst this
      exact .emp _ _
    · exact .sl b o n cap size es f h1 h2 h3 h4 (fun i j hi hj => ⟨⟨(h5 i j hi hj).1, hne⟩, (h5 i j hi hj).2⟩) h6 fun i j e d hi hj => ih i j e d hi hj (gdL_mem (gdLL_mem hd2 e (List.mem_of_getElem? hi)) d (List.mem_of_getElem? hj))
  | agg cs ds h1 h2 _ ih =>
    intro hd
    simp only [gdD] at hd
    exact .agg cs ds h1 h2 fun i d hi => ih i d hi (gdL_mem hd d (List.mem_of_getElem? hi))
theorem V.int_uniq {v : Value} {d : D} {k : IntKind} {n : Int} (h : V R w v d) (h2 : V R w v (.int k n)) : d = .int k n := by
  cases h2
  cases h
  rfl
theorem V.str_uniq {v : Value} {d : D} {s : List UInt8} (h : V R w v d) (h2 : V R w v (.str s)) : d = .str s := by
  have he := h2.str_inv
  subst he
  cases h
  rfl
end
end Go.VM
