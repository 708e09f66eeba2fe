/- The abstract machine on plain data: each operation does in the model what it does on data. No condition. -/
import Derived.Test.YtdnkdeplpnbojaaDoorVm4
set_option linter.unusedVariables false
set_option linter.unusedSimpArgs false
set_option linter.unusedSectionVars false
namespace Go.VM
open Go Go.RowKit

section
variable {P : Program} {G : GT} {base : Nat} {R : Nat → Nat → Prop} {μ : Nat → Nat} {st : St} {a : Act} {w : World}

theorem ofScalar_V {v : Value} {x : D} (h : ofScalar v = some x) : V R w v x ∧ x.one = true := by
  unfold ofScalar at h
  split at h <;> simp at h <;> subst h
  · exact ⟨.int _ _, rfl⟩
  · exact ⟨.bool _, rfl⟩
  · rename_i s
    have := V.str (R := R) (w := w) s.data.toList
    simp only [Array.toArray_toList] at this
    exact ⟨this, rfl⟩
  · exact ⟨.nils _, rfl⟩
theorem ofScalars_V : ∀ {l : List Value} {ds : List D}, ofScalars l = some ds → l.length = ds.length ∧ ∀ (i : Nat) (d : D), ds[i]? = some d → V R w (l.getD i undef) d ∧ d.one = true
  | [], ds, h => by simp [ofScalars] at h; subst h; simp
  | v :: l, ds, h => by
    unfold ofScalars at h
    split at h <;> simp at h
    rename_i x ds' h1 h2
    subst h
    obtain ⟨h3, h4⟩ := ofScalars_V (l := l) h2
    refine ⟨by simp [h3], fun i d hi => ?_⟩
    cases i with
    | zero => simp at hi; subst hi; exact ofScalar_V h1
    | succ i => simp at hi; simpa using h4 i d hi
theorem ofConst_TV (v : Value) : TV R μ w v (ofConst v) := by
  unfold ofConst
  split
  · rename_i cs
    split
    · rename_i ds h
      obtain ⟨h1, h2⟩ := ofScalars_V (R := R) (w := w) h
      exact .d _ _ (.agg cs ds (by simpa using h1) (fun i d hi => (h2 i d hi).2) fun i d hi => by have := (h2 i d hi).1; simpa [Array.getD_eq_getD_getElem?, List.getD] using this)
    · exact .undef _
  · split
    · rename_i x h; exact .d _ _ (ofScalar_V h).1
    · exact .undef _

theorem Rel.eval (h : Rel P G base R μ st a w) (x : Operand) : TV R μ w (a.eval x) (st.eval G x) := by
  cases x with
  | tmp t =>
    simp only [Act.eval, St.eval]
    by_cases ht : t < a.tmps.size
    · have h1 : a.tmps[t]? = some (a.tmps.getD t undef) := by simp [ht]
      have h2 : st.tmps[t]? = some (st.tmps.getD t (.tup [])) := by
        have : t < st.tmps.length := by rw [← h.size]; exact ht
        simp [this, List.getD]
      exact h.tmps t _ _ h1 h2
    · have h3 : ¬ t < st.tmps.length := by rw [← h.size]; exact ht
      have h1 : a.tmps.getD t undef = .tuple #[] := by simp [Array.getD, ht]; rfl
      have h2 : st.tmps.getD t (.tup []) = .tup [] := by simp [List.getD, List.getElem?_eq_none (Nat.le_of_not_lt h3)]
      rw [h1, h2]
      exact .tup _ _ rfl (by simp)
  | const v => exact ofConst_TV v
  | global g =>
    simp only [Act.eval, St.eval]
    split
    · rename_i cs hg; exact .ep g 0 cs (h.glob g cs hg).1
    · exact .undef _
  | func f => exact .fn f

theorem TV.dinv {v : Value} {d : D} (h : TV R μ w v (.d d)) : V R w v d := by cases h; assumption
theorem Rel.evalD (h : Rel P G base R μ st a w) {x : Operand} {d : D} (hx : st.eval G x = .d d) : V R w (a.eval x) d := by
  have := h.eval x
  rw [hx] at this
  exact this.dinv

theorem Rel.slAct (h : Rel P G base R μ st a w) (x : Operand) : ActOk P base R μ st a w (a.eval x) (slAct (st.eval G x) (tmpAct x)) := by
  unfold Go.VM.slAct
  split
  · rename_i es hx
    cases x with
    | tmp s =>
      show a.tmps[s]? = some (a.tmps.getD s undef)
      by_cases hs : s < a.tmps.size
      · simp [hs]
      · have h3 : ¬ s < st.tmps.length := by rw [← h.size]; exact hs
        simp [St.eval, List.getD, List.getElem?_eq_none (Nat.le_of_not_lt h3)] at hx
    | _ => trivial
  · trivial
theorem Rel.slActD (h : Rel P G base R μ st a w) {x : Operand} {y : D} (hx : st.eval G x = .d y) : ActOk P base R μ st a w (a.eval x) (Go.VM.slAct (.d y) (tmpAct x)) := by
  rw [← hx]; exact h.slAct x

/-- WHAT IS ASKED OF AN OPERATION. -/
def OpOk (P : Program) (G : GT) (o : Oper) (st : St) (out : Out) : Prop :=
  ∀ base R μ a w, Rel P G base R μ st a w → ∃ v w' R' μ', ((execOp a.eval o).run P w = .ok (.value v) w' ∨ ((execOp a.eval o).run P w = .ok .skip w' ∧ v = Go.undef)) ∧
    Rel P G base R' μ' out.st a w' ∧ TV R' μ' w' v out.v ∧ ActOk P base R' μ' out.st a w' v out.act ∧ Step base R w R' w'

theorem opOk_pure {o : Oper} {v' : DV} {act : OA} (h : ∀ base R μ a w, Rel P G base R μ st a w → ∃ v, (execOp a.eval o).run P w = .ok (.value v) w ∧ TV R μ w v v' ∧ ActOk P base R μ st a w v act) : OpOk P G o st ⟨v', act, st⟩ := by
  intro base R μ a w hr
  obtain ⟨v, h1, h2, h3⟩ := h base R μ a w hr
  exact ⟨v, w, R, μ, .inl h1, hr, h2, h3, .refl _ _ _⟩

theorem info_of_underlying {t : TypeId} {d : TypeDesc} (h : P.underlying t = some d) : ∃ i, P.info? t = some i ∧ i.size = P.cellsOf t ∧ i.bytes = P.bytesOf t := by
  unfold Program.underlying at h
  cases hi : P.info? t with
  | none => simp [hi] at h
  | some i => exact ⟨i, rfl, by simp [Program.cellsOf, hi], by simp [Program.bytesOf, hi]⟩

theorem run_sizeOf {t : TypeId} {d : TypeDesc} (h : P.underlying t = some d) (w : World) : (sizeOf t).run P w = .ok (P.cellsOf t) w := by
  obtain ⟨i, h1, h2, _⟩ := info_of_underlying h
  simp [sizeOf, typeInfo, h1, h2]

theorem run_isAgg {t : TypeId} {d : TypeDesc} (h : P.underlying t = some d) (w : World) : (isAgg t).run P w = .ok (descAgg d) w := by
  unfold isAgg
  simp only [Sem.run_bind, run_underlying h, Result.andThen_ok]
  cases d <;> rfl

theorem add_none (b o j : Nat) : (⟨b, o, none⟩ : Addr).add j = ⟨b, o + j, none⟩ := by unfold Addr.add; split <;> simp_all

/-- Cells that are there and read as cs. -/
def Run0 (R : Nat → Nat → Prop) (w : World) (b o : Nat) (cs : List D) : Prop := ∀ (j : Nat) (d : D), cs[j]? = some d → d.one = true ∧ ∃ v, w.cell? ⟨b, o + j, none⟩ = some v ∧ V R w v d
theorem Run.run0 {b o : Nat} {cs : List D} (h : Run R w b o cs) : Run0 R w b o cs := fun j d hj => ⟨(h j d hj).1, (h j d hj).2.2⟩
theorem Run0.drop {b o : Nat} {cs : List D} (h : Run0 R w b o cs) (n : Nat) : Run0 R w b (o + n) (cs.drop n) := fun j d hj => by
  rw [List.getElem?_drop] at hj
  have := h _ d hj
  rwa [← Nat.add_assoc] at this
theorem Run.drop {b o : Nat} {cs : List D} (h : Run R w b o cs) (n : Nat) : Run R w b (o + n) (cs.drop n) := fun j d hj => by
  rw [List.getElem?_drop] at hj
  have := h _ d hj
  rwa [← Nat.add_assoc] at this
theorem Run0.of_obj {b : Nat} {cs : List D} (h : ObjRel R w b (.cells cs)) : Run0 R w b 0 cs := fun j d hj => by
  obtain ⟨vs, T, hh, hsz, hcs⟩ := h
  obtain ⟨h1, h2⟩ := hcs j d hj
  have hlt : j < vs.size := by rw [hsz]; exact (List.getElem?_eq_some_iff.1 hj).1
  refine ⟨h1, vs.getD j undef, ?_, h2⟩
  rw [Nat.zero_add, cell_of_row w _ _ vs T (0, 0) hh]
  simp [hlt]

/-- A load from a run of cells. -/
theorem run_loadVar_run {t : TypeId} {b o : Nat} {cs : List D} {y : D} (hrun : Run0 R w b o cs) (ht : takeD P t cs = some y) :
    ∃ v, (loadVar t ⟨b, o, none⟩).run P w = .ok v w ∧ V R w v y ∧ (∀ es, y = .sl es → w.cell? ⟨b, o, none⟩ = some v) := by
  unfold takeD at ht
  split at ht
  · rename_i d hd
    split at ht
    · rename_i hagg
      split at ht
      · rename_i hle
        simp at ht
        subst ht
        have hc : ∀ j, j < P.cellsOf t → ∃ v, w.cell? ⟨b, o + j, none⟩ = some v ∧ ∀ d, cs[j]? = some d → d.one = true ∧ V R w v d := fun j hj => by
          have hlt : j < cs.length := by omega
          obtain ⟨h1, v, h3, h4⟩ := hrun j cs[j] (by simp [hlt])
          exact ⟨v, h3, fun d hd => by simp [hlt] at hd; subst hd; exact ⟨h1, h4⟩⟩
        have hf : ∀ j, j < P.cellsOf t → w.cell? ((⟨b, o, none⟩ : Addr).add j) = some ((w.cell? ⟨b, o + j, none⟩).getD undef) := fun j hj => by
          obtain ⟨v, hv, _⟩ := hc j hj
          rw [add_none, hv]; rfl
        refine ⟨.agg ((List.range (P.cellsOf t)).map fun j => (w.cell? ⟨b, o + j, none⟩).getD undef).toArray, ?_, .agg _ _ (by simp; omega) (fun i d hi => ?_) (fun i d hi => ?_), by simp⟩
        · unfold loadVar
          simp only [Sem.run_bind, run_isAgg hd, Result.andThen_ok, hagg, if_true, run_sizeOf hd, run_loadCells (P := P) w _ _ _ hf, Sem.run_pure]
        · rw [List.getElem?_take] at hi
          split at hi
          · rename_i hlt; obtain ⟨v, _, hv⟩ := hc i hlt; exact (hv d hi).1
          · cases hi
        · rw [List.getElem?_take] at hi
          split at hi
          · rename_i hlt
            obtain ⟨v, hv, hvd⟩ := hc i hlt
            simp [Array.getD_eq_getD_getElem?, hlt, hv]
            exact (hvd d hi).2
          · cases hi
      · cases ht
    · rename_i hagg
      have h0 : cs[0]? = some y := by rw [← List.head?_eq_getElem?]; exact ht
      obtain ⟨_, v, h3, h4⟩ := hrun 0 y h0
      refine ⟨v, ?_, h4, fun _ _ => by simpa using h3⟩
      unfold loadVar
      simp only [Nat.add_zero] at h3
      simp only [Sem.run_bind, run_isAgg hd, Result.andThen_ok, hagg, Bool.false_eq_true, if_false, run_load, h3]
  · cases ht
end
end Go.VM
