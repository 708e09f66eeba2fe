/- The abstract machine on plain data: the operations that make or write objects. No condition. -/
import Derived.Test.YtdnkdeplpnbojaaDoorVm9
set_option linter.unusedVariables false
set_option linter.unusedSimpArgs false
set_option linter.unusedSectionVars false
namespace Go.VM
open Go Go.RowKit

section
variable {P : Program} {G : GT} {st : St} {out : Out}
variable {base : Nat} {R : Nat → Nat → Prop} {μ : Nat → Nat} {a : Act} {w w' : World}

/-- The block of one of our objects is written, and nothing else. -/
theorem Rel.stepObj (h : Rel P G base R μ st a w) {k : Nat} {o : AObj} (hk : getKey k st.H = some o) (hos : w'.os = w.os) (htp : w'.tape = w.tape) (hout : w'.output = w.output) (hsz : w'.heap.size = w.heap.size)
    (hb : ∀ j, j ≠ μ k → w'.heap[j]? = w.heap[j]?) : Step base R w R w' := by
  obtain ⟨h1, h2, _⟩ := h.objs k o hk
  exact ⟨⟨hos, htp, hout, by omega, fun j hj => hb j (by omega)⟩, fun _ _ h => h, fun _ _ h h' => absurd h h', fun b off hr => World.cell?_of_block (hb b (by rintro rfl; exact h2 off hr))⟩

theorem Rel.setObj (h : Rel P G base R μ st a w) {k : Nat} {o o' : AObj} (hk : getKey k st.H = some o) (hos : w'.os = w.os) (htp : w'.tape = w.tape) (hout : w'.output = w.output) (hsz : w'.heap.size = w.heap.size)
    (hb : ∀ j, j ≠ μ k → w'.heap[j]? = w.heap[j]?) (hob : ObjRel R w' (μ k) o') {own' : List (TypeId × List Loc)} (hloc : ∀ c ∈ own', ∀ k off, Loc.c k off ∈ c.2 → ∃ o, getKey k st.H = some o)
    (hown : ∃ vs, Owns P base R μ { st with H := setKey k o' st.H, own := own' } a w' vs) :
    Rel P G base R μ { st with H := setKey k o' st.H, own := own' } a w' ∧ Step base R w R w' := by
  have hs := h.stepObj hk hos htp hout hsz hb
  have hex : ∀ k' o1, getKey k' (setKey k o' st.H) = some o1 → ∃ o2, getKey k' st.H = some o2 := fun k' o1 h1 => by
    rw [getKey_setKey] at h1
    by_cases hkk : k = k'
    · subst hkk; exact ⟨o, hk⟩
    · rw [if_neg hkk] at h1; exact ⟨o1, h1⟩
  refine ⟨⟨h.defers, h.size, fun i v d hv hd => (h.tmps i v d hv hd).of_step hs, fun k' o1 h1 => ?_, fun k1 k2 o1 o2 h1 h2 he => ?_, fun c hc k' off hl => ?_, hown, h.glob.of_step hs, fun b off hr => by rw [hsz]; exact h.rset b off hr, by rw [hsz]; exact h.base⟩, hs⟩
  · simp only at h1
    rw [getKey_setKey] at h1
    by_cases hkk : k = k'
    · subst hkk
      rw [if_pos rfl] at h1; cases h1
      obtain ⟨q1, q2, _⟩ := h.objs k o hk
      exact ⟨q1, q2, hob⟩
    · rw [if_neg hkk] at h1
      obtain ⟨q1, q2, q3⟩ := h.objs k' o1 h1
      exact ⟨q1, q2, q3.of_step hs (hb _ fun he => hkk (h.inj k k' o o1 hk h1 he.symm))⟩
  · obtain ⟨o3, h3⟩ := hex k1 o1 h1
    obtain ⟨o4, h4⟩ := hex k2 o2 h2
    exact h.inj k1 k2 o3 o4 h3 h4 he
  · obtain ⟨o1, h1⟩ := hloc c hc k' off hl
    simp only
    rw [getKey_setKey]
    split
    · exact ⟨_, rfl⟩
    · exact ⟨o1, h1⟩

/-- An object that holds no cells is written: the own classes stay. -/
theorem Owns.noCells (h : Rel P G base R μ st a w) {k : Nat} {o o' : AObj} (hk : getKey k st.H = some o) (hb : ∀ j, j ≠ μ k → w'.heap[j]? = w.heap[j]?) (hno : ∀ off, w'.cell? ⟨μ k, off, none⟩ = none) :
    ∃ vs, Owns P base R μ { st with H := setKey k o' st.H } a w' vs := by
  obtain ⟨vs, hl, h1, hap⟩ := h.own
  refine ⟨vs, hl, fun i c v hc hv => ?_, hap⟩
  have ho := h1 i c v hc hv
  have hkeys : ∀ k' o1, getKey k' (setKey k o' st.H) = some o1 → ∃ o2, getKey k' st.H = some o2 := fun k' o1 h1 => by
    rw [getKey_setKey] at h1
    by_cases hkk : k = k'
    · subst hkk; exact ⟨o, hk⟩
    · rw [if_neg hkk] at h1; exact ⟨o1, h1⟩
  refine ⟨fun l hl u hu => ?_, ho.own.keep1 (fun g hg => hb g fun he => ho.keys k o hk (by rw [hg, he])) (fun _ _ _ h => h), fun k' o1 h1 => by obtain ⟨o2, h2⟩ := hkeys k' o1 h1; exact ho.keys k' o2 h2⟩
  cases l with
  | t i => exact ho.locs _ hl u hu
  | c k' off =>
    by_cases hkk : k' = k
    · subst hkk; simp only [locVal] at hu; rw [hno] at hu; cases hu
    · obtain ⟨o1, h1'⟩ := h.locs c (List.mem_of_getElem? hc) k' off hl
      refine ho.locs _ hl u ?_
      rw [← hu]
      exact (World.cell?_of_block (hb _ fun he => hkk (h.inj k' k o1 o h1' hk he))).symm

theorem overwrite_get (z : List D) (off : Nat) (vs : List D) (h : off + vs.length ≤ z.length) (k : Nat) : (overwrite z off vs)[k]? = if k < off then z[k]? else if k < off + vs.length then vs[k - off]? else z[k]? := by
  have hmin : min off z.length = off := by omega
  simp only [overwrite, List.append_assoc]
  by_cases h1 : k < off
  · rw [if_pos h1, List.getElem?_append_left (by simp; omega), List.getElem?_take, if_pos h1]
  · rw [if_neg h1, List.getElem?_append_right (by simp; omega)]
    simp only [List.length_take, hmin]
    by_cases h2 : k < off + vs.length
    · rw [if_pos h2, List.getElem?_append_left (by omega)]
    · rw [if_neg h2, List.getElem?_append_right (by omega), List.getElem?_drop]
      congr 1; omega
theorem overwrite_len (z : List D) (off : Nat) (vs : List D) (h : off + vs.length ≤ z.length) : (overwrite z off vs).length = z.length := by
  simp only [overwrite, List.length_append, List.length_take, List.length_drop]; omega
theorem splice_get (z : List Value) (off : Nat) (vs : List Value) (h : off + vs.length ≤ z.length) (k : Nat) : (z.take off ++ vs ++ z.drop (off + vs.length))[k]? = if k < off then z[k]? else if k < off + vs.length then vs[k - off]? else z[k]? := by
  have hmin : min off z.length = off := by omega
  simp only [List.append_assoc]
  by_cases h1 : k < off
  · rw [if_pos h1, List.getElem?_append_left (by simp; omega), List.getElem?_take, if_pos h1]
  · rw [if_neg h1, List.getElem?_append_right (by simp; omega)]
    simp only [List.length_take, hmin]
    by_cases h2 : k < off + vs.length
    · rw [if_pos h2, List.getElem?_append_left (by omega)]
    · rw [if_neg h2, List.getElem?_append_right (by omega), List.getElem?_drop]
      congr 1; omega

theorem setRow_os (w : World) (g : Nat) (c : Array Value) : (w.setRow g c).os = w.os ∧ (w.setRow g c).tape = w.tape ∧ (w.setRow g c).output = w.output ∧ (w.setRow g c).heap.size = w.heap.size := ⟨rfl, rfl, rfl, by simp [World.setRow]⟩

theorem vStore_ok {o : Oper} {t : TypeId} {ad x : Operand} (ho : o.op = .store t ad x) (h : vStore P G t ad x st = some out) : OpOk P G o st out := by
  unfold vStore at h
  split at h
  · rename_i k off y ha hx
    split at h
    · rename_i cs hk
      split at h
      · rename_i hc
        obtain ⟨hlen, hne, hle⟩ := hc
        simp only [Option.some.injEq] at h; subst h
        intro base R μ a w hr
        obtain ⟨hbk, hnR, cur, T, hh, hsz, hcur⟩ := hr.objs k _ hk
        have hv := hr.evalD hx
        obtain ⟨hvs, hvc⟩ := hv.cells
        have hone : ∀ u ∈ (a.eval x).cells.toList, u.oneCell' = true := fun u hu => by
          obtain ⟨i, hi⟩ := List.getElem?_of_mem hu
          have hil : i < y.cells.length := by rw [← hvs]; simpa using (List.getElem?_eq_some_iff.1 hi).1
          obtain ⟨h1, h2⟩ := hvc i y.cells[i] (by simp [hil])
          have : (a.eval x).cells.getD i undef = u := by
            have : (a.eval x).cells[i]? = some u := by simpa using hi
            simp [Array.getD_eq_getD_getElem?, this]
          rw [this] at h2
          exact h2.oneCell h1
        have hst := run_storeCells_at P (μ k) off T (a.eval x).cells.toList 0 cur w hh (by rw [hsz]; simp [hvs]; omega) hone
        simp only [Nat.add_zero] at hst
        have hrun : (execOp a.eval o).run P w = .ok .skip (w.setRow (μ k) (cur.toList.take off ++ (a.eval x).cells.toList ++ cur.toList.drop (off + (a.eval x).cells.toList.length)).toArray) := by
          have hnn : ¬ ((a.eval x).cells.size ≠ P.cellsOf t) := by rw [hvs, hlen]; simp
          simp only [execOp, ho, Sem.run_bind, hr.evalPtr ha, Instr.storeAt, Instr.sureAddr, storeVar, Sem.run_pure, Result.andThen_ok, info_ok (info_of_cells hne) w, if_neg hnn, hst]
        generalize hw' : w.setRow (μ k) (cur.toList.take off ++ (a.eval x).cells.toList ++ cur.toList.drop (off + (a.eval x).cells.toList.length)).toArray = w' at hrun
        have hlt : μ k < w.heap.size := (Array.getElem?_eq_some_iff.1 hh).1
        have hheap : w'.heap[μ k]? = some (.cells (cur.toList.take off ++ (a.eval x).cells.toList ++ cur.toList.drop (off + (a.eval x).cells.toList.length)).toArray T (0, 0)) := by
          rw [← hw']; exact setRow_heap w (μ k) cur _ T _ hh
        have hother : ∀ j, j ≠ μ k → w'.heap[j]? = w.heap[j]? := fun j hj => by rw [← hw']; exact setRow_other w (μ k) j _ hj
        obtain ⟨e1, e2, e3, e4⟩ := setRow_os w (μ k) (cur.toList.take off ++ (a.eval x).cells.toList ++ cur.toList.drop (off + (a.eval x).cells.toList.length)).toArray
        rw [hw'] at e1 e2 e3 e4
        have hstep := hr.stepObj hk e1 e2 e3 e4 hother
        have hcl : (a.eval x).cells.toList.length = y.cells.length := by simpa using hvs
        have hfit : off + (a.eval x).cells.toList.length ≤ cur.toList.length := by rw [hcl]; simp [hsz]; omega
        have hget : ∀ i, w'.cell? ⟨μ k, i, none⟩ = if i < off then cur[i]? else if i < off + y.cells.length then (a.eval x).cells[i - off]? else cur[i]? := fun i => by
          rw [cell_of_row w' _ _ _ T (0, 0) hheap, List.getElem?_toArray, splice_get _ _ _ hfit, hcl]
          simp
        have hob : ObjRel R w' (μ k) (.cells (overwrite cs off y.cells)) := by
          refine ⟨_, T, hheap, ?_, fun i d hi => ?_⟩
          · rw [overwrite_len _ _ _ hle, ← hsz]
            simp only [List.size_toArray, List.length_append, List.length_take, List.length_drop]
            rw [hcl]; simp; omega
          · rw [overwrite_get _ _ _ hle] at hi
            rw [Array.getD_eq_getD_getElem?, List.getElem?_toArray, splice_get _ _ _ hfit, hcl]
            by_cases h1 : i < off
            · rw [if_pos h1] at hi ⊢
              have := hcur i d hi
              rw [Array.getD_eq_getD_getElem?] at this
              exact ⟨this.1, by simpa using this.2.of_step hstep⟩
            · rw [if_neg h1] at hi ⊢
              by_cases h2 : i < off + y.cells.length
              · rw [if_pos h2] at hi ⊢
                have := hvc _ d hi
                rw [Array.getD_eq_getD_getElem?] at this
                exact ⟨this.1, by simpa using this.2.of_step hstep⟩
              · rw [if_neg h2] at hi ⊢
                have := hcur i d hi
                rw [Array.getD_eq_getD_getElem?] at this
                exact ⟨this.1, by simpa using this.2.of_step hstep⟩
        have hkeysT : ∀ k' o1, getKey k' (setKey k (.cells (overwrite cs off y.cells)) st.H) = some o1 → ∃ o2, getKey k' st.H = some o2 := fun k' o1 h1 => by
          rw [getKey_setKey] at h1
          by_cases hkk : k = k'
          · subst hkk; exact ⟨_, hk⟩
          · rw [if_neg hkk] at h1; exact ⟨o1, h1⟩
        -- the own classes
        have hownE : (∀ c ∈ (if y.one then ownAct (.c k off) (slAct (.d y) (tmpAct x)) st.own else dropKey k st.own), ∀ k' off', Loc.c k' off' ∈ c.2 → ∃ o, getKey k' st.H = some o) ∧
            ∃ vs, Owns P base R μ { st with H := setKey k (.cells (overwrite cs off y.cells)) st.H, own := if y.one then ownAct (.c k off) (slAct (.d y) (tmpAct x)) st.own else dropKey k st.own } a w' vs := by
          obtain ⟨vs, hvs'⟩ := hr.own
          have hsl : ∀ e u, OwnSl P base R w e u → (∀ k o, getKey k st.H = some o → spareBlk u ≠ some (μ k)) → OwnSl P base R w' e u := fun e u hu hm =>
            hu.keep1 (fun g hg => hother g fun he => hm k _ hk (by rw [hg, he])) (fun _ _ _ h => h)
          by_cases hy : y.one = true
          · simp only [hy, if_true]
            have hyc : y.cells = [y] ∧ (a.eval x).cells = #[a.eval x] := ⟨(hv.cells_one hy).2, (hv.cells_one hy).1⟩
            have hactcases : slAct (.d y) (tmpAct x) = .no ∨ ∃ s, slAct (.d y) (tmpAct x) = .al (.t s) := by
              unfold slAct
              split
              · cases x with
                | tmp s => exact .inr ⟨s, rfl⟩
                | _ => exact .inl rfl
              · exact .inl rfl
            refine ⟨fun c hc k' off' hl => ?_, ?_⟩
            · obtain ⟨i, hi⟩ := List.getElem?_of_mem hc
              rcases hactcases with ha' | ⟨s, ha'⟩
              · rw [ha'] at hi
                obtain ⟨c', hc', _, hm⟩ := mem_dropLoc hi
                exact hr.locs c' (List.mem_of_getElem? hc') k' off' ((hm _).1 hl).1
              · rw [ha'] at hi
                simp only [ownAct, reduceCtorEq, if_false] at hi
                obtain ⟨c', hc', _, hm⟩ := mem_addAlias hi
                rcases hm _ hl with hx' | ⟨hx', _⟩
                · obtain ⟨c0, hc0, _, hm0⟩ := mem_dropLoc hc'
                  exact hr.locs c0 (List.mem_of_getElem? hc0) k' off' ((hm0 _).1 hx').1
                · cases hx'; exact ⟨_, hk⟩
            · refine Owns.act (a' := a) (w' := w') (dst := .c k off) (v := a.eval x) (act := slAct (.d y) (tmpAct x)) hr.own rfl hkeysT (fun c hc l hl hne' => ?_) (fun u hu => ?_) hsl (hr.slActD hx)
              · cases l with
                | t i => rfl
                | c k' off' =>
                  obtain ⟨o1, h1⟩ := hr.locs c hc k' off' hl
                  by_cases hkk : k' = k
                  · subst hkk
                    have hoff : off' ≠ off := fun he => hne' (by rw [he])
                    simp only [locVal]
                    rw [hget, cell_of_row w _ _ cur T (0, 0) hh]
                    by_cases q1 : off' < off
                    · rw [if_pos q1]
                    · rw [if_neg q1, if_neg (by rw [hyc.1]; simp; omega)]
                  · exact World.cell?_of_block (hother _ fun he => hkk (hr.inj k' k o1 _ h1 hk he))
              · simp only [locVal] at hu
                rw [hget, if_neg (by omega), if_pos (by rw [hyc.1]; simp), hyc.2] at hu
                simp at hu
                exact hu.symm
          · simp only [hy]
            refine ⟨fun c hc k' off' hl => ?_, vs, by simpa [dropKey] using hvs'.len, fun i c u hc hu => ?_, hvs'.apart⟩
            · obtain ⟨i, hi⟩ := List.getElem?_of_mem hc
              obtain ⟨c', hc', _, hm⟩ := mem_dropKey hi
              exact hr.locs c' (List.mem_of_getElem? hc') k' off' ((hm _).1 hl).1
            · obtain ⟨c', hc', he, hm⟩ := mem_dropKey hc
              have ho' := hvs'.one i c' u hc' hu
              refine ⟨fun l hl u' hu' => ?_, by rw [he]; exact hsl _ u ho'.own ho'.keys, fun k' o1 h1 => by obtain ⟨o2, h2⟩ := hkeysT k' o1 h1; exact ho'.keys k' o2 h2⟩
              have hx' := (hm l).1 hl
              refine ho'.locs l hx'.1 u' ?_
              cases l with
              | t i => exact hu'
              | c k' off' =>
                have hkk : k' ≠ k := by simpa [Loc.ofKey] using hx'.2
                obtain ⟨o1, h1⟩ := hr.locs c' (List.mem_of_getElem? hc') k' off' hx'.1
                rw [← hu']
                exact (World.cell?_of_block (hother _ fun he => hkk (hr.inj k' k o1 _ h1 hk he))).symm
        obtain ⟨hrel, hs⟩ := hr.setObj hk e1 e2 e3 e4 hother hob hownE.1 hownE.2
        exact ⟨Go.undef, w', R, μ, .inr ⟨hrun, rfl⟩, hrel, .tup #[] [] rfl (by simp), trivial, hs⟩
      · cases h
    · cases h
  · cases h
end
end Go.VM
