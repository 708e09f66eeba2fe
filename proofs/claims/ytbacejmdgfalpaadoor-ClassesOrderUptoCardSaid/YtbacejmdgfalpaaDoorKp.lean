/- The examples' modules: the steps of a frame that takes one, at the level of worlds. No condition. -/
import Derived.Test.YtbacejmdgfalpaaDoorKo
set_option linter.unusedVariables false
set_option linter.unusedSimpArgs false
set_option linter.unusedSectionVars false
namespace Go.VM
open Go Go.RowKit
section
variable {P : Program} {G : GT} {st : St} {base : Base} {R R' : Nat → Nat → Prop} {μ : Nat → Nat} {a : Act} {w w' : World}
/-- Behind a call: a value that is nobody else's. -/
theorem act_fresh (hr : Rel P G base R μ st a w) (hs : Step (From w.heap.size) R w R' w') {e : TypeId} {v : Value} (hown : OwnSl P (From w.heap.size) R' w' e v) : ActOk P base R' μ st a w' v (.fresh e) := by
  refine ⟨?_, fun k o' hk hsp => ?_, ?_⟩
  · rcases hown with q | ⟨g, n, cap, cur, q1, q2, q3⟩
    · exact .inl q
    · exact .inr ⟨g, n, cap, cur, q1, hr.base _ q2, q3⟩
  · obtain ⟨_, _, h3⟩ := hr.objs k o' hk
    have h1 : w.heap.size ≤ μ k := hown.base_le hsp
    have h2 := h3.lt
    omega
  · obtain ⟨vs, hvs⟩ := hr.own
    refine ⟨vs, hvs.step hr hs.below.below.block (fun b o hb q => by
      by_cases hR : R b o
      · exact hR
      · have := hs.new b o q hR; omega), fun v' hv' => ⟨fun g hg hg' => ?_, fun g hg hg' => ?_⟩⟩
    · have h1 : w.heap.size ≤ g := hown.base_le hg
      have h2 := hvs.lt hv' hg'
      omega
    · have h1 : w.heap.size ≤ g := hown.base_le hg'
      have h2 := hvs.lt hv' hg
      omega
theorem put_swap (a : Act) {i j : Nat} (u v v' : Value) (h : i ≠ j) : ((a.put (some i) u).put (some j) v).put (some i) v' = (a.put (some i) v').put (some j) v := by
  cases a with
  | mk tmps defers =>
    simp only [Act.put]
    congr 1
    apply Array.ext_getElem?
    intro k
    simp [Array.getElem?_setIfInBounds]
    by_cases hk : i = k
    · have : ¬ j = k := fun e => h (hk.trans e.symm)
      simp [hk, this]
    · simp [hk]
end
end Go.VM
namespace Go.Proofs.YtbacejmdgfalpaaDoor
open Go Go.VM Go.RowKit
set_option maxRecDepth 100000
set_option maxHeartbeats 8000000
variable {G : GT}
/-- The instances of a raw module. -/
abbrev rawIs (df : D) : List (List D) := [rawIn (tyD tI) .nils (.sl [dfC (dfX [101, 113])]), rawIn (tyD (tL tA)) (.sl [ndC ([69, 113], [97])]) df]
/-- The frame that took such a module into its object k, by its temporary t. -/
abbrev midSt (st : St) (k t : Nat) (df : D) : St := newObjAt (finish st (some t) (.d (.sl (rawIs df))) (.fresh tIn)) k (.cells ((rawMo df).map .d))
abbrev coreSt (st : St) (k t : Nat) (df : D) : St := finish (finish { midSt st k t df with own := addAlias (.t t) (.c k (0 + 2)) (midSt st k t df).own } (some k) (.ptr k 0) .no) (some t) .undef .no
theorem lists_core {st : St} {base : Base} {R : Nat → Nat → Prop} {μ : Nat → Nat} {a : Act} {w : World} (hr : Rel Tryd.prog G base R μ st a w) {w' : World} {R' : Nat → Nat → Prop} {row : Array Value} {df : D} (hz : ListsZ R w df row R' w') (k t : Nat) (hk : k < 100000) (hkt : t ≠ k) (htl : t < st.tmps.length) :
    ∃ μ', Rel Tryd.prog G base R' μ' (coreSt st k t df) ((a.put (some t) (.agg row)).put (some k) (.pointer (some ⟨w'.heap.size, 0, none⟩))) (w'.alloc (.cells row tMo)) ∧ Step base R w R' (w'.alloc (.cells row tMo)) := by
  obtain ⟨hsz, hs, hb, hV, hown⟩ := hz
  have hsb : Step base R w R' w' := ⟨hs.below.mono hr.base, hs.mono, fun b o q1 q2 => hr.base b (hs.new b o q1 q2), hs.cells⟩
  have hrel := hr.step hsb hs.below.below.block hs.new hb
  have hV2 : V R' w' (row.getD 2 undef) (.sl (rawIs df)) := hV 2 _ rfl
  have h1 := hrel.put (dst := some t) (.d _ _ hV2) (act_fresh hr hs hown)
  generalize ha1 : a.put (some t) (row.getD 2 undef) = a1 at h1
  have hsa : Step base R' w' R' (w'.alloc (.cells row tMo)) := Step.alloc R' w' _ hrel.base hrel.rset
  obtain ⟨h2, _⟩ := h1.newObj k hk (.cells ((rawMo df).map .d)) (.cells row tMo) ⟨row, tMo, heap_alloc_new w' _, by rw [hsz]; rfl, fun i x hi => by
    rw [List.getElem?_map] at hi
    obtain ⟨d, hd, rfl⟩ := Option.map_eq_some_iff.1 hi
    exact ⟨raw_one hd, .d _ _ ((hV i d hd).of_step hsa)⟩, fun T' hm => by
      obtain ⟨y, _, he⟩ := List.mem_map.1 hm
      cases he⟩
  have hts : t < a1.tmps.size := by rw [← ha1, size_put, hr.size]; exact htl
  have h3 := h2.alias (t := t) (k := k) (off := 0 + 2) ⟨_, by show getKey k (setKey k _ _) = _; rw [getKey_setKey, if_pos rfl]⟩ hts (fun u hu => by
    simp only [if_true, cell_of_row _ _ _ row tMo (0, 0) (heap_alloc_new w' _)] at hu
    rw [← ha1, eval_put_same _ _ (by rw [hr.size]; exact htl)]
    simp [Array.getD_eq_getD_getElem?, hu])
  have h4 := h3.put (dst := some k) (v := .pointer (some ⟨w'.heap.size, 0, none⟩)) (dv := .ptr k 0) (act := .no) (by
    have := TV.ptr (R := R') (μ := fun i => if i = k then w'.heap.size else μ i) (w := w'.alloc (.cells row tMo)) k 0
    simpa using this) trivial
  have h5 := h4.put (dst := some t) (v := .agg row) (dv := .undef) (act := .no) (.undef _) trivial
  rw [← ha1, put_swap _ _ _ _ hkt] at h5
  exact ⟨_, h5, hsb.trans hsa⟩
end Go.Proofs.YtbacejmdgfalpaaDoor
