/- The examples' modules: an instance of which the definitions are taken away, and instances that may grow. No condition. -/
import Derived.Test.YtbacejmdgfalpaaDoorKm
import Derived.Test.YtbacejmdgfalpaaDoorVmX
set_option linter.unusedVariables false
set_option linter.unusedSimpArgs false
set_option linter.unusedSectionVars false
namespace Go.Proofs.YtbacejmdgfalpaaDoor
open Go Go.VM Go.RowKit
set_option maxRecDepth 100000
set_option maxHeartbeats 8000000
variable {G : GT}
abbrev tIn : TypeId := 57
abbrev tMo : TypeId := 29
/-- What 'lists' gives, at the level of worlds. -/
def ListsZ (R : Nat → Nat → Prop) (w : World) (df : D) (row : Array Value) (R' : Nat → Nat → Prop) (w' : World) : Prop :=
  row.size = 6 ∧ Step (From w.heap.size) R w R' w' ∧ (∀ b o, R' b o → b < w'.heap.size) ∧ (∀ i d, (rawMo df)[i]? = some d → V R' w' (row.getD i undef) d) ∧ OwnSl Tryd.prog (From w.heap.size) R' w' tIn (row.getD 2 undef)
theorem raw_one {df : D} {i : Nat} {d : D} (h : (rawMo df)[i]? = some d) : d.one = true := by
  match i, h with
  | 0, h => simp [rawMo] at h; subst h; rfl
  | 1, h => simp [rawMo] at h; subst h; rfl
  | 2, h => simp [rawMo] at h; subst h; rfl
  | 3, h => simp [rawMo] at h; subst h; rfl
  | 4, h => simp [rawMo] at h; subst h; rfl
  | 5, h => simp [rawMo] at h; subst h; rfl
  | i + 6, h => simp [rawMo] at h
abbrev df0 : D := .sl [dfC (dfX [101, 113])]
theorem lists_z {w : World} {R : Nat → Nat → Prop} (hg : Glob G (From w.heap.size) R w) (hR : ∀ b o, R b o → b < w.heap.size) :
    Calls Tryd.prog 28 #[] w (fun e w' => ∃ row R', e = .returned (.agg row) ∧ ListsZ R w df0 row R' w') := by
  obtain ⟨c, hb, hsw⟩ := lists_sw (G := G)
  refine calls_of_wp Tryd.func28 hb ?_
  have hrel := Rel.init (P := Tryd.prog) (G := G) (args := #[]) (ds := []) Tryd.f28 hg hR rfl (by simp)
  refine wp_mono (hsw (From w.heap.size) R _ _ w hrel) fun e a w' ⟨s, R', μ', ⟨he, q⟩, hr, hs⟩ => ?_
  subst he
  have hr := hr.weak q
  have hk : getKey 0 SFin.H = some (.cells ((rawMo df0).map .d)) := rfl
  obtain ⟨hb0, hn0, row, T, hh, hsz, hc, _⟩ := hr.objs 0 _ hk
  have h0 := hr.evalPtr (x := .tmp 0) (k := 0) (off := 0) rfl
  have hld := load_row (P := Tryd.prog) (t := tMo) (d := _) (w := w') rfl rfl hh (by rw [hsz]; rfl)
  have hV : ∀ i d, (rawMo df0)[i]? = some d → V R' w' (row.getD i undef) d := fun i d hi => by
    have := (hc i (.d d) (by rw [List.getElem?_map, hi]; rfl)).2
    exact this.dinv
  have hown : OwnSl Tryd.prog (From w.heap.size) R' w' tIn (row.getD 2 undef) := by
    obtain ⟨vs, hvs⟩ := hr.own
    have hl := hvs.len
    have hl1 : vs.length = 1 := hl
    have h1 := hvs.one 0 (tIn, [.c 0 2]) vs[0] rfl (by simp)
    have hc2 : locVal a w' μ' (.c 0 2) = some (row.getD 2 undef) := by
      simp only [locVal, cell_of_row w' _ _ row T (0, 0) hh]
      have : row.size = 6 := by rw [hsz]; rfl
      simp [Array.getD_eq_getD_getElem?, this]
    rw [h1.locs (.c 0 2) (by simp) _ hc2]
    exact h1.own
  have hres : (results Tryd.f28 a.tmps).run Tryd.prog w' = .ok (.agg row) w' := by
    have he : a.tmps.getD 0 undef = .pointer (some ⟨μ' 0, 0, none⟩) := h0
    rw [results_eq]
    show ((do let vs ← (#[ResultVar.cell 0 tMo]).mapM (resVal a.tmps); pure (if h : vs.size = 1 then vs[0] else .tuple vs)) : Sem Value).run Tryd.prog w' = _
    rw [Array.mapM_eq_mapM_toList]
    simp only [Sem.run_bind, Sem.run_map, List.mapM_cons, List.mapM_nil, resVal, he, asAddr, Sem.run_pure, Result.andThen_ok, hld]
    rfl
  exact ⟨hr.defers, _, hres, row, R', rfl, by rw [hsz]; rfl, hs, hr.rset, hV, hown⟩
end Go.Proofs.YtbacejmdgfalpaaDoor
