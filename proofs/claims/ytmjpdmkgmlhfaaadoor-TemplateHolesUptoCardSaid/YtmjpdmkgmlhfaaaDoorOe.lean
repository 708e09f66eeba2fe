/- Template: the holes that are applied in a type. No condition. -/
import Derived.Test.YtmjpdmkgmlhfaaaDoorOd
set_option linter.unusedVariables false
set_option linter.unusedSimpArgs false
set_option linter.unusedSectionVars false
namespace Go.Proofs.YtmjpdmkgmlhfaaaDoor
open Go Go.VM
set_option maxRecDepth 100000
set_option maxHeartbeats 16000000
variable {G : GT}
theorem ent_collect : VM.Enters Tryd.prog 89 := VM.Enters.mk Tryd.func89 rfl
abbrev nilS (p : Pr) : St := ⟨[.d (.agg (prD p)), .d (.int .i64 5), .d (.sl [])], [], [(36, [.t 2])]⟩
/-- A variable holds no hole. -/
theorem leaf_ch (x : Nm) : CH Tryd.prog G 89 (nilS ⟨3, x, 0, []⟩) ⟨[.d (.sl [])], [], [(36, [.t 0])]⟩ := by
  refine CH.of_VK Tryd.func89 rfl Tryd.ntmps89 rfl (by simp) ?_
  simp
  refine SW.loopF (ι := Unit) (fun _ => [(2, .d (.sl [])), (12, .d (.int .i64 0))]) (fun _ => [(3, .cells [.d (.int .i64 3), .d (.str x), .d (.int .i64 0), .d (.sl [])])]) (fun _ => [(36, [.t 2])]) (fun _ => 0) () (by simp) ?_
  intro _
  simp
theorem zero_ch : CH Tryd.prog G 89 (nilS zeroP) ⟨[.d (.sl [])], [], [(36, [.t 0])]⟩ := by
  refine CH.of_VK Tryd.func89 rfl Tryd.ntmps89 rfl (by simp) ?_
  simp [zeroP]
  refine SW.loopF (ι := Unit) (fun _ => [(2, .d (.sl [])), (12, .d (.int .i64 0))]) (fun _ => [(3, .cells [.d (.int .i64 0), .d (.str []), .d (.int .i64 0), .d (.sl [])])]) (fun _ => [(36, [.t 2])]) (fun _ => 0) () (by simp) ?_
  intro _
  simp
theorem ent_r7_Has : VM.Enters Tryd.prog 112 := VM.Enters.mk Tryd.func112 rfl
theorem has_none (p : Pr) : CS Tryd.prog G 112 [.sl [], .agg (prD p)] (.d (.bool false)) none := by
  refine CS.of_VK Tryd.func112 rfl Tryd.ntmps112 rfl ?_
  simp
  refine SW.loopF (ι := Unit) (fun _ => [(9, .d (.int .i64 0))]) (fun _ => [(3, .cells [.d (.int .i64 p.op), .d (.str p.name), .d (.int .i64 p.n), .d (.sl (p.kids.map prC))])]) (fun _ => []) (fun _ => 0) () (by simp) ?_
  intro _
  simp
theorem hole_one (n : Nm) (vs : List Vr) (hv : vs.length ≤ 1000000) : CH Tryd.prog G 89 (nilS (holP n vs)) ⟨[.d (.sl [prD (holP n vs)])], [], [(36, [.t 0])]⟩ := by
  have hh := has_none (G := G) (holP n vs)
  refine CH.of_VK Tryd.func89 rfl Tryd.ntmps89 rfl (by simp) ?_
  unfold holP at hh ⊢
  obtain ⟨K, hK⟩ : ∃ K, K = vs.map fun x => (⟨3, x.1, 0, []⟩ : Pr) := ⟨_, rfl⟩
  have hKl : K.length = vs.length := by rw [hK, List.length_map]
  have hKi : ∀ i (h : i < K.length), ∃ x, K[i] = ⟨3, x, 0, []⟩ := fun i h => by
    subst hK
    exact ⟨_, List.getElem_map _⟩
  rw [← hK] at hh ⊢
  clear hK
  simp
  refine SW.loopF (ι := { i : Nat // i ≤ K.length }) (fun i => [(2, .d (.sl [])), (12, .d (.int .i64 i.1))]) (fun _ => [(3, .cells [.d (.int .i64 5), .d (.str n), .d (.int .i64 0), .d (.sl (K.map prC))])]) (fun _ => [(36, [.t 2])]) (fun i => K.length - i.1) ⟨0, by simp⟩ (by simp) ?_
  rintro ⟨i, hi⟩
  by_cases hlt : i < K.length
  · have hg := prs_get hlt
    have hw := wrap64s (show i < 9223372036854775807 by omega)
    obtain ⟨x, hx⟩ := hKi i hlt
    rw [hx] at hg
    have hle := leaf_ch (G := G) x
    simp [hlt, hg]
    refine callK.own ent_collect hle (by simp) (by simp [hx]) (by simp) (by simp; rfl) (by simp) ?_
    simp
    exact Again.mk ⟨i + 1, hlt⟩ (by simp [hw]) (by simp; omega)
  · have hie : i = K.length := by omega
    subst hie
    simp
    refine callK.mk ent_r7_Has (by simpa using hh) ?_
    simp
theorem nil_start {p : Pr} {r : DV} (h : CH Tryd.prog G 89 (nilS p) ⟨[r], [], [(36, [.t 0])]⟩) : CH Tryd.prog G 89 ⟨[.d (.agg (prD p)), .d (.int .i64 5), .d .nils], [], []⟩ ⟨[r], [], [(36, [.t 0])]⟩ :=
  fun base R μ args w hr => h base R μ args w (hr.weak ⟨by simp, by simp, by simp, by simp [keysIn]⟩)
/-- A predicate of a template: none, or the application of a hole. -/
def HolOk (p : Pr) : Prop := p = zeroP ∨ ∃ n vs, vs.length ≤ 24 ∧ p = holP n vs
def holL (p : Pr) : List Pr := if p.op = 5 then [p] else []
theorem ent_r7_Holes : VM.Enters Tryd.prog 59 := VM.Enters.mk Tryd.func59 rfl
theorem r7_Holes_cs {p : Pr} (h : HolOk p) : CS Tryd.prog G 59 [.agg (prD p)] (.d (.sl ((holL p).map prC))) none := by
  rcases h with rfl | ⟨n, vs, hv, rfl⟩
  · have hz := nil_start (zero_ch (G := G))
    unfold zeroP at hz ⊢
    refine CS.of_VK Tryd.func59 rfl Tryd.ntmps59 rfl ?_
    simp
    refine callK.own ent_collect hz (by simp) (by simp) (by simp) (by simp; rfl) (by simp) ?_
    simp [holL]
  · have hz := nil_start (hole_one (G := G) n vs (by omega))
    unfold holP at hz ⊢
    refine CS.of_VK Tryd.func59 rfl Tryd.ntmps59 rfl ?_
    simp
    refine callK.own ent_collect hz (by simp) (by simp) (by simp) (by simp; rfl) (by simp) ?_
    simp [holL]
end Go.Proofs.YtmjpdmkgmlhfaaaDoor
