/- Unification: the walk of unify. No condition. -/
import Derived.Test.YtcmpodbjhoeblaaDoorUb
set_option linter.unusedVariables false
set_option linter.unusedSimpArgs false
set_option linter.unusedSectionVars false
namespace Go.Proofs.YtcmpodbjhoeblaaDoor
open Go Go.VM
set_option maxRecDepth 100000
set_option maxHeartbeats 8000000
variable {G : GT}
theorem ent_unify : VM.Enters Tryd.prog 27 := VM.Enters.mk Tryd.func27 rfl
/-- What a call of unify does. -/
def UCH (G : GT) (all : List Nm) (b : Bd) (a c : Tm) (b' : Bd) (ok : Bool) : Prop := CH Tryd.prog G 27 ⟨[.ptr 100000 0, .d (.agg (tmD a)), .d (.agg (tmD c))], uH all b, []⟩ ⟨[.d (.bool ok)], uH all b', []⟩
/-- Calls one after the other, till one fails. -/
inductive Chain (G : GT) (all : List Nm) : Bd → List (Tm × Tm) → Bd → Bool → Prop
  | nil {b} : Chain G all b [] b true
  | cons {b a c b1 l b' ok} : UCH G all b a c b1 true → Chain G all b1 l b' ok → Chain G all b ((a, c) :: l) b' ok
  | stop {b a c l b1} : UCH G all b a c b1 false → Chain G all b ((a, c) :: l) b1 false
def WB (m : Nat) (b : Bd) : Prop := ∀ x u, look b x = some u → WT m u
theorem WB_add {m : Nat} {b : Bd} {x : Nm} {h : Tm} (hx : look b x = none) (hb : WB m b) (hh : WT m h) : WB m (b ++ [(x, h)]) := by
  intro y u hy
  rw [look_add hx] at hy
  by_cases hyx : y = x
  · rw [if_pos hyx] at hy; simp at hy; subst hy; exact hh
  · rw [if_neg hyx] at hy; exact hb y u hy
theorem Head.wt {m : Nat} {b : Bd} (hb : WB m b) {t h : Tm} (H : Head b t h) (ht : WT m t) : WT m h := by
  induction H with
  | node op nm l => exact ht
  | free => exact ht
  | step hx _ ih => exact ih (hb _ _ hx)
theorem unify_same (m : Nat) (all : List Nm) (b : Bd) (hb : WB m b) {a c : Tm} (wa : WT m a) (wc : WT m c) {x : Nm} (HA : Head b a (.var x)) (HC : Head b c (.var x)) : UCH G all b a c b true := by
  refine CH.of_VK Tryd.func27 rfl Tryd.ntmps27 rfl (by simp) ?_
  simp [uH]
  refine ⟨.mk, ?_⟩
  refine callHK.ro ent_head (head_ch m all b hb a _ wa HA) uK (by simp [uH]) (by simp) (by simp [uH]) (by simp) (by simp) ?_
  simp [uH]
  refine callHK.ro ent_head (head_ch m all b hb c _ wc HC) uK (by simp [uH]) (by simp) (by simp [uH]) (by simp) (by simp) ?_
  simp [uH, tyT_var]
theorem unify_vv (m : Nat) (all : List Nm) (b : Bd) (hb : WB m b) {a c : Tm} (wa : WT m a) (wc : WT m c) {x y : Nm} (HA : Head b a (.var x)) (HC : Head b c (.var y)) (hxy : x ≠ y) (hx : x ∈ all) (hy : y ∈ all) (ho : ¬ findI y all 0 < findI x all 0) : UCH G all b a c (b ++ [(x, .var y)]) true := by
  have hs := bd_set (u := .var y) (HA.unbound rfl)
  have o1 := od_find x all 0 hx
  have o2 := od_find y all 0 hy
  simp only [tmD, tyD, tyT_var] at hs
  simp at hs
  refine CH.of_VK Tryd.func27 rfl Tryd.ntmps27 rfl (by simp) ?_
  simp [uH]
  refine ⟨.mk, ?_⟩
  refine callHK.ro ent_head (head_ch m all b hb a _ wa HA) uK (by simp [uH]) (by simp) (by simp [uH]) (by simp) (by simp) ?_
  simp [uH]
  refine callHK.ro ent_head (head_ch m all b hb c _ wc HC) uK (by simp [uH]) (by simp) (by simp [uH]) (by simp) (by simp) ?_
  simp [uH, tyT_var, hxy, o1, o2, ho, hs]
  exact ⟨.mk, lexOk.mk⟩
theorem unify_ww (m : Nat) (all : List Nm) (b : Bd) (hb : WB m b) {a c : Tm} (wa : WT m a) (wc : WT m c) {x y : Nm} (HA : Head b a (.var x)) (HC : Head b c (.var y)) (hxy : x ≠ y) (hx : x ∈ all) (hy : y ∈ all) (ho : findI y all 0 < findI x all 0) : UCH G all b a c (b ++ [(y, .var x)]) true := by
  have hs := bd_set (u := .var x) (HC.unbound rfl)
  have o1 := od_find x all 0 hx
  have o2 := od_find y all 0 hy
  simp only [tmD, tyD, tyT_var] at hs
  simp at hs
  refine CH.of_VK Tryd.func27 rfl Tryd.ntmps27 rfl (by simp) ?_
  simp [uH]
  refine ⟨.mk, ?_⟩
  refine callHK.ro ent_head (head_ch m all b hb a _ wa HA) uK (by simp [uH]) (by simp) (by simp [uH]) (by simp) (by simp) ?_
  simp [uH]
  refine callHK.ro ent_head (head_ch m all b hb c _ wc HC) uK (by simp [uH]) (by simp) (by simp [uH]) (by simp) (by simp) ?_
  simp [uH, tyT_var, hxy, o1, o2, ho, hs]
  exact ⟨.mk, lexOk.mk⟩
theorem unify_vn (m : Nat) (hm : m ≤ 900000000) (all : List Nm) (b : Bd) (θ : Sb) (I : BInv b θ) (hb : WB m b) {a c : Tm} (wa : WT m a) (wc : WT m c) {x : Nm} {op : Int} {nm : Nm} {k : List Tm} (HA : Head b a (.var x)) (HC : Head b c (.node op nm k)) :
    if occ x (sub θ (.node op nm k)) then UCH G all b a c b false else UCH G all b a c (b ++ [(x, .node op nm k)]) true := by
  have hw := HC.wt hb wc
  have h5 : op ≠ 5 := hw.1
  have hs := bd_set (u := .node op nm k) (HA.unbound rfl)
  simp only [tmD, tyD, tyT_node] at hs
  simp at hs
  have hoc := occurs_ch (G := G) m hm all b θ I hb x _ (.node op nm k) (Nat.le_refl _) hw
  split
  · rename_i ho
    rw [ho] at hoc
    refine CH.of_VK Tryd.func27 rfl Tryd.ntmps27 rfl (by simp) ?_
    simp [uH]
    refine ⟨.mk, ?_⟩
    refine callHK.ro ent_head (head_ch m all b hb a _ wa HA) uK (by simp [uH]) (by simp) (by simp [uH]) (by simp) (by simp) ?_
    simp [uH]
    refine callHK.ro ent_head (head_ch m all b hb c _ wc HC) uK (by simp [uH]) (by simp) (by simp [uH]) (by simp) (by simp) ?_
    simp [uH, tyT_var, tyT_node, h5]
    refine callHK.mk ent_occurs hoc uK (by simp [uH]) (by simp [tyT_node]) (by simp [uH]) (by simp; rfl) (by simp) ?_
    simp [uH]
  · rename_i ho
    simp only [Bool.not_eq_true] at ho
    rw [ho] at hoc
    refine CH.of_VK Tryd.func27 rfl Tryd.ntmps27 rfl (by simp) ?_
    simp [uH]
    refine ⟨.mk, ?_⟩
    refine callHK.ro ent_head (head_ch m all b hb a _ wa HA) uK (by simp [uH]) (by simp) (by simp [uH]) (by simp) (by simp) ?_
    simp [uH]
    refine callHK.ro ent_head (head_ch m all b hb c _ wc HC) uK (by simp [uH]) (by simp) (by simp [uH]) (by simp) (by simp) ?_
    simp [uH, tyT_var, tyT_node, h5]
    refine callHK.mk ent_occurs hoc uK (by simp [uH]) (by simp [tyT_node]) (by simp [uH]) (by simp; rfl) (by simp) ?_
    simp [uH, hs]
    exact lexOk.mk
theorem unify_nv (m : Nat) (hm : m ≤ 900000000) (all : List Nm) (b : Bd) (θ : Sb) (I : BInv b θ) (hb : WB m b) {a c : Tm} (wa : WT m a) (wc : WT m c) {x : Nm} {op : Int} {nm : Nm} {k : List Tm} (HA : Head b a (.node op nm k)) (HC : Head b c (.var x)) :
    if occ x (sub θ (.node op nm k)) then UCH G all b a c b false else UCH G all b a c (b ++ [(x, .node op nm k)]) true := by
  have hw := HA.wt hb wa
  have h5 : op ≠ 5 := hw.1
  have hs := bd_set (u := .node op nm k) (HC.unbound rfl)
  simp only [tmD, tyD, tyT_node] at hs
  simp at hs
  have hoc := occurs_ch (G := G) m hm all b θ I hb x _ (.node op nm k) (Nat.le_refl _) hw
  split
  · rename_i ho
    rw [ho] at hoc
    refine CH.of_VK Tryd.func27 rfl Tryd.ntmps27 rfl (by simp) ?_
    simp [uH]
    refine ⟨.mk, ?_⟩
    refine callHK.ro ent_head (head_ch m all b hb a _ wa HA) uK (by simp [uH]) (by simp) (by simp [uH]) (by simp) (by simp) ?_
    simp [uH]
    refine callHK.ro ent_head (head_ch m all b hb c _ wc HC) uK (by simp [uH]) (by simp) (by simp [uH]) (by simp) (by simp) ?_
    simp [uH, tyT_var, tyT_node, h5]
    refine callHK.mk ent_occurs hoc uK (by simp [uH]) (by simp [tyT_node]) (by simp [uH]) (by simp; rfl) (by simp) ?_
    simp [uH]
  · rename_i ho
    simp only [Bool.not_eq_true] at ho
    rw [ho] at hoc
    refine CH.of_VK Tryd.func27 rfl Tryd.ntmps27 rfl (by simp) ?_
    simp [uH]
    refine ⟨.mk, ?_⟩
    refine callHK.ro ent_head (head_ch m all b hb a _ wa HA) uK (by simp [uH]) (by simp) (by simp [uH]) (by simp) (by simp) ?_
    simp [uH]
    refine callHK.ro ent_head (head_ch m all b hb c _ wc HC) uK (by simp [uH]) (by simp) (by simp [uH]) (by simp) (by simp) ?_
    simp [uH, tyT_var, tyT_node, h5]
    refine callHK.mk ent_occurs hoc uK (by simp [uH]) (by simp [tyT_node]) (by simp [uH]) (by simp; rfl) (by simp) ?_
    simp [uH, hs]
    exact lexOk.mk
theorem unify_clash (m : Nat) (all : List Nm) (b : Bd) (hb : WB m b) {a c : Tm} (wa : WT m a) (wc : WT m c) {op op' : Int} {nm nm' : Nm} {k k' : List Tm} (HA : Head b a (.node op nm k)) (HC : Head b c (.node op' nm' k')) (hq : ¬ (op = op' ∧ nm = nm' ∧ k.length = k'.length)) : UCH G all b a c b false := by
  have h5 : op ≠ 5 := (HA.wt hb wa).1
  have h5' : op' ≠ 5 := (HC.wt hb wc).1
  refine CH.of_VK Tryd.func27 rfl Tryd.ntmps27 rfl (by simp) ?_
  simp [uH]
  refine ⟨.mk, ?_⟩
  refine callHK.ro ent_head (head_ch m all b hb a _ wa HA) uK (by simp [uH]) (by simp) (by simp [uH]) (by simp) (by simp) ?_
  simp [uH]
  refine callHK.ro ent_head (head_ch m all b hb c _ wc HC) uK (by simp [uH]) (by simp) (by simp [uH]) (by simp) (by simp) ?_
  by_cases e1 : op = op'
  · by_cases e2 : nm = nm'
    · have e3 : ¬ k.length = k'.length := fun e => hq ⟨e1, e2, e⟩
      have e3' : ¬ (k.length : Int) = (k'.length : Int) := by omega
      subst e1 e2
      simp [uH, tyT_node, h5, e3, e3']
    · subst e1
      simp [uH, tyT_node, h5, e2]
  · simp [uH, tyT_node, h5, h5', e1]
theorem unify_dec (m : Nat) (hm : m ≤ 900000000) (all : List Nm) (b : Bd) (hb : WB m b) {a c : Tm} (wa : WT m a) (wc : WT m c) {op : Int} {nm : Nm} {k k' : List Tm} (HA : Head b a (.node op nm k)) (HC : Head b c (.node op nm k')) (hk : k.length = k'.length) {b1 : Bd} {ok : Bool} (hC : Chain G all b (k.zip k') b1 ok) : UCH G all b a c b1 ok := by
  obtain ⟨h5, hl, hws⟩ := HA.wt hb wa
  refine CH.of_VK Tryd.func27 rfl Tryd.ntmps27 rfl (by simp) ?_
  simp [uH]
  refine ⟨.mk, ?_⟩
  refine callHK.ro ent_head (head_ch m all b hb a _ wa HA) uK (by simp [uH]) (by simp) (by simp [uH]) (by simp) (by simp) ?_
  simp [uH]
  refine callHK.ro ent_head (head_ch m all b hb c _ wc HC) uK (by simp [uH]) (by simp) (by simp [uH]) (by simp) (by simp) ?_
  simp [uH, tyT_node, h5, hk]
  refine SW.loopF (ι := { x : Nat × Bd // x.1 ≤ k.length ∧ Chain G all x.2 ((k.zip k').drop x.1) b1 ok }) (fun x => [(95, .d (.int .i64 x.1.1))]) (fun x => (4, tyO op nm (.sl (k.map (tyC ∘ tyT))) (.sl []) zeroP (.sl [])) :: (5, tyO op nm (.sl (k'.map (tyC ∘ tyT))) (.sl []) zeroP (.sl [])) :: uH all x.1.2) (fun _ => []) (fun x => k.length - x.1.1) ⟨(0, b), by simp, by simpa using hC⟩ (by simp [uH, strs]) ?_
  rintro ⟨⟨i, bi⟩, hi, hR⟩
  simp only at hi hR
  by_cases hlt : i < k.length
  · have hlt' : i < k'.length := by omega
    have hg := tms_get hlt
    have hg' := tms_get hlt'
    have hw := wrap64s (show i < 9223372036854775807 by omega)
    have hz : i < (k.zip k').length := by simp; omega
    have hd : (k.zip k').drop i = (k[i], k'[i]) :: (k.zip k').drop (i + 1) := by
      rw [List.drop_eq_getElem_cons hz]
      simp
    rw [hd] at hR
    simp [hlt, hlt', ← hk, hg, hg', uH]
    refine ⟨.mk, ?_⟩
    cases hR with
    | cons h1 h2 =>
      refine callHK.mk ent_unify h1 uK (by simp [uH]) (by simp) (by simp [uH]) (by simp; rfl) (by simp) ?_
      simp [uH]
      exact Again.mk ⟨(i + 1, _), hlt, h2⟩ (by simp [hw, uH]) (by simp; omega)
    | stop h1 =>
      refine callHK.mk ent_unify h1 uK (by simp [uH]) (by simp) (by simp [uH]) (by simp; rfl) (by simp) ?_
      simp [uH]
  · have : i = k.length := by omega
    subst this
    have hd : (k.zip k').drop k.length = [] := List.drop_eq_nil_iff.2 (by simp; omega)
    rw [hd] at hR
    cases hR
    simp [uH, ← hk]
end Go.Proofs.YtcmpodbjhoeblaaDoor
