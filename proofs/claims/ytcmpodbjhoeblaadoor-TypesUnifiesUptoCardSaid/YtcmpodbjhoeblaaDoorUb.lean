/- Unification: how its objects lie; the walks of head, occurs, full. No condition. -/
import Derived.Test.YtcmpodbjhoeblaaDoorUa
import Derived.Test.YtcmpodbjhoeblaaDoorZA
set_option linter.unusedVariables false
set_option linter.unusedSimpArgs false
set_option linter.unusedSectionVars false
namespace Go.Proofs.YtcmpodbjhoeblaaDoor
open Go Go.VM
set_option maxRecDepth 100000
set_option maxHeartbeats 8000000
variable {G : GT}
mutual
/-- A term as a type. -/
def tyT : Tm → Ty
  | .var x => ⟨5, x, [], [], zeroP, []⟩
  | .node op nm l => ⟨op, nm, tyTs l, [], zeroP, []⟩
def tyTs : List Tm → List Ty
  | [] => []
  | t :: r => tyT t :: tyTs r
end
theorem tyTs_eq : ∀ l, tyTs l = l.map tyT
  | [] => by simp [tyTs]
  | t :: r => by simp [tyTs, tyTs_eq r]
theorem tyT_var (x : Nm) : tyT (.var x) = ⟨5, x, [], [], zeroP, []⟩ := rfl
theorem tyT_node (op : Int) (nm : Nm) (l : List Tm) : tyT (.node op nm l) = ⟨op, nm, l.map tyT, [], zeroP, []⟩ := by simp [tyT, tyTs_eq]
mutual
/-- A bare type as a term. -/
def tmT : Ty → Tm
  | ⟨op, nm, l, _, _, _⟩ => if op = 5 then .var nm else .node op nm (tmTs l)
def tmTs : List Ty → List Tm
  | [] => []
  | t :: r => tmT t :: tmTs r
end
theorem tmTs_eq : ∀ l, tmTs l = l.map tmT
  | [] => by simp [tmTs]
  | t :: r => by simp [tmTs, tmTs_eq r]
mutual
theorem bare_tm : ∀ t : Ty, bareT t = tyT (tmT t)
  | ⟨op, nm, l, ns, p, ps⟩ => by
    have := bares_tm l
    simp only [bareT, tmT]
    by_cases h : op = 5
    · simp [h, tyT]
    · simp [h, tyT, this]
theorem bares_tm : ∀ l : List Ty, bareTs l = tyTs (tmTs l)
  | [] => by simp [bareTs, tyTs, tmTs]
  | t :: r => by
    have h1 := bare_tm t
    have h2 := bares_tm r
    simp [bareTs, tyTs, tmTs, h1, h2]
end
mutual
/-- No compound looks like a variable; no list is too long. -/
def WT (m : Nat) : Tm → Prop
  | .var _ => True
  | .node op _ l => op ≠ 5 ∧ l.length ≤ m ∧ WTs m l
def WTs (m : Nat) : List Tm → Prop
  | [] => True
  | t :: r => WT m t ∧ WTs m r
end
theorem WTs_mem {m : Nat} {t : Tm} : ∀ {l : List Tm}, WTs m l → t ∈ l → WT m t
  | _ :: _, ⟨h, h'⟩, hm => by
    rcases List.mem_cons.1 hm with rfl | hm
    · exact h
    · exact WTs_mem h' hm
mutual
theorem WT_sub {m : Nat} {θ : Sb} (hθ : ∀ x u, θ x = some u → WT m u) : ∀ t : Tm, WT m t → WT m (sub θ t)
  | .var x, _ => by
    simp only [sub]
    cases h : θ x with
    | none => trivial
    | some u => exact hθ x u h
  | .node op nm l, ⟨h1, h2, h3⟩ => by
    simp only [sub]
    exact ⟨h1, by rw [subs_len]; exact h2, WTs_sub hθ l h3⟩
theorem WTs_sub {m : Nat} {θ : Sb} (hθ : ∀ x u, θ x = some u → WT m u) : ∀ l : List Tm, WTs m l → WTs m (subs θ l)
  | [], _ => trivial
  | t :: r, ⟨h1, h2⟩ => ⟨WT_sub hθ t h1, WTs_sub hθ r h2⟩
end
mutual
theorem WT_tm {m : Nat} : ∀ t : Ty, nodT t ≤ m → WT m (tmT t)
  | ⟨op, nm, l, ns, p, ps⟩, h => by
    simp only [nodT] at h
    have h1 := WTs_tm (m := m) l (by omega)
    have h2 := len_le_nodTs l
    simp only [tmT]
    split
    · trivial
    · rename_i h5
      exact ⟨h5, by rw [tmTs_eq]; simp; omega, h1⟩
theorem WTs_tm {m : Nat} : ∀ l : List Ty, nodTs l ≤ m → WTs m (tmTs l)
  | [], _ => trivial
  | t :: r, h => by
    simp only [nodTs] at h
    exact ⟨WT_tm t (by omega), WTs_tm r (by omega)⟩
end
/-! ### Objects -/
abbrev tmD (t : Tm) : List D := tyD (tyT t)
def bdOf (b : Bd) : List (D × D) := b.map fun p => (.str p.1, .agg (tmD p.2))
theorem bd_find (nm : Nm) : ∀ b : Bd, findKeyD (.str nm) (bdOf b) = some ((look b nm).map fun u => .agg (tmD u))
  | [] => by simp [bdOf, findKeyD, look]
  | p :: r => by
    have := bd_find nm r
    simp only [bdOf] at this
    simp only [bdOf, List.map_cons, findKeyD, eqCell]
    by_cases h : nm = p.1
    · subst h; simp [look]
    · have h' : ¬ p.1 = nm := fun e => h e.symm
      simp [h, this, look, h']
theorem bd_set {nm : Nm} {u : Tm} : ∀ {b : Bd}, look b nm = none → setKeyD (.str nm) (.agg (tmD u)) (bdOf b) = some (bdOf (b ++ [(nm, u)]))
  | [], _ => by simp [bdOf, setKeyD]
  | p :: r, h => by
    have hp : ¬ p.1 = nm := fun e => by simp [look, e] at h
    have hr : look r nm = none := by simpa [look, hp] using h
    have h1 : ¬ nm = p.1 := fun e => hp e.symm
    have := bd_set (nm := nm) (u := u) (b := r) hr
    simp only [bdOf] at this
    simp [bdOf, setKeyD, eqCell, h1, this]
def odOf : List Nm → Nat → List (D × D)
  | [], _ => []
  | s :: r, i => (.str s, .int .i64 i) :: odOf r (i + 1)
theorem od_find (nm : Nm) : ∀ (l : List Nm) (i : Nat), nm ∈ l → findKeyD (.str nm) (odOf l i) = some (some (.int .i64 (findI nm l i)))
  | s :: r, i, h => by
    simp only [odOf, findKeyD, eqCell, findI]
    by_cases hs : nm = s
    · subst hs; simp
    · have h' : ¬ s = nm := fun e => hs e.symm
      have := od_find nm r (i + 1) ((List.mem_cons.1 h).resolve_left hs)
      simp [hs, h', this]
def uH (all : List Nm) (b : Bd) : List (Nat × AObj) := [(100000, .cells [.mp 100001, .mp 100002]), (100001, .map (odOf all 0)), (100002, .map (bdOf b))]
inductive HeadN (b : Bd) : Nat → Tm → Tm → Prop
  | node (op nm l) : HeadN b 0 (.node op nm l) (.node op nm l)
  | free {x} : look b x = none → HeadN b 0 (.var x) (.var x)
  | step {n x u h} : look b x = some u → HeadN b n u h → HeadN b (n + 1) (.var x) h
theorem Head.num {b : Bd} {t h : Tm} (H : Head b t h) : ∃ n, HeadN b n t h := by
  induction H with
  | node op nm l => exact ⟨0, .node op nm l⟩
  | free hx => exact ⟨0, .free hx⟩
  | step hx _ ih =>
    obtain ⟨n, hn⟩ := ih
    exact ⟨n + 1, .step hx hn⟩
theorem ent_head : VM.Enters Tryd.prog 43 := VM.Enters.mk Tryd.func43 rfl
theorem head_ch (m : Nat) (all : List Nm) (b : Bd) (hb : ∀ x u, look b x = some u → WT m u) (t h : Tm) (ht : WT m t) (H : Head b t h) :
    CH Tryd.prog G 43 ⟨[.ptr 100000 0, .d (.agg (tmD t))], uH all b, []⟩ ⟨[.d (.agg (tmD h))], uH all b, []⟩ := by
  obtain ⟨n, HN⟩ := H.num
  refine CH.of_VK Tryd.func43 rfl Tryd.ntmps43 rfl (by simp) ?_
  simp [uH]
  refine SW.loopF (ι := { x : Nat × Tm // HeadN b x.1 x.2 h ∧ WT m x.2 }) (fun x => []) (fun x => (3, tyO (tyT x.1.2).op (tyT x.1.2).name (.sl ((tyT x.1.2).args.map tyC)) (.sl (strs (tyT x.1.2).names)) (tyT x.1.2).pred (.sl ((tyT x.1.2).preds.map prC))) :: (4, tyZ) :: uH all b) (fun _ => []) (fun x => x.1.1) ⟨(n, t), HN, ht⟩ (by simp [uH]) ?_
  rintro ⟨⟨k, u⟩, hN, hu⟩
  simp only at hN hu
  cases hN with
  | node op nm l =>
    have h5 : ¬ op = 5 := hu.1
    simp [uH, tyT_node, h5]
  | free hx =>
    rename_i x
    simp [uH, tyT_var, bd_find, hx]
    exact lexOk.mk
  | step hx hN =>
    rename_i k x v
    simp [uH, tyT_var, bd_find, hx]
    exact ⟨.mk, Again.mk ⟨(k, v), hN, hb x v hx⟩ (by simp) (by simp)⟩
theorem tms_get {l : List Tm} {i : Nat} (h : i < l.length) : (l.map (tyC ∘ tyT))[i]? = some (tmD l[i]) := by simp [h, tyC_eq]
theorem tms_nine {l : List Tm} : ∀ x, x ∈ l.map (tyC ∘ tyT) → x.length = 9 := fun x hx => by
  obtain ⟨t, _, rfl⟩ := List.mem_map.1 hx
  simp
theorem tms_nine' {l : List Tm} : ∀ x, x ∈ l → (tyC (tyT x)).length = 9 := fun x _ => by simp
abbrev uK : List (Nat × Nat) := [(100000, 100000), (100001, 100001), (100002, 100002)]
theorem ent_occurs : VM.Enters Tryd.prog 44 := VM.Enters.mk Tryd.func44 rfl
theorem occs_drop {name : Nm} {θ : Sb} {l : List Tm} {i : Nat} (h : i < l.length) : occs name (subs θ (l.drop i)) = (occ name (sub θ l[i]) || occs name (subs θ (l.drop (i + 1)))) := by
  rw [List.drop_eq_getElem_cons h]
  rfl
theorem sizs_mem {θ : Sb} {l : List Tm} {i : Nat} (h : i < l.length) : siz (sub θ l[i]) ≤ sizs (subs θ l) := by
  have : ∀ (l : List Tm) (t : Tm), t ∈ l → siz (sub θ t) ≤ sizs (subs θ l) := by
    intro l
    induction l with
    | nil => intro t h; simp at h
    | cons a r ih =>
      intro t h
      simp only [subs, sizs]
      rcases List.mem_cons.1 h with rfl | h
      · omega
      · have := ih t h
        omega
  exact this l _ (List.getElem_mem h)
theorem occurs_ch (m : Nat) (hm : m ≤ 900000000) (all : List Nm) (b : Bd) (θ : Sb) (I : BInv b θ) (hb : ∀ x u, look b x = some u → WT m u) (name : Nm) : ∀ (n : Nat) (t : Tm), siz (sub θ t) ≤ n → WT m t →
    CH Tryd.prog G 44 ⟨[.ptr 100000 0, .d (.str name), .d (.agg (tmD t))], uH all b, []⟩ ⟨[.d (.bool (occ name (sub θ t)))], uH all b, []⟩ := by
  intro n
  induction n with
  | zero => intro t h; have := siz_pos (sub θ t); omega
  | succ n ih =>
    intro t hn ht
    obtain ⟨h, H⟩ := Head.ex I t
    have he := H.eq I
    refine CH.of_VK Tryd.func44 rfl Tryd.ntmps44 rfl (by simp) ?_
    simp [uH]
    refine callHK.mk ent_head (head_ch m all b hb t h ht H) uK (by simp [uH]) (by simp) (by simp [uH]) (by simp; rfl) (by simp) ?_
    have hwh : WT m h := by
      clear he hn
      induction H with
      | node op nm l => exact ht
      | free => exact ht
      | step hx _ ih2 => exact ih2 (hb _ _ hx)
    cases h with
    | var y =>
      have hy := H.unbound rfl
      have e2 : sub θ t = .var y := by rw [he]; simp [sub, (I.dom y).1 hy]
      simp [uH, tyT_var, e2, occ]
    | node op nm l =>
      obtain ⟨h5, hl, hws⟩ := hwh
      have e2 : sub θ t = .node op nm (subs θ l) := by rw [he]; simp [sub]
      rw [e2] at hn
      simp only [siz] at hn
      rw [e2]
      simp only [occ]
      simp [uH, tyT_node, h5]
      refine SW.loopF (ι := { i : Nat // i ≤ l.length ∧ occs name (subs θ (l.drop i)) = occs name (subs θ l) }) (fun i => [(22, .d (.int .i64 i.1))]) (fun _ => (5, tyO op nm (.sl (l.map (tyC ∘ tyT))) (.sl []) zeroP (.sl [])) :: uH all b) (fun _ => []) (fun i => l.length - i.1) ⟨0, by simp⟩ (by simp [uH, strs]) ?_
      rintro ⟨i, hi, hR⟩
      try simp only at hi hR
      by_cases hlt : i < l.length
      · have hg := tms_get hlt
        have hw := wrap64s (show i < 9223372036854775807 by omega)
        have hs := sizs_mem (θ := θ) hlt
        rw [occs_drop hlt] at hR
        simp [hlt, hg, uH]
        refine callHK.mk ent_occurs (ih l[i] (by omega) (WTs_mem hws (List.getElem_mem hlt))) uK (by simp [uH]) (by simp) (by simp [uH]) (by simp; rfl) (by simp) ?_
        cases ho : occ name (sub θ l[i])
        · rw [ho, Bool.false_or] at hR
          simp [uH, ho]
          exact Again.mk ⟨i + 1, hlt, hR⟩ (by simp [hw, uH]) (by simp; omega)
        · rw [ho, Bool.true_or] at hR
          simp [uH, ho, ← hR]
      · have : i = l.length := by omega
        subst this
        rw [List.drop_length] at hR
        simp [uH, ← hR, occs, subs]
theorem CH.res {f : FuncId} {s0 : St} {r r' : DV} {H1 : List (Nat × AObj)} {own1 : List (TypeId × List VM.Loc)} (h : CH Tryd.prog G f s0 ⟨[r'], H1, own1⟩) (hd : WkDV r' r) : CH Tryd.prog G f s0 ⟨[r], H1, own1⟩ := fun base R μ args w hr =>
  (h base R μ args w hr).mono fun e w' ⟨v, R', μ', h1, h2, h3⟩ => ⟨v, R', μ', h1, ⟨h2.defers, h2.size, fun i u d hu hi => by
    cases i with
    | zero =>
      simp at hi
      subst hi
      exact (h2.tmps 0 u r' hu (by simp)).wk hd
    | succ i => simp at hi, h2.objs, h2.inj, h2.locs, by
    obtain ⟨vs, hl, g1, hap⟩ := h2.own
    exact ⟨vs, hl, fun i c u hc hu => ⟨(g1 i c u hc hu).locs, (g1 i c u hc hu).own, (g1 i c u hc hu).keys⟩, hap⟩, h2.glob, h2.rset, h2.base, h2.pass⟩, h3⟩
/-- What full answers, cell by cell. -/
def fullD : Tm → Sb → List D
  | .var y, _ => [.int .i64 5, .str y, .nils, .nils, .int .i64 0, .str [], .int .i64 0, .nils, .nils]
  | .node op nm [], _ => [.int .i64 op, .str nm, .nils, .nils, .int .i64 0, .str [], .int .i64 0, .nils, .nils]
  | .node op nm (a :: l), θ => [.int .i64 op, .str nm, .sl ((a :: l).map (tyC ∘ tyT ∘ sub θ)), .nils, .int .i64 0, .str [], .int .i64 0, .nils, .nils]
theorem ent_full : VM.Enters Tryd.prog 28 := VM.Enters.mk Tryd.func28 rfl
theorem full_ch (m : Nat) (hm : m ≤ 900000000) (all : List Nm) (b : Bd) (θ : Sb) (I : BInv b θ) (hb : ∀ x u, look b x = some u → WT m u) : ∀ (n : Nat) (t : Tm), siz (sub θ t) ≤ n → WT m t →
    CH Tryd.prog G 28 ⟨[.ptr 100000 0, .d (.agg (tmD t))], uH all b, []⟩ ⟨[.d (.agg (tmD (sub θ t)))], uH all b, []⟩ := by
  intro n
  induction n with
  | zero => intro t h; have := siz_pos (sub θ t); omega
  | succ n ih =>
    intro t hn ht
    obtain ⟨h, H⟩ := Head.ex I t
    have he := H.eq I
    have hwh : WT m h := by
      clear he hn
      induction H with
      | node op nm l => exact ht
      | free => exact ht
      | step hx _ ih2 => exact ih2 (hb _ _ hx)
    refine CH.res (r' := .d (.agg (fullD h θ))) ?_ ?_
    rotate_left
    · cases h with
      | var y =>
        have e2 : sub θ t = .var y := by rw [he]; simp [sub, (I.dom y).1 (H.unbound rfl)]
        rw [e2]
        simp [fullD, tyT_var, zeroP]
      | node op nm l =>
        rw [he]
        cases l <;> simp [fullD, tyT_node, zeroP, sub, subs_eq, subs]
    refine CH.of_VK Tryd.func28 rfl Tryd.ntmps28 rfl (by simp) ?_
    simp [uH]
    refine callHK.mk ent_head (head_ch m all b hb t h ht H) uK (by simp [uH]) (by simp) (by simp [uH]) (by simp; rfl) (by simp) ?_
    cases h with
    | var y =>
      simp [uH, tyT_var, fullD]
      refine SW.loopF (ι := Unit) (fun i => [(19, .d (.int .i64 0))]) (fun _ => (4, tyZ) :: (5, .cells [.d (.int .i64 5), .d (.str y), .d .nils, .d .nils, .d (.int .i64 0), .d (.str []), .d (.int .i64 0), .d .nils, .d .nils]) :: uH all b) (fun _ => []) (fun i => 0) () (by simp [uH, strs, zeroP]) ?_
      intro i
      simp [uH]
    | node op nm l =>
      obtain ⟨h5, hl, hws⟩ := hwh
      have e2 : sub θ t = .node op nm (subs θ l) := by rw [he]; simp [sub]
      rw [e2] at hn
      simp only [siz] at hn
      cases l with
      | nil =>
        simp [uH, tyT_node, fullD]
        refine SW.loopF (ι := Unit) (fun i => [(19, .d (.int .i64 0))]) (fun _ => (4, tyZ) :: (5, .cells [.d (.int .i64 op), .d (.str nm), .d .nils, .d .nils, .d (.int .i64 0), .d (.str []), .d (.int .i64 0), .d .nils, .d .nils]) :: uH all b) (fun _ => []) (fun i => 0) () (by simp [uH, strs, zeroP]) ?_
        intro i
        simp [uH]
      | cons a0 l0 =>
      obtain ⟨l, hle⟩ : ∃ l, l = a0 :: l0 := ⟨_, rfl⟩
      have hfd : fullD (.node op nm (a0 :: l0)) θ = [.int .i64 op, .str nm, .sl (l.map (tyC ∘ tyT ∘ sub θ)), .nils, .int .i64 0, .str [], .int .i64 0, .nils, .nils] := by rw [hle]; rfl
      rw [hfd]
      rw [← hle] at hn hl hws ⊢
      have hpos : 0 < l.length := by rw [hle]; simp
      simp [uH, tyT_node]
      -- the first element by itself: then the list is no longer nil
      refine SW.loopF (ι := { i : Nat // i ≤ l.length }) (fun i => [(19, .d (.int .i64 i.1))]) (fun i => (3, tyO op nm (.sl (l.map (tyC ∘ tyT))) (.sl []) zeroP (.sl [])) :: (4, tyZ) :: (5, .cells [.d (.int .i64 op), .d (.str nm), .d (.sl ((l.take i.1).map (tyC ∘ tyT ∘ sub θ))), .d .nils, .d (.int .i64 0), .d (.str []), .d (.int .i64 0), .d .nils, .d .nils]) :: uH all b) (fun _ => [(30, [.c 5 2])]) (fun i => l.length - i.1) ⟨0, by simp⟩ (by simp [uH, strs, zeroP]) ?_
      rintro ⟨i, hi⟩
      by_cases hlt : i < l.length
      · have hg := tms_get hlt
        have hw := wrap64s (show i < 9223372036854775807 by omega)
        have hs := sizs_mem (θ := θ) hlt
        simp [hlt, hg, uH]
        refine ⟨.mk, ?_⟩
        refine callHK.ro ent_full (ih l[i] (by omega) (WTs_mem hws (List.getElem_mem hlt))) uK (by simp [uH]) (by simp) (by simp [uH]) (by simp) (by simp) ?_
        simp [uH]
        refine stepK_len ⟨fun x hx => by
          obtain ⟨t, _, rfl⟩ := List.mem_map.1 (List.mem_of_mem_take hx)
          simp, by omega⟩ ?_
        simp
        have hs2 : List.take (i + 1) (List.map (tyC ∘ tyT ∘ sub θ) l) = List.take i (List.map (tyC ∘ tyT ∘ sub θ) l) ++ [tmD (sub θ l[i])] := by
          have := map_step (tyC ∘ tyT ∘ sub θ) hlt
          rw [List.map_take, List.map_take] at this
          rw [this]
          simp
        exact Again.mk ⟨i + 1, hlt⟩ (by simp [hw, hs2, uH]) (by simp; omega)
      · have : i = l.length := by omega
        subst this
        simp [uH]
end Go.Proofs.YtcmpodbjhoeblaaDoor
