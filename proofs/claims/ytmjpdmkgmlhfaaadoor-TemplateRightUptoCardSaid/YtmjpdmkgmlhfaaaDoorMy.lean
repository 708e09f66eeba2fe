/- Template: types and holes equal to themselves. No condition. -/
import Derived.Test.YtmjpdmkgmlhfaaaDoorMx
import Derived.Test.YtmjpdmkgmlhfaaaDoorZ9
set_option linter.unusedVariables false
set_option linter.unusedSimpArgs false
set_option linter.unusedSectionVars false
namespace Go.Proofs.YtmjpdmkgmlhfaaaDoor
open Go Go.VM
set_option maxRecDepth 100000
set_option maxHeartbeats 16000000
variable {G : GT}
mutual
theorem samP_self : ∀ p : Pr, samP p p = true
  | ⟨op, nm, n, l⟩ => by simp [samP, samPs_self l]
theorem samPs_self : ∀ l : List Pr, samPs l l = true
  | [] => by simp [samPs]
  | a :: r => by simp [samPs, samP_self a, samPs_self r]
end
theorem nodTs_memA {l : List Ty} {k : Ty} (h : k ∈ l) : nodT k ≤ nodTs l := by
  obtain ⟨i, hi, rfl⟩ := List.getElem_of_mem h
  exact nodTs_get hi
/-- A type all of whose lists are short. -/
inductive WB (B : Nat) : Ty → Prop
  | mk (op : Int) (nm : Nm) (l : List Ty) (ns : List Nm) (p : Pr) (ps : List Pr) : l.length ≤ B → ns.length ≤ B → nodP p ≤ B → ps.length ≤ B → (∀ q ∈ ps, nodP q ≤ B) → (∀ k ∈ l, WB B k) → WB B ⟨op, nm, l, ns, p, ps⟩
theorem ent_r20_SameNames : VM.Enters Tryd.prog 48 := VM.Enters.mk Tryd.func48 rfl
theorem r20_SameNames_self (l : List Nm) (hl : l.length ≤ 900000000) : CS Tryd.prog G 48 [.sl (strs l), .sl (strs l)] (.d (.bool true)) none := by
  refine CS.of_VK Tryd.func48 rfl Tryd.ntmps48 rfl ?_
  simp
  refine SW.loopF (ι := { i : Nat // i ≤ l.length }) (fun i => [(5, .d (.int .i64 i.1))]) (fun _ => []) (fun _ => []) (fun i => l.length - i.1) ⟨0, by simp⟩ (by simp) ?_
  rintro ⟨i, hi⟩
  by_cases hlt : i < l.length
  · have hg := strs_get hlt
    have hw := wrap64s (show i < 9223372036854775807 by omega)
    simp [hlt, hg]
    refine ⟨lexOk.mk (by kernel_rfl), ?_⟩
    exact Again.mk ⟨i + 1, hlt⟩ (by simp [hw]) (by simp; omega)
  · have hie : i = l.length := by omega
    subst hie
    simp
theorem ent_r20_SameTypes : VM.Enters Tryd.prog 50 := VM.Enters.mk Tryd.func50 rfl
theorem ent_r20_SameType : VM.Enters Tryd.prog 14 := VM.Enters.mk Tryd.func14 rfl
theorem r20_SameTypes_of (l : List Ty) (hl : l.length ≤ 900000000) (ih : ∀ k ∈ l, CS Tryd.prog G 14 [.agg (tyD k), .agg (tyD k)] (.d (.bool true)) none) : CS Tryd.prog G 50 [.sl (l.map tyC), .sl (l.map tyC)] (.d (.bool true)) none := by
  refine CS.of_VK Tryd.func50 rfl Tryd.ntmps50 rfl ?_
  simp
  refine SW.loopF (ι := { i : Nat // i ≤ l.length }) (fun i => [(5, .d (.int .i64 i.1))]) (fun _ => []) (fun _ => []) (fun i => l.length - i.1) ⟨0, by simp⟩ (by simp) ?_
  rintro ⟨i, hi⟩
  by_cases hlt : i < l.length
  · have hg := tys_get hlt
    have hw := wrap64s (show i < 9223372036854775807 by omega)
    simp [hlt, hg]
    refine ⟨lexOk.mk (by kernel_rfl), ?_⟩
    refine callK.mk ent_r20_SameType (ih l[i] (List.getElem_mem hlt)) ?_
    simp
    exact Again.mk ⟨i + 1, hlt⟩ (by simp [hw]) (by simp; omega)
  · have hie : i = l.length := by omega
    subst hie
    simp
theorem r20_SameType_self : ∀ t : Ty, WB 900000000 t → CS Tryd.prog G 14 [.agg (tyD t), .agg (tyD t)] (.d (.bool true)) none := by
  refine Ty.ind fun t ih => ?_
  obtain ⟨op, nm, l, ns, p, ps⟩ := t
  simp only at ih
  intro hw
  cases hw with
  | mk _ _ _ _ _ _ w1 w2 w3 w4 w5 w6 =>
  have hts := r20_SameTypes_of (G := G) l w1 fun k hk => ih k hk (w6 k hk)
  have hns := r20_SameNames_self (G := G) ns w2
  have hsp := r7_Same_cs (G := G) p p w3
  rw [samP_self] at hsp
  refine CS.of_VK Tryd.func14 rfl Tryd.ntmps14 rfl ?_
  simp
  refine callK.mk ent_r20_SameNames hns ?_
  simp
  refine callK.mk ent_r7_Same hsp ?_
  simp
  refine SW.loopF (ι := { i : Nat // i ≤ ps.length }) (fun i => [(5, .d (.int .i64 i.1))]) (fun _ => [(2, .cells [.d (.int .i64 op), .d (.str nm), .d (.sl (l.map tyC)), .d (.sl (strs ns)), .d (.int .i64 p.op), .d (.str p.name), .d (.int .i64 p.n), .d (.sl (p.kids.map prC)), .d (.sl (ps.map prC))]), (3, .cells [.d (.int .i64 op), .d (.str nm), .d (.sl (l.map tyC)), .d (.sl (strs ns)), .d (.int .i64 p.op), .d (.str p.name), .d (.int .i64 p.n), .d (.sl (p.kids.map prC)), .d (.sl (ps.map prC))])]) (fun _ => []) (fun i => ps.length - i.1) ⟨0, by simp⟩ (by simp) ?_
  rintro ⟨i, hi⟩
  by_cases hlt : i < ps.length
  · have hg := prs_get hlt
    have hw := wrap64s (show i < 9223372036854775807 by omega)
    have hsi := r7_Same_cs (G := G) ps[i] ps[i] (w5 _ (List.getElem_mem hlt))
    rw [samP_self] at hsi
    simp [hlt, hg]
    refine ⟨lexOk.mk (by kernel_rfl), ?_⟩
    refine callK.mk ent_r7_Same hsi ?_
    simp
    exact Again.mk ⟨i + 1, hlt⟩ (by simp [hw]) (by simp; omega)
  · have hie : i = ps.length := by omega
    subst hie
    simp
    refine callK.mk ent_r20_SameTypes hts ?_
    simp
/-! ### Holes, variables -/
def toL (H : List Ho) : List HoleL := H.map fun h => ⟨h.1, h.2⟩
theorem toL_eq (H : List Ho) : holesC (toL H) = H.map hoC := by
  unfold toL holesC
  rw [List.map_map]
  rfl
theorem sameHoles_self (H : List Ho) (hl : H.length ≤ 2000000) (hp : ∀ h ∈ H, h.2.length ≤ 2000000) : CS Tryd.prog G 15 [.sl (H.map hoC), .sl (H.map hoC)] (.d (.bool true)) none := by
  have h := r6_SameHoles_cs (G := G) (toL H) (toL H) (by simpa [toL] using hl) (fun h hh => by
    obtain ⟨x, hx, rfl⟩ := List.mem_map.1 hh
    exact hp x hx)
  rw [toL_eq] at h
  simpa using h
theorem sameVars_self (l : List Vr) (hl : l.length ≤ 2000000) : CS Tryd.prog G 16 [.sl (l.map vrC), .sl (l.map vrC)] (.d (.bool true)) none := by
  have h : CS Tryd.prog G 16 [.sl (l.map vrC), .sl (l.map vrC)] (.d (.bool (decide (l = l)))) none := r6_SameVars_cs (G := G) l l hl
  simpa using h
/-! ### What New gives is short -/
theorem nod_holP (n : Nm) (vs : List Vr) : nodP (holP n vs) = 1 + vs.length := by
  unfold holP
  rw [nodP]
  have : ∀ l : List Vr, nodPs (l.map fun x => (⟨3, x.1, 0, []⟩ : Pr)) = l.length := fun l => by
    induction l with
    | nil => simp [nodPs]
    | cons a r ih => simp only [List.map_cons, nodPs, ih, List.length_cons, nodP]; omega
  rw [this]
theorem nod_next (pre : Nm) (hs : List Ho) (s : Nm) (sc : List Vr) : nodP (nextP pre hs s sc) ≤ 25 := by
  unfold nextP
  rw [nod_holP]
  unfold holV
  rw [List.length_take]
  omega
theorem data_WB {pre : Nm} {sc : List Vr} : ∀ (l : List Nm) (ps : List Pr) (hs : List Ho), (∀ q ∈ ps, nodP q ≤ 25) → ∀ q ∈ (dataT pre sc l ps hs).1, nodP q ≤ 25
  | [], ps, hs, h => h
  | s :: r, ps, hs, h => by
    rw [dataT]
    refine data_WB r _ _ fun q hq => ?_
    rcases List.mem_append.1 hq with hq | hq
    · exact h q hq
    · rw [List.mem_singleton] at hq
      rw [hq]
      exact nod_next _ _ _ _
theorem plain_WB {B : Nat} (hB : 1 ≤ B) : ∀ t : Ty, nodT t ≤ B → WB B (plainT t) := by
  refine Ty.ind fun t ih => ?_
  obtain ⟨op, nm, l, ns, p, ps⟩ := t
  simp only at ih
  intro h
  rw [nodT] at h
  have hl := len_le_nodTs l
  rw [plainT, plainTs_map]
  refine .mk _ _ _ _ _ _ (by simp; omega) (by simp) (by simpa [zeroP, nodP, nodPs] using hB) (by simp) (by simp) fun k hk => ?_
  obtain ⟨x, hx, rfl⟩ := List.mem_map.1 hk
  refine ih x hx ?_
  have := nodTs_memA hx
  omega
theorem fun_len {srt : Nm → Bool} {pre : Nm} {dat : Nm → List Nm} : ∀ (l : List Ty) (g : Bool) (ns dn : List Nm) (sc : List Vr) (hs : List Ho), (funT srt pre dat l g ns dn sc hs).1.length = l.length ∧ (funT srt pre dat l g ns dn sc hs).2.1.length ≤ dn.length + l.length
  | [], _, _, dn, _, _ => by simp [funT]
  | [a], _, _, dn, _, _ => by simp [funT]
  | a :: b :: r, g, ns, dn, sc, hs => by
    have h := fun n sc' hs' => fun_len (srt := srt) (pre := pre) (dat := dat) (b :: r) g ns.tail (dn ++ [n]) sc' hs'
    rw [funT]
    refine ⟨by simpa using (h _ _ _).1, Nat.le_trans (h _ _ _).2 (by simp; omega)⟩
theorem vis_WB {srt : Nm → Bool} {pre : Nm} {dat : Nm → List Nm} {B : Nat} (hB : 25 ≤ B) (hd : ∀ n, (dat n).length ≤ B) : ∀ (t : Ty), nodT t ≤ B → ∀ (sc : List Vr) (hs : List Ho), WB B (visT srt pre dat t sc hs).1 := by
  refine Ty.ind fun t ih => ?_
  obtain ⟨op, nm, l, ns, p, ps⟩ := t
  simp only at ih
  intro hn sc hs
  rw [nodT] at hn
  have hl := len_le_nodTs l
  have hf : ∀ (l : List Ty) (g : Bool) (ns dn : List Nm) (sc : List Vr) (hs : List Ho), (∀ k ∈ l, ∀ sc hs, WB B (visT srt pre dat k sc hs).1) → ∀ k ∈ (funT srt pre dat l g ns dn sc hs).1, WB B k := by
    intro l
    induction l with
    | nil => intro g ns dn sc hs _ k hk; rw [funT] at hk; cases hk
    | cons a r ihr =>
      intro g ns dn sc hs hk k hm
      cases r with
      | nil =>
        rw [funT] at hm
        simp only [List.mem_singleton] at hm
        rw [hm]
        exact hk a (by simp) sc hs
      | cons b r =>
        rw [funT] at hm
        simp only [List.mem_cons] at hm
        rcases hm with hm | hm
        · rw [hm]
          exact hk a (by simp) sc hs
        · exact ihr _ _ _ _ _ (fun x hx => hk x (.tail _ hx)) k hm
  rw [visT]
  split
  · obtain ⟨h1, h2⟩ := fun_len (srt := srt) (pre := pre) (dat := dat) l (decide (ns.length + 1 = l.length)) ns [] sc hs
    simp only [List.length_nil, Nat.zero_add] at h2
    exact .mk _ _ _ _ _ _ (by rw [h1]; omega) (by omega) (by simp [zeroP, nodP, nodPs]; omega) (by simp) (by simp) (hf l _ ns [] sc hs fun k hk => ih k hk (by have := nodTs_memA hk; omega))
  · have hpl : ∀ k ∈ plainTs l, WB B k := fun k hk => by
      rw [plainTs_map] at hk
      obtain ⟨x, hx, rfl⟩ := List.mem_map.1 hk
      exact plain_WB (by omega) x (by have := nodTs_memA hx; omega)
    have hpn : (plainTs l).length ≤ B := by rw [plainTs_map, List.length_map]; omega
    split
    · exact .mk _ _ _ _ _ _ hpn (by simp) (by simp [zeroP, nodP, nodPs]; omega) (by simp) (by simp) hpl
    · rename_i s _
      refine .mk _ _ _ _ _ _ hpn (by simp) (Nat.le_trans (nod_next _ _ _ _) hB) ?_ (fun q hq => Nat.le_trans (data_WB _ _ _ (by simp) q hq) hB) hpl
      rw [data_len1]
      have := hd nm
      split
      · simpa using this
      · simp
end Go.Proofs.YtmjpdmkgmlhfaaaDoor
