/- The instance for a type; what is found; the walk. No condition. -/
import Derived.Test.YtbacejmdgfalpaaDoorKg
import Derived.Test.YtbacejmdgfalpaaDoorZI
set_option linter.unusedVariables false
set_option linter.unusedSimpArgs false
set_option linter.unusedSectionVars false
namespace Go.Proofs.YtbacejmdgfalpaaDoor
open Go Go.VM
set_option maxRecDepth 100000
set_option maxHeartbeats 8000000
variable {G : GT}
/-- The types of a pattern's variables. -/
def matT (s t : Ty) : Option (List Ty) := if (matchM (tmT s) t []).1 = true then some ((varsT (bareT s) []).map (foundT (matchM (tmT s) t []).2)) else none
def usable (x : In) (nm : Nm) : Bool := decide (x.cls = nm ∧ checkT x.ty = 0 ∧ x.ty.op ≠ 5)
def needOk (rc : Nm → Ty → Bool) (vars : List Nm) (l : List Ty) (n : Nd) : Bool := if n.2 ∈ vars then (match l[(findI n.2 vars 0).toNat]? with
    | some u => rc n.1 u
    | none => false) else false
def goF (rc : Nm → Ty → Bool) (nm : Nm) (t : Ty) : List In → Nat → Option (Nat × List Ty)
  | [], _ => none
  | x :: r, i => if usable x nm = true then (match matT x.ty t with
    | some l => if (x.needs.all (needOk rc (varsT x.ty []) l)) = true then some (i, l) else none
    | none => goF rc nm t r (i + 1)) else goF rc nm t r (i + 1)
/-- The instance for a type: its place, and the types of its variables. -/
def findF (ins : List In) : Nat → Nm → Ty → Option (Nat × List Ty)
  | 0, _, _ => none
  | n + 1, nm, t => goF (fun c u => (findF ins n c u).isSome) nm t ins 0
def resF : Option (Nat × List Ty) → DV
  | some p => .tup [.int .i64 p.1, .sl (p.2.map tyC), .bool true]
  | none => .tup [.int .i64 0, .sl [], .bool false]
/-! ### What is found is smaller -/
def FN (N : Nat) (f : Fd) : Prop := ∀ x u, lookF f x = some u → nodT u ≤ N
mutual
theorem match_fn {N : Nat} : ∀ (p : Tm) (t : Ty) (f : Fd), nodT t ≤ N → FN N f → FN N (matchM p t f).2
  | .var x, t, f, ht, hf => by
    rw [matchM]
    cases hl : lookF f x with
    | some y => exact hf
    | none =>
      intro y u h
      simp only at h
      rcases lookF_add h with h | rfl
      · exact hf y u h
      · rw [nod_plain]; exact ht
  | .node op nm l, t, f, ht, hf => by
    rw [matchM]
    split
    · have := nodT_args t
      exact matchs_fn l t.args f (by omega) hf
    · exact hf
theorem matchs_fn {N : Nat} : ∀ (l : List Tm) (k : List Ty) (f : Fd), nodTs k ≤ N → FN N f → FN N (matchMs l k f).2
  | [], k, f, _, hf => by cases k <;> exact hf
  | p :: r, [], f, _, hf => hf
  | p :: r, t :: s, f, ht, hf => by
    simp only [nodTs] at ht
    have h1 := match_fn p t f (by omega) hf
    rw [matchMs]
    split
    · exact matchs_fn r s _ (by omega) h1
    · exact h1
end
theorem matT_some {s t : Ty} {l : List Ty} (h : matT s t = some l) (h5 : s.op ≠ 5) : l.length = (varsT (bareT s) []).length ∧ s.op = t.op ∧ s.name = t.name ∧ ∀ u ∈ l, nodT u + 1 ≤ nodT t := by
  unfold matT at h
  split at h
  rotate_left
  · cases h
  rename_i hm
  cases h
  obtain ⟨op, nm, k, ns, p, ps⟩ := s
  simp only at h5
  have htm : tmT ⟨op, nm, k, ns, p, ps⟩ = .node op nm (tmTs k) := by rw [tmT, if_neg h5]
  have hm2 := hm
  rw [htm, matchM] at hm2
  split at hm2
  rotate_left
  · cases hm2
  rename_i hh
  refine ⟨by simp, hh.1, hh.2.1, fun u hu => ?_⟩
  obtain ⟨x, hx, rfl⟩ := List.mem_map.1 hu
  have hF : FN (nodTs t.args) (matchM (tmT ⟨op, nm, k, ns, p, ps⟩) t []).2 := by
    rw [htm, matchM, if_pos hh]
    exact matchs_fn _ _ _ (Nat.le_refl _) (fun x u h => by simp [lookF] at h)
  have hoc : occ x (tmT ⟨op, nm, k, ns, p, ps⟩) = true := by
    rw [bare_tm, vars_occ (WT_any _)] at hx
    exact hx.resolve_left (by simp)
  obtain ⟨v, hv⟩ := Option.isSome_iff_exists.1 (match_has _ t [] hm hoc)
  rw [foundT_eq hv]
  have h1 := hF x v hv
  have h2 := nodT_args t
  omega
theorem vars_ok {s : Ty} (h : checkT s = 0) : varsT (bareT s) [] = varsT s [] := by rw [bare_plain s (checkT_ok h), vars_plain]
theorem idx_at {x : Nm} {l : List Nm} (h : x ∈ l) : ∃ k : Nat, findI x l 0 = (k : Int) ∧ k < l.length := by
  obtain ⟨k, h1, h2, _⟩ := find_at h
  exact ⟨k, h1, h2⟩
theorem goF_step {rc : Nm → Ty → Bool} {nm : Nm} {t : Ty} {l : List In} {i : Nat} (h : i < l.length) : goF rc nm t (l.drop i) i = if usable l[i] nm = true then (match matT l[i].ty t with
    | some k => if (l[i].needs.all (needOk rc (varsT l[i].ty []) k)) = true then some (i, k) else none
    | none => goF rc nm t (l.drop (i + 1)) (i + 1)) else goF rc nm t (l.drop (i + 1)) (i + 1) := by
  rw [List.drop_eq_getElem_cons h, goF]
theorem all_drop {α : Type} {p : α → Bool} {l : List α} {i : Nat} (h : i < l.length) : (l.drop i).all p = (p l[i] && (l.drop (i + 1)).all p) := by
  rw [List.drop_eq_getElem_cons h, List.all_cons]
theorem resF_keyless (o : Option (Nat × List Ty)) : keyless (resF o) = true := by cases o <;> rfl
theorem ent_find : VM.Enters Tryd.prog 37 := VM.Enters.mk Tryd.func37 rfl
theorem find_cs (hG : G 0 = some kwCells) (m : Mo) (hl : m.ins.length ≤ 900000000) (hi : ∀ x ∈ m.ins, nodT x.ty ≤ 1000000 ∧ allT x.ty ≤ 900000000 ∧ x.needs.length ≤ 900000000) :
    ∀ (n : Nat) (nm : Nm) (t : Ty), nodT t ≤ n → n ≤ 900000000 → CS Tryd.prog G 37 [.agg (moC m), .str nm, .agg (tyD t)] (resF (findF m.ins n nm t)) none := by
  intro n
  induction n with
  | zero => intro nm t ht; have := nodT_pos t; omega
  | succ n ih =>
    intro nm t ht hn
    rw [findF]
    obtain ⟨rc, hrc⟩ : ∃ rc : Nm → Ty → Bool, (fun c u => (findF m.ins n c u).isSome) = rc := ⟨_, rfl⟩
    rw [hrc]
    obtain ⟨res, hres⟩ : ∃ r, goF rc nm t m.ins 0 = r := ⟨_, rfl⟩
    rw [hres]
    refine CS.of_VK Tryd.func37 rfl Tryd.ntmps37 rfl ?_
    simp
    refine SW.loopF (ι := { i : Nat // i ≤ m.ins.length ∧ goF rc nm t (m.ins.drop i) i = res }) (fun i => [(24, .d (.int .i64 i.1))]) (fun _ => [(3, .cells ((moC m).map .d)), (5, tyB t)]) (fun _ => []) (fun i => m.ins.length - i.1) ⟨0, by simp [hres]⟩ (by simp) ?_
    rintro ⟨i, hii, hR⟩
    try simp only at hii hR
    by_cases hlt : i < m.ins.length
    rotate_left
    · have : i = m.ins.length := by omega
      subst this
      rw [List.drop_length, goF] at hR
      subst hR
      simp [resF]
    have hw := wrap64s (show i < 9223372036854775807 by omega)
    obtain ⟨x, hx⟩ : ∃ x, m.ins[i] = x := ⟨_, rfl⟩
    obtain ⟨hx1, hx2, hx3⟩ := hi m.ins[i] (List.getElem_mem hlt)
    rw [goF_step hlt] at hR
    rw [hx] at hR hx1 hx2 hx3
    simp [hlt, hx]
    by_cases h1 : x.cls = nm
    rotate_left
    · rw [if_neg (by simp [usable, h1])] at hR
      simp [h1]
      exact Again.mk ⟨i + 1, hlt, hR⟩ (by simp [hw]) (by simp; omega)
    subst h1
    simp
    refine callK.mk ent_types_Check (types_Check_cs hG x.ty hx2) ?_
    by_cases h2 : checkT x.ty = 0
    rotate_left
    · rw [if_neg (by simp [usable, h2])] at hR
      simp [h2]
      exact Again.mk ⟨i + 1, hlt, hR⟩ (by simp [hw]) (by simp; omega)
    simp [h2]
    by_cases h3 : x.ty.op = 5
    · rw [if_neg (by simp [usable, h3])] at hR
      simp [h3]
      exact Again.mk ⟨i + 1, hlt, hR⟩ (by simp [hw]) (by simp; omega)
    rw [if_pos (by simp [usable, h2, h3])] at hR
    simp [h3]
    have hM := types_Match_cs (G := G) x.ty t hx1 (by omega)
    have hV := types_Vars_cs (G := G) x.ty (by omega)
    have hmt : matT x.ty t = if (matchM (tmT x.ty) t []).1 = true then some ((varsT (bareT x.ty) []).map (foundT (matchM (tmT x.ty) t []).2)) else none := rfl
    by_cases h4 : (matchM (tmT x.ty) t []).1 = true
    rotate_left
    · rw [hmt, if_neg h4] at hR
      rw [if_neg h4] at hM
      refine callK.mk ent_types_Match hM ?_
      simp
      exact Again.mk ⟨i + 1, hlt, hR⟩ (by simp [hw]) (by simp; omega)
    rw [if_pos h4] at hmt hM
    obtain ⟨L, hL⟩ : ∃ L, (varsT (bareT x.ty) []).map (foundT (matchM (tmT x.ty) t []).2) = L := ⟨_, rfl⟩
    have hL2 : List.map (tyC ∘ foundT (matchM (tmT x.ty) t []).2) (varsT (bareT x.ty) []) = L.map tyC := by rw [← hL, List.map_map]
    rw [hL] at hmt
    rw [hmt] at hR
    simp only at hR
    obtain ⟨q1, _, _, q4⟩ := matT_some hmt h3
    rw [vars_ok h2] at q1
    have hvl := varsT_len x.ty []
    simp only [List.length_nil, Nat.zero_add] at hvl
    obtain ⟨vs, hvs⟩ : ∃ vs, varsT x.ty [] = vs := ⟨_, rfl⟩
    rw [hvs] at hvl q1 hR hV
    rw [hL2] at hM
    refine callK.mk ent_types_Match hM ?_
    simp
    refine callK.mk ent_types_Vars hV ?_
    obtain ⟨b, hb⟩ : ∃ b, x.needs.all (needOk rc vs L) = b := ⟨_, rfl⟩
    rw [hb] at hR
    simp
    refine SW.loopF (ι := { k : Nat // k ≤ x.needs.length ∧ (x.needs.drop k).all (needOk rc vs L) = b }) (fun k => [(60, .d (.int .i64 k.1))]) (fun _ => [(3, .cells ((moC m).map .d)), (5, tyB t), (10, .cells ((inC x).map .d))]) (fun _ => []) (fun k => x.needs.length - k.1) ⟨0, by simpa using hb⟩ (by simp) ?_
    rintro ⟨k, hk, hQ⟩
    try simp only at hk hQ
    by_cases hkl : k < x.needs.length
    rotate_left
    · have : k = x.needs.length := by omega
      subst this
      rw [List.drop_length, List.all_nil] at hQ
      rw [if_pos hQ.symm] at hR
      simp [← hR, resF]
    have hwk := wrap64s (show k < 9223372036854775807 by omega)
    rw [all_drop hkl] at hQ
    simp [hkl]
    refine callK.mk ent_sIdxC (sIdxC_cs vs x.needs[k].2 (by omega)) ?_
    by_cases hin : x.needs[k].2 ∈ vs
    rotate_left
    · have h0 := (find_negC x.needs[k].2 vs).2 hin
      have hno : needOk rc vs L x.needs[k] = false := by rw [needOk, if_neg hin]
      rw [hno, Bool.false_and] at hQ
      rw [← hQ, if_neg (by simp)] at hR
      simp [h0, ← hR, resF]
    obtain ⟨j, hj, hjl⟩ := idx_at hin
    have hjL : j < L.length := by omega
    have hyes : needOk rc vs L x.needs[k] = rc x.needs[k].1 L[j] := by
      rw [needOk, if_pos hin, hj]
      simp [hjL]
    rw [hyes] at hQ
    have hsm := q4 L[j] (List.getElem_mem hjL)
    have hrec := ih x.needs[k].1 L[j] (by omega) (by omega)
    have hrk : (findF m.ins n x.needs[k].1 L[j]).isSome = rc x.needs[k].1 L[j] := by rw [← hrc]
    have hno : ¬ (j : Int) < 0 := by omega
    simp at hrec
    simp [hj, hno]
    refine ⟨lexOk.mk (by kernel_rfl), ?_⟩
    simp [hjL]
    refine callK.mk (hkl := resF_keyless _) ent_find hrec ?_
    cases hf : findF m.ins n x.needs[k].1 L[j] with
    | none =>
      rw [hf] at hrk
      rw [← hrk] at hQ
      simp only [Option.isSome_none, Bool.false_and] at hQ
      rw [← hQ, if_neg (by simp)] at hR
      simp [resF, ← hR]
    | some p =>
      rw [hf] at hrk
      rw [← hrk] at hQ
      simp only [Option.isSome_some, Bool.true_and] at hQ
      simp [resF]
      exact Again.mk ⟨k + 1, hkl, hQ⟩ (by simp [hwk]) (by simp; omega)
theorem ent_classes_Find : VM.Enters Tryd.prog 18 := VM.Enters.mk Tryd.func18 rfl
theorem classes_Find_cs (hG : G 0 = some kwCells) (m : Mo) (hl : m.ins.length ≤ 900000000) (hi : ∀ x ∈ m.ins, nodT x.ty ≤ 1000000 ∧ allT x.ty ≤ 900000000 ∧ x.needs.length ≤ 900000000) (n : Nat) (nm : Nm) (t : Ty) (ht : nodT t ≤ n) (hn : n ≤ 900000000) :
    CS Tryd.prog G 18 [.agg (moC m), .str nm, .agg (tyD t)] (resF (if varsT t [] = [] then findF m.ins n nm t else none)) none := by
  have hf := find_cs hG m hl hi n nm t ht hn
  have hg := types_Ground_cs (G := G) t (by omega)
  refine CS.of_VK Tryd.func18 rfl Tryd.ntmps18 rfl ?_
  simp at hf
  simp
  refine callK.mk ent_types_Ground hg ?_
  by_cases hv : varsT t [] = []
  · simp [hv]
    refine callK.mk (hkl := resF_keyless _) ent_find hf ?_
    cases findF m.ins n nm t <;> simp [resF]
  · simp [hv, resF]
end Go.Proofs.YtbacejmdgfalpaaDoor
