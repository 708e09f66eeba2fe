/- The abstract machine: a drawn region by a tree of its orders; what commutes with all that is open is taken first. No condition. -/
import Derived.Test.YtcmpodbjhoeblaaDoorZ6
set_option linter.unusedVariables false
set_option linter.unusedSimpArgs false
set_option linter.unusedSectionVars false
namespace Go.VM
open Go Go.RowKit
set_option maxRecDepth 100000
set_option maxHeartbeats 8000000
section
variable {P : Program} {G : GT} {st : St}
inductive OZ where
  | stop
  | none
  | ln (l : List Nat) (next : OZ)
  | op (i : Nat) (next more : OZ)
def markZ : List Nat → Array Bool → Array Bool
  | [], L => L
  | i :: r, L => markZ r (L.setIfInBounds i true)
def selZ (ops : Array Oper) : List Nat → List Oper
  | [] => []
  | i :: r => match ops[i]? with
    | some o => o :: selZ ops r
    | none => selZ ops r
/-- It commutes with all that may come ahead of it. -/
def firstZ (ops : Array Oper) (i : Nat) (oi : Oper) (L : Array Bool) : Bool := ((quietOp oi.op && !aloneO ops oi) || semi oi) && (List.range ops.size).all fun j => j == i || L.getD j true || reachB ops ops.size j i || (match ops[j]? with
  | some oj => oi.apart ops oj && pairOk ops oi oj
  | none => true)
def lineZ (ops : Array Oper) : List Nat → Array Bool → Bool
  | [], _ => true
  | i :: r, L => (match ops[i]? with
    | some o => firstZ ops i o L && (Region.ready .any ops L).contains i || Region.ready .any ops L == [i]
    | none => false) && lineZ ops r (L.setIfInBounds i true)
def altZ (j : Nat) : OZ → Bool
  | .op i _ more => i == j || altZ j more
  | _ => false
def okZ (ops : Array Oper) (T : OZ) (L : Array Bool) : Bool := match T with
  | .stop => Region.ready .any ops L == []
  | .ln _ _ => true
  | T => !(Region.ready .any ops L).isEmpty && (Region.ready .any ops L).all fun j => altZ j T
def treeZ (ops : Array Oper) : OZ → Nat → Array Bool → Bool
  | .stop, n, _ => n == 0
  | .none, _, _ => true
  | .ln l next, n, L => lineZ ops l L && decide (l.length ≤ n) && okZ ops next (markZ l L) && treeZ ops next (n - l.length) (markZ l L)
  | .op _ _ _, 0, _ => false
  | .op i next more, n + 1, L => ops[i]?.isSome && okZ ops next (L.setIfInBounds i true) && treeZ ops next n (L.setIfInBounds i true) && treeZ ops more (n + 1) L
def VZ (P : Program) (G : GT) (ops : Array Oper) (Q : St → Prop) : OZ → St → Prop
  | .stop, st => Q st
  | .none, _ => True
  | .ln l next, st => VK P G [.ops true ops (selZ ops l)] .normal st fun _ s => VZ P G ops Q next s
  | .op i next more, st => (VK P G [.ops true ops (selZ ops [i])] .normal st fun _ s => VZ P G ops Q next s) ∧ VZ P G ops Q more st
theorem VK_line {ops : Array Oper} {l : List Oper} {K : St → Prop} (h : VK P G [.ops true ops l] .normal st fun _ s => K s) : VOps P G true ops l st K := by
  simpa only [VK] using h
theorem noNewZ {ops : Array Oper} (h : newKeys ops = []) {i : Nat} {o : Oper} {d : Tmp} (hi : ops[i]? = some o) (hn : isNew o = true) (hd : o.dst = some d) : False := by
  have : d ∈ newKeys ops := List.mem_filterMap.2 ⟨o, by rw [Array.mem_toList_iff]; exact Array.mem_of_getElem? hi, by rw [if_pos hn]; exact hd⟩
  rw [h] at this; cases this
theorem VZ_line {ops : Array Oper} {Q K : St → Prop} (hN : newKeys ops = []) {n : Nat} : ∀ (l : List Nat) (L : Array Bool) (st : St), Closed ops L → lineZ ops l L = true → (∀ s, K s → Closed ops (markZ l L) → VAny P G ops Q n (markZ l L) s) → VOps P G true ops (selZ ops l) st K → VAny P G ops Q (l.length + n) L st
  | [], L, st, hcl, _, hK, h => by
    simpa [markZ] using hK st h hcl
  | i :: l, L, st, hcl, hB, hK, h => by
    simp only [lineZ, Bool.and_eq_true] at hB
    obtain ⟨hB, hB'⟩ := hB
    split at hB
    rotate_left
    · cases hB
    rename_i o hoi
    simp only [selZ, hoi, VOps] at h
    rw [show (i :: l).length + n = (l.length + n) + 1 by simp only [List.length_cons]; omega]
    have hrk : i ∈ Region.ready .any ops L := by
      simp only [Bool.and_eq_true, Bool.or_eq_true, beq_iff_eq] at hB
      rcases hB with ⟨_, h⟩ | h
      · simpa using h
      · rw [h]; simp
    have hnext : ∀ s, VOps P G true ops (selZ ops l) s K → VAny P G ops Q (l.length + n) (L.setIfInBounds i true) s := fun s hs => VZ_line hN l _ s (hcl.set hrk) hB' hK hs
    simp only [Bool.and_eq_true, Bool.or_eq_true, beq_iff_eq] at hB
    rcases hB with ⟨hf, _⟩ | hrd
    · simp only [firstZ, Bool.and_eq_true, Bool.or_eq_true, Bool.not_eq_true', List.all_eq_true] at hf
      obtain ⟨hs, hf⟩ := hf
      have hA : NewApart ops := fun i j oi oj d hi _ hni _ hdi _ => (noNewZ hN hi hni hdi).elim
      have hI : NewInv ops L st := fun j oj d hj hn _ hd => (noNewZ hN hj hn hd).elim
      obtain ⟨s, hd, hk⟩ := (vOne_eff hs).1 h
      refine VAny_first hA hoi hs (l.length + n) L st s hcl (fun j oj hj hne hun hno => ?_) hrk hI hd (hnext s hk)
      have h1 := hf j (List.mem_range.2 (Array.getElem?_eq_some_iff.1 hj).1)
      simp only [hj, beq_iff_eq, hne, false_or, hun, Bool.false_eq_true, hno] at h1
      exact Bool.and_eq_true .. ▸ h1
    · refine ⟨fun h0 => (by rw [hrd] at h0; cases h0), fun j hj => ?_⟩
      rw [hrd] at hj
      cases List.mem_singleton.1 hj
      rw [hoi]
      exact vOne_mono hnext h
theorem VZ_alt {ops : Array Oper} {Q : St → Prop} {i n : Nat} {L : Array Bool} : ∀ (T : OZ), treeZ ops T (n + 1) L = true → altZ i T = true → VZ P G ops Q T st → ∃ next, SizeOf.sizeOf next < SizeOf.sizeOf T ∧ okZ ops next (L.setIfInBounds i true) = true ∧ treeZ ops next n (L.setIfInBounds i true) = true ∧ ∃ o, ops[i]? = some o ∧ vOne P G true ops o (VZ P G ops Q next) st
  | .stop, _, h, _ => by simp [altZ] at h
  | .none, _, h, _ => by simp [altZ] at h
  | .ln _ _, _, h, _ => by simp [altZ] at h
  | .op j next more, ht, ha, hv => by
    simp only [treeZ, Bool.and_eq_true] at ht
    simp only [altZ, Bool.or_eq_true, beq_iff_eq] at ha
    simp only [VZ] at hv
    rcases ha with rfl | ha
    · obtain ⟨o, ho⟩ := Option.isSome_iff_exists.1 ht.1.1.1
      have h1 := VK_line hv.1
      simp only [selZ, ho, VOps] at h1
      exact ⟨next, by simp; omega, ht.1.1.2, ht.1.2, o, ho, h1⟩
    · obtain ⟨nx, h0, h⟩ := VZ_alt more ht.2 ha hv.2
      exact ⟨nx, by simp; omega, h⟩
theorem VZ_ok {ops : Array Oper} {Q : St → Prop} (hN : newKeys ops = []) : ∀ (T : OZ) (n : Nat) (L : Array Bool) (st : St), Closed ops L → okZ ops T L = true → treeZ ops T n L = true → VZ P G ops Q T st → VAny P G ops Q n L st
  | .stop, n, L, st, _, ho, ht, hv => by
    have e : n = 0 := by simpa [treeZ] using ht
    subst e
    exact ⟨by simpa [okZ] using ho, hv⟩
  | .none, n, L, st, _, ho, _, _ => by
    simp only [okZ, Bool.and_eq_true, Bool.not_eq_true', List.isEmpty_eq_false_iff, List.all_eq_true] at ho
    obtain ⟨x, hx⟩ := List.exists_mem_of_ne_nil _ ho.1
    have := ho.2 x hx
    simp [altZ] at this
  | .ln l next, n, L, st, hcl, _, ht, hv => by
    simp only [treeZ, Bool.and_eq_true, decide_eq_true_eq] at ht
    obtain ⟨⟨⟨h1, h2⟩, h3⟩, h4⟩ := ht
    have := VZ_line (n := n - l.length) (Q := Q) hN l L st hcl h1 (fun s hs hc => VZ_ok hN next _ _ s hc h3 h4 hs) (VK_line hv)
    rw [show l.length + (n - l.length) = n by omega] at this
    exact this
  | .op i0 next0 more0, 0, L, st, _, _, ht, _ => by simp [treeZ] at ht
  | .op i0 next0 more0, n + 1, L, st, hcl, ho, ht, hv => by
    simp only [okZ, Bool.and_eq_true, Bool.not_eq_true', List.isEmpty_eq_false_iff, List.all_eq_true] at ho
    refine ⟨fun h => (ho.1 h).elim, fun i hi => ?_⟩
    obtain ⟨next, q0, q1, q2, o, q3, q4⟩ := VZ_alt _ ht (ho.2 i hi) hv
    rw [q3]
    exact vOne_mono (fun s hs => VZ_ok hN next n _ s (hcl.set hi) q1 q2 hs) q4
termination_by T => SizeOf.sizeOf T
/-- A DRAWN REGION without new objects, by a tree. -/
theorem SW_treeZ {id : Nat} {ops : Array Oper} {Q : Exit → St → Prop} (T : OZ) (h : VZ P G ops (fun s => Q .normal s) T st) (hB : (P.follows .mixedOrders && (newKeys ops).isEmpty && okZ ops T (Array.replicate ops.size false) && treeZ ops T ops.size (Array.replicate ops.size false)) = true := by kernel_rfl) : SW P G (.region id ops true) st Q := by
  simp only [Bool.and_eq_true, List.isEmpty_iff] at hB
  obtain ⟨⟨⟨hm, hN⟩, h1⟩, h2⟩ := hB
  intro base R μ a w hr
  obtain ⟨hr', hs'⟩ := hr.drew
  have hcl : Closed ops (Array.replicate ops.size false) := fun k hk => by
    rcases Nat.lt_or_ge k ops.size with h' | h'
    · simp [h'] at hk
    · simp [Nat.not_lt.2 h'] at hk
  exact wp_region_any hm (VAny_ok ops.size _ st (VZ_ok hN T _ _ st hcl h1 h2 h) base R μ a w.drew hr' fun s a' w' R' μ' q1 q2 q3 => ⟨s, R', μ', q1, q2, hs'.trans q3⟩)
attribute [simp] selZ VZ
end
end Go.VM
