/- Template, the reference: the next hole. No condition. -/
import Derived.Test.YtmjpdmkgmlhfaaaDoorMk
import Derived.Test.YtmjpdmkgmlhfaaaDoorMe
import Derived.Test.YtmjpdmkgmlhfaaaDoorMg
set_option linter.unusedVariables false
set_option linter.unusedSimpArgs false
set_option linter.unusedSectionVars false
namespace Go.VM
open Go Go.RowKit
/-- A coarser result of a contract with objects. -/
theorem CH.res {P : Program} {G : GT} {f : FuncId} {s0 : St} {r r' : DV} {H1 : List (Nat × AObj)} {own1 : List (TypeId × List Loc)} (h : CH P G f s0 ⟨[r], H1, own1⟩) (hw : WkDV r r') : CH P G f s0 ⟨[r'], H1, own1⟩ := fun base R μ args w hr =>
  (h base R μ args w hr).mono fun e w' ⟨v, R', μ', he, hr', hs⟩ => ⟨v, R', μ', he, ⟨hr'.defers, hr'.size, fun i u d hu hd => by
    cases i with
    | zero =>
      simp at hd
      subst hd
      exact (hr'.tmps 0 u r hu rfl).wk hw
    | succ i => simp at hd, hr'.objs, hr'.inj, hr'.locs, by
    obtain ⟨vs, h1, h2, h3⟩ := hr'.own
    exact ⟨vs, h1, fun i c v hc hv => ⟨(h2 i c v hc hv).locs, (h2 i c v hc hv).own, (h2 i c v hc hv).keys⟩, h3⟩, hr'.glob, hr'.rset, hr'.base, hr'.pass⟩, hs⟩
end Go.VM
namespace Go.Proofs.YtmjpdmkgmlhfaaaDoor
open Go Go.VM
set_option maxRecDepth 100000
set_option maxHeartbeats 16000000
variable {G : GT}
/-- The work on a template. -/
def mkH (pre : Nm) (m : Mt) (hs : List Ho) : List (Nat × AObj) := [(100000, .cells ((mtC m).map .d ++ [.d (.str pre), .d (.sl (hs.map hoC))]))]
abbrev mkW : List (TypeId × List VM.Loc) := [(73, [.c 100000 7])]
theorem ent_hole : VM.Enters Tryd.prog 85 := VM.Enters.mk Tryd.func85 rfl
theorem hole_ch (pre s : Nm) (m : Mt) (sc : List Vr) (hs : List Ho) (hpre : pre.length ≤ 2000000) (hsc : sc.length ≤ 1000000) (hhs : hs.length ≤ 1000000) :
    CH Tryd.prog G 85 ⟨[.ptr 100000 0, .d (.str s), .d (.sl (sc.map vrC))], mkH pre m hs, mkW⟩ ⟨[.d (.agg (prD (nextP pre hs s sc)))], mkH pre m (nextH pre hs s sc), mkW⟩ := by
  refine CH.res (r := .d (.agg [.int .i64 5, .str (holN pre hs), .int .i64 0, .sl ((holV s sc).map rawA)])) ?_ (by
    have h := rawA_wk (holV s sc)
    simp at h
    simp [nextP, holP, h])
  have hdl : (Lib.decDigits hs.length).length ≤ 20 := dd_len 19 _ (by omega)
  refine CH.of_VK Tryd.func85 rfl Tryd.ntmps85 rfl (by simp) ?_
  simp [mkH, mtC]
  refine ⟨lexOk.mk (by kernel_rfl), ?_⟩
  refine stepK_len (by omega) ?_
  simp
  refine callK.mk ent_r37_digits (r37_digits_cs hs.length (by omega)) ?_
  simp
  refine stepK_len (by omega) ?_
  simp
  refine stepK_len (by omega) ?_
  simp
  obtain ⟨L, hL⟩ : ∃ L, L = (vN, s) :: sc := ⟨_, rfl⟩
  have hLm : ([D.str [118], D.str s] :: sc.map vrC) = L.map vrC := by simp [hL, vrC, vN]
  obtain ⟨K, hK⟩ : ∃ K, K = holV s sc := ⟨_, rfl⟩
  have hKL : K = L.take 24 := by rw [hK, hL]; rfl
  have hKl : K.length ≤ 24 := by rw [hKL, List.length_take]; omega
  simp only [hLm]
  refine SW.loopF (ι := { i : Nat // i ≤ K.length }) (fun i => [(10, .d (.int .i64 i.1))]) (fun i => [(6, .cells [.d (.int .i64 0), .d (.str []), .d (.int .i64 0), .d .nils]), (7, .cells [.d (.str (holN pre hs)), .d (.sl ((K.take i.1).map vrC))]), (8, .cells [.d (.int .i64 5), .d (.str (holN pre hs)), .d (.int .i64 0), .d (.sl ((K.take i.1).map rawA))])] ++ mkH pre m hs)
    (fun _ => [(76, [.c 7 1]), (36, [.c 8 3]), (73, [.c 100000 7])]) (fun i => K.length - i.1) ⟨0, by simp⟩ (by simp [mkH, mtC, holN]) ?_
  rintro ⟨i, hi⟩
  by_cases hlt : i < K.length
  · have hll : i < L.length := by rw [hKL, List.length_take] at hlt; omega
    have h24 : (i : Int) < 24 := by omega
    have hg := vrs_get hll
    have hw := wrap64s (show i < 9223372036854775807 by omega)
    have hKi : K[i] = L[i] := by simp only [hKL, List.getElem_take]
    have hs1 := rawA_step hlt
    have hs2 : (K.take (i + 1)).map vrC = (K.take i).map vrC ++ [[.str L[i].1, .str L[i].2]] := by
      rw [List.take_succ_eq_append_getElem hlt, List.map_append, hKi]
      rfl
    rw [hKi] at hs1
    have h2 : ∀ x ∈ (K.take i).map vrC, x.length = 2 := fun x hx => by
      obtain ⟨y, _, rfl⟩ := List.mem_map.1 hx
      rfl
    have h4 : ∀ x ∈ (K.take i).map rawA, x.length = 4 := fun x hx => by
      obtain ⟨y, _, rfl⟩ := List.mem_map.1 hx
      rfl
    have hlen : (K.take i).length ≤ 24 := by rw [List.length_take]; omega
    obtain ⟨A, hA⟩ : ∃ A, A = (K.take i).map vrC := ⟨_, rfl⟩
    obtain ⟨B, hB⟩ : ∃ B, B = (K.take i).map rawA := ⟨_, rfl⟩
    have hAl : A.length ≤ 24 := by rw [hA, List.length_map]; exact hlen
    have hBl : B.length ≤ 24 := by rw [hB, List.length_map]; exact hlen
    simp only [← hA, ← hB] at hs1 hs2 h2 h4 ⊢
    simp [hll, h24, mkH, mtC, hg]
    refine ⟨lexOk.mk (by kernel_rfl), ?_⟩
    refine stepK_len ⟨h2, by omega⟩ ?_
    simp [hll, hg]
    refine ⟨lexOk.mk (by kernel_rfl), ?_⟩
    refine stepK_len ⟨h4, by omega⟩ ?_
    simp
    rw [List.map_take] at hs1 hs2
    exact Again.mk ⟨i + 1, hlt⟩ (by simp [hw, hs1, hs2, mkH, mtC]) (by simp; omega)
  · have hie : i = K.length := by omega
    subst hie
    have hfin : (¬ K.length < L.length) ∨ (K.length < L.length ∧ ¬ (K.length : Int) < 24) := by
      by_cases h : K.length < L.length
      · right
        refine ⟨h, ?_⟩
        rw [hKL, List.length_take] at h ⊢
        omega
      · exact .inl h
    have hH : nextH pre hs s sc = hs ++ [(holN pre hs, K)] := by rw [hK]; rfl
    simp only [List.take_length]
    rw [hH, ← hK]
    generalize holN pre hs = N
    rcases hfin with h | ⟨h, h'⟩
    · simp [h, mkH, mtC]
      refine ⟨lexOk.mk (by kernel_rfl), ?_⟩
      refine stepK_len (by omega) ?_
      simp [hoC_eq]
    · simp [h, h', mkH, mtC]
      refine ⟨lexOk.mk (by kernel_rfl), ?_⟩
      refine stepK_len (by omega) ?_
      simp [hoC_eq]
end Go.Proofs.YtmjpdmkgmlhfaaaDoor
