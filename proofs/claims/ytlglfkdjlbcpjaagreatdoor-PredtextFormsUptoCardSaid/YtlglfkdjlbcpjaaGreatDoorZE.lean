/- Joined texts. Linear forms as text; the walks. The statements' own examples give true. Predicates that come in are trees; environments' parts. What Parse and Read answer; the size of a predicate. What comes in: predicates and tokens; how large they are. No condition. -/
import Derived.Test.YtlglfkdjlbcpjaaGreatDoorZY
import Derived.Test.YtlglfkdjlbcpjaaGreatDoorZC
import Derived.Test.YtlglfkdjlbcpjaaGreatDoorZW
import Derived.Test.YtlglfkdjlbcpjaaGreatDoorZ9
import Derived.Test.YtlglfkdjlbcpjaaGreatDoorZP
import Derived.Test.YtlglfkdjlbcpjaaGreatDoorFit
import Derived.Test.YtlglfkdjlbcpjaaGreatDoorZ8
import Derived.Test.YtlglfkdjlbcpjaaGreatDoorUp
section
set_option linter.unusedVariables false
set_option linter.unusedSimpArgs false
set_option linter.unusedSectionVars false
namespace Go.Proofs.YtlglfkdjlbcpjaaGreatDoor
open Go Go.VM Go.RowKit
set_option maxRecDepth 100000
set_option maxHeartbeats 8000000
variable {G : GT}
/-! ### Plain -/
def joinT (n : Int) (first : Bool) : List UInt8 := if first = true then (if n < 0 then [45] else []) else if n < 0 then [32, 45, 32] else [32, 43, 32]
def magT (n : Int) : List UInt8 := Lib.decDigits n.natAbs
def coefT (n : Int) (nm : List UInt8) : List UInt8 := if n = 1 ∨ n = -1 then nm else magT n ++ ([32, 42, 32] ++ nm)
def linGo : List (List UInt8 × Int) → Bool → List UInt8
  | [], _ => []
  | c :: r, f => joinT c.2 f ++ (coefT c.2 c.1 ++ linGo r false)
def linT (cs : List (List UInt8 × Int)) (k : Int) : List UInt8 := linGo cs true ++ (if k ≠ 0 ∨ cs = [] then joinT k cs.isEmpty ++ magT k else [])
def coC (c : List UInt8 × Int) : List D := [.str c.1, .int .i64 c.2]
abbrev liD (cs : List (List UInt8 × Int)) (k : Int) : List D := [.sl (cs.map coC), .int .i64 k]
/-- Coefficients that are not too many and not too long. -/
def okCs (cs : List (List UInt8 × Int)) : Prop := cs.length ≤ 10000 ∧ ∀ c ∈ cs, c.1.length ≤ 1000 ∧ I64 c.2
theorem joinT_len (n : Int) (f : Bool) : (joinT n f).length ≤ 3 := by
  unfold joinT
  repeat' split
  all_goals simp
theorem magT_len {n : Int} (h : I64 n) : (magT n).length ≤ 20 := by
  unfold I64 at h
  exact dd_len 19 n.natAbs (by omega)
theorem coefT_len {n : Int} {nm : List UInt8} (h : I64 n) : (coefT n nm).length ≤ 23 + nm.length := by
  have := magT_len h
  unfold coefT
  split
  · omega
  · simp only [List.length_append, List.length_cons, List.length_nil]
    omega
theorem linGo_len : ∀ (cs : List (List UInt8 × Int)) (f : Bool), (∀ c ∈ cs, c.1.length ≤ 1000 ∧ I64 c.2) → (linGo cs f).length ≤ 1026 * cs.length
  | [], _, _ => by simp [linGo]
  | c :: r, f, h => by
    obtain ⟨h1, h2⟩ := h c (.head _)
    have h3 := joinT_len c.2 f
    have h4 := coefT_len (nm := c.1) h2
    have h5 := linGo_len r false fun x hx => h x (.tail _ hx)
    rw [linGo]
    simp only [List.length_append, List.length_cons]
    omega
theorem linGo_step {cs : List (List UInt8 × Int)} {i : Nat} (h : i < cs.length) (f : Bool) : linGo (cs.drop i) f = joinT cs[i].2 f ++ (coefT cs[i].2 cs[i].1 ++ linGo (cs.drop (i + 1)) false) := by
  rw [List.drop_eq_getElem_cons h, linGo]
/-! ### Magnitudes -/
theorem ent_TrimPrefix : VM.Enters Tryz.prog 61 := VM.Enters.mk Tryz.func61 rfl
theorem TrimPrefix_cs (s p : List UInt8) : CS Tryz.prog G 61 [.str s, .str p] (.d (.str (Lib.trimPrefix s p))) none :=
  CS.ofLib fun w R args hg hR hs hv => by
    rw [args2 hs, (hv 0 _ rfl).str_inv, (hv 1 _ rfl).str_inv]
    exact (Tryz.strings_TrimPrefix ⟨s.toArray⟩ ⟨p.toArray⟩ w).mono fun e w' ⟨he, hw⟩ => ⟨_, he, .str _, hw ▸ Below.refl _ _⟩
theorem trim_itoa (n : Int) : Lib.trimPrefix (Lib.itoa n) [45] = magT n := by
  unfold Lib.itoa magT
  by_cases hn : n < 0
  · rw [if_pos hn]
    simp [Lib.trimPrefix, Lib.hasPrefix]
  · rw [if_neg hn, show n.toNat = n.natAbs by omega]
    obtain ⟨h1, h2, _⟩ := dd_all n.natAbs
    cases hd : Lib.decDigits n.natAbs with
    | nil => exact absurd hd h1
    | cons c r =>
      have hc := isDg_iff.1 (h2 c (by rw [hd]; exact .head _))
      have hne : ¬ 45 = c := by
        rintro rfl
        simp at hc
      simp [Lib.trimPrefix, Lib.hasPrefix, hne]
theorem ent_predtext_magnitude : VM.Enters Tryz.prog 36 := VM.Enters.mk Tryz.func36 rfl
theorem predtext_magnitude_cs (hP : G 2 = some powCells) (n : Int) (h : I64 n) : CS Tryz.prog G 36 [.int .i64 n] (.d (.str (magT n))) none := by
  have ht := TrimPrefix_cs (G := G) (Lib.itoa n) [45]
  rw [trim_itoa] at ht
  refine CS.of_VK Tryz.func36 rfl Tryz.ntmps36 rfl ?_
  simp
  refine callK.mk ent_Itoa (Itoa_cs hP n h) ?_
  simp
  refine callK.mk ent_TrimPrefix ht ?_
  simp
/-! ### The program -/
theorem ent_lin1 : VM.Enters Tryz.prog 34 := VM.Enters.mk Tryz.func34 rfl
theorem lin1_ch (u : Bool) (buf tx : List UInt8) (first : Bool) (n : Int) (hlen : buf.length + tx.length ≤ 900000000) : CH Tryz.prog G 34 ⟨[.d (.bool first), .d (.int .i64 n), .d (.str tx), .ptr 100000 0], [(100000, .bld 70 u (byteE buf))], [bOwn 100000]⟩
    ⟨[.tup []], [(100000, .bld 70 true (byteE (buf ++ (joinT n first ++ tx))))], [bOwn 100000]⟩ := by
  cases u
  · skip
    refine CH.of_VK Tryz.func34 rfl Tryz.ntmps34 rfl (by simp) ?_
    cases first with
    | true =>
      by_cases hn : n < 0
      · simp [hn, joinT]
        refine callHK.mk ent_WriteString (WriteString_ch false buf [45] (by simp; omega)) [(100000, 100000)] (by simp) (by simp) (by simp) (by simp; rfl) (by simp) ?_
        simp
        refine callHK.mk ent_WriteString (WriteString_ch true (buf ++ [45]) tx (by simp; omega)) [(100000, 100000)] (by simp) (by simp) (by simp) (by simp; rfl) (by simp) ?_
        simp
      · simp [hn, joinT]
        refine callHK.mk ent_WriteString (WriteString_ch false buf tx (by omega)) [(100000, 100000)] (by simp) (by simp) (by simp) (by simp; rfl) (by simp) ?_
        simp
    | false =>
      by_cases hn : n < 0
      · simp [hn, joinT]
        refine callHK.mk ent_WriteString (WriteString_ch false buf [32, 45, 32] (by simp; omega)) [(100000, 100000)] (by simp) (by simp) (by simp) (by simp; rfl) (by simp) ?_
        simp
        refine callHK.mk ent_WriteString (WriteString_ch true (buf ++ [32, 45, 32]) tx (by simp; omega)) [(100000, 100000)] (by simp) (by simp) (by simp) (by simp; rfl) (by simp) ?_
        simp
      · simp [hn, joinT]
        refine callHK.mk ent_WriteString (WriteString_ch false buf [32, 43, 32] (by simp; omega)) [(100000, 100000)] (by simp) (by simp) (by simp) (by simp; rfl) (by simp) ?_
        simp
        refine callHK.mk ent_WriteString (WriteString_ch true (buf ++ [32, 43, 32]) tx (by simp; omega)) [(100000, 100000)] (by simp) (by simp) (by simp) (by simp; rfl) (by simp) ?_
        simp
  · skip
    refine CH.of_VK Tryz.func34 rfl Tryz.ntmps34 rfl (by simp) ?_
    cases first with
    | true =>
      by_cases hn : n < 0
      · simp [hn, joinT]
        refine callHK.mk ent_WriteString (WriteString_ch true buf [45] (by simp; omega)) [(100000, 100000)] (by simp) (by simp) (by simp) (by simp; rfl) (by simp) ?_
        simp
        refine callHK.mk ent_WriteString (WriteString_ch true (buf ++ [45]) tx (by simp; omega)) [(100000, 100000)] (by simp) (by simp) (by simp) (by simp; rfl) (by simp) ?_
        simp
      · simp [hn, joinT]
        refine callHK.mk ent_WriteString (WriteString_ch true buf tx (by omega)) [(100000, 100000)] (by simp) (by simp) (by simp) (by simp; rfl) (by simp) ?_
        simp
    | false =>
      by_cases hn : n < 0
      · simp [hn, joinT]
        refine callHK.mk ent_WriteString (WriteString_ch true buf [32, 45, 32] (by simp; omega)) [(100000, 100000)] (by simp) (by simp) (by simp) (by simp; rfl) (by simp) ?_
        simp
        refine callHK.mk ent_WriteString (WriteString_ch true (buf ++ [32, 45, 32]) tx (by simp; omega)) [(100000, 100000)] (by simp) (by simp) (by simp) (by simp; rfl) (by simp) ?_
        simp
      · simp [hn, joinT]
        refine callHK.mk ent_WriteString (WriteString_ch true buf [32, 43, 32] (by simp; omega)) [(100000, 100000)] (by simp) (by simp) (by simp) (by simp; rfl) (by simp) ?_
        simp
        refine callHK.mk ent_WriteString (WriteString_ch true (buf ++ [32, 43, 32]) tx (by simp; omega)) [(100000, 100000)] (by simp) (by simp) (by simp) (by simp; rfl) (by simp) ?_
        simp
theorem ent_predtext_Lin : VM.Enters Tryz.prog 13 := VM.Enters.mk Tryz.func13 rfl
theorem predtext_Lin_cs (hP : G 2 = some powCells) (cs : List (List UInt8 × Int)) (k : Int) (hc : okCs cs) (hk : I64 k) : CS Tryz.prog G 13 [.agg (liD cs k)] (.d (.str (linT cs k))) none := by
  obtain ⟨hl, hcs⟩ := hc
  have hlin := linGo_len cs true hcs
  obtain ⟨T, hT⟩ : ∃ T, linGo cs true = T := ⟨_, rfl⟩
  rw [hT] at hlin
  have hTl : T.length ≤ 11000000 := by omega
  refine CS.of_VK Tryz.func13 rfl Tryz.ntmps13 rfl ?_
  simp
  refine SW.loopF (ι := { x : Nat × Bool × List UInt8 // x.1 ≤ cs.length ∧ x.2.2 ++ linGo (cs.drop x.1) (decide (x.1 = 0)) = T }) (fun x => [(12, .d (.int .i64 x.1.1))]) (fun x => [(1, .cells [.d (.sl (cs.map coC)), .d (.int .i64 k)]), (3, .bld 70 x.1.2.1 (byteE x.1.2.2))]) (fun _ => [bOwn 3]) (fun x => cs.length - x.1.1) ⟨(0, false, []), by simp [hT]⟩ (by simp [byteE]) ?_
  rintro ⟨⟨i, u, buf⟩, hi, hR⟩
  simp only at hi hR
  have hbl : buf.length ≤ 11000000 := by
    rw [← hR, List.length_append] at hTl
    omega
  by_cases hlt : i < cs.length
  · obtain ⟨c, hce⟩ : ∃ c, cs[i] = c := ⟨_, rfl⟩
    obtain ⟨h1, h2⟩ := hcs cs[i] (List.getElem_mem hlt)
    rw [linGo_step hlt, hce] at hR
    rw [hce] at h1 h2
    have hw := wrap64s (show i < 9223372036854775807 by omega)
    have hct := coefT_len (nm := c.1) h2
    have hml := magT_len h2
    have hL := lin1_ch (G := G) u buf (coefT c.2 c.1) (decide (i = 0)) c.2 (by omega)
    have hR2 : (buf ++ (joinT c.2 (decide (i = 0)) ++ coefT c.2 c.1)) ++ linGo (cs.drop (i + 1)) (decide (i + 1 = 0)) = T := by
      rw [← hR]
      simp
    cases u
    · skip
      by_cases hone : c.2 = 1 ∨ c.2 = -1
      · have e : coefT c.2 c.1 = c.1 := by unfold coefT; rw [if_pos hone]
        rw [e] at hL hR2
        rcases hone with ho | ho
        · simp [hlt, hce, coC, ho] at hL ⊢
          refine callHK.mk ent_lin1 hL [(100000, 3)] (by simp) (by simp) (by simp) (by simp; rfl) (by simp) ?_
          simp
          exact Again.mk ⟨(i + 1, true, _), hlt, by rw [ho] at hR2; exact hR2⟩ (by simp [hw]) (by simp; omega)
        · simp [hlt, hce, coC, ho] at hL ⊢
          refine callHK.mk ent_lin1 hL [(100000, 3)] (by simp) (by simp) (by simp) (by simp; rfl) (by simp) ?_
          simp
          exact Again.mk ⟨(i + 1, true, _), hlt, by rw [ho] at hR2; exact hR2⟩ (by simp [hw]) (by simp; omega)
      · have n1 : ¬ c.2 = 1 := fun e => hone (.inl e)
        have n2 : ¬ c.2 = -1 := fun e => hone (.inr e)
        have e : coefT c.2 c.1 = magT c.2 ++ ([32, 42, 32] ++ c.1) := by unfold coefT; rw [if_neg hone]
        have hj := joined3 (G := G) (magT c.2) [32, 42, 32] c.1 (by simp; omega)
        rw [e] at hL hR2
        simp [hlt, hce, coC, n1, n2]
        refine ⟨lexOk.mk (by kernel_rfl), ?_⟩
        try simp
        refine callK.mk ent_predtext_magnitude (predtext_magnitude_cs hP c.2 h2) ?_
        simp [rg3]
        refine callK.mk ent_predtext_joined hj ?_
        simp at hL
        simp
        refine callHK.mk ent_lin1 hL [(100000, 3)] (by simp) (by simp) (by simp) (by simp; rfl) (by simp) ?_
        simp
        exact Again.mk ⟨(i + 1, true, _), hlt, hR2⟩ (by simp [hw]) (by simp; omega)
    · skip
      by_cases hone : c.2 = 1 ∨ c.2 = -1
      · have e : coefT c.2 c.1 = c.1 := by unfold coefT; rw [if_pos hone]
        rw [e] at hL hR2
        rcases hone with ho | ho
        · simp [hlt, hce, coC, ho] at hL ⊢
          refine callHK.mk ent_lin1 hL [(100000, 3)] (by simp) (by simp) (by simp) (by simp; rfl) (by simp) ?_
          simp
          exact Again.mk ⟨(i + 1, true, _), hlt, by rw [ho] at hR2; exact hR2⟩ (by simp [hw]) (by simp; omega)
        · simp [hlt, hce, coC, ho] at hL ⊢
          refine callHK.mk ent_lin1 hL [(100000, 3)] (by simp) (by simp) (by simp) (by simp; rfl) (by simp) ?_
          simp
          exact Again.mk ⟨(i + 1, true, _), hlt, by rw [ho] at hR2; exact hR2⟩ (by simp [hw]) (by simp; omega)
      · have n1 : ¬ c.2 = 1 := fun e => hone (.inl e)
        have n2 : ¬ c.2 = -1 := fun e => hone (.inr e)
        have e : coefT c.2 c.1 = magT c.2 ++ ([32, 42, 32] ++ c.1) := by unfold coefT; rw [if_neg hone]
        have hj := joined3 (G := G) (magT c.2) [32, 42, 32] c.1 (by simp; omega)
        rw [e] at hL hR2
        simp [hlt, hce, coC, n1, n2]
        refine ⟨lexOk.mk (by kernel_rfl), ?_⟩
        try simp
        refine callK.mk ent_predtext_magnitude (predtext_magnitude_cs hP c.2 h2) ?_
        simp [rg3]
        refine callK.mk ent_predtext_joined hj ?_
        simp at hL
        simp
        refine callHK.mk ent_lin1 hL [(100000, 3)] (by simp) (by simp) (by simp) (by simp; rfl) (by simp) ?_
        simp
        exact Again.mk ⟨(i + 1, true, _), hlt, hR2⟩ (by simp [hw]) (by simp; omega)
  · have hie : i = cs.length := by omega
    subst hie
    rw [List.drop_length, linGo, List.append_nil] at hR
    subst hR
    have hkl := magT_len hk
    unfold linT
    rw [hT]
    by_cases hz : k ≠ 0 ∨ cs = []
    · rw [if_pos hz]
      have hL := lin1_ch (G := G) u buf (magT k) cs.isEmpty k (by omega)
      have hS := String_ch (G := G) true (buf ++ (joinT k cs.isEmpty ++ magT k))
      have hN : joinT k cs.isEmpty = joinT k (decide (cs = [])) := by cases cs <;> rfl
      have hmg := predtext_magnitude_cs (G := G) hP k hk
      cases u
      · skip
        have hL := lin1_ch (G := G) false buf (magT k) (decide (cs = [])) k (by omega)
        have hS := String_ch (G := G) true (buf ++ (joinT k (decide (cs = [])) ++ magT k))
        rw [hN]
        by_cases hk0 : k = 0
        · have hc0 : cs = [] := hz.resolve_left (fun h => h hk0)
          subst hc0 hk0
          simp
          refine ⟨lexOk.mk (by kernel_rfl), ?_⟩
          try simp
          refine callK.mk ent_predtext_magnitude hmg ?_
          simp at hL hS ⊢
          refine callHK.mk ent_lin1 hL [(100000, 3)] (by simp) (by simp) (by simp) (by simp; rfl) (by simp) ?_
          simp
          refine callHK.mk ent_String hS [(100000, 3)] (by simp) (by simp) (by simp) (by simp; rfl) (by simp) ?_
          simp
        · by_cases hc0 : cs = []
          · simp [hk0, hc0] at hL hS ⊢
            refine ⟨lexOk.mk (by kernel_rfl), ?_⟩
            try simp
            refine callK.mk ent_predtext_magnitude hmg ?_
            simp
            refine callHK.mk ent_lin1 hL [(100000, 3)] (by simp) (by simp) (by simp) (by simp; rfl) (by simp) ?_
            simp
            refine callHK.mk ent_String hS [(100000, 3)] (by simp) (by simp) (by simp) (by simp; rfl) (by simp) ?_
            simp
          · simp [hk0, hc0] at hL hS ⊢
            refine ⟨lexOk.mk (by kernel_rfl), ?_⟩
            try simp
            refine callK.mk ent_predtext_magnitude hmg ?_
            simp [hc0]
            refine callHK.mk ent_lin1 hL [(100000, 3)] (by simp) (by simp) (by simp) (by simp; rfl) (by simp) ?_
            simp
            refine callHK.mk ent_String hS [(100000, 3)] (by simp) (by simp) (by simp) (by simp; rfl) (by simp) ?_
            simp
      · skip
        have hL := lin1_ch (G := G) true buf (magT k) (decide (cs = [])) k (by omega)
        have hS := String_ch (G := G) true (buf ++ (joinT k (decide (cs = [])) ++ magT k))
        rw [hN]
        by_cases hk0 : k = 0
        · have hc0 : cs = [] := hz.resolve_left (fun h => h hk0)
          subst hc0 hk0
          simp
          refine ⟨lexOk.mk (by kernel_rfl), ?_⟩
          try simp
          refine callK.mk ent_predtext_magnitude hmg ?_
          simp at hL hS ⊢
          refine callHK.mk ent_lin1 hL [(100000, 3)] (by simp) (by simp) (by simp) (by simp; rfl) (by simp) ?_
          simp
          refine callHK.mk ent_String hS [(100000, 3)] (by simp) (by simp) (by simp) (by simp; rfl) (by simp) ?_
          simp
        · by_cases hc0 : cs = []
          · simp [hk0, hc0] at hL hS ⊢
            refine ⟨lexOk.mk (by kernel_rfl), ?_⟩
            try simp
            refine callK.mk ent_predtext_magnitude hmg ?_
            simp
            refine callHK.mk ent_lin1 hL [(100000, 3)] (by simp) (by simp) (by simp) (by simp; rfl) (by simp) ?_
            simp
            refine callHK.mk ent_String hS [(100000, 3)] (by simp) (by simp) (by simp) (by simp; rfl) (by simp) ?_
            simp
          · simp [hk0, hc0] at hL hS ⊢
            refine ⟨lexOk.mk (by kernel_rfl), ?_⟩
            try simp
            refine callK.mk ent_predtext_magnitude hmg ?_
            simp [hc0]
            refine callHK.mk ent_lin1 hL [(100000, 3)] (by simp) (by simp) (by simp) (by simp; rfl) (by simp) ?_
            simp
            refine callHK.mk ent_String hS [(100000, 3)] (by simp) (by simp) (by simp) (by simp; rfl) (by simp) ?_
            simp
    · rw [if_neg hz]
      have hk0 : k = 0 := Classical.byContradiction fun h => hz (.inl h)
      have hc0 : ¬ cs = [] := fun h => hz (.inr h)
      simp [hk0, hc0]
      cases u
      · refine callHK.mk ent_String (String_ch false buf) [(100000, 3)] (by simp) (by simp) (by simp) (by simp; rfl) (by simp) ?_
        simp
      · refine callHK.mk ent_String (String_ch true buf) [(100000, 3)] (by simp) (by simp) (by simp) (by simp; rfl) (by simp) ?_
        simp
end Go.Proofs.YtlglfkdjlbcpjaaGreatDoor
end

section
set_option linter.unusedVariables false
set_option linter.unusedSimpArgs false
set_option linter.unusedSectionVars false
namespace Go.Proofs.YtlglfkdjlbcpjaaGreatDoor
open Go Go.VM
set_option maxRecDepth 100000
set_option maxHeartbeats 8000000
def G0 : GT := fun g => if g = 3 then some kwCells else if g = 0 then some sgCells else if g = 2 then some powCells else none
theorem G0_kw : G0 3 = some kwCells := rfl
theorem G0_sg : G0 0 = some sgCells := rfl
theorem G0_pw : G0 2 = some powCells := rfl
variable {G : GT}
theorem ent_l8_variable : VM.Enters Tryz.prog 22 := VM.Enters.mk Tryz.func22 rfl
theorem l8_variable_cs (s : List UInt8) : CS Tryz.prog G 22 [.str s] (.d (.agg [.int .i64 3, .str s, .int .i64 0, .sl []])) none := by
  refine CS.of_VK Tryz.func22 rfl Tryz.ntmps22 rfl ?_
  simp
/-! ### The examples -/
abbrev vrP (c : UInt8) : Pr := ⟨3, [c], 0, []⟩
abbrev exP : Pr := ⟨17, [], 0, [⟨15, [], 0, [⟨12, [], 0, [vrP 120, vrP 121]⟩, vrP 98]⟩, ⟨14, [], 0, [vrP 98]⟩]⟩
abbrev exQ : Pr := ⟨13, [], 0, [⟨1, [], 1, []⟩, vrP 120]⟩
theorem aw1 : txtR exP = .tup [.str [120, 32, 60, 32, 121, 32, 38, 38, 32, 98, 32, 61, 62, 32, 33, 98], .int .i64 0] := by
  have h : chkE exP = 0 := by kernel_rfl
  unfold txtR
  rw [if_pos h]
  rfl
theorem aw2 : txtR ⟨1, [], -5, []⟩ = .tup [.str [40, 45, 53, 41], .int .i64 0] := by
  have h : chkE ⟨1, [], -5, []⟩ = 0 := by kernel_rfl
  unfold txtR
  rw [if_pos h]
  have : Lib.decDigits 5 = [53] := dd_small (by omega)
  simp [bdO, bodyO, frN, outT, this]
theorem aw3 : parseR [97, 32, 61, 32, 98, 32, 61, 32, 99] = badR 14 := by kernel_rfl
theorem aw4 : parseR [120, 32, 42, 32, 121] = badR 6 := by kernel_rfl
theorem aw5 : parseR [120, 32, 62, 61, 32, 49] = .tup [.agg (prD exQ), .int .i64 0] := by
  have h1 : lexG numL [120, 32, 62, 61, 32, 49] 0 1 false = .ok [⟨1, [120], 0, 1⟩, ⟨4, [62, 61], 0, 1⟩, ⟨3, [49], 1, 1⟩, ⟨0, [], 0, 1⟩] := by rfl
  have h2 : readT [⟨1, [120], 0, 1⟩, ⟨4, [62, 61], 0, 1⟩, ⟨3, [49], 1, 1⟩, ⟨0, [], 0, 1⟩] = some (exQ, 3) := by kernel_rfl
  have h3 : chkE exQ = 0 := by kernel_rfl
  unfold parseR
  rw [if_neg (by decide), h1]
  simp only
  rw [h2]
  simp only
  rw [if_pos (by decide), if_pos h3]
abbrev exL : List Tok := [⟨1, [112], 0, 1⟩, ⟨4, [40], 0, 1⟩, ⟨1, [118], 0, 1⟩, ⟨4, [41], 0, 1⟩, ⟨4, [62], 0, 1⟩, ⟨4, [41], 0, 1⟩, ⟨0, [], 0, 1⟩]
theorem aw6 : lexG numL [112, 40, 118, 41, 32, 62, 32, 41] 0 1 false = .ok exL := by rfl
theorem aw7 : readT exL = some (⟨4, [112], 0, [vrP 118]⟩, 4) := by kernel_rfl
theorem aw8 : readR exL = .tup [.agg (prD ⟨4, [112], 0, [vrP 118]⟩), .int .i64 4, .int .i64 0] := by
  have h3 : chkE ⟨4, [112], 0, [vrP 118]⟩ = 0 := by kernel_rfl
  unfold readR
  rw [aw7]
  simp only
  rw [if_pos h3]
  rfl
theorem aw9 : linT [([120], 2), ([121], -1)] 3 = [50, 32, 42, 32, 120, 32, 45, 32, 121, 32, 43, 32, 51] := by
  have h2 : Lib.decDigits 2 = [50] := dd_small (by omega)
  have h3 : Lib.decDigits 3 = [51] := dd_small (by omega)
  simp [linT, linGo, joinT, coefT, magT, h2, h3]
theorem ent_l8_awake : VM.Enters Tryz.prog 10 := VM.Enters.mk Tryz.func10 rfl
theorem l8_awake_cs : CS Tryz.prog G0 10 [] (.d (.bool true)) none := by
  have h1 := predtext_Text_cs (G := G0) G0_kw G0_pw exP (by decide)
  have h2 := predtext_Text_cs (G := G0) G0_kw G0_pw ⟨1, [], -5, []⟩ (by decide)
  have h3 := predtext_Parse_cs (G := G0) G0_kw G0_sg [97, 32, 61, 32, 98, 32, 61, 32, 99] (by decide)
  have h4 := predtext_Parse_cs (G := G0) G0_kw G0_sg [120, 32, 42, 32, 121] (by decide)
  have h5 := predtext_Parse_cs (G := G0) G0_kw G0_sg [120, 32, 62, 61, 32, 49] (by decide)
  have h6 := lex_Tokens_cs (G := G0) G0_sg [112, 40, 118, 41, 32, 62, 32, 41] (by decide)
  have h7 := predtext_Read_cs (G := G0) G0_kw exL ⟨by decide, by decide⟩ (fun p n h => by
    rw [aw7] at h
    cases h
    decide)
  have h8 := r7_Same_cs (G := G0) exQ exQ (by decide)
  have h9 := predtext_Lin_cs (G := G0) G0_pw [([120], 2), ([121], -1)] 3 ⟨by decide, by simp [I64]⟩ (by simp [I64])
  rw [aw1] at h1
  rw [aw2] at h2
  rw [aw3] at h3
  rw [aw4] at h4
  rw [aw5] at h5
  rw [if_neg (by decide), aw6] at h6
  rw [aw8] at h7
  rw [show samP exQ exQ = true by rw [samP_dec]; simp] at h8
  rw [aw9] at h9
  simp [tokD, tokN, tokF, toks, tokE, badR, prC_eq, coC] at h3 h4 h6 h9
  simp only [prD, List.map_cons, List.map_nil, prC_eq] at h1 h2 h5 h7 h8
  simp [tokE] at h7
  have h2 := CS.args h2 (ds := [.agg [.int .i64 1, .str [], .int .i64 (-5), .nils]]) (by simp)
  have h8 := CS.args h8 (ds := [.agg [.int .i64 13, .str [], .int .i64 0, .sl [[.int .i64 1, .str [], .int .i64 1, .sl []], [.int .i64 3, .str [120], .int .i64 0, .sl []]]], .agg [.int .i64 13, .str [], .int .i64 0, .sl [[.int .i64 1, .str [], .int .i64 1, .nils], [.int .i64 3, .str [120], .int .i64 0, .sl []]]]]) (by simp)
  refine CS.of_VK Tryz.func10 rfl Tryz.ntmps10 rfl ?_
  simp
  refine callK.mk ent_l8_variable (l8_variable_cs [120]) ?_
  simp
  refine callK.mk ent_l8_variable (l8_variable_cs [121]) ?_
  simp [rg2]
  refine callK.mk ent_l8_variable (l8_variable_cs [98]) ?_
  simp [rg2]
  refine callK.mk ent_l8_variable (l8_variable_cs [98]) ?_
  simp [rg1, rg2]
  refine callK.mk ent_predtext_Text h1 ?_
  simp
  refine callK.mk ent_predtext_Text h2 ?_
  simp
  refine callK.mk ent_predtext_Parse h3 ?_
  simp
  refine callK.mk ent_predtext_Parse h4 ?_
  simp
  refine callK.mk ent_predtext_Parse h5 ?_
  simp
  refine callK.mk ent_l8_variable (l8_variable_cs [120]) ?_
  simp [rg2]
  refine callK.mk ent_lex_Tokens h6 ?_
  simp
  refine callK.mk ent_predtext_Read h7 ?_
  simp
  refine callK.mk ent_r7_Same h8 ?_
  simp [rg2]
  refine callK.mk ent_predtext_Lin h9 ?_
  simp
end Go.Proofs.YtlglfkdjlbcpjaaGreatDoor
end

section
set_option linter.unusedVariables false
set_option linter.unusedSimpArgs false
set_option linter.unusedSectionVars false
namespace Go.Proofs.YtlglfkdjlbcpjaaGreatDoor
open Go Go.VM
set_option maxRecDepth 100000
set_option maxHeartbeats 4000000
theorem ex_map {α : Type} {f : α → List D} : ∀ {es : List (List D)}, (∀ x ∈ es, ∃ a, x = f a) → ∃ l : List α, es = l.map f
  | [], _ => ⟨[], rfl⟩
  | x :: r, h => by
    obtain ⟨a, ha⟩ := h x (by simp)
    obtain ⟨l, hl⟩ := ex_map (es := r) (f := f) (fun y hy => h y (by simp [hy]))
    exact ⟨a :: l, by simp [ha, hl]⟩
theorem szLL_mem {x : List D} : ∀ {es : List (List D)}, x ∈ es → szL x ≤ szLL es
  | y :: r, h => by
    simp only [szLL]
    rcases List.mem_cons.1 h with rfl | h
    · omega
    · have := szLL_mem h
      omega
theorem fits_strs {es : List (List D)} (h : ∀ x ∈ es, FitsT Tryz.prog 9 x) : ∃ l : List Nm, es = strs l := by
  obtain ⟨l, hl⟩ := ex_map (f := fun n : Nm => [D.str n]) fun x hx => by
    obtain ⟨s, hs, _⟩ := fits_str tu9 (h x hx)
    exact ⟨s, hs⟩
  exact ⟨l, by rw [hl]; rfl⟩
theorem fits_prN (n : Nat) : ∀ ds : List D, szL ds ≤ n → FitsT Tryz.prog 25 ds → ∃ p : Pr, ds = prC p := by
  induction n using Nat.strongRecOn with
  | ind n ih =>
    intro ds hn h
    obtain ⟨x0, x1, x2, x3, rfl, h0, h1, h2, h3⟩ := inv25 h
    obtain ⟨op, e0, _⟩ := fits_int tu22 h0
    obtain ⟨nm, e1, _⟩ := fits_str tu9 h1
    obtain ⟨k, e2, _⟩ := fits_int tu3 h2
    obtain ⟨es, e3, _, hes⟩ := fits_sl ty_elem23 h3
    cases e0; cases e1; cases e2; cases e3
    simp only [szL, szD] at hn
    obtain ⟨ks, rfl⟩ := ex_map (f := prC) fun x hx => ih (szL x) (by have := szLL_mem hx; omega) x (Nat.le_refl _) (hes x hx)
    exact ⟨⟨op, nm, k, ks⟩, by rw [prC_eq]⟩
theorem fits_pr (ds : List D) (h : FitsT Tryz.prog 25 ds) : ∃ p : Pr, ds = prC p := fits_prN _ ds (Nat.le_refl _) h
theorem fits_prs {es : List (List D)} (h : ∀ x ∈ es, FitsT Tryz.prog 25 x) : ∃ l : List Pr, es = l.map prC := ex_map fun x hx => fits_pr x (h x hx)
theorem fitV_pr {d : D} (h : FitsV Tryz.prog 25 d) : ∃ p : Pr, d = .agg (prC p) := by
  obtain ⟨cs, rfl, hb⟩ := fitsV_agg ty_field25_0 h
  obtain ⟨p, rfl⟩ := fits_pr cs hb
  exact ⟨p, rfl⟩
end Go.Proofs.YtlglfkdjlbcpjaaGreatDoor
end

section
set_option linter.unusedVariables false
set_option linter.unusedSimpArgs false
set_option linter.unusedSectionVars false
namespace Go.Proofs.YtlglfkdjlbcpjaaGreatDoor
open Go Go.VM
set_option maxRecDepth 100000
set_option maxHeartbeats 8000000
variable {G : GT}
theorem samP_refl (p : Pr) : samP p p = true := by rw [samP_dec]; simp
/-- What Parse and Read answer: a predicate with its errors. -/
theorem parse_form (s : List UInt8) : ∃ q e, parseR s = .tup [.agg (prD q), .int .i64 e] ∧ nodP q ≤ 100000 := by
  have hb : ∀ e, ∃ q e', badR e = .tup [.agg (prD q), .int .i64 e'] ∧ nodP q ≤ 100000 := fun e => ⟨⟨0, [], 0, []⟩, e, rfl, by decide⟩
  unfold parseR
  split
  · exact hb _
  split
  · exact hb _
  · rename_i hlong l hl
    obtain ⟨hok, _⟩ := okTs_lex hl (by omega)
    split
    · exact hb _
    · rename_i p n hr
      split
      · split
        · exact ⟨p, 0, rfl, Nat.le_trans (readT_nod hr) (by have := hok.1; omega)⟩
        · exact hb _
      · exact hb _
theorem read_form {l : List Tok} (hl : okTs l) : ∃ q n e, readR l = .tup [.agg (prD q), .int .i64 n, .int .i64 e] ∧ nodP q ≤ 100000 := by
  unfold readR
  split
  · exact ⟨⟨0, [], 0, []⟩, 0, 14, rfl, by decide⟩
  · rename_i p n hr
    split
    · exact ⟨p, n, 0, rfl, Nat.le_trans (readT_nod hr) (by have := hl.1; omega)⟩
    · exact ⟨⟨0, [], 0, []⟩, 0, _, rfl, by decide⟩
/-! ### The size of a predicate -/
mutual
def szP : Pr → Int → Int
  | ⟨_, nm, _, ks⟩, most => szPs ks most (1 + nm.length)
def szPs : List Pr → Int → Int → Int
  | [], _, n => n
  | k :: r, most, n => if n ≤ most then szPs r most (n + szP k (most - n)) else n
end
mutual
/-- How many nodes and bytes of names there are. -/
def wgP : Pr → Nat
  | ⟨_, nm, _, ks⟩ => 1 + nm.length + wgPs ks
def wgPs : List Pr → Nat
  | [] => 0
  | k :: r => wgP k + wgPs r
end
mutual
theorem szP_le : ∀ (p : Pr) (m : Int), 1 ≤ szP p m ∧ szP p m ≤ wgP p
  | ⟨op, nm, n, ks⟩, m => by
    have := szPs_le ks m (1 + nm.length)
    simp only [szP, wgP]
    omega
theorem szPs_le : ∀ (l : List Pr) (m n : Int), n ≤ szPs l m n ∧ szPs l m n ≤ n + wgPs l
  | [], m, n => by simp [szPs, wgPs]
  | k :: r, m, n => by
    have h1 := szP_le k (m - n)
    have h2 := szPs_le r m (n + szP k (m - n))
    simp only [szPs, wgPs]
    split <;> omega
end
mutual
theorem wgP_sz : ∀ p : Pr, wgP p ≤ szL (prC p)
  | ⟨op, nm, n, ks⟩ => by
    have := wgPs_sz ks
    rw [prC_eq]
    simp only [wgP, szL, szD]
    omega
theorem wgPs_sz : ∀ l : List Pr, wgPs l ≤ szLL (l.map prC)
  | [] => by simp [wgPs, szLL]
  | k :: r => by
    have h1 := wgP_sz k
    have h2 := wgPs_sz r
    simp only [wgPs, List.map_cons, szLL]
    omega
end
theorem wgPs_mem {k : Pr} : ∀ {l : List Pr}, k ∈ l → wgP k ≤ wgPs l
  | x :: l, h => by
    simp only [wgPs]
    rcases List.mem_cons.1 h with rfl | h
    · omega
    · have := wgPs_mem h
      omega
theorem szPs_drop {l : List Pr} {i : Nat} (h : i < l.length) (m n : Int) : szPs (l.drop i) m n = if n ≤ m then szPs (l.drop (i + 1)) m (n + szP l[i] (m - n)) else n := by
  rw [List.drop_eq_getElem_cons h, szPs]
theorem len_le_wg : ∀ l : List Pr, l.length ≤ wgPs l
  | [] => by simp
  | p :: l => by
    have h1 := len_le_wg l
    have h2 : 1 ≤ wgP p := by obtain ⟨op, nm, n, ks⟩ := p; simp only [wgP]; omega
    simp only [List.length_cons, wgPs]
    omega
theorem ent_l8_size : VM.Enters Tryz.prog 9 := VM.Enters.mk Tryz.func9 rfl
theorem l8_size_cs (p : Pr) : ∀ m : Int, wgP p ≤ 100000000 → -1000000000000 ≤ m → m ≤ 1000000000000 → CS Tryz.prog G 9 [.agg (prD p), .int .i64 m] (.d (.int .i64 (szP p m))) none := by
  revert p
  refine Pr.ind fun p ih => ?_
  obtain ⟨op, nm, n, ks⟩ := p
  intro m hw hm0 hm1
  simp only at ih
  simp only [wgP] at hw
  have hlen := len_le_wg ks
  obtain ⟨T, hT⟩ : ∃ T, szP ⟨op, nm, n, ks⟩ m = T := ⟨_, rfl⟩
  rw [hT]
  rw [szP] at hT
  have hTle := szPs_le ks m (1 + nm.length)
  rw [hT] at hTle
  have hw1 : IntKind.i64.wrap (1 + (nm.length : Int)) = 1 + (nm.length : Int) := wrap64 (by omega)
  refine CS.of_VK Tryz.func9 rfl Tryz.ntmps9 rfl ?_
  simp [hw1]
  refine SW.loopF (ι := { x : Nat × Int // x.1 ≤ ks.length ∧ 1 ≤ x.2 ∧ szPs (ks.drop x.1) m x.2 = T }) (fun x => [(5, .d (.int .i64 x.1.2)), (6, .d (.int .i64 x.1.1))]) (fun _ => [(2, .cells [.d (.int .i64 op), .d (.str nm), .d (.int .i64 n), .d (.sl (ks.map prC))])]) (fun _ => []) (fun x => ks.length - x.1.1) ⟨(0, 1 + nm.length), by simp, by simp only; omega, by simpa using hT⟩ (by simp) ?_
  rintro ⟨⟨i, z⟩, hi, hz, hR⟩
  simp only at hi hz hR
  have hzT : z ≤ T := by
    have := (szPs_le (ks.drop i) m z).1
    omega
  by_cases hlt : i < ks.length
  · have hg := prs_get hlt
    have hw := wrap64s (show i < 9223372036854775807 by omega)
    rw [szPs_drop hlt] at hR
    by_cases hzm : z ≤ m
    · rw [if_pos hzm] at hR
      have hws : IntKind.i64.wrap (m - z) = m - z := wrap64 (by omega)
      have hk := wgPs_mem (List.getElem_mem hlt)
      have hc := ih ks[i] (List.getElem_mem hlt) (m - z) (by omega) (by omega) (by omega)
      have hle := szP_le ks[i] (m - z)
      have hwa : IntKind.i64.wrap (z + szP ks[i] (m - z)) = z + szP ks[i] (m - z) := wrap64 (by omega)
      simp [hlt, hzm, hg, hws]
      refine callK.mk ent_l8_size hc ?_
      simp [hwa]
      exact Again.mk ⟨(i + 1, z + szP ks[i] (m - z)), hlt, by simp only; omega, hR⟩ (by simp [hw]) (by simp; omega)
    · rw [if_neg hzm] at hR
      subst hR
      simp [hlt, hzm]
  · have hie : i = ks.length := by omega
    subst hie
    rw [List.drop_length, szPs] at hR
    subst hR
    simp
end Go.Proofs.YtlglfkdjlbcpjaaGreatDoor
end

section
set_option linter.unusedVariables false
set_option linter.unusedSimpArgs false
set_option linter.unusedSectionVars false
namespace Go.Proofs.YtlglfkdjlbcpjaaGreatDoor
open Go Go.VM
set_option maxRecDepth 100000
set_option maxHeartbeats 8000000
/-! ### What comes in -/
theorem wf_I64 {n : Int} (hn : (Lit.int .i64 n).wf = true) : I64 n := by
  have e1 : IntKind.i64.min = -9223372036854775808 := rfl
  have e2 : IntKind.i64.max = 9223372036854775807 := rfl
  simp [Lit.wf, e1, e2] at hn
  unfold I64
  omega
theorem fits_tok {ds : List D} (h : FitsT Tryz.prog 46 ds) : ∃ t : Tok, ds = tokE t := by
  obtain ⟨x0, x1, x2, x3, rfl, h0, h1, h2, h3⟩ := inv46 h
  obtain ⟨k, h0, _⟩ := fits_int tu44 h0
  obtain ⟨s, h1, _⟩ := fits_str tu9 h1
  obtain ⟨n, h2, _⟩ := fits_int tu3 h2
  obtain ⟨m, h3, _⟩ := fits_int tu3 h3
  cases h0; cases h1; cases h2; cases h3
  exact ⟨⟨k, s, n, m⟩, rfl⟩
theorem fitV_toks {d : D} (h : FitsV Tryz.prog 43 d) : ∃ l : List Tok, d = .sl (l.map tokE) := by
  obtain ⟨es, rfl, _, hb⟩ := fitsV_sl ty_elem43 h
  obtain ⟨l, rfl⟩ := ex_map (f := tokE) fun x hx => fits_tok (hb x hx)
  exact ⟨l, rfl⟩
theorem map_sz {α : Type} {f : α → List D} (hf : ∀ a, 1 ≤ szL (f a)) : ∀ l : List α, l.length ≤ szLL (l.map f)
  | [] => by simp
  | a :: r => by
    have h1 := map_sz hf r
    have h2 := hf a
    simp only [List.map_cons, szLL, List.length_cons]
    omega
mutual
theorem nod4_sz : ∀ p : Pr, 4 * nodP p ≤ szL (prC p)
  | ⟨op, nm, n, l⟩ => by
    have := nod4s_sz l
    rw [prC_eq]
    simp only [nodP, szL, szD]
    omega
theorem nod4s_sz : ∀ l : List Pr, 4 * nodPs l ≤ szLL (l.map prC)
  | [] => by simp [nodPs, szLL]
  | t :: r => by
    have h1 := nod4_sz t
    have h2 := nod4s_sz r
    simp only [nodPs, List.map_cons, szLL]
    omega
end
end Go.Proofs.YtlglfkdjlbcpjaaGreatDoor
end
