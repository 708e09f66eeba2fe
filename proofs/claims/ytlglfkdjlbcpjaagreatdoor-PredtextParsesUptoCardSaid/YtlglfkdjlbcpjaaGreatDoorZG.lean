/- Joined texts. Linear forms as text; the walk of the reference. The statements PredtextTexts, PredtextParses and PredtextReads: their functions give true. The statement PredtextForms; what comes in of the statements PredtextTexts, PredtextForms, PredtextParses and PredtextReads. No condition. -/
import Derived.Test.YtlglfkdjlbcpjaaGreatDoorZE
import Derived.Test.YtlglfkdjlbcpjaaGreatDoorZZ
import Derived.Test.YtlglfkdjlbcpjaaGreatDoorZX
section
set_option linter.unusedVariables false
set_option linter.unusedSimpArgs false
set_option linter.unusedSectionVars false
namespace Go.Proofs.YtlglfkdjlbcpjaaGreatDoor
open Go Go.VM Go.RowKit
set_option maxRecDepth 100000
set_option maxHeartbeats 8000000
variable {G : GT}
theorem ent_r8_magnitude : VM.Enters Tryz.prog 39 := VM.Enters.mk Tryz.func39 rfl
theorem r8_magnitude_cs (n : Int) (h : I64 n) : CS Tryz.prog G 39 [.int .i64 n] (.d (.str (magT n))) none := by
  have hI := r8_number_cs (G := G) n h
  refine CS.of_VK Tryz.func39 rfl Tryz.ntmps39 rfl ?_
  simp
  refine callK.mk ent_r8_number hI ?_
  by_cases hn : n < 0
  · have hi : Lib.itoa n = 45 :: magT n := by unfold Lib.itoa magT; rw [if_pos hn]
    rw [hi]
    have h0 : (1 : Int) ≤ (magT n).length + 1 := by omega
    simp [hn, h0]
  · have hi : Lib.itoa n = magT n := by unfold Lib.itoa magT; rw [if_neg hn, show n.toNat = n.natAbs by omega]
    rw [hi]
    simp [hn]
theorem ent_r8_join : VM.Enters Tryz.prog 38 := VM.Enters.mk Tryz.func38 rfl
theorem r8_join_cs (n : Int) (f : Bool) : CS Tryz.prog G 38 [.int .i64 n, .bool f] (.d (.str (joinT n f))) none := by
  refine CS.of_VK Tryz.func38 rfl Tryz.ntmps38 rfl ?_
  by_cases hn : n < 0
  · cases f <;> simp [joinT, hn]
  · cases f <;> simp [joinT, hn]
theorem ent_r8_Lin : VM.Enters Tryz.prog 14 := VM.Enters.mk Tryz.func14 rfl
theorem r8_Lin_cs (cs : List (List UInt8 × Int)) (k : Int) (hc : okCs cs) (hk : I64 k) : CS Tryz.prog G 14 [.agg (liD cs k)] (.d (.str (linT cs k))) none := by
  obtain ⟨hl, hcs⟩ := hc
  have hlin := linGo_len cs true hcs
  obtain ⟨T, hT⟩ : ∃ T, linGo cs true = T := ⟨_, rfl⟩
  rw [hT] at hlin
  have hTl : T.length ≤ 11000000 := by omega
  refine CS.of_VK Tryz.func14 rfl Tryz.ntmps14 rfl ?_
  simp
  refine SW.loopF (ι := { x : Nat × List UInt8 // x.1 ≤ cs.length ∧ x.2 ++ linGo (cs.drop x.1) (decide (x.1 = 0)) = T }) (fun x => [(3, .d (.str x.1.2)), (4, .d (.int .i64 x.1.1))]) (fun x => [(1, .cells [.d (.sl (cs.map coC)), .d (.int .i64 k)])]) (fun _ => []) (fun x => cs.length - x.1.1) ⟨(0, []), by simp [hT]⟩ (by simp) ?_
  rintro ⟨⟨i, buf⟩, hi, hR⟩
  simp only at hi hR
  have hbl : buf.length ≤ 11000000 := by
    rw [← hR, List.length_append] at hTl
    omega
  by_cases hlt : i < cs.length
  · obtain ⟨⟨nm, z⟩, hce⟩ : ∃ c, cs[i] = c := ⟨_, rfl⟩
    obtain ⟨h1, h2⟩ := hcs cs[i] (List.getElem_mem hlt)
    rw [linGo_step hlt, hce] at hR
    rw [hce] at h1 h2
    simp only at h1 h2 hR
    have hw := wrap64s (show i < 9223372036854775807 by omega)
    have hct := coefT_len (nm := nm) h2
    have hml := magT_len h2
    have hjl := joinT_len z (decide (i = 0))
    have hj := r8_join_cs (G := G) z (decide (i = 0))
    have hm := r8_magnitude_cs (G := G) z h2
    have hR2 : (buf ++ (joinT z (decide (i = 0)) ++ coefT z nm)) ++ linGo (cs.drop (i + 1)) (decide (i + 1 = 0)) = T := by
      rw [← hR]
      simp
    by_cases hone : z = 1 ∨ z = -1
    · have e : coefT z nm = nm := by unfold coefT; rw [if_pos hone]
      rw [e] at hR2
      simp [hlt, hce, coC]
      refine callK.mk ent_r8_join hj ?_
      simp
      repeat (refine stepK_len (by first | omega | (simp; omega)) ?_; simp)
      rcases hone with rfl | rfl
      · simp [hlt, hce, coC]
        repeat (refine stepK_len (by first | omega | (simp; omega)) ?_; simp)
        exact Again.mk ⟨(i + 1, _), hlt, hR2⟩ (by simp [hw]) (by simp; omega)
      · simp [hlt, hce, coC]
        repeat (refine stepK_len (by first | omega | (simp; omega)) ?_; simp)
        exact Again.mk ⟨(i + 1, _), hlt, hR2⟩ (by simp [hw]) (by simp; omega)
    · have n1 : ¬ z = 1 := fun e => hone (.inl e)
      have n2 : ¬ z = -1 := fun e => hone (.inr e)
      have e : coefT z nm = magT z ++ ([32, 42, 32] ++ nm) := by unfold coefT; rw [if_neg hone]
      rw [e] at hR2
      simp [hlt, hce, coC]
      refine callK.mk ent_r8_join hj ?_
      simp
      repeat (refine stepK_len (by first | omega | (simp; omega)) ?_; simp)
      simp [hlt, hce, coC, n1, n2]
      refine callK.mk ent_r8_magnitude hm ?_
      simp
      repeat (refine stepK_len (by first | omega | (simp; omega)) ?_; simp [hlt, hce, coC])
      exact Again.mk ⟨(i + 1, _), hlt, hR2⟩ (by simp [hw]) (by simp; omega)
  · have hie : i = cs.length := by omega
    subst hie
    rw [List.drop_length, linGo, List.append_nil] at hR
    subst hR
    have hkl := magT_len hk
    have hjl := joinT_len k (decide (cs = []))
    have hN : joinT k cs.isEmpty = joinT k (decide (cs = [])) := by cases cs <;> rfl
    have hmg := r8_magnitude_cs (G := G) k hk
    have hj := r8_join_cs (G := G) k (decide (cs = []))
    unfold linT
    rw [hT, hN]
    by_cases hz : k ≠ 0 ∨ cs = []
    · rw [if_pos hz]
      by_cases hk0 : k = 0
      · have hc0 : cs = [] := hz.resolve_left (fun h => h hk0)
        subst hc0 hk0
        simp
        refine ⟨lexOk.mk (by kernel_rfl), ?_⟩
        try simp
        refine callK.mk ent_r8_join hj ?_
        simp at hjl ⊢
        repeat (refine stepK_len (by first | omega | (simp; omega)) ?_; simp)
        refine callK.mk ent_r8_magnitude hmg ?_
        simp
        repeat (refine stepK_len (by first | omega | (simp; omega)) ?_; simp)
      · by_cases hc0 : cs = []
        · simp [hk0, hc0] at hj hjl ⊢
          refine ⟨lexOk.mk (by kernel_rfl), ?_⟩
          try simp [hc0]
          refine callK.mk ent_r8_join hj ?_
          simp
          repeat (refine stepK_len (by first | omega | (simp; omega)) ?_; simp)
          refine callK.mk ent_r8_magnitude hmg ?_
          simp
          repeat (refine stepK_len (by first | omega | (simp; omega)) ?_; simp)
        · simp [hk0, hc0] at hj hjl ⊢
          refine ⟨lexOk.mk (by kernel_rfl), ?_⟩
          try simp [hc0]
          refine callK.mk ent_r8_join hj ?_
          simp
          repeat (refine stepK_len (by first | omega | (simp; omega)) ?_; simp)
          refine callK.mk ent_r8_magnitude hmg ?_
          simp
          repeat (refine stepK_len (by first | omega | (simp; omega)) ?_; simp)
    · rw [if_neg hz]
      have hk0 : k = 0 := Classical.byContradiction fun h => hz (.inl h)
      have hc0 : ¬ cs = [] := fun h => hz (.inr h)
      simp [hk0, hc0]
end Go.Proofs.YtlglfkdjlbcpjaaGreatDoor
end

section
set_option linter.unusedVariables false
set_option linter.unusedSimpArgs false
set_option linter.unusedSectionVars false
namespace Go.Proofs.YtlglfkdjlbcpjaaGreatDoor
open Go Go.VM
set_option maxRecDepth 100000
set_option maxHeartbeats 8000000
variable {G : GT}
theorem ent_l8_PredtextParses : VM.Enters Tryz.prog 5 := VM.Enters.mk Tryz.func5 rfl
theorem l8_PredtextParses_cs (s : List UInt8) (hs : s.length ≤ 100000000) : CS Tryz.prog G0 5 [.str s] (.d (.bool true)) none := by
  obtain ⟨q, e, hq, hn⟩ := parse_form s
  have h1 := predtext_Parse_cs (G := G0) G0_kw G0_sg s (by omega)
  have h2 := r8_Parse_cs (G := G0) s (by omega)
  have h3 := r7_Same_cs (G := G0) q q (by omega)
  rw [hq] at h1 h2
  rw [samP_refl] at h3
  refine CS.of_VK Tryz.func5 rfl Tryz.ntmps5 rfl ?_
  by_cases hlong : 2000 < s.length
  · have e1 : (2000 : Int) < s.length := by omega
    simp [e1]
    refine callK.mk ent_l8_awake l8_awake_cs ?_
    simp
  · have e1 : ¬ (2000 : Int) < s.length := by omega
    simp [e1]
    refine callK.mk ent_predtext_Parse h1 ?_
    simp
    refine callK.mk ent_r8_Parse h2 ?_
    simp
    refine callK.mk ent_r7_Same h3 ?_
    simp
    refine callK.mk ent_l8_awake l8_awake_cs ?_
    simp
theorem txS_bound : ∀ l : List Tok, (∀ t ∈ l, t.text.length ≤ 100) → txS l ≤ 101 * l.length
  | [], _ => by simp [txS]
  | t :: l, h => by
    have h1 := h t (.head _)
    have h2 := txS_bound l fun x hx => h x (.tail _ hx)
    simp only [txS, List.length_cons]
    omega
theorem ent_l8_PredtextReads : VM.Enters Tryz.prog 6 := VM.Enters.mk Tryz.func6 rfl
theorem l8_PredtextReads_cs (l : List Tok) (hl : l.length ≤ 100000000) : CS Tryz.prog G0 6 [.sl (l.map tokE)] (.d (.bool true)) none := by
  refine CS.of_VK Tryz.func6 rfl Tryz.ntmps6 rfl ?_
  simp
  refine SW.loopF (ι := { i : Nat // i ≤ l.length ∧ i ≤ 300 ∧ ∀ t ∈ l.take i, t.text.length ≤ 100 }) (fun i => [(3, .d (.int .i64 i.1))]) (fun _ => []) (fun _ => []) (fun i => l.length - i.1) ⟨0, by simp⟩ (by simp) ?_
  rintro ⟨i, hi, h300, hall⟩
  by_cases hlt : i < l.length
  · have hw := wrap64s (show i < 9223372036854775807 by omega)
    obtain ⟨t, ht⟩ : ∃ t, l[i] = t := ⟨_, rfl⟩
    by_cases hge : 300 ≤ i
    · have hge' : (300 : Int) ≤ i := by omega
      simp [hlt, hge, hge']
      refine callK.mk ent_l8_awake l8_awake_cs ?_
      simp
    · have hge' : ¬ (300 : Int) ≤ i := by omega
      by_cases hlong : 100 < t.text.length
      · have hl' : (100 : Int) < t.text.length := by omega
        simp [hlt, hge, hge', ht, tokE, hlong, hl']
        refine callK.mk ent_l8_awake l8_awake_cs ?_
        simp
      · have hl' : ¬ (100 : Int) < t.text.length := by omega
        simp [hlt, hge, hge', ht, tokE, hlong, hl']
        refine Again.mk ⟨i + 1, hlt, by omega, fun x hx => ?_⟩ (by simp [hw]) (by simp; omega)
        rw [List.take_succ_eq_append_getElem hlt, List.mem_append] at hx
        rcases hx with hx | hx
        · exact hall x hx
        · rw [List.mem_singleton, ht] at hx
          subst hx
          omega
  · have hie : i = l.length := by omega
    subst hie
    rw [List.take_length] at hall
    have hok : okTs l := ⟨by omega, by have := txS_bound l hall; omega⟩
    obtain ⟨q, n, e, hq, hn⟩ := read_form hok
    have hnod : ∀ p n, readT l = some (p, n) → nodP p ≤ 1000000 := fun p n h => Nat.le_trans (readT_nod h) (by omega)
    have h1 := predtext_Read_cs (G := G0) G0_kw l hok hnod
    have h2 := r8_Read_cs (G := G0) l hok hnod
    have h3 := r7_Same_cs (G := G0) q q (by omega)
    rw [hq] at h1 h2
    rw [samP_refl] at h3
    simp
    refine callK.mk ent_predtext_Read h1 ?_
    simp
    refine callK.mk ent_r8_Read h2 ?_
    simp
    refine callK.mk ent_r7_Same h3 ?_
    simp
    refine callK.mk ent_l8_awake l8_awake_cs ?_
    simp
theorem ent_l8_PredtextTexts : VM.Enters Tryz.prog 3 := VM.Enters.mk Tryz.func3 rfl
theorem l8_PredtextTexts_cs (p : Pr) (hw : wgP p ≤ 100000000) (hn : nodP p ≤ 1000000) : CS Tryz.prog G0 3 [.agg (prD p)] (.d (.bool true)) none := by
  have h0 := l8_size_cs (G := G0) p 2000 hw (by omega) (by omega)
  have h1 := predtext_Text_cs (G := G0) G0_kw G0_pw p hn
  have h2 := r8_Text_cs (G := G0) p hn
  obtain ⟨t, e, ht⟩ : ∃ t e, txtR p = .tup [.str t, .int .i64 e] := by
    unfold txtR
    split
    · exact ⟨_, _, rfl⟩
    · exact ⟨_, _, rfl⟩
  rw [ht] at h1 h2
  refine CS.of_VK Tryz.func3 rfl Tryz.ntmps3 rfl ?_
  simp
  refine callK.mk ent_l8_size h0 ?_
  by_cases hz : 2000 < szP p 2000
  · simp [hz]
    refine callK.mk ent_l8_awake l8_awake_cs ?_
    simp
  · simp [hz]
    refine callK.mk ent_predtext_Text h1 ?_
    simp
    refine callK.mk ent_r8_Text h2 ?_
    simp
    refine callK.mk ent_l8_awake l8_awake_cs ?_
    simp
end Go.Proofs.YtlglfkdjlbcpjaaGreatDoor
end

section
set_option linter.unusedVariables false
set_option linter.unusedSimpArgs false
set_option linter.unusedSectionVars false
namespace Go.Proofs.YtlglfkdjlbcpjaaGreatDoor
open Go Go.VM
set_option maxRecDepth 100000
set_option maxHeartbeats 8000000
theorem ent_l8_PredtextForms : VM.Enters Tryz.prog 4 := VM.Enters.mk Tryz.func4 rfl
theorem l8_PredtextForms_cs (cs : List (List UInt8 × Int)) (k : Int) (hl : cs.length ≤ 100000000) (hI : ∀ c ∈ cs, I64 c.2) (hk : I64 k) : CS Tryz.prog G0 4 [.agg (liD cs k)] (.d (.bool true)) none := by
  refine CS.of_VK Tryz.func4 rfl Tryz.ntmps4 rfl ?_
  simp
  refine SW.loopF (ι := { i : Nat // i ≤ cs.length ∧ i ≤ 40 ∧ ∀ c ∈ cs.take i, c.1.length ≤ 100 }) (fun i => [(3, .d (.int .i64 i.1))]) (fun _ => [(1, .cells [.d (.sl (cs.map coC)), .d (.int .i64 k)])]) (fun _ => []) (fun i => cs.length - i.1) ⟨0, by simp⟩ (by simp) ?_
  rintro ⟨i, hi, h40, hall⟩
  by_cases hlt : i < cs.length
  · have hw := wrap64s (show i < 9223372036854775807 by omega)
    obtain ⟨c, hc⟩ : ∃ c, cs[i] = c := ⟨_, rfl⟩
    by_cases hge : 40 ≤ i
    · have hge' : (40 : Int) ≤ i := by omega
      simp [hlt, hge, hge']
      refine callK.mk ent_l8_awake l8_awake_cs ?_
      simp
    · have hge' : ¬ (40 : Int) ≤ i := by omega
      by_cases hlong : 100 < c.1.length
      · have hl' : (100 : Int) < c.1.length := by omega
        simp [hlt, hge, hge', hc, coC, hlong, hl']
        refine callK.mk ent_l8_awake l8_awake_cs ?_
        simp
      · have hl' : ¬ (100 : Int) < c.1.length := by omega
        simp [hlt, hge, hge', hc, coC, hlong, hl']
        refine Again.mk ⟨i + 1, hlt, by omega, fun x hx => ?_⟩ (by simp [hw]) (by simp; omega)
        rw [List.take_succ_eq_append_getElem hlt, List.mem_append] at hx
        rcases hx with hx | hx
        · exact hall x hx
        · rw [List.mem_singleton, hc] at hx
          subst hx
          omega
  · have hie : i = cs.length := by omega
    subst hie
    rw [List.take_length] at hall
    have hok : okCs cs := ⟨by omega, fun c hc => ⟨by have := hall c hc; omega, hI c hc⟩⟩
    have h1 := predtext_Lin_cs (G := G0) G0_pw cs k hok hk
    have h2 := r8_Lin_cs (G := G0) cs k hok hk
    simp
    refine ⟨lexOk.mk (by kernel_rfl), ?_⟩
    try simp
    refine callK.mk ent_predtext_Lin h1 ?_
    simp
    refine callK.mk ent_r8_Lin h2 ?_
    simp
    refine callK.mk ent_l8_awake l8_awake_cs ?_
    simp
theorem predtextTexts_all (xs : List D) (h : FitsAll Tryz.prog [25] xs) (hsz : szL xs ≤ 1048576) : CS Tryz.prog G0 3 xs (.d (.bool true)) none := by
  match xs, h with
  | [a], ⟨h1, _⟩ =>
    obtain ⟨p, rfl⟩ := fitV_pr h1
    simp only [szL, szD] at hsz
    have e1 := wgP_sz p
    have e2 := nod4_sz p
    have := l8_PredtextTexts_cs p (by omega) (by omega)
    rw [prC_eq]
    exact this
theorem predtextParses_all (xs : List D) (h : FitsAll Tryz.prog [9] xs) (hsz : szL xs ≤ 1048576) : CS Tryz.prog G0 5 xs (.d (.bool true)) none := by
  match xs, h with
  | [a], ⟨h1, _⟩ =>
    obtain ⟨s, rfl, _⟩ := fitsV_str tu9 h1
    simp only [szL, szD] at hsz
    exact l8_PredtextParses_cs s (by omega)
theorem predtextReads_all (xs : List D) (h : FitsAll Tryz.prog [43] xs) (hsz : szL xs ≤ 1048576) : CS Tryz.prog G0 6 xs (.d (.bool true)) none := by
  match xs, h with
  | [a], ⟨h1, _⟩ =>
    obtain ⟨l, rfl⟩ := fitV_toks h1
    simp only [szL, szD] at hsz
    have := map_sz (f := tokE) (fun t => by simp only [tokE, szL, szD]; omega) l
    exact l8_PredtextReads_cs l (by omega)
theorem fits_co {ds : List D} (h : FitsT Tryz.prog 36 ds) : ∃ c : { c : List UInt8 × Int // I64 c.2 }, ds = coC c.1 := by
  obtain ⟨x0, x1, rfl, h0, h1⟩ := inv36 h
  obtain ⟨s, e0, _⟩ := fits_str tu9 h0
  obtain ⟨n, e1, hn⟩ := fits_int tu3 h1
  cases e0; cases e1
  exact ⟨⟨(s, n), wf_I64 hn⟩, rfl⟩
theorem predtextForms_all (xs : List D) (h : FitsAll Tryz.prog [34] xs) (hsz : szL xs ≤ 1048576) : CS Tryz.prog G0 4 xs (.d (.bool true)) none := by
  match xs, h with
  | [a], ⟨h1, _⟩ =>
    obtain ⟨ds, rfl, hb⟩ := fitsV_agg ty_field34_0 h1
    obtain ⟨x0, x1, rfl, q0, q1⟩ := inv34 hb
    obtain ⟨es, e0, _, hes⟩ := fits_sl ty_elem32 q0
    obtain ⟨k, e1, hk⟩ := fits_int tu3 q1
    cases e0; cases e1
    obtain ⟨l, rfl⟩ := ex_map (f := fun c : { c : List UInt8 × Int // I64 c.2 } => coC c.1) fun x hx => fits_co (hes x hx)
    simp only [szL, szD, List.singleton_append] at hsz
    have e := map_sz (f := fun c : { c : List UInt8 × Int // I64 c.2 } => coC c.1) (fun t => by simp only [coC, szL, szD]; omega) l
    have hm : l.map (fun c : { c : List UInt8 × Int // I64 c.2 } => coC c.1) = (l.map (·.1)).map coC := by simp
    have := l8_PredtextForms_cs (l.map (·.1)) k (by simp only [List.length_map]; omega) (fun c hc => by
      obtain ⟨x, _, rfl⟩ := List.mem_map.1 hc
      exact x.2) (wf_I64 hk)
    rw [hm]
    exact this
end Go.Proofs.YtlglfkdjlbcpjaaGreatDoor
end
