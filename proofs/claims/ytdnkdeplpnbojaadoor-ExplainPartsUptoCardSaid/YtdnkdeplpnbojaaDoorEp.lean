/- Failures in words. No condition. -/
import Derived.Test.YtdnkdeplpnbojaaDoorEo
set_option linter.unusedVariables false
set_option linter.unusedSimpArgs false
set_option linter.unusedSectionVars false
namespace Go.Proofs.YtdnkdeplpnbojaaDoor
open Go Go.VM
set_option maxRecDepth 100000
set_option maxHeartbeats 8000000
variable {G : GT}
theorem errW_len {e : Int} (h : I64 e) : (errW e).length ≤ 40 := by
  have hit := Lib.itoa_length_le e h.1 h.2
  by_cases hr : 0 ≤ e ∧ e < 29
  · obtain ⟨i, rfl⟩ : ∃ i : Nat, e = i := ⟨e.toNat, by omega⟩
    have hl : i < wordsL.length := by have := wordsL_len; omega
    rw [errW_in hl]
    have hall : ∀ w ∈ wordsL, w.length ≤ 40 := by decide
    exact hall _ (List.getElem_mem hl)
  · rw [errW_out hr]
    simp
    omega
def headW (f : FL) : List UInt8 := f.df ++ (58 :: 32 :: (errW f.err ++ (58 :: 32 :: goalW f.gk f.gd f.gn f.gp)))
def failW (f : FL) : List UInt8 := headW f ++ ((if 0 < f.pt.length then 44 :: 32 :: 105 :: 102 :: 32 :: ptW f.pt else []) ++
  (if f.real = true then [44, 32, 99, 111, 110, 102, 105, 114, 109, 101, 100, 32, 98, 121, 32] ++ (f.df ++ (40 :: (Lib.join (valsW f.args) [44, 32] ++ [41]))) else []))
theorem ent_e_Failure : VM.Enters Tryd.prog 43 := VM.Enters.mk Tryd.func43 rfl
theorem e_Failure_cs (hW : G 0 = some wordCells) (hP : G 1 = some powCells) (f : FL) (he : I64 f.err) (hI : ∀ c ∈ f.pt, I64 c.2) (hk : valsI f.args) (hx : szL (flC f) ≤ 1048576) : CS Tryd.prog G 43 [.agg (flC f)] (.d (.str (failW f))) none := by
  obtain ⟨df, err, gk, gd, gn, gp, pt, args, real⟩ := f
  simp only [flC, szL, szD] at hx
  simp only at he hI hk
  have b1 := errW_len he
  have b2 := goalW_len gk gd gn (xs := gp) (by omega)
  obtain ⟨b3, b4⟩ := ptW_small hI (by omega)
  obtain ⟨b5, b6, b7⟩ := valsW_small hk (by omega)
  unfold flC
  refine CS.of_VK Tryd.func43 rfl Tryd.ntmps43 rfl ?_
  simp
  refine ⟨lexOk.mk (by kernel_rfl), ?_⟩
  repeat (refine stepK_len (by omega) ?_; simp)
  refine callK.mk ent_e_Err (e_Err_cs hW hP err he) ?_
  simp
  repeat (refine stepK_len (by omega) ?_; simp)
  refine callK.mk ent_e_Goal (e_Goal_cs gk gd gn gp (by omega) (by omega) (by omega)) ?_
  simp
  repeat (refine stepK_len (by omega) ?_; simp)
  cases real
  · by_cases hp : 0 < pt.length
    · simp [hp]
      refine callK.mk ent_e_Point (e_Point_cs hP pt hI (by omega)) ?_
      simp
      repeat (refine stepK_len (by omega) ?_; simp [failW, headW, hp])
    · simp [hp, failW, headW]
  · by_cases hp : 0 < pt.length
    · simp [hp]
      refine callK.mk ent_e_Point (e_Point_cs hP pt hI (by omega)) ?_
      simp
      repeat (refine stepK_len (by omega) ?_; simp)
      refine SW.loopF (ι := { i : Nat // i ≤ args.length }) (fun i => [(4, .d (.sl (strs (valsW (args.take i.1))))), (34, .d (.int .i64 i.1))]) (fun _ => [(1, .cells [.str df, .int .i64 err, .int .i64 gk, .str gd, .str gn, .sl (strs gp), .sl (coordsC pt), .sl (valsC args), .bool true])]) (fun _ => [(9, [.t 4])]) (fun i => args.length - i.1) ⟨0, by simp⟩ (by simp [valsW, strs]) ?_
      rintro ⟨i, hi⟩
      by_cases hlt : i < args.length
      · have hg := vals_get hlt
        have hw := wrap64s (show i < 9223372036854775807 by omega)
        have hq := valsW_step hlt
        have hsz := vals_sz hlt
        have hpl : (valsW (args.take i)).length ≤ args.length := by rw [valsW_eq]; simp; omega
        have hki := valsI_mem hk args[i] (List.getElem_mem hlt)
        have ih := value_Text_cs hP 1048576 args[i] hki (by omega) (by omega)
        obtain ⟨x0, x1, x2, x3, x4, x5, x6, hee⟩ : ∃ x0 x1 x2 x3 x4 x5 x6, valC args[i] = [x0, x1, x2, x3, x4, x5, x6] := by
          cases args[i]
          exact ⟨_, _, _, _, _, _, _, by simp only [valC]; rfl⟩
        rw [hee] at hg ih
        simp [hlt, hg, hee]
        refine callK.mk ent_value_Text ih ?_
        simp
        repeat (refine stepK_len (by omega) ?_; simp)
        exact Again.mk ⟨i + 1, hlt⟩ (by simp [hw, hq]) (by simp; omega)
      · have : i = args.length := by omega
        subst this
        simp
        refine ⟨lexOk.mk (by kernel_rfl), ?_⟩
        repeat (refine stepK_len (by omega) ?_; simp)
        refine callK.mk ent_Join (Join_cs (by omega) (by omega)) ?_
        simp
        repeat (refine stepK_len (by omega) ?_; simp [failW, headW, hp])
    · simp [hp]
      refine SW.loopF (ι := { i : Nat // i ≤ args.length }) (fun i => [(4, .d (.sl (strs (valsW (args.take i.1))))), (34, .d (.int .i64 i.1))]) (fun _ => [(1, .cells [.str df, .int .i64 err, .int .i64 gk, .str gd, .str gn, .sl (strs gp), .sl (coordsC pt), .sl (valsC args), .bool true])]) (fun _ => [(9, [.t 4])]) (fun i => args.length - i.1) ⟨0, by simp⟩ (by simp [valsW, strs]) ?_
      rintro ⟨i, hi⟩
      by_cases hlt : i < args.length
      · have hg := vals_get hlt
        have hw := wrap64s (show i < 9223372036854775807 by omega)
        have hq := valsW_step hlt
        have hsz := vals_sz hlt
        have hpl : (valsW (args.take i)).length ≤ args.length := by rw [valsW_eq]; simp; omega
        have hki := valsI_mem hk args[i] (List.getElem_mem hlt)
        have ih := value_Text_cs hP 1048576 args[i] hki (by omega) (by omega)
        obtain ⟨x0, x1, x2, x3, x4, x5, x6, hee⟩ : ∃ x0 x1 x2 x3 x4 x5 x6, valC args[i] = [x0, x1, x2, x3, x4, x5, x6] := by
          cases args[i]
          exact ⟨_, _, _, _, _, _, _, by simp only [valC]; rfl⟩
        rw [hee] at hg ih
        simp [hlt, hg, hee]
        refine callK.mk ent_value_Text ih ?_
        simp
        repeat (refine stepK_len (by omega) ?_; simp)
        exact Again.mk ⟨i + 1, hlt⟩ (by simp [hw, hq]) (by simp; omega)
      · have : i = args.length := by omega
        subst this
        simp
        refine ⟨lexOk.mk (by kernel_rfl), ?_⟩
        repeat (refine stepK_len (by omega) ?_; simp)
        refine callK.mk ent_Join (Join_cs (by omega) (by omega)) ?_
        simp
        repeat (refine stepK_len (by omega) ?_; simp [failW, headW, hp])
theorem ent_r53_Failure : VM.Enters Tryd.prog 44 := VM.Enters.mk Tryd.func44 rfl
theorem r53_Failure_cs (hP : G 1 = some powCells) (f : FL) (he : I64 f.err) (hI : ∀ c ∈ f.pt, I64 c.2) (hk : valsI f.args) (hx : szL (flC f) ≤ 1048576) : CS Tryd.prog G 44 [.agg (flC f)] (.d (.str (failW f))) none := by
  obtain ⟨df, err, gk, gd, gn, gp, pt, args, real⟩ := f
  simp only [flC, szL, szD] at hx
  simp only at he hI hk
  have b1 := errW_len he
  have b2 := goalW_len gk gd gn (xs := gp) (by omega)
  obtain ⟨b3, b4⟩ := ptW_small hI (by omega)
  obtain ⟨b5, b6, b7⟩ := valsW_small hk (by omega)
  unfold flC
  refine CS.of_VK Tryd.func44 rfl Tryd.ntmps44 rfl ?_
  simp
  refine ⟨lexOk.mk (by kernel_rfl), ?_⟩
  repeat (refine stepK_len (by omega) ?_; simp)
  refine callK.mk ent_r53_Err (r53_Err_cs err he) ?_
  simp
  repeat (refine stepK_len (by omega) ?_; simp)
  refine callK.mk ent_r53_Goal (r53_Goal_cs gk gd gn gp (by omega) (by omega) (by omega)) ?_
  simp
  repeat (refine stepK_len (by omega) ?_; simp)
  cases real
  · by_cases hp : 0 < pt.length
    · simp [hp]
      refine callK.mk ent_r53_Point (r53_Point_cs hP pt hI (by omega)) ?_
      simp
      repeat (refine stepK_len (by omega) ?_; simp [failW, headW, hp])
    · simp [hp, failW, headW]
  · by_cases hp : 0 < pt.length
    · simp [hp]
      refine callK.mk ent_r53_Point (r53_Point_cs hP pt hI (by omega)) ?_
      simp
      repeat (refine stepK_len (by omega) ?_; simp)
      refine SW.loopF (ι := { i : Nat // i ≤ args.length }) (fun i => [(4, .d (.sl (strs (valsW (args.take i.1))))), (34, .d (.int .i64 i.1))]) (fun _ => [(1, .cells [.str df, .int .i64 err, .int .i64 gk, .str gd, .str gn, .sl (strs gp), .sl (coordsC pt), .sl (valsC args), .bool true])]) (fun _ => [(9, [.t 4])]) (fun i => args.length - i.1) ⟨0, by simp⟩ (by simp [valsW, strs]) ?_
      rintro ⟨i, hi⟩
      by_cases hlt : i < args.length
      · have hg := vals_get hlt
        have hw := wrap64s (show i < 9223372036854775807 by omega)
        have hq := valsW_step hlt
        have hsz := vals_sz hlt
        have hpl : (valsW (args.take i)).length ≤ args.length := by rw [valsW_eq]; simp; omega
        have hki := valsI_mem hk args[i] (List.getElem_mem hlt)
        have ih := r29_Text_cs (G := G) 1048576 args[i] hki (by omega) (by omega)
        obtain ⟨x0, x1, x2, x3, x4, x5, x6, hee⟩ : ∃ x0 x1 x2 x3 x4 x5 x6, valC args[i] = [x0, x1, x2, x3, x4, x5, x6] := by
          cases args[i]
          exact ⟨_, _, _, _, _, _, _, by simp only [valC]; rfl⟩
        rw [hee] at hg ih
        simp [hlt, hg, hee]
        refine callK.mk ent_r29_Text ih ?_
        simp
        repeat (refine stepK_len (by omega) ?_; simp)
        exact Again.mk ⟨i + 1, hlt⟩ (by simp [hw, hq]) (by simp; omega)
      · have : i = args.length := by omega
        subst this
        simp
        refine ⟨lexOk.mk (by kernel_rfl), ?_⟩
        repeat (refine stepK_len (by omega) ?_; simp)
        refine callK.mk ent_r53_joined (r53_joined_cs _ _ (by omega) (by omega)) ?_
        simp
        repeat (refine stepK_len (by omega) ?_; simp [failW, headW, hp])
    · simp [hp]
      refine SW.loopF (ι := { i : Nat // i ≤ args.length }) (fun i => [(4, .d (.sl (strs (valsW (args.take i.1))))), (34, .d (.int .i64 i.1))]) (fun _ => [(1, .cells [.str df, .int .i64 err, .int .i64 gk, .str gd, .str gn, .sl (strs gp), .sl (coordsC pt), .sl (valsC args), .bool true])]) (fun _ => [(9, [.t 4])]) (fun i => args.length - i.1) ⟨0, by simp⟩ (by simp [valsW, strs]) ?_
      rintro ⟨i, hi⟩
      by_cases hlt : i < args.length
      · have hg := vals_get hlt
        have hw := wrap64s (show i < 9223372036854775807 by omega)
        have hq := valsW_step hlt
        have hsz := vals_sz hlt
        have hpl : (valsW (args.take i)).length ≤ args.length := by rw [valsW_eq]; simp; omega
        have hki := valsI_mem hk args[i] (List.getElem_mem hlt)
        have ih := r29_Text_cs (G := G) 1048576 args[i] hki (by omega) (by omega)
        obtain ⟨x0, x1, x2, x3, x4, x5, x6, hee⟩ : ∃ x0 x1 x2 x3 x4 x5 x6, valC args[i] = [x0, x1, x2, x3, x4, x5, x6] := by
          cases args[i]
          exact ⟨_, _, _, _, _, _, _, by simp only [valC]; rfl⟩
        rw [hee] at hg ih
        simp [hlt, hg, hee]
        refine callK.mk ent_r29_Text ih ?_
        simp
        repeat (refine stepK_len (by omega) ?_; simp)
        exact Again.mk ⟨i + 1, hlt⟩ (by simp [hw, hq]) (by simp; omega)
      · have : i = args.length := by omega
        subst this
        simp
        refine ⟨lexOk.mk (by kernel_rfl), ?_⟩
        repeat (refine stepK_len (by omega) ?_; simp)
        refine callK.mk ent_r53_joined (r53_joined_cs _ _ (by omega) (by omega)) ?_
        simp
        repeat (refine stepK_len (by omega) ?_; simp [failW, headW, hp])
end Go.Proofs.YtdnkdeplpnbojaaDoor
