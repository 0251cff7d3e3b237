/- Texts of the own layer and contracts, part 9: L43. -/
import Derived.Test.YtbeekabpflaihaaGreatM8
namespace Go.Proofs.YtbeekabpflaihaaGreat
open Go.Abs
set_option linter.unusedSectionVars false
set_option linter.unusedVariables false
set_option linter.unusedSimpArgs false
set_option maxHeartbeats 4000000
theorem DrS.small3 {z : Int} {f : List (List Mon)} (h : DrS z f) : Small f := ⟨by have := h.2.2.1; omega, fun p hp => ⟨by have := (h.2.2.2 p hp).1; omega, fun q hq => by have := (h.2.2.2 p hp).2 q hq; omega⟩⟩
set_option maxRecDepth 100000 in
theorem FnExplicitSteps_c (c : List Int) (hl : c.length ≤ 9223372036854775807) (hb : ∀ x ∈ c, 0 ≤ x ∧ x ≤ 255) : Con Tryz.prog 4 [.sl c.length (bys c)] (.bool true) := by
  have cB := big_c c hl
  by_cases hc4 : 4096 < c.length
  · refine con_of_vc Tryz.mixed ⟨30, [20], [1000000 + 25, 2000000 + 19, 2000000 + 24], []⟩ Tryz.func4 (by decide) rfl (by simp) (by decide) (by simp [freshOK, freshL, go_sem]) ?_
    rw [Tryz.ntmps4]
    simp [go_sem]
    refine CallVC.of (cB) (by decide) ?_
    simp [go_sem]
    simp [go_sem, hc4]
  · have hc : Byt c := ⟨by omega, hb⟩
    have cD := DrawExplicitStep_f c hc
    have cR := roll_r c 614 hc
    refine con_of_vc Tryz.mixed ⟨30, [20], [1000000 + 25, 2000000 + 19, 2000000 + 24], []⟩ Tryz.func4 (by decide) rfl (by simp) (by decide) (by simp [freshOK, freshL, go_sem]) ?_
    rw [Tryz.ntmps4]
    simp [go_sem]
    refine CallVC.of (cB) (by decide) ?_
    simp [go_sem]
    simp [go_sem, hc4]
    refine ⟨_, cD, ?_⟩
    rintro _ _ ⟨rfl, A, B, z, f, y, h, hz, hD, hy, rfl⟩
    obtain ⟨z1, z2, z3⟩ := hz
    have hS := hD.small3
    have c1 := ExplicitStep_c A B z f y h (by omega) (by omega) (fun r h => by have := z3 r h; omega) hS (by omega)
    have c2 := specExplicitStep_c A B z f y h (by omega) (by omega) (fun r h => by have := z3 r h; omega) hS (by omega)
    unfold rsR at c1 c2
    have xl : (rsX A B z f y h 1).length ≤ 4 := by
      unfold rsX; split
      · rw [itF_len]; omega
      · simp
    have cL := likeInts_c (rsX A B z f y h 1) (rsX A B z f y h 1) (by omega)
    simp only [decide_true] at cL
    simp [go_sem]
    refine CallVC.of (c1) (by decide) ?_
    simp [go_sem]
    refine CallVC.of (c2) (by decide) ?_
    simp [go_sem]
    refine CallVC.of (cL) (by decide) ?_
    simp [go_sem]
    by_cases hE : rsE A B z f y h 1 = 0
    · obtain ⟨e1, e2, e3⟩ := rsE_ok hE
      obtain ⟨hT, hF, hyl, hN⟩ := stE_ok e1
      obtain ⟨m1, m2, m3, m4, m5, m6, m7⟩ := rs_more hE
      have f1 := hF.lo
      have f3 := hF.hi
      have fl := hF.len
      subst fl
      have hyl : y.length = f.length := by omega
      have i1 := itF_len A B f y h 1
      have i3 := itF_len A B f y h 3
      have c3 := RunSteps_c A B f.length f (itF A B f y h 1) h 2 (by omega) (by omega) (fun r h => by have := z3 r h; omega) hS (by omega)
      have c4 := RunSteps_c A B f.length f y h 3 (by omega) (by omega) (fun r h => by have := z3 r h; omega) hS (by omega)
      have c5 := RunSteps_c A B f.length f y h 0 (by omega) (by omega) (fun r h => by have := z3 r h; omega) hS (by omega)
      unfold rsR at c3 c4 c5
      rw [m1, m4] at c3
      rw [m2, m5] at c4
      rw [m3, m6] at c5
      rw [m7]
      have cL1 := likeInts_c (itF A B f y h 3) (itF A B f y h 3) (by omega)
      have cL2 := likeInts_c y y (by omega)
      simp only [decide_true] at cL1 cL2
      clear m1 m2 m3 m4 m5 m6 m7 c1 c2 cL xl
      generalize itF A B f y h 3 = y3 at *
      generalize itF A B f y h 1 = y1 at *
      simp [go_sem, hE]
      refine CallVC.of (c3) (by decide) ?_
      simp [go_sem]
      refine CallVC.of (c4) (by decide) ?_
      simp [go_sem]
      refine CallVC.of (c5) (by decide) ?_
      simp [go_sem]
      refine CallVC.of (cL1) (by decide) ?_
      simp [go_sem]
      refine CallVC.of (cL2) (by decide) ?_
      simp [go_sem]
      by_cases h6 : B.length ≤ 6
      · have h6i : ¬ (6 : Int) < B.length := by omega
        simp [go_sem, h6i]
        refine ⟨_, cR, ?_⟩
        rintro _ _ ⟨rfl, h', rfl⟩
        have s0 : SOk ((0, h') : Src) := by unfold SOk; simp
        unfold dicA
        simp [go_sem]
        refine loop_inv (17 :: 18 :: 19 :: List.range' 119 13) (fun x : List (List Int) × Src × Nat => [(17, .box 91 [.sl c.length (bys c), .int x.2.1.1, .val (.int .u64 x.2.1.2)]), (18, .own 22 x.2.2 (omat x.1)), (19, .int x.2.2)]) (fun x => SOk x.2.1 ∧ x.1.length = x.2.2 ∧ x.2.2 ≤ f.length ∧ Rws f.length x.1) (fun x => f.length - x.2.2) ([], (0, h'), 0) ⟨s0, rfl, Nat.zero_le _, fun r h => by simp at h⟩ (by simp [go_sem, omat_nil, dicA]) (by simp [go_sem]) ?_
        rintro ⟨mm, τ, i⟩ ⟨h1, h2, h3, h4⟩
        simp only at h1 h2 h3 h4
        by_cases hi : i < f.length
        · have hii : (i : Int) < f.length := by omega
          have cLs := list5_c c τ f.length hc h1 (by omega)
          have hL := lsV_ok (f := n5V c) (fun σ h => n5V_ok hc h) f.length τ h1
          unfold dicA at *
          generalize lsV (n5V c) f.length τ = u at *
          simp [go_sem, hii]
          refine ⟨_, _, cLs, ?_⟩
          simp [go_sem]
          refine ⟨⟨h2, by omega, by omega⟩, ⟨by omega, by omega⟩, mm ++ [u.1], u.2.1, u.2.2, i + 1, ⟨hL.2.2, by simp [h2], by omega, fun r h => ?_⟩, by omega, Off_reset _ _ _ (by simp), ?_⟩
          · rcases List.mem_append.1 h with h | h
            · exact h4 r h
            · simp at h; subst h; exact ⟨hL.1, hL.2.1⟩
          · exact ⟨⟨rfl, rfl⟩, ⟨rfl, by rw [omat_app, omat_one, hL.1]⟩, by omega⟩
        · have hii : ¬ (i : Int) < f.length := by omega
          have hif : i = f.length := by omega
          subst hif
          simp only at *
          have hr : Rws mm.length mm := by rw [h2]; exact h4
          have n1 : 1 ≤ mm.length := by omega
          have n3 : mm.length ≤ 3 := by omega
          have sS := linF_small n3 hr
          have fL := linF_fld n1 n3 hr
          have cLF := LinearField_c mm n1 n3 hr
          have c7 := ExplicitStep_c A B mm.length (linF mm) y h (by omega) (by omega) (fun r h => by have := z3 r h; omega) sS (by omega)
          have c8 := LinearStep_c A B mm y h (by omega) (fun r h => by have := z3 r h; omega) (by omega) (by omega) (fun r h => by have := (hr r h).1; omega) (by omega)
          have c9 := StepSeries_c A B mm.length (linF mm) y (by omega) (by omega) (fun r h => by have := z3 r h; omega) sS (by omega)
          have s1 : stE A B mm.length (linF mm) y = 0 := stE_mk (tabB_iff.2 hT) fL (by omega) hN
          have sx : ssX A B mm.length (linF mm) y = turnS (steS A B (linF mm) (poS y)) := by unfold ssX; rw [if_pos s1]
          have tS := ste_point (A := A) (B := B) (f := linF mm) (show 1 ≤ y.length by omega) hN
          obtain ⟨S, S1, S2, S3, S4⟩ := steps_same hT e3 h6 e2 n1 n3 hr (by omega) hN
          have c10 := EvaluateVectors_c mm.length (linF mm) (turnS (steS A B (linF mm) (poS y))) h n3 sS fL (by omega) (fun r hr => by have := (tS.2 r hr).1; omega) (by
            unfold serB
            simp only [Bool.and_eq_true, decide_eq_true_eq, List.all_eq_true]
            exact ⟨tS.1, fun r hr => vecB_iff.2 ⟨by have := (tS.2 r hr).1; omega, (tS.2 r hr).2⟩⟩) e2
          unfold ssR at c9
          rw [sx, s1, tS.1] at c9
          rw [S2] at c7
          rw [S3] at c8
          rw [tS.1, S4] at c10
          have cL3 := likeInts_c S S (by omega)
          simp only [decide_true] at cL3
          have lf := linF_len mm
          rw [S1] at cL3
          rw [lf] at c7 c9 c10
          rw [h2] at cLF c7 c8 c9 c10 cL3
          generalize turnS (steS A B (linF mm) (poS y)) = W at *
          generalize linF mm = G at *
          simp [go_sem, hii]
          refine CallVC.of (cLF) (by decide) ?_
          simp [go_sem]
          refine CallVC.of (c7) (by decide) ?_
          simp [go_sem]
          refine CallVC.of (c8) (by decide) ?_
          simp [go_sem]
          refine CallVC.of (c9) (by decide) ?_
          simp [go_sem]
          refine CallVC.of (c10) (by decide) ?_
          simp [go_sem]
          refine CallVC.of (cL3) (by decide) ?_
          simp [go_sem]
          refine CallVC.of (cL3) (by decide) ?_
          simp [go_sem]
      · have h6i : (6 : Int) < B.length := by omega
        simp [go_sem, h6i]
    · simp [go_sem, hE]
end Go.Proofs.YtbeekabpflaihaaGreat

