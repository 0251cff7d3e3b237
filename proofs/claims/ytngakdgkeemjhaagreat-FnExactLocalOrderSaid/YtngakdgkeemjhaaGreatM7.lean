/- Texts of the own layer and contracts, part 7: L33. -/
import Derived.Test.YtngakdgkeemjhaaGreatM6
/- The statement's function FnExactLocalOrder, walked: it answers true. -/
namespace Go.Proofs.YtngakdgkeemjhaaGreat
open Go.Abs
set_option linter.unusedVariables false
set_option linter.unusedSimpArgs false
set_option maxHeartbeats 4000000
set_option maxRecDepth 100000 in
theorem law33_c (A0 : List (List Int)) (B0 : List Int) (z1 : Int) (f1 : List (List Mon)) (y2 : List Int) (hA0 : A0.length ≤ 9223372036854775807) (hr0 : ∀ r ∈ A0, r.length ≤ 9223372036854775807) (hB0 : B0.length ≤ 9223372036854775807) (hf1 : Fit f1) (hy2 : y2.length ≤ 9223372036854775807) :
    Con Tryz.prog 4 [.agg [.sl A0.length (mat A0), .sl B0.length (avs B0)], .agg [.int z1, .sl f1.length (prt f1)], .sl y2.length (avs y2)] (.bool true) := by
  refine con_of_vc Tryz.mixed ⟨15, [35], [29, 30, 31], []⟩ Tryz.func4 (by decide) rfl (by simp) (by decide) (by simp [freshOK, freshL, go_sem]) ?_
  rw [Tryz.ntmps4]
  simp [go_sem]
  by_cases hl2 : (1048576 : Int) < y2.length
  · have hl22 : 1048576 < y2.length := by omega
    simp [go_sem, hl2, hl22]
  have hk2 : ¬ 1048576 < y2.length := by omega
  simp [go_sem, hl2, hk2]
  have cS0 := szTableau_c A0 B0 (1048576) hA0 hr0 hB0 (by omega) (by omega)
  refine CallVC.of (cS0) (by decide) ?_
  simp [go_sem]
  by_cases hs0 : szT A0 B0 (1048576) < 0
  · simp [go_sem, hs0]
  simp [go_sem, hs0]
  have hc0 := szT_ok (A := A0) (B := B0) (left := 1048576) (by omega) (by omega)
  have hh0 := szT_hi (A := A0) (B := B0) (left := 1048576) (by omega)
  generalize hL0 : szT A0 B0 (1048576) = L0 at *
  have cS1 := szField_c z1 f1 (L0) hf1 (by omega) (by omega)
  refine CallVC.of (cS1) (by decide) ?_
  simp [go_sem]
  by_cases hs1 : szF (L0) f1 < 0
  · simp [go_sem, hs1]
  simp [go_sem, hs1]
  have hc1 := szF_ok.ok (L0) f1 (by omega) (by omega)
  have hh1 := szF_ok.hi (L0) f1 (by omega)
  generalize hL1 : szF (L0) f1 = L1 at *
  have A0l : A0.length ≤ 1048576 := by omega
  have A0r : ∀ r ∈ A0, r.length ≤ 1048576 := fun r hr => by have := hc0.2 r hr; omega
  have B0l : B0.length ≤ 1048576 := by omega
  have cT0 := toTableau_c A0 B0 A0l A0r B0l
  have cQ0 := eqTableau_c A0 A0 B0 B0 hA0 hr0 hB0
  simp at cQ0
  have sm1 := small_of (f := f1) (by omega)
  have cT1 := toField_c z1 f1 sm1.1 sm1.2
  have cQ1 := eqField_c z1 f1 hf1
  have fl1 := sm1.1
  have ct1 : (sumC cP f1 : Int) ≤ 1048576 := by unfold cF at hc1; omega
  have y2l : y2.length ≤ 1048576 := by omega
  have cT2 := toInt64S_c y2 y2l
  have cQ2 := eqInt64S_c y2 y2 (by omega)
  simp at cQ2
  have cSp := specLocalOrder_c A0 B0 z1 f1 y2 A0l B0l A0r sm1 y2l
  have cIm := LocalOrder_c A0 B0 z1 f1 y2 A0l B0l A0r sm1 y2l
  unfold loR at cSp cIm
  generalize loX A0 B0 z1 f1 y2 = xs at cSp cIm
  generalize stE A0 B0 z1 f1 y2 = e at cSp cIm
  have cM0 := markTableau_c A0 B0 (1) A0l A0r (by omega) (by omega)
  have cM1 := markField_c z1 f1 (1 + sumL A0 + B0.length) sm1.1 sm1.2 (by omega) (by omega)
  have cM2 := markInt64S_c 2 y2 (1 + sumL A0 + B0.length + sumC cP f1) (by omega) (by omega)
  have p2 : ¬ (1 + (sumL A0 : Int) + (B0.length : Int) + (sumC cP f1 : Int) + (y2.length : Int) < 0) := by omega
  refine ⟨by kernel_rfl, ?_⟩
  refine CallD.of (cT0) (by simp [roots, rootsL]) (by decide) ?_
  simp [go_sem]
  refine CallD.of (cT1) (by simp [roots, rootsL]) (by decide) ?_
  simp [go_sem]
  refine CallD.of (cT2) (by simp [roots, rootsL]) (by decide) ?_
  simp [go_sem]
  refine CallD.of (cSp) (by simp [go_sem, roots, rootsL]) (by decide) ?_
  simp [go_sem]
  refine ⟨by kernel_rfl, ?_⟩
  simp [go_sem]
  refine CallVC.of (cT0) (by decide) ?_
  simp [go_sem]
  refine CallVC.of (cT1) (by decide) ?_
  simp [go_sem]
  refine CallVC.of (cT2) (by decide) ?_
  simp [go_sem]
  refine CallVC.of (cIm) (by decide) ?_
  simp [go_sem]
  refine ⟨by kernel_rfl, ?_⟩
  refine CallD.of (cT0) (by simp [roots, rootsL]) (by decide) ?_
  simp [go_sem]
  refine CallD.of (cQ0) (by simp [roots, rootsL]) (by decide) ?_
  simp [go_sem]
  refine ⟨by kernel_rfl, ?_⟩
  simp [go_sem]
  refine ⟨by kernel_rfl, ?_⟩
  refine CallD.of (cT1) (by simp [roots, rootsL]) (by decide) ?_
  simp [go_sem]
  refine CallD.of (cQ1) (by simp [roots, rootsL]) (by decide) ?_
  simp [go_sem]
  refine ⟨by kernel_rfl, ?_⟩
  simp [go_sem]
  refine CallVC.of (cT2) (by decide) ?_
  simp [go_sem]
  refine CallVC.of (cQ2) (by decide) ?_
  simp [go_sem]
end Go.Proofs.YtngakdgkeemjhaaGreat
