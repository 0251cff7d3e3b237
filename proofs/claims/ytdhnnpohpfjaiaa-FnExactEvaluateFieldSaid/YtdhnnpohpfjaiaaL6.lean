/- The statement's function over values of fields, walked: it answers true. -/
import Derived.Test.YtdhnnpohpfjaiaaF7
namespace Go.Proofs.Ytdhnnpohpfjaiaa
open Go.Abs
set_option linter.unusedVariables false
set_option linter.unusedSimpArgs false
set_option maxHeartbeats 1000000
theorem small_of {f : List (List Mon)} (h : (cF f : Int) ≤ 1048576) : Small f := by
  unfold cF at h
  refine ⟨by omega, fun p hp => ?_⟩
  have h1 : p.length + sumC cM p ≤ sumC cP f := sumC_mem cP hp
  refine ⟨by omega, fun q hq => ?_⟩
  have h2 : q.2.length ≤ sumC cM p := sumC_mem cM hq
  omega
theorem evX_len (z : Int) (f : List (List Mon)) (y : List Int) : (evX z f y).length ≤ f.length := by
  unfold evX; split <;> simp
set_option maxRecDepth 100000 in
theorem law6_c (z : Int) (f : List (List Mon)) (y : List Int) (hf : Fit f) (hy : y.length ≤ 9223372036854775807) :
    Con Try.prog 8 [.agg [.int z, .sl f.length (prt f)], .sl y.length (avs y)] (.bool true) := by
  have cS := szField_c z f 1048576 hf (by omega) (by omega)
  refine con_of_vc Try.mixed ⟨17, [], [33, 13], []⟩ Try.func8 (by decide) rfl (by simp) (by decide) (by simp [freshOK, freshL, go_sem]) ?_
  rw [Try.ntmps8]
  simp [go_sem]
  by_cases hy1 : (1048576 : Int) < y.length
  · have hy1' : 1048576 < y.length := by omega
    simp [go_sem, hy1, hy1']
  have hy2 : ¬ 1048576 < y.length := by omega
  simp [go_sem, hy1, hy2]
  refine CallVC.of (cS) (by decide) ?_
  simp [go_sem]
  by_cases hs : szF 1048576 f < 0
  · simp [go_sem, hs]
  · have hc := szF_ok.ok 1048576 f (by omega) (by omega)
    have hsm := small_of (f := f) (by omega)
    have cT := toField_c z f hsm.1 hsm.2
    have cY := toInt64S_c y (by omega)
    have cSp := specEvaluateField_c z f y hsm hy
    have cI := EvaluateField_c z f y hsm hy
    have xl := evX_len z f y
    have fl := hsm.1
    unfold evR at cSp cI
    generalize evX z f y = xs at cSp cI xl
    generalize evE z f y = e at cSp cI
    have cE := eqInt64S_c xs xs (by omega)
    have cEy := eqInt64S_c y y (by omega)
    have cQ := eqField_c z f hf
    have ct : (sumC cP f : Int) ≤ 1048576 := by unfold cF at hc; omega
    have cM := markField_c z f 1 hsm.1 hsm.2 (by omega) (by omega)
    have cMy := markInt64S_c 2 y (1 + sumC cP f) (by omega) (by omega)
    have cN := markInt64S_c 2 xs 1 (by omega) (by omega)
    have cH := heldInt64S_c ((List.range xs.length).map fun (i : Nat) => 1 + (i : Int)) 1 (by omega) (by simp; omega)
    rw [held_mark, List.length_map, List.length_range] at cH
    simp at cE cEy
    have p1 : ¬ (1 + (xs.length : Int) < 0) := by omega
    have p2 : ¬ (1 + (sumC cP f : Int) + y.length < 0) := by omega
    simp [go_sem, hs]
    refine CallVC.of (cT) (by decide) ?_
    simp [go_sem]
    refine CallVC.of (cY) (by decide) ?_
    simp [go_sem]
    refine CallVC.of (cSp) (by decide) ?_
    simp [go_sem]
    refine CallVC.of (cT) (by decide) ?_
    simp [go_sem]
    refine CallVC.of (cY) (by decide) ?_
    simp [go_sem]
    refine CallVC.of (cI) (by decide) ?_
    simp [go_sem]
    refine CallVC.of (cE) (by decide) ?_
    simp [go_sem]
    refine ⟨by kernel_rfl, ?_⟩
    refine CallD.of (cT) (by simp [roots, rootsL]) (by decide) ?_
    simp [go_sem]
    refine CallD.of (cQ) (by simp [roots, rootsL]) (by decide) ?_
    simp [go_sem]
    refine ⟨by kernel_rfl, ?_⟩
    simp [go_sem]
    refine CallVC.of (cY) (by decide) ?_
    simp [go_sem]
    refine CallVC.of (cEy) (by decide) ?_
    simp [go_sem]
    refine ⟨_, _, cM, ?_⟩
    simp [go_sem]
    refine ⟨_, _, cMy, ?_⟩
    simp [go_sem]
    simp [go_sem, p2]
    refine CallVC.of (cE) (by decide) ?_
    simp [go_sem]
    refine ⟨_, _, cN, ?_⟩
    simp [go_sem]
    refine CallVC.of (cH) (by decide) ?_
    simp [go_sem]
    simp [go_sem, p1]
    refine CallVC.of (cT) (by decide) ?_
    simp [go_sem]
    refine CallVC.of (cY) (by decide) ?_
    simp [go_sem]
    refine CallVC.of (cI) (by decide) ?_
    simp [go_sem]
    refine CallVC.of (cE) (by decide) ?_
    simp [go_sem]
    refine CallVC.of (cH) (by decide) ?_
    simp [go_sem]
    simp [go_sem, p1]
end Go.Proofs.Ytdhnnpohpfjaiaa
