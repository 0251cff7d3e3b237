/- The statement's function over stability orders, walked: it answers true. -/
import Derived.Test.YtdhnnpohpfjaiaaC14
import Derived.Test.YtdhnnpohpfjaiaaL3
namespace Go.Proofs.Ytdhnnpohpfjaiaa
open Go.Abs
set_option linter.unusedVariables false
set_option linter.unusedSimpArgs false
set_option maxHeartbeats 1000000
set_option maxRecDepth 100000 in
theorem law5_c (A : List (List Int)) (B : List Int) (hA : A.length ≤ 9223372036854775807) (hr : ∀ r ∈ A, r.length ≤ 9223372036854775807) (hB : B.length ≤ 9223372036854775807) :
    Con Try.prog 7 [.agg [.sl A.length (mat A), .sl B.length (avs B)]] (.bool true) := by
  have cS := szTableau_c A B 1048576 hA hr hB (by omega) (by omega)
  refine con_of_vc Try.mixed ⟨9, [], [], []⟩ Try.func7 (by decide) rfl (by simp) (by decide) (by simp [freshOK, freshL, go_sem]) ?_
  rw [Try.ntmps7]
  simp [go_sem]
  refine CallVC.of (cS) (by decide) ?_
  simp [go_sem]
  by_cases hs : szT A B 1048576 < 0
  · simp [go_sem, hs]
  · obtain ⟨z1, z2⟩ := szT_ok (by omega) (by omega : 0 ≤ szT A B 1048576)
    have cT := toTableau_c A B (by omega) (fun r hr => by have := z2 r hr; omega) (by omega)
    have cP := specStabilityOrder_c A B hA hB hr
    have cI := StabilityOrder_c A B hA hB hr
    have hab : ∃ a b : Int, stabO A B = .tup [.int a, .int b] := by unfold stabO; split <;> exact ⟨_, _, rfl⟩
    obtain ⟨a, b, hab⟩ := hab
    rw [hab] at cP cI
    have cQ := eqTableau_c A A B B hA hr hB
    simp at cQ
    simp [go_sem, hs]
    refine CallVC.of (cT) (by decide) ?_
    simp [go_sem]
    refine CallVC.of (cP) (by decide) ?_
    simp [go_sem]
    refine CallVC.of (cT) (by decide) ?_
    simp [go_sem]
    refine CallVC.of (cI) (by decide) ?_
    simp [go_sem]
    refine ⟨by kernel_rfl, ?_⟩
    refine CallD.of (cT) (by simp [roots, rootsL]) (by decide) ?_
    simp [go_sem]
    refine CallD.of (cQ) (by simp [roots, rootsL]) (by decide) ?_
    simp [go_sem]
    refine ⟨by kernel_rfl, ?_⟩
    simp [go_sem]
end Go.Proofs.Ytdhnnpohpfjaiaa
