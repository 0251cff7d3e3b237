/- Contracts: marks of tableaus, sums of products, products of a matrix with a row. -/
import Derived.Test.YtdhnnpohpfjaiaaC8
import Derived.Test.YtdhnnpohpfjaiaaC2
namespace Go.Proofs.Ytdhnnpohpfjaiaa
open Go.Abs
set_option linter.unusedVariables false
set_option linter.unusedSimpArgs false
set_option maxHeartbeats 1000000
theorem markTableau_c (A : List (List Int)) (B : List Int) (k : Int) (hA : A.length ≤ 1048576) (hr : ∀ r ∈ A, r.length ≤ 1048576) (h0 : 0 ≤ k) (h1 : k + sumL A + B.length ≤ 9223372036854775807) :
    MCon Try.prog 22 [.agg [.own 22 A.length (omat A), .own 2 B.length (avs B)], .int k] (.int (k + sumL A + B.length))
      [.agg [.own 22 A.length (omat (marksM A k)), .own 2 B.length (avs (marks B.length (k + sumL A)))], .any] := by
  refine mcon_of_vc Try.mixed ⟨5, [], [13, 49], []⟩ [4] [0] Try.func22 (by decide) rfl rfl (by simp) (by simp) (by simp) (by decide) ?_
  rw [Try.ntmps22]
  simp [go_sem]
  refine ⟨_, _, markInt64SS_c A k hA hr h0 (by omega), ?_⟩
  simp [go_sem]
  refine ⟨_, _, markInt64S_c 2 B (k + sumL A) (by omega) (by omega), ?_⟩
  simp [go_sem]
  rfl
end Go.Proofs.Ytdhnnpohpfjaiaa
