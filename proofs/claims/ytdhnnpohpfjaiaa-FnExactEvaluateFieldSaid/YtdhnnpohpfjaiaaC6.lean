/- Contracts: the statements' own functions over rows of rows and tableaus. -/
import Derived.Test.YtdhnnpohpfjaiaaC5
namespace Go.Proofs.Ytdhnnpohpfjaiaa
open Go.Abs
set_option linter.unusedVariables false
set_option linter.unusedSimpArgs false
set_option maxHeartbeats 1000000
def szR (left n : Int) : Int := if left - n < 0 then -1 else left - n
theorem szInt64S_c (n : Nat) (cs : List AV) (left : Int) (hn : n ≤ 9223372036854775807) (h0 : -1 ≤ left) (h1 : left ≤ 9223372036854775807) :
    Con Try.prog 42 [.sl n cs, .int left] (.int (szR left n)) := by
  refine con_of_vc Try.mixed ⟨5, [], [], []⟩ Try.func42 (by decide) rfl (by simp) (by decide) rfl ?_
  rw [Try.ntmps42]
  simp [go_sem]
  unfold szR
  refine ⟨by omega, fun h => ?_, fun h => ?_⟩ <;> simp at h <;> simp [go_sem]
  · omega
  · omega
theorem szR_ge (left n : Int) : -1 ≤ szR left n := by unfold szR; split <;> omega
theorem szR_le {left n : Int} (h : 0 ≤ n) (h1 : -1 ≤ left) : szR left n ≤ left := by unfold szR; split <;> omega
/-- What is left behind rows of rows. -/
def szRs : Int → List (List Int) → Int
  | left, [] => left
  | left, r :: rs => if szR left r.length < 0 then -1 else szRs (szR left r.length) rs
def szM (left : Int) (A : List (List Int)) : Int := if szR left A.length < 0 then -1 else szRs (szR left A.length) A
theorem szInt64SS_c (A : List (List Int)) (left : Int) (hA : A.length ≤ 9223372036854775807) (hr : ∀ r ∈ A, r.length ≤ 9223372036854775807) (h0 : 0 ≤ left) (h1 : left ≤ 9223372036854775807) :
    Con Try.prog 41 [.sl A.length (mat A), .int left] (.int (szM left A)) := by
  refine con_of_vc Try.mixed ⟨6, [], [], []⟩ Try.func41 (by decide) rfl (by simp) (by decide) rfl ?_
  rw [Try.ntmps41]
  simp [go_sem]
  refine ⟨by omega, fun h => ?_, fun h => ?_⟩ <;> simp at h <;> simp [go_sem]
  · unfold szM szR; simp; omega
  have e1 : szM left A = szRs (left - A.length) A := by unfold szM szR; rw [if_neg (by omega : ¬ left - (A.length : Int) < 0), if_neg (by omega)]
  refine loop_inv (1 :: List.range' 4 30) (fun x : Nat × Int => [(1, .int x.2), (5, .int x.1)]) (fun x => x.1 ≤ A.length ∧ 0 ≤ x.2 ∧ x.2 ≤ left ∧ szRs x.2 (A.drop x.1) = szM left A) (fun x => A.length - x.1) (0, left - A.length) (by simp; omega) (by simp [go_sem]) (by simp [go_sem]) ?_
  rintro ⟨i, l⟩ ⟨hi, hl0, hl1, he⟩
  simp only at hi hl0 hl1 he
  simp [go_sem]
  refine ⟨fun h => ?_, fun h => ?_⟩ <;> simp at h
  · have hx : A[i]?.getD [] ∈ A := by simp [h]
    have hd : A.drop i = A[i]?.getD [] :: A.drop (i + 1) := by rw [List.drop_eq_getElem_cons h]; simp [h]
    simp [go_sem, mat_drop h]
    refine ⟨⟨h, by rintro rfl; simp at h⟩, CallVC.of (szInt64S_c _ _ _ (hr _ hx) (by omega) (by omega)) (by decide) ?_⟩
    simp [go_sem]
    have k1 := szR_ge l (A[i]?.getD []).length
    have k2 := szR_le (left := l) (n := (A[i]?.getD []).length) (by omega) (by omega)
    rw [hd, szRs] at he
    refine ⟨fun h2 => ?_, fun h2 => ?_⟩ <;> simp at h2 <;> simp [go_sem]
    · rw [if_pos h2] at he; exact he
    · rw [if_neg (by omega)] at he
      refine ⟨by omega, i + 1, _, ⟨by omega, h2, by omega, he⟩, by omega, Off_reset _ _ _ (by simp), rfl, by omega⟩
  · simp [go_sem]
    rw [List.drop_eq_nil_of_le h] at he
    exact he
end Go.Proofs.Ytdhnnpohpfjaiaa
