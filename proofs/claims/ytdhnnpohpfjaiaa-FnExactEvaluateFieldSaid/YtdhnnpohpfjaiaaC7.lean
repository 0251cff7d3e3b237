/- Contracts: the statements' own copies of rows, rows of rows and tableaus. -/
import Derived.Test.YtdhnnpohpfjaiaaC6
namespace Go.Proofs.Ytdhnnpohpfjaiaa
open Go.Abs
set_option linter.unusedVariables false
set_option linter.unusedSimpArgs false
set_option maxHeartbeats 1000000
theorem fill_step {α : Type} (l : List α) (d v : α) (i : Nat) (h : i < l.length) (hv : l[i]? = some v) : (l.take i ++ List.replicate (l.length - i) d).set i v = l.take (i + 1) ++ List.replicate (l.length - (i + 1)) d := by
  obtain ⟨k, hk⟩ : ∃ k, l.length - i = k + 1 := ⟨l.length - i - 1, by omega⟩
  rw [show l.length - (i + 1) = k by omega, hk, List.replicate_succ, List.set_append_right _ _ (by simp; omega), List.take_add_one, hv]
  have : i - (l.take i).length = 0 := by simp; omega
  rw [this]; simp
theorem toInt64S_c (xs : List Int) (hl : xs.length ≤ 1048576) : Con Try.prog 24 [.sl xs.length (avs xs)] (.own 2 xs.length (avs xs)) := by
  refine con_of_vc Try.mixed ⟨5, [], [], []⟩ Try.func24 (by decide) rfl (by simp) (by decide) (by simp [freshOK]) ?_
  rw [Try.ntmps24]
  simp [go_sem]
  refine ⟨by omega, ?_⟩
  refine loop_inv (List.range' 3 30) (fun i : Nat => [(3, .own 2 xs.length (avs (xs.take i ++ List.replicate (xs.length - i) 0))), (4, .int i)]) (fun i => i ≤ xs.length) (fun i => xs.length - i) 0 (by simp) (by simp [go_sem, avs_repl]) (by simp [go_sem]) ?_
  intro i hi
  simp [go_sem]
  refine ⟨fun h => ?_, fun h => ?_⟩ <;> simp at h
  · simp [go_sem, avs_drop h]
    refine ⟨⟨h, by rintro rfl; simp at h⟩, h, by omega, by omega, i + 1, by omega, by omega, Off_reset _ _ _ (by simp), ?_, by omega⟩
    rw [avs_set, avs_inj]
    exact fill_step xs 0 _ i h (by simp [h])
  · simp [go_sem]
    have e : i = xs.length := by omega
    subst e; simp
/-- Rows of rows that are ours. -/
def omat (A : List (List Int)) : List AV := A.map fun r => .own 2 r.length (avs r)
@[simp] theorem omat_len (A : List (List Int)) : (omat A).length = A.length := by simp [omat]
@[simp] theorem omat_frz (A : List (List Int)) : frzL (omat A) = mat A := by
  induction A with
  | nil => rfl
  | cons r A ih => simp only [omat, mat, List.map_cons, frzL] at ih ⊢; rw [ih]; simp [frz]
@[simp] theorem omat_fresh (A : List (List Int)) : freshL (omat A) = true := by
  induction A with
  | nil => rfl
  | cons r A ih => simp only [omat, List.map_cons, freshL] at ih ⊢; rw [ih]; simp [freshOK]
theorem toInt64SS_c (A : List (List Int)) (hl : A.length ≤ 1048576) (hr : ∀ r ∈ A, r.length ≤ 1048576) : Con Try.prog 45 [.sl A.length (mat A)] (.own 22 A.length (omat A)) := by
  refine con_of_vc Try.mixed ⟨5, [], [], []⟩ Try.func45 (by decide) rfl (by simp) (by decide) (by simp [freshOK]) ?_
  rw [Try.ntmps45]
  simp [go_sem]
  refine ⟨by omega, ?_⟩
  refine loop_inv (List.range' 3 30) (fun i : Nat => [(3, .own 22 A.length (omat (A.take i) ++ List.replicate (A.length - i) (.val (.slice none 0 0)))), (4, .int i)]) (fun i => i ≤ A.length) (fun i => A.length - i) 0 (by simp) (by simp [go_sem, omat]) (by simp [go_sem]) ?_
  intro i hi
  simp [go_sem]
  refine ⟨fun h => ?_, fun h => ?_⟩ <;> simp at h
  · have hx : A[i]?.getD [] ∈ A := by simp [h]
    simp [go_sem, mat_drop h]
    refine ⟨⟨h, by rintro rfl; simp at h⟩, CallVC.of (toInt64S_c _ (hr _ hx)) (by decide) ?_⟩
    simp [go_sem]
    refine ⟨h, by omega, by omega, i + 1, by omega, by omega, Off_reset _ _ _ (by simp), ?_, by omega⟩
    have e1 : ∀ k, omat (A.take k) = (omat A).take k := fun k => by simp [omat, List.map_take]
    have := fill_step (omat A) (.val (.slice none 0 0)) (.own 2 (A[i]?.getD []).length (avs (A[i]?.getD []))) i (by simpa using h) (by simp [omat, h])
    rw [omat_len] at this
    rw [e1, e1]
    exact this
  · simp [go_sem]
    have e : i = A.length := by omega
    subst e; simp
theorem toTableau_c (A : List (List Int)) (B : List Int) (hl : A.length ≤ 1048576) (hr : ∀ r ∈ A, r.length ≤ 1048576) (hB : B.length ≤ 1048576) :
    Con Try.prog 19 [.agg [.sl A.length (mat A), .sl B.length (avs B)]] (.agg [.own 22 A.length (omat A), .own 2 B.length (avs B)]) := by
  refine con_of_vc Try.mixed ⟨4, [], [], []⟩ Try.func19 (by decide) rfl (by simp) (by decide) (by simp [freshOK, freshL]) ?_
  rw [Try.ntmps19]
  simp [go_sem]
  refine CallVC.of (toInt64SS_c A hl hr) (by decide) ?_
  simp [go_sem]
  refine CallVC.of (toInt64S_c B hB) (by decide) ?_
  simp [go_sem]
end Go.Proofs.Ytdhnnpohpfjaiaa
