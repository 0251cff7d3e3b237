/- Contracts: the statements' own comparisons and marks of rows of rows and tableaus. -/
import Derived.Test.YtdhnnpohpfjaiaaC7
namespace Go.Proofs.Ytdhnnpohpfjaiaa
open Go.Abs
set_option linter.unusedVariables false
set_option linter.unusedSimpArgs false
set_option maxHeartbeats 1000000
theorem eqInt64SS_c (A C : List (List Int)) (hA : A.length ≤ 9223372036854775807) (hr : ∀ r ∈ A, r.length ≤ 9223372036854775807) :
    Con Try.prog 48 [.sl A.length (mat A), .sl C.length (mat C)] (.bool (decide (A = C))) := by
  refine con_of_vc Try.mixed ⟨6, [], [], []⟩ Try.func48 (by decide) rfl (by simp) (by decide) rfl ?_
  rw [Try.ntmps48]
  simp [go_sem]
  refine ⟨fun h => ?_, fun h => ?_⟩ <;> simp at h <;> simp [go_sem]
  · rintro rfl; omega
  have hl : A.length = C.length := by omega
  refine loop_inv (List.range' 4 30) (fun i : Nat => [(5, .int i)]) (fun i => i ≤ A.length ∧ A.take i = C.take i) (fun i => A.length - i) 0 (by simp) (by simp [go_sem]) (by simp [go_sem]) ?_
  intro i hi
  simp [go_sem]
  refine ⟨fun h => ?_, fun h => ?_⟩ <;> simp at h
  · have hx : A[i]?.getD [] ∈ A := by simp [h]
    simp [go_sem, mat_drop h, mat_drop (show i < C.length by omega)]
    refine ⟨by kernel_rfl, ⟨h, by rintro rfl; simp at h⟩, ⟨by omega, fun e => by rw [e] at hl; rw [hl] at h; simp at h⟩, ?_⟩
    refine CallD.of (eqInt64S_c _ _ (hr _ hx)) (by simp [roots]) (by decide) ?_
    simp [go_sem]
    refine ⟨by kernel_rfl, ?_⟩
    refine ⟨fun h2 => ?_, fun h2 => ?_⟩ <;> simp at h2 <;> simp [go_sem]
    · rintro rfl; exact h2 rfl
    · refine ⟨by omega, i + 1, ⟨by omega, ?_⟩, by omega, Off_reset _ _ _ (by simp), by omega⟩
      rw [List.take_add_one, List.take_add_one, hi.2]
      rw [List.getElem?_eq_getElem h, List.getElem?_eq_getElem (show i < C.length by omega)] at h2 ⊢
      simp only [Option.getD_some] at h2
      rw [h2]
  · simp [go_sem]
    have e : i = A.length := by omega
    subst e
    have := hi.2
    rw [List.take_length, hl, List.take_length] at this
    exact this
theorem eqTableau_c (A C : List (List Int)) (B D : List Int) (hA : A.length ≤ 9223372036854775807) (hr : ∀ r ∈ A, r.length ≤ 9223372036854775807) (hB : B.length ≤ 9223372036854775807) :
    Con Try.prog 21 [.agg [.sl A.length (mat A), .sl B.length (avs B)], .agg [.sl C.length (mat C), .sl D.length (avs D)]] (.bool (decide (A = C) && decide (B = D))) := by
  refine con_of_vc Try.mixed ⟨6, [], [], []⟩ Try.func21 (by decide) rfl (by simp) (by decide) rfl ?_
  rw [Try.ntmps21]
  simp [go_sem]
  refine CallVC.of (eqInt64SS_c A C hA hr) (by decide) ?_
  by_cases h1 : A = C
  · simp [go_sem, h1]
    refine CallVC.of (eqInt64S_c B D hB) (by decide) ?_
    by_cases h2 : B = D <;> simp [go_sem, h2]
  · simp [go_sem, h1]
/-- The marks of a row. -/
def marks (n : Nat) (k : Int) : List Int := (List.range n).map fun (i : Nat) => k + i
@[simp] theorem marks_len (n : Nat) (k : Int) : (marks n k).length = n := by simp [marks]
def marksM : List (List Int) → Int → List (List Int)
  | [], _ => []
  | r :: rs, k => marks r.length k :: marksM rs (k + r.length)
@[simp] theorem marksM_len : ∀ (A : List (List Int)) (k : Int), (marksM A k).length = A.length
  | [], _ => rfl
  | r :: rs, k => by simp [marksM, marksM_len rs]
def sumL : List (List Int) → Nat
  | [] => 0
  | r :: rs => r.length + sumL rs
theorem sumL_app (A C : List (List Int)) : sumL (A ++ C) = sumL A + sumL C := by
  induction A with
  | nil => simp [sumL]
  | cons r A ih => simp [sumL, ih]; omega
theorem sumL_take {A : List (List Int)} {i : Nat} (h : i < A.length) : sumL (A.take (i + 1)) = sumL (A.take i) + (A[i]?.getD []).length := by
  rw [List.take_add_one, sumL_app]; simp [h, sumL]
theorem sumL_le (A : List (List Int)) (i : Nat) : sumL (A.take i) ≤ sumL A := by
  have := congrArg sumL (List.take_append_drop i A)
  rw [sumL_app] at this; omega
theorem marksM_snoc (A : List (List Int)) (r : List Int) (k : Int) : marksM (A ++ [r]) k = marksM A k ++ [marks r.length (k + sumL A)] := by
  induction A generalizing k with
  | nil => simp [marksM, sumL]
  | cons q A ih => simp [marksM, sumL, ih]; congr 1; omega
theorem marksM_take {A : List (List Int)} {i : Nat} (h : i < A.length) (k : Int) : marksM (A.take (i + 1)) k = marksM (A.take i) k ++ [marks (A[i]?.getD []).length (k + sumL (A.take i))] := by
  rw [List.take_add_one, List.getElem?_eq_getElem h, Option.toList_some, marksM_snoc]; simp
theorem markInt64SS_c (A : List (List Int)) (k : Int) (hA : A.length ≤ 1048576) (hr : ∀ r ∈ A, r.length ≤ 1048576) (h0 : 0 ≤ k) (h1 : k + sumL A ≤ 9223372036854775807) :
    MCon Try.prog 49 [.own 22 A.length (omat A), .int k] (.int (k + sumL A)) [.own 22 A.length (omat (marksM A k)), .any] := by
  refine mcon_of_vc Try.mixed ⟨6, [], [13], []⟩ [4] [0] Try.func49 (by decide) rfl rfl (by simp) (by simp) (by simp) (by decide) ?_
  rw [Try.ntmps49]
  simp [go_sem]
  refine loop_inv (0 :: 1 :: List.range' 4 20) (fun i : Nat => [(0, .own 22 A.length (omat (marksM (A.take i) k ++ A.drop i))), (1, .int (k + sumL (A.take i))), (5, .int i)]) (fun i => i ≤ A.length) (fun i => A.length - i) 0 (by simp) (by simp [go_sem, marksM, sumL]) (by simp [go_sem]) ?_
  intro i hi
  simp [go_sem]
  refine ⟨fun h => ?_, fun h => ?_⟩ <;> simp at h
  · have hr2 : A[i]?.getD [] ∈ A := by simp [h]
    generalize hM : omat (marksM (A.take i) k ++ A.drop i) = M
    have hML : M.length = A.length := by rw [← hM]; simp; omega
    have hMi : M[i]? = some (.own 2 (A[i]?.getD []).length (avs (A[i]?.getD []))) := by
      rw [← hM, omat, List.getElem?_map, List.getElem?_append_right (by simp; omega)]
      simp [h, Nat.min_eq_left hi]
    have t1 := sumL_take h
    have t2 := sumL_le A (i + 1)
    have e0 : A[i]?.getD [] = A[i] := by simp [h]
    rw [e0] at t1 hMi
    have m := markInt64S_c 2 A[i] (k + sumL (A.take i)) (by omega) (by omega)
    simp [go_sem, hMi, hML]
    refine ⟨h, _, _, m, ?_⟩
    simp [go_sem, hML, h]
    refine ⟨by omega, i + 1, by omega, by omega, Off_reset _ _ _ (by simp), ?_, by omega, by omega⟩
    rw [← hM, marksM_take h, e0, omat, omat, List.drop_eq_getElem_cons h, List.map_append, List.map_cons, List.set_append_right _ _ (by simp; omega)]
    have : i - (List.map (fun r => AV.own 2 r.length (avs r)) (marksM (A.take i) k)).length = 0 := by simp; omega
    rw [this, List.set_cons_zero]
    simp [marks]
  · simp [go_sem]
    have e : i = A.length := by omega
    subst e
    simp
end Go.Proofs.Ytdhnnpohpfjaiaa
