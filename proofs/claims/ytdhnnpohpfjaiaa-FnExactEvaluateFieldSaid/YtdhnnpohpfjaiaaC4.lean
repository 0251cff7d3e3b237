/- Contracts: searches by a function value, the tests of numbers and tableaus. -/
import Derived.Test.YtdhnnpohpfjaiaaC1
namespace Go.Proofs.Ytdhnnpohpfjaiaa
open Go.Abs
set_option linter.unusedVariables false
set_option linter.unusedSimpArgs false
set_option maxHeartbeats 1000000
/-- The place of the first one, or -1. -/
def idxF {α : Type} (p : α → Bool) : List α → Int
  | [] => -1
  | x :: xs => if p x then 0 else if idxF p xs = -1 then -1 else idxF p xs + 1
theorem idxF_ge {α : Type} (p : α → Bool) : ∀ xs : List α, -1 ≤ idxF p xs ∧ idxF p xs < xs.length
  | [] => by simp [idxF]
  | x :: xs => by
    have := idxF_ge p xs
    simp only [idxF, List.length_cons]
    split
    · omega
    · split <;> omega
theorem idxF_any {α : Type} (p : α → Bool) (xs : List α) : decide (0 ≤ idxF p xs) = xs.any p := by
  induction xs with
  | nil => simp [idxF]
  | cons x xs ih =>
    have := idxF_ge p xs
    simp only [idxF, List.any_cons, ← ih]
    by_cases hp : p x = true
    · simp [hp]
    · simp only [hp]
      simp
      split
      · rename_i e; simp [e]
      · by_cases h : 0 ≤ idxF p xs <;> simp [h] <;> omega
theorem idxF_skip {α : Type} (p : α → Bool) : ∀ (xs : List α) (i : Nat), (∀ x ∈ xs.take i, p x = false) → i ≤ xs.length → (idxF p xs = if idxF p (xs.drop i) = -1 then -1 else idxF p (xs.drop i) + i)
  | xs, 0, h, hl => by simp
  | [], i + 1, h, hl => by simp at hl
  | x :: xs, i + 1, h, hl => by
    have h1 : p x = false := h x (by simp)
    have h2 := idxF_skip p xs i (fun y hy => h y (by simp [hy])) (by simpa using hl)
    simp only [idxF, h1, List.drop_succ_cons]
    have := (idxF_ge p (xs.drop i)).1
    simp
    rw [h2]
    split
    · simp
    · rename_i hne
      rw [if_neg (by omega)]
      omega
theorem IndexFuncI_c (g : FuncId) (p : Int → Bool) (xs : List Int) (hl : xs.length ≤ 9223372036854775807) (hg : ∀ x ∈ xs, Con Try.prog g [.int x] (.bool (p x))) :
    Con Try.prog 140 [.sl xs.length (avs xs), .val (.func (.func g) #[] #[])] (.int (idxF p xs)) := by
  refine con_of_vc Try.mixed ⟨6, [], [], []⟩ Try.func140 (by decide) rfl (by simp) (by decide) rfl ?_
  rw [Try.ntmps140]
  simp [go_sem]
  refine loop_inv (5 :: List.range' 8 20) (fun i : Nat => [(8, .int i)]) (fun i => i ≤ xs.length ∧ ∀ x ∈ xs.take i, p x = false) (fun i => xs.length - i) 0 (by simp) (by simp [go_sem]) (by simp [go_sem]) ?_
  rintro i ⟨hi, hf⟩
  simp [go_sem]
  have sk := idxF_skip p xs i hf hi
  refine ⟨fun h => ?_, fun h => ?_⟩ <;> simp at h
  · have hx : xs[i]?.getD 0 ∈ xs := by simp [h]
    have hd : xs.drop i = xs[i]?.getD 0 :: xs.drop (i + 1) := by rw [List.drop_eq_getElem_cons h]; simp [h]
    simp [go_sem, avs_drop h]
    refine ⟨⟨h, by rintro rfl; simp at h⟩, CallVC.of (hg _ hx) (by decide) ?_⟩
    simp [go_sem]
    refine ⟨fun h2 => ?_, fun h2 => ?_⟩ <;> simp [go_sem]
    · rw [sk, hd]; simp [idxF, h2]
    · refine ⟨by omega, i + 1, ⟨by omega, ?_⟩, by omega, Off_reset _ _ _ (by simp), by omega⟩
      intro x hx2
      rw [List.take_add_one, List.getElem?_eq_getElem h, Option.toList_some, List.mem_append, List.mem_singleton] at hx2
      rcases hx2 with hx2 | hx2
      · exact hf x hx2
      · rw [hx2]; simpa [h] using h2
  · simp [go_sem]
    rw [sk, List.drop_eq_nil_of_le h]; simp [idxF]
theorem ContainsFuncI_c (g : FuncId) (p : Int → Bool) (xs : List Int) (hl : xs.length ≤ 9223372036854775807) (hg : ∀ x ∈ xs, Con Try.prog g [.int x] (.bool (p x))) :
    Con Try.prog 120 [.sl xs.length (avs xs), .val (.func (.func g) #[] #[])] (.bool (xs.any p)) := by
  refine con_of_vc Try.mixed ⟨5, [], [], []⟩ Try.func120 (by decide) rfl (by simp) (by decide) rfl ?_
  rw [Try.ntmps120]
  simp [go_sem]
  refine CallVC.of (IndexFuncI_c g p xs hl hg) (by decide) ?_
  simp [go_sem, idxF_any]
theorem IsNumber_c (a : Int) : Con Try.prog 122 [.int a] (.bool (decide (0 ≤ a ∧ a ≤ 10006))) := by
  refine con_of_vc Try.mixed ⟨3, [], [], []⟩ Try.func122 (by decide) rfl (by simp) (by decide) rfl ?_
  rw [Try.ntmps122]
  simp [go_sem]
  refine CallVC.of (inRange_c _ _ _) (by decide) ?_
  simp [go_sem]
theorem notNumber_c (a : Int) : Con Try.prog 121 [.int a] (.bool (!decide (0 ≤ a ∧ a ≤ 10006))) := by
  refine con_of_vc Try.mixed ⟨3, [], [], []⟩ Try.func121 (by decide) rfl (by simp) (by decide) rfl ?_
  rw [Try.ntmps121]
  simp [go_sem]
  refine CallVC.of (IsNumber_c _) (by decide) ?_
  simp [go_sem]
/-- All of a row are numbers of the field. -/
def numsB (xs : List Int) : Bool := xs.all fun a => decide (0 ≤ a ∧ a ≤ 10006)
theorem areNumbers_c (xs : List Int) (hl : xs.length ≤ 9223372036854775807) : Con Try.prog 83 [.sl xs.length (avs xs)] (.bool (numsB xs)) := by
  refine con_of_vc Try.mixed ⟨3, [], [], []⟩ Try.func83 (by decide) rfl (by simp) (by decide) rfl ?_
  rw [Try.ntmps83]
  simp [go_sem]
  refine CallVC.of (ContainsFuncI_c _ _ xs hl (fun x _ => notNumber_c x)) (by decide) ?_
  simp [go_sem, numsB, List.not_any_eq_all_not]
end Go.Proofs.Ytdhnnpohpfjaiaa
