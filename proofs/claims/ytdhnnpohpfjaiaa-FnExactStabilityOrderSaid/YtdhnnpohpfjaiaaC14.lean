/- Contracts: the order of the stability function. -/
import Derived.Test.YtdhnnpohpfjaiaaC13
namespace Go.Proofs.Ytdhnnpohpfjaiaa
open Go.Abs
set_option linter.unusedVariables false
set_option linter.unusedSimpArgs false
set_option maxHeartbeats 1000000
/-- How many numbers behind the first two lists share. -/
def ordN (xs ys : List Int) : Nat → Nat → Nat
  | 0, p => p
  | f + 1, p => if xs[p + 1]?.getD 0 = ys[p + 1]?.getD 0 then ordN xs ys f (p + 1) else p
theorem ordN_of {xs ys : List Int} : ∀ (f p q : Nat), q ≤ p → p ≤ q + f → (∀ j, q < j → j ≤ p → xs[j]?.getD 0 = ys[j]?.getD 0) → (p = q + f ∨ xs[p + 1]?.getD 0 ≠ ys[p + 1]?.getD 0) → ordN xs ys f q = p
  | 0, p, q, h1, h2, _, _ => by simp [ordN]; omega
  | f + 1, p, q, h1, h2, h3, h4 => by
    rw [ordN]
    by_cases hp : q = p
    · subst hp
      rcases h4 with h4 | h4
      · omega
      · rw [if_neg h4]
    · rw [if_pos (h3 (q + 1) (by omega) (by omega))]
      exact ordN_of f p (q + 1) (by omega) (by omega) (fun j a b => h3 j (by omega) b) (by rcases h4 with h4 | h4; exact .inl (by omega); exact .inr h4)
def ordS (A : List (List Int)) (B : List Int) : Nat := ordN (serL A B 15) expU 15 0
def stabO (A : List (List Int)) (B : List Int) : AV := if tabB A B = true then .tup [.int (ordS A B), .int 0] else .tup [.int 0, .int 1]
theorem StabilityOrder_c (A : List (List Int)) (B : List Int) (hA : A.length ≤ 9223372036854775807) (hB : B.length ≤ 9223372036854775807) (hr : ∀ r ∈ A, r.length ≤ 9223372036854775807) :
    Con Try.prog 27 [.agg [.sl A.length (mat A), .sl B.length (avs B)]] (stabO A B) := by
  have cT := IsTableau_c A B hA hB hr
  unfold stabO
  refine con_of_vc Try.mixed ⟨8, [], [], []⟩ Try.func27 (by decide) rfl (by simp) (by decide) (by(split<;>rfl)) ?_
  rw [Try.ntmps27]
  simp [go_sem]
  refine CallVC.of (cT) (by decide) ?_
  cases hT : tabB A B with
  | false =>
    simp [go_sem]
  | true =>
    have hTT := tabB_iff.1 hT
    have cS := stabilitySeries_c A B 15 hTT (by omega)
    simp [go_sem]
    refine CallVC.of (ExponentialTo_c) (by decide) ?_
    simp [go_sem]
    refine CallVC.of (cS) (by decide) ?_
    simp [go_sem]
    refine loop_inv (2 :: 3 :: 6 :: 7 :: List.range' 18 14) (fun i : Nat => [(18, .int i)]) (fun i => i ≤ 16 ∧ ∀ j, j < i → (serL A B 15)[j]?.getD 0 = expU[j]?.getD 0) (fun i => 16 - i) 0 (by simp) (by simp [go_sem]) (by simp [go_sem]) ?_
    rintro i ⟨hi, hp⟩
    simp [go_sem]
    refine ⟨fun h => ?_, fun h => ?_⟩ <;> simp at h
    · have l1 : i < (serL A B 15).length := by simp; omega
      have l2 : i < expU.length := by simp; omega
      by_cases hd : (serL A B 15)[i]?.getD 0 = expU[i]?.getD 0
      · simp [go_sem, avs_drop l1, avs_drop l2, avs_at l1, avs_at l2, hd]
        refine ⟨by omega, ⟨by omega, by omega⟩, i + 1, ⟨by omega, fun j hj => ?_⟩, by omega, Off_reset _ _ _ (by simp), by omega⟩
        by_cases hj2 : j = i
        · rw [hj2]; exact hd
        · exact hp j (by omega)
      · have i0 : i ≠ 0 := by rintro rfl; exact hd rfl
        have ho : ordS A B = i - 1 := ordN_of 15 (i - 1) 0 (by omega) (by omega) (fun j a b => hp j (by omega)) (.inr (by rw [show i - 1 + 1 = i by omega]; exact hd))
        simp [go_sem, avs_drop l1, avs_drop l2, avs_at l1, avs_at l2, hd]
        refine ⟨by omega, ⟨by omega, by omega⟩, by omega⟩
    · have e : i = 16 := by omega
      subst e
      have ho : ordS A B = 15 := ordN_of 15 15 0 (by omega) (by omega) (fun j a b => hp j (by omega)) (.inl rfl)
      simp [go_sem, ho]
set_option maxRecDepth 100000 in
theorem specStabilityOrder_c (A : List (List Int)) (B : List Int) (hA : A.length ≤ 9223372036854775807) (hB : B.length ≤ 9223372036854775807) (hr : ∀ r ∈ A, r.length ≤ 9223372036854775807) :
    Con Try.prog 26 [.agg [.sl A.length (mat A), .sl B.length (avs B)]] (stabO A B) := by
  have cT := l09Is_c A B hA hB hr
  unfold stabO
  refine con_of_vc Try.mixed ⟨7, [], [], []⟩ Try.func26 (by decide) rfl (by simp) (by decide) (by(split<;>rfl)) ?_
  rw [Try.ntmps26]
  simp [go_sem]
  refine CallVC.of (cT) (by decide) ?_
  cases hT : tabB A B with
  | false =>
    simp [go_sem]
  | true =>
    have hTT := tabB_iff.1 hT
    have cS := l19Weights_c A B 15 hTT (by omega)
    simp [go_sem]
    refine CallVC.of (cS) (by decide) ?_
    simp [go_sem]
    refine CallVC.of (specUni_c) (by decide) ?_
    simp [go_sem]
    refine CallVC.of (specExpU_c) (by decide) ?_
    simp [go_sem]
    refine loop_inv (6 :: List.range' 14 18) (fun p : Nat => [(6, .int p)]) (fun p => p ≤ 15 ∧ ∀ j, j ≤ p → (serL A B 15)[j]?.getD 0 = expU[j]?.getD 0) (fun p => 16 - p) 0 ⟨by omega, fun j hj => by rw [show j = 0 by omega]; rfl⟩ (by simp [go_sem]) (by simp [go_sem]) ?_
    rintro p ⟨hi, hp⟩
    by_cases h15 : (p : Int) + 1 < 16
    · have l1 : p + 1 < (serL A B 15).length := by simp; omega
      have l2 : p + 1 < expU.length := by simp; omega
      by_cases hd : (serL A B 15)[p + 1]?.getD 0 = expU[p + 1]?.getD 0
      · simp [go_sem]
        refine ⟨by kernel_rfl, ⟨by omega, by omega⟩, ?_⟩
        simp [go_sem, avs_drop l1, avs_drop l2, avs_at l1, avs_at l2, hd, h15]
        refine ⟨⟨by omega, by omega⟩, by omega, ⟨by omega, by omega⟩, by omega, ?_⟩
        refine ⟨by kernel_rfl, ?_⟩
        simp [go_sem]
        refine ⟨⟨by omega, by omega⟩, p + 1, ⟨by omega, fun j hj => ?_⟩, by omega, Off_reset _ _ _ (by simp), by omega⟩
        by_cases hj2 : j = p + 1
        · rw [hj2]; exact hd
        · exact hp j (by omega)
      · simp [go_sem]
        refine ⟨by kernel_rfl, ⟨by omega, by omega⟩, ?_⟩
        simp [go_sem, avs_drop l1, avs_drop l2, avs_at l1, avs_at l2, hd, h15]
        refine ⟨⟨by omega, by omega⟩, by omega, ⟨by omega, by omega⟩, by omega, ?_⟩
        refine ⟨by kernel_rfl, ?_⟩
        simp [go_sem]
        rw [show ordS A B = p from ordN_of 15 p 0 (by omega) (by omega) (fun j a b => hp j (by omega)) (.inr hd)]
    · simp [go_sem]
      refine ⟨by kernel_rfl, ⟨by omega, by omega⟩, ?_⟩
      simp [go_sem, h15]
      refine ⟨by kernel_rfl, ?_⟩
      simp [go_sem]
      rw [show ordS A B = p from ordN_of 15 p 0 (by omega) (by omega) (fun j a b => hp j (by omega)) (.inl (by omega))]
end Go.Proofs.Ytdhnnpohpfjaiaa
