/- The statement's function over stability series, walked: it answers true. -/
import Derived.Test.YtdhnnpohpfjaiaaC12
namespace Go.Proofs.Ytdhnnpohpfjaiaa
open Go.Abs
set_option linter.unusedVariables false
set_option linter.unusedSimpArgs false
set_option maxHeartbeats 1000000
theorem szRs_ok : ∀ (A : List (List Int)) {left : Int}, 0 ≤ left → 0 ≤ szRs left A → (sumL A : Int) ≤ left ∧ szRs left A = left - sumL A ∧ ∀ r ∈ A, (r.length : Int) ≤ left
  | [], left, h0, h => by simp [szRs, sumL]; exact h0
  | r :: rs, left, h0, h => by
    rw [szRs] at h ⊢
    split at h
    · omega
    · rename_i hs
      have e : szR left r.length = left - r.length := by
        unfold szR at hs ⊢
        by_cases h1 : left - (r.length : Int) < 0
        · rw [if_pos h1] at hs; omega
        · rw [if_neg h1]
      rw [e] at hs h
      have := szRs_ok rs (by omega) h
      rw [if_neg (by rw [e]; exact hs), e]
      refine ⟨by simp [sumL]; omega, by simp [sumL]; omega, fun q hq => ?_⟩
      rcases List.mem_cons.1 hq with rfl | hq
      · omega
      · have := this.2.2 q hq; omega
theorem szM_ok {A : List (List Int)} {left : Int} (h0 : 0 ≤ left) (h : 0 ≤ szM left A) : (A.length : Int) + sumL A ≤ left ∧ szM left A = left - A.length - sumL A ∧ ∀ r ∈ A, (r.length : Int) ≤ left := by
  unfold szM at h ⊢
  split at h
  · omega
  · rename_i hs
    have e : szR left A.length = left - A.length := by
      unfold szR at hs ⊢
      by_cases h1 : left - (A.length : Int) < 0
      · rw [if_pos h1] at hs; omega
      · rw [if_neg h1]
    rw [e] at hs h
    rw [if_neg (by rw [e]; exact hs), e]
    have := szRs_ok A (by omega) h
    refine ⟨by omega, by omega, fun r hr => by have := this.2.2 r hr; omega⟩
/-- What is left behind a tableau. -/
def szT (A : List (List Int)) (B : List Int) (left : Int) : Int := if szM left A < 0 then -1 else szR (szM left A) B.length
theorem szTableau_c (A : List (List Int)) (B : List Int) (left : Int) (hA : A.length ≤ 9223372036854775807) (hr : ∀ r ∈ A, r.length ≤ 9223372036854775807) (hB : B.length ≤ 9223372036854775807) (h0 : 0 ≤ left) (h1 : left ≤ 9223372036854775807) :
    Con Try.prog 17 [.agg [.sl A.length (mat A), .sl B.length (avs B)], .int left] (.int (szT A B left)) := by
  refine con_of_vc Try.mixed ⟨5, [], [], []⟩ Try.func17 (by decide) rfl (by simp) (by decide) (by simp [freshOK, freshL, go_sem]) ?_
  rw [Try.ntmps17]
  simp [go_sem]
  refine CallVC.of (szInt64SS_c A left hA hr h0 h1) (by decide) ?_
  simp [go_sem]
  unfold szT
  by_cases h : szM left A < 0
  · simp [go_sem, h]
  · have := szM_ok h0 (by omega : 0 ≤ szM left A)
    simp [go_sem, h]
    refine CallVC.of (szInt64S_c B.length _ (szM left A) hB (by omega) (by omega)) (by decide) ?_
    simp [go_sem]
    have h3 := szR_ge (szM left A) B.length
    by_cases h2 : szR (szM left A) B.length < 0
    · simp [go_sem, h2]
      omega
    · simp [go_sem, h2]
theorem szT_ok {A : List (List Int)} {B : List Int} {left : Int} (h0 : 0 ≤ left) (h : 0 ≤ szT A B left) : (A.length : Int) + sumL A + B.length ≤ left ∧ ∀ r ∈ A, (r.length : Int) ≤ left := by
  unfold szT at h
  split at h
  · omega
  · rename_i h1
    have := szM_ok h0 (by omega : 0 ≤ szM left A)
    unfold szR at h
    split at h
    · omega
    · exact ⟨by omega, this.2.2⟩
theorem stabX_len (A : List (List Int)) (B : List Int) (n : Int) : (stabX A B n).length ≤ 16 := by
  unfold stabX
  split
  · simp; omega
  · simp
set_option maxRecDepth 100000 in
theorem law3_c (A : List (List Int)) (B : List Int) (n : Int) (hA : A.length ≤ 9223372036854775807) (hr : ∀ r ∈ A, r.length ≤ 9223372036854775807) (hB : B.length ≤ 9223372036854775807) :
    Con Try.prog 5 [.agg [.sl A.length (mat A), .sl B.length (avs B)], .int n] (.bool true) := by
  have cS := szTableau_c A B 1048576 hA hr hB (by omega) (by omega)
  refine con_of_vc Try.mixed ⟨16, [], [22, 13], []⟩ Try.func5 (by decide) rfl (by simp) (by decide) (by simp [freshOK, freshL, go_sem]) ?_
  rw [Try.ntmps5]
  simp [go_sem]
  refine CallVC.of (cS) (by decide) ?_
  simp [go_sem]
  by_cases hs : szT A B 1048576 < 0
  · simp [go_sem, hs]
  · obtain ⟨z1, z2⟩ := szT_ok (by omega) (by omega : 0 ≤ szT A B 1048576)
    have cT := toTableau_c A B (by omega) (fun r hr => by have := z2 r hr; omega) (by omega)
    have cP := specStabilitySeries_c A B n hA hB hr
    have cI := StabilitySeries_c A B n hA hB hr
    have xl := stabX_len A B n
    unfold stabR at cP cI
    generalize stabX A B n = xs at cP cI xl
    generalize stabE A B n = e at cP cI
    have cE := eqInt64S_c xs xs (by omega)
    have cQ := eqTableau_c A A B B hA hr hB
    have cM := markTableau_c A B 1 (by omega) (fun r hr => by have := z2 r hr; omega) (by omega) (by omega)
    have cN := markInt64S_c 2 xs 1 (by omega) (by omega)
    have cH := heldInt64S_c ((List.range xs.length).map fun (i : Nat) => 1 + (i : Int)) 1 (by omega) (by simp; omega)
    rw [held_mark, List.length_map, List.length_range] at cH
    simp at cE cQ
    have p1 : ¬ (1 + (xs.length : Int) < 0) := by omega
    have p2 : ¬ (1 + (sumL A : Int) + B.length < 0) := by omega
    simp [go_sem, hs]
    refine CallVC.of (cT) (by decide) ?_
    simp [go_sem]
    refine CallVC.of (cP) (by decide) ?_
    simp [go_sem]
    refine CallVC.of (cT) (by decide) ?_
    simp [go_sem]
    refine CallVC.of (cI) (by decide) ?_
    simp [go_sem]
    refine CallVC.of (cE) (by decide) ?_
    simp [go_sem]
    refine ⟨by kernel_rfl, ?_⟩
    refine CallD.of (cT) (by simp [roots, rootsL]) (by decide) ?_
    simp [go_sem]
    refine CallD.of (cQ) (by simp [roots, rootsL]) (by decide) ?_
    simp [go_sem]
    refine ⟨by kernel_rfl, ?_⟩
    simp [go_sem]
    refine ⟨_, _, cM, ?_⟩
    simp [go_sem]
    simp [go_sem, p2]
    refine CallVC.of (cE) (by decide) ?_
    simp [go_sem]
    refine ⟨_, _, cN, ?_⟩
    simp [go_sem]
    refine CallVC.of (cH) (by decide) ?_
    simp [go_sem]
    simp [go_sem, p1]
    refine CallVC.of (cT) (by decide) ?_
    simp [go_sem]
    refine CallVC.of (cI) (by decide) ?_
    simp [go_sem]
    refine CallVC.of (cE) (by decide) ?_
    simp [go_sem]
    refine CallVC.of (cH) (by decide) ?_
    simp [go_sem]
    simp [go_sem, p1]
end Go.Proofs.Ytdhnnpohpfjaiaa
