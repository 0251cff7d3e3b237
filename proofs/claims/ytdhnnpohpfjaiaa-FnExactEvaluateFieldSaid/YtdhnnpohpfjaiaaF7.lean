/- Fields: the program's values. -/
import Derived.Test.YtdhnnpohpfjaiaaF6
namespace Go.Proofs.Ytdhnnpohpfjaiaa
open Go.Abs
set_option linter.unusedVariables false
set_option linter.unusedSimpArgs false
set_option maxHeartbeats 1000000
theorem partValue_c {z : Int} {p : List Mon} {y : List Int} (hz : z ≤ 3) (hp : partB z p = true) (hpl : p.length ≤ 1048576) (hy : Ns y) (hl : (y.length : Int) = z) :
    Con Try.prog 109 [.fmp (polF p), .sl y.length (avs y)] (.int (vsum y p % 10007)) := by
  have hv := vsum_le y p (fun m hm => by have := partB_mem hp hm; have l1 := this.lo; have l2 := this.hi; exact ⟨by omega, by omega⟩)
  refine value_c (polF p) y (vsum y p) hy (by omega) (fun k x hk => part_entries hz hp hk) (by omega) (fun es he => ?_)
  rw [rest_perm y (enum_perm (keys_nd hz hp) he)]
  exact rest_map (by omega) p
theorem valuesAt_c (z : Int) (f : List (List Mon)) (y : List Int) (hf : FieldOk z f) (hs : Small f) (hy : Ns y) (hl : (y.length : Int) = z) :
    Con Try.prog 69 [.sl f.length (fpols f), .sl y.length (avs y)] (.own 2 f.length (avs (evL y f))) := by
  have fl := hs.1
  have z3 := hf.hi
  refine con_of_vc Try.mixed ⟨8, [], [], []⟩ Try.func69 (by decide) rfl (by simp) (by decide) (by simp [freshOK, freshL, go_sem]) ?_
  rw [Try.ntmps69]
  simp [go_sem]
  refine loop_inv (5 :: 7 :: List.range' 11 11) (fun i : Nat => [(5, .own 2 i (avs (evL y (f.take i)))), (11, .int i)]) (fun i => i ≤ f.length) (fun i => f.length - i) 0 (by simp) (by simp [go_sem, evL]) (by simp [go_sem]) ?_
  intro i hi
  simp [go_sem]
  refine ⟨fun h => ?_, fun h => ?_⟩ <;> simp at h
  · have hif := h
    have hx : f[i]?.getD [] ∈ f := by simp [h]
    have hv := evL_take (y := y) h
    simp [go_sem, fpols_drop hif]
    refine ⟨⟨hif, by rintro rfl; simp at hif⟩, ?_⟩
    refine CallVC.of (partValue_c z3 (hf.part _ hx) (hs.2 _ hx).1 hy hl) (by decide) ?_
    simp [go_sem]
    refine ⟨⟨by omega, by omega⟩, by omega, i + 1, by omega, by omega, Off_reset _ _ _ (by simp), ?_, by omega⟩
    rw [hv]; simp [avs_snoc, Nat.min_eq_left hi]
  · simp [go_sem]
    have e : i = f.length := by omega
    subst e; simp
theorem EvaluateField_c (z : Int) (f : List (List Mon)) (y : List Int) (hs : Small f) (hy : y.length ≤ 9223372036854775807) :
    Con Try.prog 31 [.agg [.int z, .sl f.length (prt f)], .sl y.length (avs y)] (evR z f y) := by
  have cK := checkVectors_c z f [y] hs (by simp) (by simpa using hy)
  have e1 : mat [y] = [.sl y.length (avs y)] := rfl
  have e2 : ([y] : List (List Int)).length = 1 := rfl
  rw [e1, e2] at cK
  unfold evR evX evE
  have hv : ([y] : List (List Int)).any (fun y => !vecB z y) = !vecB z y := by simp
  unfold chk at cK
  rw [hv] at cK
  have hvb : (decide ((y.length : Int) = z) && numsB y) = vecB z y := rfl
  rw [hvb]
  cases hT : fieldB z f with
  | false =>
    rw [hT] at cK
    refine Con.n1 _ ?_
    refine con_of_vc Try.mixed ⟨7, [], [], []⟩ Try.func31 (by decide) rfl (by simp) (by decide) (by simp [freshOK, freshL, go_sem]) ?_
    rw [Try.ntmps31]
    simp [go_sem]
    refine CallVC.of (cK) (by decide) ?_
    simp [go_sem]
  | true =>
    rw [hT] at cK
    cases hn : vecB z y with
    | true =>
      rw [hn] at cK
      simp at cK
      have hn2 : (y.length : Int) = z ∧ numsB y = true := by simpa [vecB] using hn
      have hF := fieldB_iff.1 hT
      simp only [and_self, if_true, evL_len]
      refine con_of_vc Try.mixed ⟨7, [], [], []⟩ Try.func31 (by decide) rfl (by simp) (by decide) (by simp [freshOK, freshL, go_sem]) ?_
      rw [Try.ntmps31]
      simp [go_sem]
      refine CallVC.of (cK) (by decide) ?_
      simp [go_sem]
      refine CallVC.of (polynomials_c z f hF hs) (by decide) ?_
      simp [go_sem]
      refine CallVC.of (valuesAt_c z f y hF hs (numsB_N.1 hn2.2) hn2.1) (by decide) ?_
      simp [go_sem]
    | false =>
      rw [hn] at cK
      simp at cK
      refine Con.n1 _ ?_
      refine con_of_vc Try.mixed ⟨7, [], [], []⟩ Try.func31 (by decide) rfl (by simp) (by decide) (by simp [freshOK, freshL, go_sem]) ?_
      rw [Try.ntmps31]
      simp [go_sem]
      refine CallVC.of (cK) (by decide) ?_
      simp [go_sem]
end Go.Proofs.Ytdhnnpohpfjaiaa
