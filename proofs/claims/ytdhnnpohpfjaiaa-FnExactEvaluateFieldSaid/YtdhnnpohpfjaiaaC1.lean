/- Contracts: tall trees, and the statement's own small functions over rows of numbers. -/
import Derived.Test.YtdhnnpohpfjaiaaC0
namespace Go.Proofs.Ytdhnnpohpfjaiaa
open Go.Abs
set_option linter.unusedVariables false
set_option linter.unusedSimpArgs false
set_option maxHeartbeats 400000
theorem inRange_c (n a b : Int) : Con Try.prog 37 [.int n, .int a, .int b] (.bool (decide (a ≤ n) && decide (n ≤ b))) := by
  refine con_of_vc Try.mixed ⟨4, [], [], []⟩ Try.func37 (by decide) rfl (by simp) (by decide) rfl ?_
  rw [Try.ntmps37]
  simp [go_sem]
  refine ⟨fun h => ?_, fun h => ?_⟩ <;> simp at h <;> simp [go_sem, h] <;> omega
theorem l01In_c (n a b : Int) : Con Try.prog 36 [.int n, .int a, .int b] (.bool (decide (a ≤ n) && decide (n ≤ b))) := by
  refine con_of_vc Try.mixed ⟨4, [], [], []⟩ Try.func36 (by decide) rfl (by simp) (by decide) rfl ?_
  rw [Try.ntmps36]
  simp [go_sem]
  refine ⟨fun h => ?_, fun h => ?_⟩ <;> simp at h <;> simp [go_sem, h] <;> omega
def upTo (k : Nat) : List Int := (List.range k).map fun (i : Nat) => (i : Int)
theorem upTo_succ (k : Nat) : upTo (k + 1) = upTo k ++ [(k : Int)] := by simp [upTo, List.range_succ]
@[simp] theorem upTo_len (k : Nat) : (upTo k).length = k := by simp [upTo]
/-- What a tall tree's function answers. -/
def tall (n : Int) : AV := if 1 ≤ n ∧ n ≤ 8 then .tup [.own 2 n.toNat (avs (upTo n.toNat)), .int 0] else .tup [.val (.slice none 0 0), .int 2]
theorem TallTree_c (n : Int) : Con Try.prog 11 [.int n] (tall n) := by
  unfold tall
  by_cases hn : 1 ≤ n ∧ n ≤ 8
  · rw [if_pos hn]
    refine con_of_vc Try.mixed ⟨5, [], [], []⟩ Try.func11 (by decide) rfl (by simp) (by decide) (by simp [go_sem, freshOK]) ?_
    rw [Try.ntmps11]
    simp [go_sem]
    refine CallVC.of (inRange_c _ _ _) (by decide) ?_
    simp [go_sem]
    refine ⟨fun h => ?_, fun _ => ?_⟩
    · simp at h; omega
    simp [go_sem]
    refine loop_inv [12, 13, 5, 14, 15, 16, 17, 4, 18, 11] (fun k : Nat => [(4, .own 2 k (avs (upTo k))), (11, .int k)]) (fun k => (k : Int) ≤ n) (fun k => n.toNat - k) 0 (by omega) (by simp [go_sem, upTo]) (by simp [go_sem]) ?_
    intro k hk
    simp [go_sem]
    refine ⟨fun h => ?_, fun h => ?_⟩ <;> simp at h <;> simp [go_sem]
    · refine ⟨by omega, by omega, k + 1, by omega, by omega, Off_reset _ _ _ (by simp), ?_⟩
      simp [upTo_succ, avs_snoc]
    · have : n.toNat = k := by omega
      simp [this]
  · rw [if_neg hn]
    refine con_of_vc Try.mixed ⟨5, [], [], []⟩ Try.func11 (by decide) rfl (by simp) (by decide) rfl ?_
    rw [Try.ntmps11]
    simp [go_sem]
    refine CallVC.of (inRange_c _ _ _) (by decide) ?_
    simp [go_sem]
    refine ⟨fun h => ?_, fun h => ?_⟩ <;> simp at h <;> simp [go_sem]
    omega
theorem specTallTree_c (n : Int) : Con Try.prog 10 [.int n] (tall n) := by
  unfold tall
  by_cases hn : 1 ≤ n ∧ n ≤ 8
  · rw [if_pos hn]
    refine con_of_vc Try.mixed ⟨5, [], [], []⟩ Try.func10 (by decide) rfl (by simp) (by decide) (by simp [go_sem, freshOK]) ?_
    rw [Try.ntmps10]
    simp [go_sem]
    refine CallVC.of (l01In_c _ _ _) (by decide) ?_
    simp [go_sem]
    refine ⟨fun h => ?_, fun _ => ?_⟩
    · simp at h; omega
    simp [go_sem]
    refine loop_inv (List.range' 4 20) (fun k : Nat => [(4, .own 2 k (avs (upTo k))), (5, .int k)]) (fun k => (k : Int) ≤ n) (fun k => n.toNat - k) 0 (by omega) (by simp [go_sem, upTo]) (by simp [go_sem]) ?_
    intro k hk
    simp [go_sem]
    refine ⟨fun h => ?_, fun h => ?_⟩ <;> simp at h <;> simp [go_sem]
    · refine ⟨by omega, by omega, k + 1, by omega, by omega, Off_reset _ _ _ (by simp), ?_⟩
      simp [upTo_succ, avs_snoc]
    · have : n.toNat = k := by omega
      simp [this]
  · rw [if_neg hn]
    refine con_of_vc Try.mixed ⟨5, [], [], []⟩ Try.func10 (by decide) rfl (by simp) (by decide) rfl ?_
    rw [Try.ntmps10]
    simp [go_sem]
    refine CallVC.of (l01In_c _ _ _) (by decide) ?_
    simp [go_sem]
    refine ⟨fun h => ?_, fun h => ?_⟩ <;> simp at h <;> simp [go_sem]
    omega
/-- What heldInt64S answers. -/
def held (xs : List Int) (k : Int) : Int := if xs = (List.range xs.length).map (fun (i : Nat) => k + i) then k + xs.length else -1
theorem heldInt64S_c (xs : List Int) (k : Int) (h0 : 0 ≤ k) (h1 : k + xs.length ≤ 9223372036854775807) : Con Try.prog 14 [.sl xs.length (avs xs), .int k] (.int (held xs k)) := by
  refine con_of_vc Try.mixed ⟨6, [], [], []⟩ Try.func14 (by decide) rfl (by simp) (by decide) rfl ?_
  rw [Try.ntmps14]
  simp [go_sem]
  refine loop_inv (1 :: List.range' 4 20) (fun i : Nat => [(1, .int (k + i)), (5, .int i)]) (fun i => i ≤ xs.length ∧ xs.take i = (List.range i).map (fun (i : Nat) => k + i)) (fun i => xs.length - i) 0 (by simp) (by simp [go_sem]) (by simp [go_sem]) ?_
  intro i hi
  simp [go_sem]
  refine ⟨fun h => ?_, fun h => ?_⟩ <;> simp at h
  · simp [go_sem, avs_drop h]
    refine ⟨⟨h, by rintro rfl; simp at h⟩, fun h2 => ?_, fun h2 => ?_⟩ <;> simp at h2 <;> simp [go_sem]
    · unfold held
      rw [if_neg]
      intro e
      apply h2
      rw [e]; simp [h]
    · refine ⟨by omega, by omega, i + 1, ⟨by omega, ?_⟩, by omega, Off_reset _ _ _ (by simp), by omega, by omega⟩
      rw [List.take_add_one, hi.2, List.range_succ]
      rw [List.getElem?_eq_getElem h] at h2 ⊢
      simp at h2 ⊢; exact h2
  · simp [go_sem]
    have e : i = xs.length := by omega
    subst e
    have := hi.2
    rw [List.take_length] at this
    unfold held
    rw [if_pos this]
theorem eqInt64S_c (xs ys : List Int) (hx : xs.length ≤ 9223372036854775807) : Con Try.prog 12 [.sl xs.length (avs xs), .sl ys.length (avs ys)] (.bool (decide (xs = ys))) := by
  refine con_of_vc Try.mixed ⟨6, [], [], []⟩ Try.func12 (by decide) rfl (by simp) (by decide) rfl ?_
  rw [Try.ntmps12]
  simp [go_sem]
  refine ⟨fun h => ?_, fun h => ?_⟩ <;> simp at h <;> simp [go_sem]
  · rintro rfl; omega
  have hl : xs.length = ys.length := by omega
  refine loop_inv (List.range' 4 30) (fun i : Nat => [(5, .int i)]) (fun i => i ≤ xs.length ∧ xs.take i = ys.take i) (fun i => xs.length - i) 0 (by simp) (by simp [go_sem]) (by simp [go_sem]) ?_
  intro i hi
  simp [go_sem]
  refine ⟨fun h => ?_, fun h => ?_⟩ <;> simp at h
  · simp [go_sem, avs_drop h, avs_drop (show i < ys.length by omega)]
    refine ⟨by kernel_rfl, ⟨by omega, by rintro rfl; simp at h⟩, ⟨by omega, fun e => by rw [e] at hl; rw [hl] at h; simp at h⟩, by kernel_rfl, ?_⟩
    refine ⟨fun h2 => ?_, fun h2 => ?_⟩ <;> simp at h2 <;> simp [go_sem]
    · rintro rfl; exact h2 rfl
    · refine ⟨by omega, i + 1, ⟨by omega, ?_⟩, by omega, Off_reset _ _ _ (by simp), by omega⟩
      rw [List.take_add_one, List.take_add_one, hi.2]
      rw [List.getElem?_eq_getElem h, List.getElem?_eq_getElem (show i < ys.length by omega)] at h2 ⊢
      simp only [Option.getD_some] at h2
      rw [h2]
  · simp [go_sem]
    have e : i = xs.length := by omega
    subst e
    have := hi.2
    rw [List.take_length, hl, List.take_length] at this
    exact this
theorem markInt64S_c (e : TypeId) (xs : List Int) (k : Int) (h0 : 0 ≤ k) (h1 : k + xs.length ≤ 9223372036854775807) : MCon Try.prog 13 [.own e xs.length (avs xs), .int k] (.int (k + xs.length))
    [.own e xs.length (avs ((List.range xs.length).map (fun (i : Nat) => k + i))), .any] := by
  refine mcon_of_vc Try.mixed ⟨6, [], [], []⟩ [4] [0] Try.func13 (by decide) rfl rfl (by simp) (by simp) (by simp) (by decide) ?_
  rw [Try.ntmps13]
  simp [go_sem]
  refine loop_inv (0 :: 1 :: List.range' 4 20) (fun i : Nat => [(0, .own e xs.length (avs ((List.range i).map (fun (i : Nat) => k + i) ++ xs.drop i))), (1, .int (k + i)), (5, .int i)]) (fun i => i ≤ xs.length) (fun i => xs.length - i) 0 (by simp) (by simp [go_sem]) (by simp [go_sem]) ?_
  intro i hi
  simp [go_sem]
  refine ⟨fun h => ?_, fun h => ?_⟩ <;> simp at h
  · simp [go_sem]
    refine ⟨h, by omega, by omega, by omega, i + 1, by omega, by omega, Off_reset _ _ _ (by simp), ?_, by omega, by omega⟩
    rw [avs_set, avs_inj, List.range_succ, List.map_append, List.set_append_right _ _ (by simp)]
    simp
    rw [List.drop_eq_getElem_cons h, List.set_cons_zero]
  · simp [go_sem]
    have e : i = xs.length := by omega
    subst e
    simp
theorem markInt64S_0 (k : Int) : MCon Try.prog 13 [.sl 0 [], .int k] (.int k) [.any, .any] := by
  refine mcon_of_vc Try.mixed ⟨6, [], [], []⟩ [4] [] Try.func13 (by decide) rfl rfl (by simp) (by simp) (by simp) (by decide) ?_
  rw [Try.ntmps13]
  simp [go_sem]
  refine loop_inv (1 :: List.range' 4 20) (fun i : Nat => [(5, .int 0), (1, .int k)]) (fun i => True) (fun i => 0) 0 (by simp) (by simp [go_sem]) (by simp [go_sem]) ?_
  intro i hi
  simp [go_sem]
theorem held_mark (n : Nat) (k : Int) : held ((List.range n).map (fun (i : Nat) => k + i)) k = k + n := by
  unfold held
  rw [if_pos (by simp)]
  simp
end Go.Proofs.Ytdhnnpohpfjaiaa
