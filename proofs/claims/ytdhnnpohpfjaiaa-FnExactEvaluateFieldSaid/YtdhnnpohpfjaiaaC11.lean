/- Contracts: repeated rows. -/
import Derived.Test.YtdhnnpohpfjaiaaC10
namespace Go.Proofs.Ytdhnnpohpfjaiaa
open Go.Abs
set_option linter.unusedVariables false
set_option linter.unusedSimpArgs false
set_option maxHeartbeats 1000000
abbrev u64 (n : Int) : AV := .val (.int .u64 n)
theorem and_low {x : Int} (h0 : 0 ≤ x) (h1 : x < 4294967296) : andI .u64 x 4294967295 = x := by
  obtain ⟨n, rfl⟩ := Int.eq_ofNat_of_zero_le h0
  have hn : n < 2 ^ 32 := by omega
  have e1 : (BitVec.ofInt 64 (n : Int)).toNat = n := by
    rw [BitVec.toNat_ofInt]; simp; omega
  have e2 : (BitVec.ofInt 64 4294967295).toNat = 2 ^ 32 - 1 := by decide
  show IntKind.wrap .u64 ((BitVec.ofInt 64 (n : Int) &&& BitVec.ofInt 64 4294967295).toNat : Int) = n
  rw [BitVec.toNat_and, e1, e2, Nat.and_two_pow_sub_one_eq_mod, Nat.mod_eq_of_lt hn]
  exact wrap_in (by
    have e1 : IntKind.min .u64 = 0 := by decide
    have e2 : IntKind.max .u64 = 18446744073709551615 := by decide
    unfold inK; rw [e1, e2]; omega)
theorem wrap_u64 {x : Int} (h0 : 0 ≤ x) (h1 : x < 18446744073709551616) : IntKind.wrap .u64 x = x := wrap_in (by
  have e1 : IntKind.min .u64 = 0 := by decide
  have e2 : IntKind.max .u64 = 18446744073709551615 := by decide
  unfold inK; rw [e1, e2]; omega)
theorem shr_low {x : Int} (h0 : 0 ≤ x) (h1 : x < 4294967296) : shrI .u64 x 32 = 0 := by
  show x.fdiv (2 ^ min (32 : Int).toNat 64) = 0
  rw [show ((2 : Int) ^ min (32 : Int).toNat 64) = 4294967296 from rfl, Int.fdiv_eq_ediv_of_nonneg _ (by omega)]; omega
set_option maxRecDepth 100000 in
theorem Mul64_c (x y : Int) (hx : 0 ≤ x) (hx1 : x < 4294967296) (hy : 0 ≤ y) (hy1 : y < 4294967296) (h0 : 0 ≤ x * y) (h : x * y < 4294967296) : Con Try.prog 142 [u64 x, u64 y] (.tup [u64 0, u64 (x * y)]) := by
  have a0 := and_low (Int.le_refl 0) (by omega)
  have a1 := and_low hx hx1
  have a2 := and_low hy hy1
  have s0 := shr_low (Int.le_refl 0) (by omega)
  have s1 := shr_low hx hx1
  have s2 := shr_low hy hy1
  have s3 := shr_low h0 h
  have w3 := wrap_u64 h0 (by omega)
  have w0 := wrap_u64 (Int.le_refl 0) (by omega)
  refine con_of_vc Try.mixed ⟨14, [], [], []⟩ Try.func142 (by decide) rfl (by simp) (by decide) (by simp [freshOK, freshL]) ?_
  rw [Try.ntmps142]
  simp [go_sem, a0, a1, a2, s0, s1, s2, s3, w3, w0]
theorem Mul_c (x y : Int) (hx : 0 ≤ x) (hx1 : x < 4294967296) (hy : 0 ≤ y) (hy1 : y < 4294967296) (h0 : 0 ≤ x * y) (h : x * y < 4294967296) : Con Try.prog 124 [u64 x, u64 y] (.tup [u64 0, u64 (x * y)]) := by
  refine con_of_vc Try.mixed ⟨10, [], [], []⟩ Try.func124 (by decide) rfl (by simp) (by decide) (by simp [freshOK, freshL, go_sem]) ?_
  rw [Try.ntmps124]
  simp [go_sem]
  refine CallVC.of (Mul64_c x y hx hx1 hy hy1 h0 h) (by decide) ?_
  simp [go_sem]
theorem rep_copy (x : Int) (s n : Nat) (h : n ≤ s) : setMany (avs (List.replicate n x ++ List.replicate (s - n) 0)) n ((avs (List.replicate n x ++ List.replicate (s - n) 0)).take (min n (s - n))) =
    avs (List.replicate (n + min n (s - n)) x ++ List.replicate (s - (n + min n (s - n))) 0) := by
  rw [setMany_eq _ _ _ (by simp; omega)]
  simp only [avs, ← List.map_take, ← List.map_drop, ← List.map_append]
  congr 1
  simp only [List.take_append_of_le_length (show min n (s - n) ≤ (List.replicate n x).length by simp; omega), List.take_append_of_le_length (show n ≤ (List.replicate n x).length by simp), List.take_replicate, Nat.min_self, Nat.min_eq_left (Nat.min_le_left n (s - n))]
  rw [List.drop_append]
  simp
  omega
/-- A row repeated: one number. -/
theorem Repeat_c (x : Int) (s : Nat) (h1 : 1 ≤ s) (h2 : s ≤ 1000) : Con Try.prog 86 [.sl 1 [.int x], .int s] (.own 2 s (avs (List.replicate s x))) := by
  have w1 : IntKind.wrap .u64 1 = 1 := by decide
  have w2 : IntKind.wrap .u64 (s : Int) = s := wrap_u64 (by omega) (by omega)
  refine con_of_vc Try.mixed ⟨9, [], [], []⟩ Try.func86 (by decide) rfl (by simp) (by decide) (by simp [freshOK, freshL, go_sem]) ?_
  rw [Try.ntmps86]
  simp [go_sem]
  refine ⟨fun h => ?_, fun _ => ?_⟩
  · simp at h; omega
  simp [go_sem, w1, w2]
  refine CallVC.of (Mul_c 1 s (by omega) (by omega) (by omega) (by omega) (by omega) (by omega)) (by decide) ?_
  have e1 : (1 : Int) * s = s := by omega
  simp [go_sem, e1]
  refine ⟨fun h => ?_, fun _ => ?_⟩
  · simp at h; omega
  simp [go_sem]
  refine ⟨by omega, ⟨by omega, by omega⟩, ⟨by omega, by omega, by omega⟩, ?_⟩
  refine loop_inv (7 :: 8 :: List.range' 34 13) (fun n : Nat => [(7, .own 2 s (avs (List.replicate n x ++ List.replicate (s - n) 0))), (8, .int n)]) (fun n => 1 ≤ n ∧ n ≤ s) (fun n => s - n) 1 ⟨by omega, h1⟩ ?_ (by simp [go_sem]) ?_
  · simp [go_sem]
    obtain ⟨m, rfl⟩ : ∃ m, s = m + 1 := ⟨s - 1, by omega⟩
    simp [List.replicate_succ, avs_cons, setMany, avs_repl, go_sem]
  rintro n ⟨hn1, hn2⟩
  simp [go_sem]
  refine ⟨fun h => ?_, fun h => ?_⟩ <;> simp at h
  · have hz : ¬ n = 0 := by omega
    simp [go_sem, hz]
    refine ⟨by kernel_rfl, h, ⟨by omega, by omega⟩, ⟨by omega, by omega⟩, ⟨by omega, by omega⟩, ?_⟩
    refine ⟨by kernel_rfl, ?_⟩
    simp [go_sem]
    refine ⟨n + min n (s - n), ⟨by omega, by omega⟩, by omega, Off_reset _ _ _ (by simp), ?_, by omega⟩
    have hc := rep_copy x s n (by omega)
    simpa using hc
  · simp [go_sem]
    have e : n = s := by omega
    subst e; simp
end Go.Proofs.Ytdhnnpohpfjaiaa
