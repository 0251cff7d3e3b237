/- Contracts of the field's own functions: remainder, power, inverse, factorials. -/
import Derived.Test.YtdhnnpohpfjaiaaC1
namespace Go.Proofs.Ytdhnnpohpfjaiaa
open Go.Abs
set_option linter.unusedVariables false
set_option linter.unusedSimpArgs false
set_option maxHeartbeats 1000000
/-- A power in the field. -/
def pw (a k : Int) : Int := a ^ k.toNat % 10007
theorem num_c (n : Int) (h0 : -9223372036854775808 ≤ n) (h1 : n ≤ 9223372036854775807) : Con Try.prog 58 [.int n] (.int (n % 10007)) := by
  have e := num_law n
  have b := num_low n
  refine con_of_vc Try.mixed ⟨3, [], [], []⟩ Try.func58 (by decide) rfl (by simp) (by decide) rfl ?_
  rw [Try.ntmps58]
  simp [go_sem, e]
  omega
theorem l01Mod_c (n : Int) (h0 : -9223372036854775808 ≤ n) (h1 : n ≤ 9223372036854775807) : Con Try.prog 90 [.int n] (.int (n % 10007)) := by
  have e := num_law n
  have b := num_low n
  refine con_of_vc Try.mixed ⟨3, [], [], []⟩ Try.func90 (by decide) rfl (by simp) (by decide) rfl ?_
  rw [Try.ntmps90]
  simp [go_sem, e]
  omega
/-- A whole number that fits. -/
def fits (n : Int) : Prop := -9223372036854775808 ≤ n ∧ n ≤ 9223372036854775807
theorem l01Mul_c (a b : Int) (h : fits (a * b)) : Con Try.prog 54 [.int a, .int b] (.int (a * b % 10007)) := by
  refine con_of_vc Try.mixed ⟨5, [], [], []⟩ Try.func54 (by decide) rfl (by simp) (by decide) rfl ?_
  rw [Try.ntmps54]
  simp [go_sem]
  refine ⟨h, CallVC.of (l01Mod_c _ h.1 h.2) (by decide) ?_⟩
  simp [go_sem]
theorem l01Sub_c (a b : Int) (h : fits (a - b)) : Con Try.prog 51 [.int a, .int b] (.int ((a - b) % 10007)) := by
  refine con_of_vc Try.mixed ⟨5, [], [], []⟩ Try.func51 (by decide) rfl (by simp) (by decide) rfl ?_
  rw [Try.ntmps51]
  simp [go_sem]
  refine ⟨h, CallVC.of (l01Mod_c _ h.1 h.2) (by decide) ?_⟩
  simp [go_sem]
theorem l01Add_c (a b : Int) (h : fits (a + b)) : Con Try.prog 53 [.int a, .int b] (.int ((a + b) % 10007)) := by
  refine con_of_vc Try.mixed ⟨5, [], [], []⟩ Try.func53 (by decide) rfl (by simp) (by decide) rfl ?_
  rw [Try.ntmps53]
  simp [go_sem]
  refine ⟨h, CallVC.of (l01Mod_c _ h.1 h.2) (by decide) ?_⟩
  simp [go_sem]
/-- Numbers of the field. -/
def isN (a : Int) : Prop := 0 ≤ a ∧ a < 10007
theorem isN_mod (n : Int) : isN (n % 10007) := ⟨Int.emod_nonneg _ (by omega), Int.emod_lt_of_pos _ (by omega)⟩
theorem mul_bound {a b : Int} (ha : isN a) (hb : isN b) : 0 ≤ a * b ∧ a * b ≤ 100120036 := by
  obtain ⟨a0, a1⟩ := ha
  obtain ⟨b0, b1⟩ := hb
  exact ⟨Int.mul_nonneg a0 b0, Int.le_trans (Int.mul_le_mul_of_nonneg_right (show a ≤ 10006 by omega) b0) (by omega)⟩
theorem mul_fits {a b : Int} (ha : isN a) (hb : isN b) : fits (a * b) := by
  have := mul_bound ha hb
  exact ⟨by omega, by omega⟩
theorem add_fits {a b : Int} (ha : isN a) (hb : isN b) : fits (a + b) := by
  obtain ⟨a0, a1⟩ := ha
  obtain ⟨b0, b1⟩ := hb
  exact ⟨by omega, by omega⟩
theorem sub_fits {a b : Int} (ha : isN a) (hb : isN b) : fits (a - b) := by
  obtain ⟨a0, a1⟩ := ha
  obtain ⟨b0, b1⟩ := hb
  exact ⟨by omega, by omega⟩
theorem pow_mod (a : Int) (k : Nat) : (a % 10007) ^ k % 10007 = a ^ k % 10007 := by
  induction k with
  | zero => simp
  | succ k ih => rw [Int.pow_succ, Int.pow_succ, Int.mul_emod, ih, Int.emod_emod, ← Int.mul_emod]
theorem sq_pow (a : Int) (q : Nat) : (a * a) ^ q = a ^ (2 * q) := by
  induction q with
  | zero => simp
  | succ q ih => rw [Int.pow_succ, ih, show 2 * (q + 1) = 2 * q + 1 + 1 by omega, Int.pow_succ, Int.pow_succ, Int.mul_assoc]
theorem mod_mul_r (o x : Int) : o * (x % 10007) % 10007 = o * x % 10007 := by
  rw [Int.mul_emod, Int.emod_emod, ← Int.mul_emod]
theorem mod_mul_l (o x : Int) : (x % 10007) * o % 10007 = x * o % 10007 := by
  rw [Int.mul_emod, Int.emod_emod, ← Int.mul_emod]
theorem pw_even (o a : Int) (q : Nat) : o * (a * a % 10007) ^ q % 10007 = o * a ^ (2 * q) % 10007 := by
  rw [← mod_mul_r, pow_mod, mod_mul_r, sq_pow]
theorem pw_odd (o a : Int) (q : Nat) : (o * a % 10007) * (a * a % 10007) ^ q % 10007 = o * a ^ (2 * q + 1) % 10007 := by
  rw [pw_even, mod_mul_l, Int.pow_succ, Int.mul_assoc, Int.mul_comm (a ^ (2 * q)) a]
theorem half_cast (j : Nat) : (j : Int).tdiv 2 = ((j / 2 : Nat) : Int) := by rw [tdiv_up (by omega)]; omega
theorem bit_cast (j : Nat) : (j : Int).tmod 2 = ((j % 2 : Nat) : Int) := by rw [tmod_up (by omega)]; omega
theorem pow_c (a k : Int) (ha : isN a) (hk : 0 ≤ k) (hk2 : k ≤ 9223372036854775807) : Con Try.prog 118 [.int a, .int k] (.int (pw a k)) := by
  refine con_of_vc Try.mixed ⟨6, [], [], []⟩ Try.func118 (by decide) rfl (by simp) (by decide) rfl ?_
  rw [Try.ntmps118]
  simp [go_sem]
  refine loop_inv (0 :: 1 :: List.range' 4 30) (fun x : Int × Nat × Int => [(0, .int x.1), (1, .int x.2.1), (5, .int x.2.2)])
    (fun x => isN x.1 ∧ (x.2.1 : Int) ≤ 9223372036854775807 ∧ isN x.2.2 ∧ x.2.2 * x.1 ^ x.2.1 % 10007 = a ^ k.toNat % 10007) (fun x => x.2.1) (a, k.toNat, 1) ⟨ha, by simp; omega, ⟨by simp, by simp⟩, by simp⟩ (by simp [go_sem]; omega) (by simp [go_sem]) ?_
  rintro ⟨b, j, o⟩ ⟨hb, hj, ho, he⟩
  simp only at hb hj ho he
  have f1 := mul_fits hb hb
  have f2 := mul_fits ho hb
  simp [go_sem]
  refine ⟨fun h => ?_, fun h => ?_⟩ <;> simp at h
  · simp [go_sem, half_cast, bit_cast]
    refine ⟨fun h2 => ?_, fun h2 => ?_⟩ <;> simp at h2 <;> simp [go_sem]
    · refine ⟨f2, CallVC.of (num_c _ f2.1 f2.2) (by decide) ?_⟩
      simp [go_sem]
      refine ⟨f1, CallVC.of (num_c _ f1.1 f1.2) (by decide) ?_⟩
      simp [go_sem, half_cast, bit_cast]
      refine ⟨by omega, b * b % 10007, j / 2, o * b % 10007, ⟨isN_mod _, by omega, isN_mod _, ?_⟩, by omega, Off_reset _ _ _ (by simp), rfl, by omega, rfl⟩
      rw [pw_odd, show 2 * (j / 2) + 1 = j by omega, he]
    · refine ⟨f1, CallVC.of (num_c _ f1.1 f1.2) (by decide) ?_⟩
      simp [go_sem, half_cast, bit_cast]
      refine ⟨by omega, b * b % 10007, j / 2, o, ⟨isN_mod _, by omega, ho, ?_⟩, by omega, Off_reset _ _ _ (by simp), rfl, by omega, rfl⟩
      rw [pw_even, show 2 * (j / 2) = j by omega, he]
  · simp [go_sem]
    subst h
    unfold pw
    rw [← he]
    simp
    rw [Int.emod_eq_of_lt ho.1 ho.2]
theorem l01Pow_c (a k : Int) (ha : isN a) (hk : 0 ≤ k) (hk2 : k ≤ 9223372036854775807) : Con Try.prog 117 [.int a, .int k] (.int (pw a k)) := by
  refine con_of_vc Try.mixed ⟨6, [], [], []⟩ Try.func117 (by decide) rfl (by simp) (by decide) rfl ?_
  rw [Try.ntmps117]
  simp [go_sem]
  refine loop_inv (0 :: 1 :: List.range' 4 30) (fun x : Int × Nat × Int => [(0, .int x.1), (1, .int x.2.1), (5, .int x.2.2)])
    (fun x => isN x.1 ∧ (x.2.1 : Int) ≤ 9223372036854775807 ∧ isN x.2.2 ∧ x.2.2 * x.1 ^ x.2.1 % 10007 = a ^ k.toNat % 10007) (fun x => x.2.1) (a, k.toNat, 1) ⟨ha, by simp; omega, ⟨by simp, by simp⟩, by simp⟩ (by simp [go_sem]; omega) (by simp [go_sem]) ?_
  rintro ⟨b, j, o⟩ ⟨hb, hj, ho, he⟩
  simp only at hb hj ho he
  have f1 := mul_fits hb hb
  have f2 := mul_fits ho hb
  simp [go_sem]
  refine ⟨fun h => ?_, fun h => ?_⟩ <;> simp at h
  · simp [go_sem, half_cast, bit_cast]
    refine ⟨fun h2 => ?_, fun h2 => ?_⟩ <;> simp at h2 <;> simp [go_sem]
    · refine CallVC.of (l01Mul_c _ _ f2) (by decide) ?_
      simp [go_sem]
      refine CallVC.of (l01Mul_c _ _ f1) (by decide) ?_
      simp [go_sem, half_cast, bit_cast]
      refine ⟨by omega, b * b % 10007, j / 2, o * b % 10007, ⟨isN_mod _, by omega, isN_mod _, ?_⟩, by omega, Off_reset _ _ _ (by simp), rfl, by omega, rfl⟩
      rw [pw_odd, show 2 * (j / 2) + 1 = j by omega, he]
    · refine CallVC.of (l01Mul_c _ _ f1) (by decide) ?_
      simp [go_sem, half_cast, bit_cast]
      refine ⟨by omega, b * b % 10007, j / 2, o, ⟨isN_mod _, by omega, ho, ?_⟩, by omega, Off_reset _ _ _ (by simp), rfl, by omega, rfl⟩
      rw [pw_even, show 2 * (j / 2) = j by omega, he]
  · simp [go_sem]
    subst h
    unfold pw
    rw [← he]
    simp
    rw [Int.emod_eq_of_lt ho.1 ho.2]

theorem inv_c (a : Int) (ha : isN a) : Con Try.prog 78 [.int a] (.int (pw a 10005)) := by
  refine con_of_vc Try.mixed ⟨3, [], [], []⟩ Try.func78 (by decide) rfl (by simp) (by decide) rfl ?_
  rw [Try.ntmps78]
  simp [go_sem]
  refine CallVC.of (pow_c _ _ ha (by omega) (by omega)) (by decide) ?_
  simp [go_sem]
theorem l01Inv_c (a : Int) (ha : isN a) : Con Try.prog 76 [.int a] (.int (pw a 10005)) := by
  refine con_of_vc Try.mixed ⟨3, [], [], []⟩ Try.func76 (by decide) rfl (by simp) (by decide) rfl ?_
  rw [Try.ntmps76]
  simp [go_sem]
  refine CallVC.of (l01Pow_c _ _ ha (by omega) (by omega)) (by decide) ?_
  simp [go_sem]
def fact : Nat → Int
  | 0 => 1
  | n + 1 => fact n * (n + 1)
theorem fact_pos : ∀ n, 1 ≤ fact n
  | 0 => by simp [fact]
  | n + 1 => by
    have := fact_pos n
    have : 1 * 1 ≤ fact n * (n + 1 : Int) := Int.mul_le_mul this (by omega) (by omega) (by omega)
    simp [fact]; omega
theorem fact_mono (n : Nat) : fact n ≤ fact (n + 1) := by
  have := fact_pos n
  have : fact n * 1 ≤ fact n * (n + 1 : Int) := Int.mul_le_mul_of_nonneg_left (by omega) (by omega)
  simp [fact]; omega
theorem fact_le {n m : Nat} (h : n ≤ m) : fact n ≤ fact m := by
  induction m with
  | zero => rw [show n = 0 by omega]; omega
  | succ m ih => rcases Nat.lt_or_ge n (m + 1) with hl | hl
                 · exact Int.le_trans (ih (by omega)) (fact_mono m)
                 · rw [show n = m + 1 by omega]; omega
theorem fact_20 {n : Nat} (h : n ≤ 20) : 1 ≤ fact n ∧ fact n ≤ 9223372036854775807 :=
  ⟨fact_pos n, Int.le_trans (fact_le h) (by decide)⟩
theorem factorial_c (n : Nat) (h : n ≤ 20) : Con Try.prog 77 [.int n] (.int (fact n)) := by
  refine con_of_vc Try.mixed ⟨5, [], [], []⟩ Try.func77 (by decide) rfl (by simp) (by decide) rfl ?_
  rw [Try.ntmps77]
  simp [go_sem]
  refine loop_inv (List.range' 2 20) (fun k : Nat => [(3, .int (fact (k + 1))), (4, .int (k + 2))]) (fun k => k ≤ n - 1) (fun k => n - k) 0 (by simp) (by simp [go_sem]; decide) (by simp [go_sem]) ?_
  intro k hk
  simp [go_sem]
  refine ⟨fun h2 => ?_, fun h2 => ?_⟩ <;> simp at h2
  · have e : fact (k + 1) * ((k : Int) + 2) = fact (k + 1 + 1) := by simp only [fact]; rw [show ((k + 1 : Nat) : Int) + 1 = (k : Int) + 2 by omega]
    have b := fact_20 (show k + 1 + 1 ≤ 20 by omega)
    simp [go_sem, e]
    refine ⟨by omega, by omega, k + 1, by omega, by omega, Off_reset _ _ _ (by simp), rfl, by omega⟩
  · simp [go_sem]
    rcases (show k = 0 ∧ n ≤ 1 ∨ k + 1 = n by omega) with ⟨rfl, _⟩ | hk
    · have : n = 0 ∨ n = 1 := by omega
      rcases this with rfl | rfl <;> rfl
    · rw [hk]
theorem l19Factorial_c (n : Nat) (h : n ≤ 20) : Con Try.prog 75 [.int n] (.int (fact n % 10007)) := by
  refine con_of_vc Try.mixed ⟨5, [], [], []⟩ Try.func75 (by decide) rfl (by simp) (by decide) rfl ?_
  rw [Try.ntmps75]
  simp [go_sem]
  refine loop_inv (0 :: List.range' 2 20) (fun x : Nat × Int => [(0, .int x.1), (3, .int x.2)]) (fun x => x.1 ≤ n ∧ isN x.2 ∧ x.2 * fact x.1 % 10007 = fact n % 10007) (fun x => x.1) (n, 1) ⟨by simp, ⟨by simp, by simp⟩, by simp⟩ (by simp [go_sem]) (by simp [go_sem]) ?_
  rintro ⟨k, o⟩ ⟨hk, ho, he⟩
  simp only at hk ho he
  simp [go_sem]
  refine ⟨fun h2 => ?_, fun h2 => ?_⟩ <;> simp at h2
  · obtain ⟨j, rfl⟩ : ∃ j, k = j + 1 := ⟨k - 1, by omega⟩
    simp [go_sem]
    refine CallVC.of (l01Mul_c _ _ (mul_fits ho ⟨by omega, by omega⟩)) (by decide) ?_
    simp [go_sem]
    refine ⟨by omega, j, o * (j + 1) % 10007, ⟨by omega, isN_mod _, ?_⟩, by omega, Off_reset _ _ _ (by simp), by omega, rfl⟩
    rw [mod_mul_l, ← he]
    simp [fact, Int.mul_assoc, Int.mul_comm (fact j)]
  · simp [go_sem]
    have : k = 0 ∨ k = 1 := by omega
    rw [← he]
    rcases this with rfl | rfl <;> simp [fact] <;> rw [Int.emod_eq_of_lt ho.1 ho.2]
end Go.Proofs.Ytdhnnpohpfjaiaa
