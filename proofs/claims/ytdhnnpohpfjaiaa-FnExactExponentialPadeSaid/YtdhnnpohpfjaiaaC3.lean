/- Contracts of the functions over the exponential's rational approximations. -/
import Derived.Test.YtdhnnpohpfjaiaaC2
namespace Go.Proofs.Ytdhnnpohpfjaiaa
open Go.Abs
set_option linter.unusedVariables false
set_option linter.unusedSimpArgs false
set_option maxHeartbeats 1000000
def padeTop (m n k : Nat) : Int := (fact (m + n - k) % 10007) * (fact m % 10007) % 10007
def padeLow (m n k : Nat) : Int := (fact (m + n) % 10007) * ((fact k % 10007) * (fact (m - k) % 10007) % 10007) % 10007
def padePart (m n k : Nat) : Int := padeTop m n k * pw (padeLow m n k) 10005 % 10007
def padeF (odd : Bool) (m n k : Nat) : Int := if odd = true ∧ k % 2 = 1 then (0 - padePart m n k) % 10007 else padePart m n k
def padeL (odd : Bool) (m n k : Nat) : List Int := (List.range k).map (padeF odd m n)
theorem padeL_succ (odd : Bool) (m n k : Nat) : padeL odd m n (k + 1) = padeL odd m n k ++ [padeF odd m n k] := by simp [padeL, List.range_succ]
@[simp] theorem padeL_len (odd : Bool) (m n k : Nat) : (padeL odd m n k).length = k := by simp [padeL]
theorem pw_N (a k : Int) : isN (pw a k) := isN_mod _
def sg (odd : Bool) (k : Nat) : Int := if odd = true ∧ k % 2 = 1 then -1 else 1
theorem sg_part (odd : Bool) (m n k : Nat) : sg odd k * padePart m n k % 10007 = padeF odd m n k := by
  have h : isN (padePart m n k) := isN_mod _
  unfold sg padeF
  split
  · congr 1; omega
  · rw [Int.one_mul, Int.emod_eq_of_lt h.1 h.2]
theorem sg_succ (odd : Bool) (k : Nat) : sg odd k * sg odd 1 = sg odd (k + 1) := by
  unfold sg
  cases odd with
  | false => simp
  | true =>
    rcases (show k % 2 = 0 ∨ k % 2 = 1 by omega) with h | h
    · have h2 : (k + 1) % 2 = 1 := by omega
      simp [h, h2]
    · have h2 : (k + 1) % 2 = 0 := by omega
      simp [h, h2]
theorem areDegrees_c (m n : Int) : Con Try.prog 39 [.int m, .int n] (.bool (decide (0 ≤ m ∧ m ≤ 8 ∧ 0 ≤ n ∧ n ≤ 8))) := by
  refine con_of_vc Try.mixed ⟨5, [], []⟩ Try.func39 (by decide) rfl (by simp) (by decide) rfl ?_
  rw [Try.ntmps39]
  simp [go_sem]
  refine CallVC.of (inRange_c _ _ _) (by decide) ?_
  by_cases h : 0 ≤ m ∧ m ≤ 8
  · simp [go_sem, h]
    refine CallVC.of (inRange_c _ _ _) (by decide) ?_
    simp [go_sem, h]
  · have e : (decide (0 ≤ m) && decide (m ≤ 8)) = false := by simpa using h
    have e2 : ¬ (0 ≤ m ∧ m ≤ 8 ∧ 0 ≤ n ∧ n ≤ 8) := fun k => h ⟨k.1, k.2.1⟩
    simp only [e, e2, decide_false]
    simp [go_sem]
    omega
theorem num_f {n : Int} (h : fits n) : Con Try.prog 58 [.int n] (.int (n % 10007)) := num_c n h.1 h.2
theorem factorial_z (z : Int) (n : Nat) (e : z = n) (h : n ≤ 20) : Con Try.prog 77 [.int z] (.int (fact n)) := by subst e; exact factorial_c n h
theorem l19Factorial_z (z : Int) (n : Nat) (e : z = n) (h : n ≤ 20) : Con Try.prog 75 [.int z] (.int (fact n % 10007)) := by subst e; exact l19Factorial_c n h
theorem fact_fits {n : Nat} (h : n ≤ 20) : fits (fact n) := by
  have := fact_20 h
  exact ⟨by omega, this.2⟩
theorem fact8 {k : Nat} (h : k ≤ 8) {x : Int} (hx : isN x) : fits (fact k * x) := by
  have h1 := fact_pos k
  have h2 : fact k ≤ 40320 := Int.le_trans (fact_le h) (by decide)
  have h3 : 0 ≤ fact k * x := Int.mul_nonneg (by omega) hx.1
  have h4 : fact k * x ≤ 40320 * 10007 := Int.mul_le_mul h2 (by have := hx.2; omega) hx.1 (by omega)
  exact ⟨by omega, by omega⟩
theorem sg_fits (odd : Bool) (k : Nat) {x : Int} (hx : isN x) : fits (sg odd k * x) := by
  obtain ⟨h0, h1⟩ := hx
  unfold sg fits; split <;> constructor <;> omega
theorem padeSide_c (odd : Bool) (m n : Nat) (hm : m ≤ 8) (hn : n ≤ 8) : Con Try.prog 40 [.int m, .int n, .int (sg odd 1)] (.own 2 (m + 1) (avs (padeL odd m n (m + 1)))) := by
  refine con_of_vc Try.mixed ⟨12, [], []⟩ Try.func40 (by decide) rfl (by simp) (by decide) (by simp [freshOK]) ?_
  rw [Try.ntmps40]
  simp [go_sem]
  refine ⟨by omega, ?_⟩
  refine loop_inv (7 :: 8 :: 9 :: 10 :: 11 :: 12 :: 13 :: List.range' 15 60) (fun k : Nat => [(7, .own 2 k (avs (padeL odd m n k))), (8, .int (sg odd k)), (15, .int k)]) (fun k => k ≤ m + 1) (fun k => m + 1 - k) 0 (by simp) (by simp [go_sem, padeL, sg]) (by simp [go_sem]) ?_
  intro k hk
  simp [go_sem]
  refine ⟨fun h2 => ?_, fun h2 => ?_⟩ <;> simp at h2
  · simp [go_sem]
    refine ⟨by omega, by omega, CallVC.of (factorial_z _ (m + n - k) (by omega) (by omega)) (by decide) ?_⟩
    simp [go_sem]
    refine CallVC.of (num_f (fact_fits (by omega))) (by decide) ?_
    simp [go_sem]
    refine CallVC.of (factorial_c m (by omega)) (by decide) ?_
    simp [go_sem]
    refine CallVC.of (num_f (fact_fits (by omega))) (by decide) ?_
    simp [go_sem]
    refine ⟨mul_fits (isN_mod _) (isN_mod _), by omega, CallVC.of (factorial_z _ (m + n) (by omega) (by omega)) (by decide) ?_⟩
    simp [go_sem]
    refine CallVC.of (num_f (fact_fits (by omega))) (by decide) ?_
    simp [go_sem]
    refine CallVC.of (factorial_c k (by omega)) (by decide) ?_
    simp [go_sem]
    refine ⟨by omega, CallVC.of (factorial_z _ (m - k) (by omega) (by omega)) (by decide) ?_⟩
    simp [go_sem]
    refine CallVC.of (num_f (fact_fits (by omega))) (by decide) ?_
    simp [go_sem]
    refine ⟨fact8 (by omega) (isN_mod _), CallVC.of (num_f (fact8 (by omega) (isN_mod _))) (by decide) ?_⟩
    simp [go_sem]
    refine ⟨mul_fits (isN_mod _) (isN_mod _), CallVC.of (num_f (mul_fits (isN_mod _) (isN_mod _))) (by decide) ?_⟩
    simp [go_sem]
    refine CallVC.of (num_f (mul_fits (isN_mod _) (isN_mod _))) (by decide) ?_
    simp [go_sem]
    refine CallVC.of (inv_c _ (isN_mod _)) (by decide) ?_
    simp [go_sem]
    refine ⟨mul_fits (isN_mod _) (pw_N _ _), CallVC.of (num_f (mul_fits (isN_mod _) (pw_N _ _))) (by decide) ?_⟩
    simp [go_sem]
    refine ⟨sg_fits _ _ (isN_mod _), CallVC.of (num_f (sg_fits _ _ (isN_mod _))) (by decide) ?_⟩
    simp [go_sem]
    have sb : fits (sg odd k * sg odd 1) := by rw [sg_succ]; unfold sg fits; split <;> constructor <;> omega
    refine ⟨⟨by omega, by omega⟩, sb, by omega, k + 1, by omega, by omega, Off_reset _ _ _ (by simp), ⟨rfl, ?_⟩, sg_succ _ _, by omega⟩
    rw [padeL_succ, avs_snoc, ← sg_part]
    unfold padePart padeTop padeLow
    rw [mod_mul_l (fact (m - k) % 10007) (fact k)]
  · simp [go_sem]
    have : k = m + 1 := by omega
    subst this
    exact ⟨rfl, rfl⟩
theorem l19Part_c (odd : Bool) (m n : Nat) (hm : m ≤ 8) (hn : n ≤ 8) : Con Try.prog 38 [.int m, .int n, .bool odd] (.own 2 (m + 1) (avs (padeL odd m n (m + 1)))) := by
  refine con_of_vc Try.mixed ⟨12, [], []⟩ Try.func38 (by decide) rfl (by simp) (by decide) (by simp [freshOK]) ?_
  rw [Try.ntmps38]
  simp [go_sem]
  refine loop_inv (List.range' 7 60) (fun k : Nat => [(7, .own 2 k (avs (padeL odd m n k))), (8, .int k)]) (fun k => k ≤ m + 1) (fun k => m + 1 - k) 0 (by simp) (by simp [go_sem, padeL, sg]) (by simp [go_sem]) ?_
  intro k hk
  simp [go_sem]
  refine ⟨fun h2 => ?_, fun h2 => ?_⟩ <;> simp at h2
  · simp [go_sem]
    refine ⟨by omega, by omega, CallVC.of (l19Factorial_z _ (m + n - k) (by omega) (by omega)) (by decide) ?_⟩
    simp [go_sem]
    refine CallVC.of (l19Factorial_c m (by omega)) (by decide) ?_
    simp [go_sem]
    refine CallVC.of (l01Mul_c _ _ (mul_fits (isN_mod _) (isN_mod _))) (by decide) ?_
    simp [go_sem]
    refine ⟨by omega, CallVC.of (l19Factorial_z _ (m + n) (by omega) (by omega)) (by decide) ?_⟩
    simp [go_sem]
    refine CallVC.of (l19Factorial_c k (by omega)) (by decide) ?_
    simp [go_sem]
    refine ⟨by omega, CallVC.of (l19Factorial_z _ (m - k) (by omega) (by omega)) (by decide) ?_⟩
    simp [go_sem]
    refine CallVC.of (l01Mul_c _ _ (mul_fits (isN_mod _) (isN_mod _))) (by decide) ?_
    simp [go_sem]
    refine CallVC.of (l01Mul_c _ _ (mul_fits (isN_mod _) (isN_mod _))) (by decide) ?_
    simp [go_sem]
    refine CallVC.of (l01Inv_c _ (isN_mod _)) (by decide) ?_
    simp [go_sem]
    refine CallVC.of (l01Mul_c _ _ (mul_fits (isN_mod _) (pw_N _ _))) (by decide) ?_
    have pp : padeTop m n k * pw (padeLow m n k) 10005 % 10007 = padePart m n k := rfl
    have p0 : isN (padePart m n k) := isN_mod _
    unfold padeTop padeLow at pp
    rw [pp]
    have p1 : fits (0 - padePart m n k) := by obtain ⟨a, b⟩ := p0; exact ⟨by omega, by omega⟩
    cases odd with
    | false =>
      simp [go_sem]
      refine ⟨⟨by omega, by omega⟩, by omega, k + 1, by omega, by omega, Off_reset _ _ _ (by simp), ⟨rfl, ?_⟩, by omega⟩
      rw [padeL_succ, avs_snoc]; rfl
    | true =>
      simp [go_sem, bit_cast]
      refine ⟨fun h3 => ?_, fun h3 => ?_⟩ <;> simp at h3 <;> simp [go_sem]
      · refine CallVC.of (l01Sub_c _ _ p1) (by decide) ?_
        simp [go_sem]
        refine ⟨⟨by omega, by omega⟩, by omega, k + 1, by omega, by omega, Off_reset _ _ _ (by simp), ⟨rfl, ?_⟩, by omega⟩
        rw [padeL_succ, avs_snoc]; unfold padeF; rw [if_pos ⟨rfl, by omega⟩]; simp
      · refine ⟨⟨by omega, by omega⟩, by omega, k + 1, by omega, by omega, Off_reset _ _ _ (by simp), ⟨rfl, ?_⟩, by omega⟩
        rw [padeL_succ, avs_snoc]; unfold padeF; rw [if_neg (by omega)]
  · simp [go_sem]
    have : k = m + 1 := by omega
    subst this
    exact ⟨rfl, rfl⟩
/-- What the function over degrees answers. -/
def pade (m n : Int) : AV := if 0 ≤ m ∧ m ≤ 8 ∧ 0 ≤ n ∧ n ≤ 8 then .tup [.own 2 (m.toNat + 1) (avs (padeL false m.toNat n.toNat (m.toNat + 1))), .own 2 (n.toNat + 1) (avs (padeL true n.toNat m.toNat (n.toNat + 1))), .int 0] else .tup [.val (.slice none 0 0), .val (.slice none 0 0), .int 2]
theorem ExponentialPade_c (m n : Int) : Con Try.prog 16 [.int m, .int n] (pade m n) := by
  unfold pade
  by_cases h : 0 ≤ m ∧ m ≤ 8 ∧ 0 ≤ n ∧ n ≤ 8
  · rw [if_pos h]
    obtain ⟨a, rfl⟩ : ∃ a : Nat, m = a := ⟨m.toNat, by omega⟩
    obtain ⟨b, rfl⟩ : ∃ b : Nat, n = b := ⟨n.toNat, by omega⟩
    rw [Int.toNat_natCast, Int.toNat_natCast]
    refine con_of_vc Try.mixed ⟨7, [], []⟩ Try.func16 (by decide) rfl (by simp) (by decide) (by simp [go_sem, freshOK]) ?_
    rw [Try.ntmps16]
    simp [go_sem]
    refine CallVC.of (areDegrees_c _ _) (by decide) ?_
    simp [go_sem, h]
    have s1 := padeSide_c false a b (by omega) (by omega)
    have s2 := padeSide_c true b a (by omega) (by omega)
    refine CallVC.of s1 (by decide) ?_
    simp [go_sem]
    refine CallVC.of s2 (by decide) ?_
    simp [go_sem]
  · rw [if_neg h]
    refine con_of_vc Try.mixed ⟨7, [], []⟩ Try.func16 (by decide) rfl (by simp) (by decide) rfl ?_
    rw [Try.ntmps16]
    simp [go_sem]
    refine CallVC.of (areDegrees_c _ _) (by decide) ?_
    rw [decide_eq_false h]
    simp [go_sem]
theorem specExponentialPade_c (m n : Int) : Con Try.prog 15 [.int m, .int n] (pade m n) := by
  unfold pade
  by_cases h : 0 ≤ m ∧ m ≤ 8 ∧ 0 ≤ n ∧ n ≤ 8
  · rw [if_pos h]
    obtain ⟨a, rfl⟩ : ∃ a : Nat, m = a := ⟨m.toNat, by omega⟩
    obtain ⟨b, rfl⟩ : ∃ b : Nat, n = b := ⟨n.toNat, by omega⟩
    rw [Int.toNat_natCast, Int.toNat_natCast]
    refine con_of_vc Try.mixed ⟨7, [], []⟩ Try.func15 (by decide) rfl (by simp) (by decide) (by simp [go_sem, freshOK]) ?_
    rw [Try.ntmps15]
    have e1 : (decide ((0 : Int) ≤ a) && decide ((a : Int) ≤ 8)) = true := by simp; omega
    have e2 : (decide ((0 : Int) ≤ b) && decide ((b : Int) ≤ 8)) = true := by simp; omega
    have c1 := l01In_c a 0 8
    have c2 := l01In_c b 0 8
    rw [e1] at c1
    rw [e2] at c2
    simp [go_sem]
    refine CallVC.of c1 (by decide) ?_
    simp [go_sem]
    refine CallVC.of c2 (by decide) ?_
    simp [go_sem]
    have s1 := l19Part_c false a b (by omega) (by omega)
    have s2 := l19Part_c true b a (by omega) (by omega)
    refine CallVC.of s1 (by decide) ?_
    simp [go_sem]
    refine CallVC.of s2 (by decide) ?_
    simp [go_sem]
  · rw [if_neg h]
    refine con_of_vc Try.mixed ⟨7, [], []⟩ Try.func15 (by decide) rfl (by simp) (by decide) rfl ?_
    rw [Try.ntmps15]
    simp [go_sem]
    by_cases h1 : 0 ≤ m ∧ m ≤ 8
    · have e1 : (decide (0 ≤ m) && decide (m ≤ 8)) = true := by simpa using h1
      have e2 : (decide (0 ≤ n) && decide (n ≤ 8)) = false := by simp; omega
      have c1 := l01In_c m 0 8
      have c2 := l01In_c n 0 8
      rw [e1] at c1
      rw [e2] at c2
      refine CallVC.of c1 (by decide) ?_
      simp [go_sem]
      refine CallVC.of c2 (by decide) ?_
      simp [go_sem]
    · have e1 : (decide (0 ≤ m) && decide (m ≤ 8)) = false := by simpa using h1
      have c1 := l01In_c m 0 8
      rw [e1] at c1
      refine CallVC.of c1 (by decide) ?_
      simp [go_sem]
end Go.Proofs.Ytdhnnpohpfjaiaa
