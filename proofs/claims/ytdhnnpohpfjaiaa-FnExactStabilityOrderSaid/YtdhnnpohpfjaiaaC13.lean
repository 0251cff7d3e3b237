/- Contracts: sums, multiples, products of series; the exponential series. -/
import Derived.Test.YtdhnnpohpfjaiaaC12
namespace Go.Proofs.Ytdhnnpohpfjaiaa
open Go.Abs
set_option linter.unusedVariables false
set_option linter.unusedSimpArgs false
set_option maxHeartbeats 1000000
/-- The first k values. -/
def tb (f : Nat → Int) (k : Nat) : List Int := (List.range k).map f
@[simp] theorem tb_len (f : Nat → Int) (k : Nat) : (tb f k).length = k := by simp [tb]
@[simp] theorem tb_zero (f : Nat → Int) : tb f 0 = [] := rfl
theorem tb_succ (f : Nat → Int) (k : Nat) : tb f (k + 1) = tb f k ++ [f k] := by simp [tb, List.range_succ]
theorem tb_get (f : Nat → Int) {k i : Nat} (h : i < k) : (tb f k)[i]?.getD 0 = f i := by simp [tb, h]
theorem tb_N {f : Nat → Int} {k : Nat} (h : ∀ i, i < k → isN (f i)) : Ns (tb f k) := by
  intro x hx
  simp [tb] at hx
  obtain ⟨i, hi, rfl⟩ := hx
  exact h i hi
theorem avs_at {xs : List Int} {k : Nat} (h : k < xs.length) : (avs xs)[k]? = some (AV.val (.int .i64 (xs[k]?.getD 0))) := by simp [avs, h]
theorem l02Times_c (a : List Int) (k : Int) (ha : Ns a) (hk : isN k) (hl : a.length ≤ 1048576) :
    Con Try.prog 98 [.sl a.length (avs a), .int k] (.own 2 a.length (avs (tb (fun i => a[i]?.getD 0 * k % 10007) a.length))) := by
  refine con_of_vc Try.mixed ⟨7, [], [], []⟩ Try.func98 (by decide) rfl (by simp) (by decide) (by simp [freshOK, freshL, go_sem]) ?_
  rw [Try.ntmps98]
  simp [go_sem]
  refine loop_inv (5 :: 6 :: List.range' 8 15) (fun i : Nat => [(5, .own 2 i (avs (tb (fun i => a[i]?.getD 0 * k % 10007) i))), (6, .int i)]) (fun i => i ≤ a.length) (fun i => a.length - i) 0 (by simp) (by simp [go_sem]) (by simp [go_sem]) ?_
  intro i hi
  simp [go_sem]
  refine ⟨fun h => ?_, fun h => ?_⟩ <;> simp at h
  · simp [go_sem, avs_drop h]
    refine ⟨⟨h, by rintro rfl; simp at h⟩, ?_⟩
    refine CallVC.of (l01Mul_c _ _ (mul_fits (ha.get i) hk)) (by decide) ?_
    simp [go_sem]
    refine ⟨⟨by omega, by omega⟩, by omega, i + 1, by omega, by omega, Off_reset _ _ _ (by simp), ?_, by omega⟩
    simp [tb_succ, avs_snoc]
  · have e : i = a.length := by omega
    subst e
    simp [go_sem]
theorem l02Add_c (a b : List Int) (ha : Ns a) (hb : Ns b) (hl : a.length ≤ 1048576) (hab : a.length ≤ b.length) :
    Con Try.prog 97 [.sl a.length (avs a), .sl b.length (avs b)] (.own 2 a.length (avs (tb (fun i => (a[i]?.getD 0 + b[i]?.getD 0) % 10007) a.length))) := by
  refine con_of_vc Try.mixed ⟨7, [], [], []⟩ Try.func97 (by decide) rfl (by simp) (by decide) (by simp [freshOK, freshL, go_sem]) ?_
  rw [Try.ntmps97]
  simp [go_sem]
  refine loop_inv (5 :: 6 :: List.range' 8 18) (fun i : Nat => [(5, .own 2 i (avs (tb (fun i => (a[i]?.getD 0 + b[i]?.getD 0) % 10007) i))), (6, .int i)]) (fun i => i ≤ a.length) (fun i => a.length - i) 0 (by simp) (by simp [go_sem]) (by simp [go_sem]) ?_
  intro i hi
  simp [go_sem]
  refine ⟨fun h => ?_, fun h => ?_⟩ <;> simp at h
  · have h2 : i < b.length := by omega
    simp [go_sem, avs_drop h, avs_drop h2]
    refine ⟨by kernel_rfl, ⟨h, by rintro rfl; simp at h⟩, ⟨h2, by rintro rfl; simp at h2⟩, ?_⟩
    refine CallD.of (l01Add_c _ _ (add_fits (ha.get i) (hb.get i))) (by simp [roots, rootsL]) (by decide) ?_
    simp [go_sem]
    refine ⟨by omega, ?_⟩
    refine ⟨by kernel_rfl, ?_⟩
    simp [go_sem]
    refine ⟨by omega, i + 1, by omega, by omega, Off_reset _ _ _ (by simp), ?_, by omega⟩
    simp [tb_succ, avs_snoc]
  · have e : i = a.length := by omega
    subst e
    simp [go_sem]
/-- The first m terms of the n-th coefficient of a product. -/
def cv (a b : List Int) (n : Nat) : Nat → Int
  | 0 => 0
  | m + 1 => cv a b n m + a[m]?.getD 0 * b[n - m]?.getD 0
def mulS (a b : List Int) : List Int := tb (fun n => cv a b n (n + 1) % 10007) a.length
@[simp] theorem mulS_len (a b : List Int) : (mulS a b).length = a.length := by simp [mulS]
theorem mulS_N (a b : List Int) : Ns (mulS a b) := tb_N fun i _ => isN_mod _
theorem l02Mul_c (a b : List Int) (ha : Ns a) (hb : Ns b) (hl : a.length ≤ 1048576) (hab : a.length ≤ b.length) :
    Con Try.prog 99 [.sl a.length (avs a), .sl b.length (avs b)] (.own 2 a.length (avs (mulS a b))) := by
  refine con_of_vc Try.mixed ⟨9, [], [], []⟩ Try.func99 (by decide) rfl (by simp) (by decide) (by simp [freshOK, freshL, go_sem]) ?_
  rw [Try.ntmps99]
  simp [go_sem]
  refine loop_inv (5 :: 6 :: 7 :: 8 :: List.range' 10 28) (fun i : Nat => [(5, .own 2 i (avs (tb (fun n => cv a b n (n + 1) % 10007) i))), (6, .int i)]) (fun i => i ≤ a.length) (fun i => a.length - i) 0 (by simp) (by simp [go_sem]) (by simp [go_sem]) ?_
  intro i hi
  simp [go_sem]
  refine ⟨fun h => ?_, fun h => ?_⟩ <;> simp at h
  · simp [go_sem]
    refine loop_inv (7 :: 8 :: List.range' 16 18) (fun k : Nat => [(7, .int (cv a b i k % 10007)), (8, .int k)]) (fun k => k ≤ i + 1) (fun k => i + 1 - k) 0 (by simp) (by simp [go_sem, cv]) (by simp [go_sem]) ?_
    intro k hk
    simp [go_sem]
    refine ⟨fun h => ?_, fun h => ?_⟩ <;> simp at h
    · have k1 : k < a.length := by omega
      have k2 : i - k < b.length := by omega
      have k3 : ((i : Int) - k) = ((i - k : Nat) : Int) := by omega
      simp [go_sem, avs_drop k1, avs_drop k2, k3]
      refine ⟨by kernel_rfl, ⟨k1, by rintro rfl; simp at k1⟩, by omega, ⟨k2, by rintro rfl; simp at k2⟩, ?_⟩
      refine CallD.of (l01Mul_c _ _ (mul_fits (ha.get k) (hb.get (i - k)))) (by simp [roots, rootsL]) (by decide) ?_
      simp [go_sem]
      refine CallD.of (l01Add_c _ _ (add_fits (isN_mod _) (isN_mod _))) (by simp [roots, rootsL]) (by decide) ?_
      simp [go_sem]
      refine ⟨by kernel_rfl, ?_⟩
      simp [go_sem]
      refine ⟨by omega, k + 1, by omega, by omega, Off_reset _ _ _ (by simp), ?_, by omega⟩
      simp [cv]
    · have e : k = i + 1 := by omega
      subst e
      simp [go_sem]
      refine ⟨by omega, by omega, i + 1, by omega, by omega, (Off.reset (by intro x hx; simp at hx ⊢; omega) (by simp) (by simp [go_sem, Off_reset])), ⟨rfl, ?_⟩, by omega⟩
      simp [tb_succ, avs_snoc]
  · have e : i = a.length := by omega
    subst e
    simp [go_sem]
    rfl
theorem l02Unit_c (n j : Nat) (hn : n ≤ 1048576) (hj : j ≤ 1048576) : Con Try.prog 61 [.int n, .int j] (.own 2 n (avs (tb (fun i => if i = j then 1 else 0) n))) := by
  refine con_of_vc Try.mixed ⟨6, [], [], []⟩ Try.func61 (by decide) rfl (by simp) (by decide) (by simp [freshOK, freshL, go_sem]) ?_
  rw [Try.ntmps61]
  simp [go_sem]
  refine ⟨⟨by omega, by omega⟩, ?_⟩
  refine ⟨fun h => ?_, fun h => ?_⟩ <;> simp at h
  · simp [go_sem]
    refine ⟨h, List.ext_getElem (by simp) fun k h1 h2 => ?_⟩
    simp [avs, tb, List.getElem_set]
    by_cases e : j = k
    · simp [e]
    · have e2 : ¬ k = j := fun h => e h.symm
      simp [e, e2]
  · simp [go_sem]
    refine List.ext_getElem (by simp) fun k h1 h2 => ?_
    simp at h1
    have e2 : ¬ k = j := by omega
    simp [avs, tb, e2]
/-- The sum over k from 1 to m of k times b(k) o(n - k). -/
def es (b o : List Int) (n : Nat) : Nat → Int
  | 0 => 0
  | m + 1 => es b o n m + (m + 1) * (b[m + 1]?.getD 0 * o[n - (m + 1)]?.getD 0 % 10007)
def expTo (b : List Int) : Nat → List Int
  | 0 => [1]
  | n + 1 => expTo b n ++ [es b (expTo b n) (n + 1) (n + 1) % 10007 * pw (n + 1) 10005 % 10007]
@[simp] theorem expTo_len (b : List Int) : ∀ n, (expTo b n).length = n + 1
  | 0 => rfl
  | n + 1 => by simp [expTo, expTo_len b n]
theorem expTo_N (b : List Int) : ∀ n, Ns (expTo b n)
  | 0 => by intro x hx; simp [expTo] at hx; subst hx; exact ⟨by omega, by omega⟩
  | n + 1 => (expTo_N b n).snoc (isN_mod _)
theorem es_step {r : Int} (h : isN r) {k : Nat} (hk : k < 1000) : 0 ≤ ((k : Int) + 1) * r ∧ ((k : Int) + 1) * r ≤ 10006000 :=
  ⟨Int.mul_nonneg (by omega) h.1, Int.le_trans (Int.mul_le_mul (by omega : (k : Int) + 1 ≤ 1000) (by have := h.2; omega : r ≤ 10006) h.1 (by omega)) (by omega)⟩
theorem es_bound (b o : List Int) (n : Nat) : ∀ m, m ≤ 1000 → 0 ≤ es b o n m ∧ es b o n m ≤ m * 10006000
  | 0, _ => by simp [es]
  | m + 1, h => by
    have := es_bound b o n m (by omega)
    have h2 := isN_mod (b[m + 1]?.getD 0 * o[n - (m + 1)]?.getD 0)
    have h3 : 0 ≤ ((m : Int) + 1) * (b[m + 1]?.getD 0 * o[n - (m + 1)]?.getD 0 % 10007) := Int.mul_nonneg (by omega) h2.1
    have h4 : ((m : Int) + 1) * (b[m + 1]?.getD 0 * o[n - (m + 1)]?.getD 0 % 10007) ≤ 1000 * 10006 := Int.mul_le_mul (by omega) (by have := h2.2; omega) h2.1 (by omega)
    simp only [es]; omega
theorem expSeries_c (b : List Int) (hb : Ns b) (h1 : 1 ≤ b.length) (hl : b.length ≤ 1000) : Con Try.prog 100 [.sl b.length (avs b)] (.own 2 b.length (avs (expTo b (b.length - 1)))) := by
  refine con_of_vc Try.mixed ⟨7, [], [], []⟩ Try.func100 (by decide) rfl (by simp) (by decide) (by simp [freshOK, freshL, go_sem]) ?_
  rw [Try.ntmps100]
  simp [go_sem]
  refine ⟨⟨by omega, by omega⟩, by omega, ?_⟩
  have i0 : (List.replicate b.length (AV.val (Value.int IntKind.i64 0))).set 0 (AV.val (Value.int IntKind.i64 1)) = avs (expTo b 0 ++ List.replicate (b.length - 1) 0) := by
    obtain ⟨m, hm⟩ : ∃ m, b.length = m + 1 := ⟨b.length - 1, by omega⟩
    rw [hm]; simp [List.replicate_succ, expTo, avs]
  refine loop_inv (3 :: 4 :: 5 :: 6 :: List.range' 12 36) (fun i : Nat => [(3, .own 2 b.length (avs (expTo b i ++ List.replicate (b.length - 1 - i) 0))), (4, .int (i + 1 : Nat))]) (fun i => i + 1 ≤ b.length) (fun i => b.length - i) 0 (by simp; omega) (by simp [go_sem]; exact i0) (by simp [go_sem]) ?_
  intro i hi
  simp [go_sem]
  refine ⟨fun h => ?_, fun h => ?_⟩ <;> simp at h
  · simp [go_sem]
    refine loop_inv (5 :: 6 :: List.range' 18 21) (fun k : Nat => [(5, .int (es b (expTo b i) (i + 1) k)), (6, .int (k + 1 : Nat))]) (fun k => k ≤ i + 1) (fun k => i + 1 - k) 0 (by simp) (by simp [go_sem, es]) (by simp [go_sem]) ?_
    intro k hk
    have bd := es_bound b (expTo b i) (i + 1) k (by omega)
    simp [go_sem]
    refine ⟨fun h => ?_, fun h => ?_⟩ <;> simp at h
    · have k1 : k + 1 < b.length := by omega
      have k2 : i - k < (expTo b i ++ List.replicate (b.length - 1 - i) 0).length := by simp; omega
      have k3 : ((i : Int) + 1 - (k + 1)) = ((i - k : Nat) : Int) := by omega
      have k4 : (expTo b i ++ List.replicate (b.length - 1 - i) 0)[i - k]?.getD 0 = (expTo b i)[i - k]?.getD 0 := by rw [List.getElem?_append_left (by simp; omega)]
      simp [go_sem, avs_drop k1, avs_at k2, k3, k4]
      refine ⟨by kernel_rfl, ⟨by omega, by omega, by rintro rfl; simp at h1⟩, by omega, by omega, mul_fits (hb.get _) ((expTo_N b i).get _), ?_⟩
      have m1 := isN_mod (b[k + 1]?.getD 0 * (expTo b i)[i - k]?.getD 0)
      refine CallD.of (num_c _ (mul_fits (hb.get _) ((expTo_N b i).get _)).1 (mul_fits (hb.get _) ((expTo_N b i).get _)).2) (by simp [roots, rootsL]) (by decide) ?_
      simp [go_sem]
      have m2 := es_step m1 (by omega : k < 1000)
      refine ⟨⟨by omega, by omega⟩, by omega, ?_⟩
      refine ⟨by kernel_rfl, ?_⟩
      simp [go_sem]
      refine ⟨by omega, k + 1, by omega, by omega, Off_reset _ _ _ (by simp), by simp [es], by omega⟩
    · have e : k = i + 1 := by omega
      subst e
      simp [go_sem]
      refine CallVC.of (num_c _ (by omega) (by omega)) (by decide) ?_
      simp [go_sem]
      refine CallVC.of (inv_c _ ⟨by omega, by omega⟩) (by decide) ?_
      simp [go_sem]
      have m1 : fits (es b (expTo b i) (i + 1) (i + 1) % 10007 * pw ((i : Int) + 1) 10005) := mul_fits (isN_mod _) (isN_mod _)
      refine ⟨m1, ?_⟩
      refine CallVC.of (num_c _ m1.1 m1.2) (by decide) ?_
      simp [go_sem]
      refine ⟨⟨by omega, by omega⟩, by omega, by omega, i + 1, by omega, by omega, (Off.reset (by intro x hx; simp at hx ⊢; omega) (by simp) (by simp [go_sem, Off_reset])), ?_, by omega⟩
      obtain ⟨m, hm⟩ : ∃ m, b.length - 1 - i = m + 1 := ⟨b.length - 1 - i - 1, by omega⟩
      have hm2 : b.length - 1 - (i + 1) = m := by omega
      rw [avs_set, hm, hm2, List.replicate_succ, List.set_append_right _ _ (by simp)]
      simp [expTo]
  · have e : i = b.length - 1 := by omega
    subst e
    simp [go_sem]
/-- The n-th power of b by the factorial of n, and the sum of the first ones. -/
def xpow (b : List Int) : Nat → List Int
  | 0 => tb (fun i => if i = 0 then 1 else 0) b.length
  | n + 1 => tb (fun i => (mulS (xpow b n) b)[i]?.getD 0 * pw ((n + 1 : Nat) : Int) 10005 % 10007) b.length
def xsum (b : List Int) : Nat → List Int
  | 0 => List.replicate b.length 0
  | n + 1 => tb (fun i => ((xsum b n)[i]?.getD 0 + (xpow b n)[i]?.getD 0) % 10007) b.length
@[simp] theorem xpow_len (b : List Int) : ∀ n, (xpow b n).length = b.length
  | 0 => by simp [xpow]
  | n + 1 => by simp [xpow]
@[simp] theorem xsum_len (b : List Int) : ∀ n, (xsum b n).length = b.length
  | 0 => by simp [xsum]
  | n + 1 => by simp [xsum]
theorem xpow_N (b : List Int) : ∀ n, Ns (xpow b n)
  | 0 => tb_N fun i _ => by split <;> exact ⟨by omega, by omega⟩
  | n + 1 => tb_N fun i _ => isN_mod _
theorem xsum_N (b : List Int) : ∀ n, Ns (xsum b n)
  | 0 => by intro x hx; simp [xsum, List.mem_replicate] at hx; rw [hx.2]; exact ⟨by omega, by omega⟩
  | n + 1 => tb_N fun i _ => isN_mod _
theorem l02Exp_c (b : List Int) (hb : Ns b) (hl : b.length ≤ 1000) : Con Try.prog 60 [.sl b.length (avs b)] (.own 2 b.length (avs (xsum b b.length))) := by
  refine con_of_vc Try.mixed ⟨6, [], [], []⟩ Try.func60 (by decide) rfl (by simp) (by decide) (by simp [freshOK, freshL, go_sem]) ?_
  rw [Try.ntmps60]
  simp [go_sem]
  refine ⟨by kernel_rfl, ?_⟩
  refine CallD.of (l02Unit_c b.length 0 (by omega) (by omega)) (by simp [roots, rootsL]) (by decide) ?_
  simp [go_sem]
  refine ⟨⟨by omega, by omega⟩, ?_⟩
  refine ⟨by kernel_rfl, ?_⟩
  simp [go_sem]
  refine loop_inv (3 :: 4 :: 5 :: List.range' 12 15) (fun i : Nat => [(3, .own 2 b.length (avs (xpow b i))), (4, .own 2 b.length (avs (xsum b i))), (5, .int (i + 1 : Nat))]) (fun i => i ≤ b.length) (fun i => b.length - i) 0 (by simp) (by simp [go_sem, xpow, xsum, avs_repl]) (by simp [go_sem]) ?_
  intro i hi
  have ca := l02Add_c (xsum b i) (xpow b i) (xsum_N b i) (xpow_N b i) (by simp; omega) (by simp)
  have cm := l02Mul_c (xpow b i) b (xpow_N b i) hb (by simp; omega) (by simp)
  have ct := l02Times_c (mulS (xpow b i) b) (pw ((i + 1 : Nat) : Int) 10005) (mulS_N _ _) (isN_mod _) (by simp; omega)
  simp only [xsum_len, xpow_len, mulS_len] at ca cm ct
  simp [go_sem]
  refine ⟨fun h => ?_, fun h => ?_⟩ <;> simp at h
  · simp [go_sem]
    refine CallVC.of (ca) (by decide) ?_
    simp [go_sem]
    refine CallVC.of (cm) (by decide) ?_
    simp [go_sem]
    refine CallVC.of (l01Inv_c _ ⟨by omega, by omega⟩) (by decide) ?_
    simp [go_sem]
    refine CallVC.of (ct) (by decide) ?_
    simp [go_sem]
    refine ⟨⟨by omega, by omega⟩, i + 1, by omega, by omega, Off_reset _ _ _ (by simp), ?_, ?_, by omega⟩
    · simp [xpow]
    · simp [xsum]
  · have e : i = b.length := by omega
    subst e
    simp [go_sem]
def uni : List Int := tb (fun i => if i = 1 then 1 else 0) 16
@[simp] theorem uni_len : uni.length = 16 := rfl
theorem uni_N : Ns uni := tb_N fun i _ => by split <;> exact ⟨by omega, by omega⟩
def expU : List Int := expTo uni 15
@[simp] theorem expU_len : expU.length = 16 := rfl
theorem ExponentialTo_c : Con Try.prog 62 [.int 15] (.tup [.own 2 16 (avs expU), .int 0]) := by
  have ce : Con Try.prog 100 [.sl 16 (avs uni)] (.own 2 16 (avs expU)) := expSeries_c uni uni_N (by decide) (by decide)
  refine con_of_vc Try.mixed ⟨5, [], [], []⟩ Try.func62 (by decide) rfl (by simp) (by decide) (by simp [freshOK, freshL, go_sem]) ?_
  rw [Try.ntmps62]
  simp [go_sem]
  refine CallVC.of (inRange_c 15 0 15) (by decide) ?_
  simp [go_sem]
  refine CallVC.of (ce) (by decide) ?_
  simp [go_sem]
theorem expU_eq : xsum uni 16 = expU := by decide +kernel
theorem specExpU_c : Con Try.prog 60 [.sl 16 (avs uni)] (.own 2 16 (avs expU)) := by
  rw [← expU_eq]
  exact l02Exp_c uni uni_N (by decide)
theorem specUni_c : Con Try.prog 61 [.int 16, .int 1] (.own 2 16 (avs uni)) := l02Unit_c 16 1 (by omega) (by omega)
end Go.Proofs.Ytdhnnpohpfjaiaa
