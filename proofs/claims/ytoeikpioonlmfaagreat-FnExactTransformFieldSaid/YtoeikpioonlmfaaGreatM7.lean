/- Texts of the own layer and contracts, part 7: B0 B1 B2 B3 W23 Q36 W24 Q38 E18 E20 E21 N3 C3 B4 B5 B6 B7 B8 B9 B10 B11 B12 B13 B14 R1 R2 R3 E3 B15 B16 R7 R8 E12 E13 N5 E22 V9 V10 V11. -/
import Derived.Lib.AppendZerosOnto
import Derived.Lib.Walk
import Derived.WalkKit
import Derived.Shelf.Abstract
import Derived.Shelf.RegionOpenPlain
import Derived.Lib.SliceRun
import Derived.Test.YtoeikpioonlmfaaGreatM6
namespace Go.Proofs.YtoeikpioonlmfaaGreat
set_option linter.unusedSectionVars false
set_option linter.unusedVariables false
set_option linter.unusedSimpArgs false
set_option maxHeartbeats 1000000
abbrev Mx := Nat → Nat → Int
def sgd (i : Nat) : Int := if i % 2 = 0 then 1 else -1
theorem sgd_succ (i : Nat) : sgd (i + 1) = - sgd i := by
  unfold sgd
  by_cases h : i % 2 = 0
  · rw [if_pos h, if_neg (by omega)]
  · rw [if_neg h, if_pos (by omega)]; rfl
def dsum (f : Nat → Int) : Nat → Int
  | 0 => 0
  | n + 1 => dsum f n + f n
theorem dsum_congr {f g : Nat → Int} : ∀ {n : Nat}, (∀ i, i < n → f i = g i) → dsum f n = dsum g n
  | 0, _ => rfl
  | n + 1, h => by rw [dsum, dsum, dsum_congr (fun i hi => h i (by omega)), h n (by omega)]
theorem dsum_lin (f g : Nat → Int) (k : Int) : ∀ n : Nat, dsum (fun i => f i + k * g i) n = dsum f n + k * dsum g n
  | 0 => by simp [dsum]
  | n + 1 => by rw [dsum, dsum, dsum, dsum_lin f g k n, Int.mul_add]; omega
theorem dsum_zero {f : Nat → Int} : ∀ {n : Nat}, (∀ i, i < n → f i = 0) → dsum f n = 0
  | 0, _ => rfl
  | n + 1, h => by rw [dsum, dsum_zero (fun i hi => h i (by omega)), h n (by omega)]; rfl
theorem dsum_one {f : Nat → Int} {k : Nat} : ∀ {n : Nat}, k < n → (∀ i, i < n → i ≠ k → f i = 0) → dsum f n = f k
  | 0, h, _ => by omega
  | n + 1, h, hz => by
    rw [dsum]
    by_cases e : k = n
    · subst e
      rw [dsum_zero (fun i hi => hz i (by omega) (by omega)), Int.zero_add]
    · rw [dsum_one (n := n) (by omega) (fun i hi hne => hz i (by omega) hne), hz n (by omega) (by omega), Int.add_zero]
theorem dsum_two {f : Nat → Int} {k : Nat} : ∀ {n : Nat}, k + 1 < n → (∀ i, i < n → i ≠ k → i ≠ k + 1 → f i = 0) → dsum f n = f k + f (k + 1)
  | 0, h, _ => by omega
  | n + 1, h, hz => by
    rw [dsum]
    by_cases e : k + 1 = n
    · subst e
      rw [dsum_one (k := k) (by omega) (fun i hi hne => hz i (by omega) hne (by omega))]
    · rw [dsum_two (n := n) (by omega) (fun i hi h1 h2 => hz i (by omega) h1 h2), hz n (by omega) (by omega) (by omega), Int.add_zero]
def mnr (M : Mx) (i : Nat) : Mx := fun r c => M (if r < i then r else r + 1) (c + 1)
def det : Nat → Mx → Int
  | 0, _ => 1
  | n + 1, M => dsum (fun i => sgd i * M i 0 * det n (mnr M i)) (n + 1)
def updR (M : Mx) (i : Nat) (w : Nat → Int) : Mx := fun r => if r = i then w else M r
theorem updR_self (M : Mx) (i : Nat) : updR M i (M i) = M := funext fun r => by
  unfold updR; split
  · rename_i h; rw [h]
  · rfl
theorem updR_at (M : Mx) (i : Nat) (w : Nat → Int) : updR M i w i = w := by simp [updR]
theorem updR_ne (M : Mx) {i r : Nat} (w : Nat → Int) (h : r ≠ i) : updR M i w r = M r := by simp [updR, h]
theorem updR_upd (M : Mx) (i : Nat) (v w : Nat → Int) : updR (updR M i v) i w = updR M i w := funext fun r => by
  unfold updR; split <;> rfl
theorem updR_comm (M : Mx) {i j : Nat} (h : i ≠ j) (v w : Nat → Int) : updR (updR M i v) j w = updR (updR M j w) i v := funext fun r => by
  unfold updR
  by_cases h1 : r = i
  · subst h1; rw [if_neg h, if_pos rfl, if_pos rfl]
  · rw [if_neg h1, if_neg h1]
theorem mnr_self (M : Mx) (i : Nat) (w : Nat → Int) : mnr (updR M i w) i = mnr M i := funext fun r => funext fun c => by
  unfold mnr updR
  rw [if_neg (by split <;> omega)]
theorem mnr_ne (M : Mx) {i j : Nat} (w : Nat → Int) (h : j ≠ i) : mnr (updR M i w) j = updR (mnr M j) (if i < j then i else i - 1) (fun c => w (c + 1)) := funext fun r => funext fun c => by
  unfold mnr updR
  by_cases h1 : (if r < j then r else r + 1) = i
  · have h2 : r = if i < j then i else i - 1 := by
      split at h1 <;> split <;> omega
    rw [if_pos h1, if_pos h2]
  · have h2 : ¬ r = if i < j then i else i - 1 := by
      split at h1 <;> split <;> omega
    rw [if_neg h1, if_neg h2]
theorem det_congr : ∀ {n : Nat} {M N : Mx}, (∀ r c, r < n → c < n → M r c = N r c) → det n M = det n N
  | 0, _, _, _ => rfl
  | n + 1, M, N, h => by
    rw [det, det]
    refine dsum_congr fun i hi => ?_
    rw [h i 0 hi (by omega)]
    rw [det_congr (n := n) (M := mnr M i) (N := mnr N i) (fun r c hr hc => h _ _ (by split <;> omega) (by omega))]
theorem det_cong {p : Int} : ∀ {n : Nat} {M N : Mx}, (∀ r c, r < n → c < n → M r c % p = N r c % p) → det n M % p = det n N % p
  | 0, _, _, _ => rfl
  | n + 1, M, N, h => by
    rw [det, det]
    have gen : ∀ m : Nat, m ≤ n + 1 → dsum (fun i => sgd i * M i 0 * det n (mnr M i)) m % p = dsum (fun i => sgd i * N i 0 * det n (mnr N i)) m % p := by
      intro m
      induction m with
      | zero => intro _; rfl
      | succ m ih =>
        intro hm
        rw [dsum, dsum, Int.add_emod, ih (by omega), Int.add_emod (dsum (fun i => sgd i * N i 0 * det n (mnr N i)) m)]
        have e1 := h m 0 (by omega) (by omega)
        have e2 := det_cong (p := p) (n := n) (M := mnr M m) (N := mnr N m) (fun r c hr hc => h _ _ (by split <;> omega) (by omega))
        have e3 : (sgd m * M m 0 * det n (mnr M m)) % p = (sgd m * N m 0 * det n (mnr N m)) % p := by
          rw [Int.mul_emod, Int.mul_emod (sgd m), e1, e2, ← Int.mul_emod (sgd m), ← Int.mul_emod]
        rw [e3]
    exact gen _ (Nat.le_refl _)
theorem det_lin : ∀ {n : Nat} (M : Mx) {i : Nat} (u v : Nat → Int) (k : Int), i < n → det n (updR M i (fun c => u c + k * v c)) = det n (updR M i u) + k * det n (updR M i v)
  | 0, _, _, _, _, _, h => by omega
  | n + 1, M, i, u, v, k, h => by
    rw [det, det, det, ← dsum_lin]
    refine dsum_congr fun j hj => ?_
    by_cases e : j = i
    · subst e
      simp only [mnr_self, updR_at]
      generalize det n (mnr M j) = d
      rw [Int.mul_add, Int.add_mul]
      congr 1
      ac_rfl
    · simp only [mnr_ne M _ e, updR_ne M _ e]
      rw [det_lin (n := n) (mnr M j) (fun c => u (c + 1)) (fun c => v (c + 1)) k (by split <;> omega), Int.mul_add]
      congr 1
      ac_rfl
theorem det_adj : ∀ {n : Nat} (M : Mx) {i : Nat}, i + 1 < n → M i = M (i + 1) → det n M = 0
  | 0, _, _, h, _ => by omega
  | n + 1, M, i, h, he => by
    rw [det, dsum_two (k := i) h]
    · have hm : mnr M (i + 1) = mnr M i := funext fun r => funext fun c => by
        unfold mnr
        by_cases h1 : r < i
        · rw [if_pos (by omega), if_pos h1]
        · by_cases h2 : r = i
          · subst h2; rw [if_pos (by omega), if_neg (by omega), he]
          · rw [if_neg (by omega), if_neg (by omega)]
      rw [hm, ← he, sgd_succ, Int.neg_mul, Int.neg_mul]
      omega
    · intro j hj h1 h2
      have hz : det n (mnr M j) = 0 := by
        by_cases hlt : i < j
        · refine det_adj (mnr M j) (i := i) (by omega) (funext fun c => ?_)
          unfold mnr
          rw [if_pos hlt, if_pos (by omega), he]
        · obtain ⟨i', rfl⟩ : ∃ i', i = i' + 1 := ⟨i - 1, by omega⟩
          refine det_adj (mnr M j) (i := i') (by omega) (funext fun c => ?_)
          unfold mnr
          rw [if_neg (by omega), if_neg (by omega), he]
      rw [hz, Int.mul_zero]
theorem det_swap1 {n : Nat} (M : Mx) {i : Nat} (h : i + 1 < n) (u v : Nat → Int) : det n (updR (updR M i u) (i + 1) v) = - det n (updR (updR M i v) (i + 1) u) := by
  have hne : i ≠ i + 1 := by omega
  have z := fun w : Nat → Int => det_adj (n := n) (updR (updR M i w) (i + 1) w) h (by rw [updR_at, updR_ne _ _ hne, updR_at])
  have s := z (fun c => u c + 1 * v c)
  rw [det_lin _ u v 1 h, updR_comm _ hne, updR_comm _ hne, det_lin _ u v 1 (by omega), det_lin _ u v 1 (by omega)] at s
  have zu := z u
  have zv := z v
  rw [updR_comm _ hne] at zu zv
  rw [updR_comm _ hne, updR_comm (M) hne v u]
  omega
theorem det_eq : ∀ {n : Nat} (k : Nat) (M : Mx) {i : Nat}, i + k + 1 < n → M i = M (i + k + 1) → det n M = 0
  | n, 0, M, i, h, he => det_adj M h he
  | n, k + 1, M, i, h, he => by
    have hne : i + k + 1 ≠ i + (k + 1) + 1 := by omega
    have e0 : M = updR (updR M (i + k + 1) (M (i + k + 1))) (i + k + 1 + 1) (M (i + k + 1 + 1)) := by rw [updR_self, updR_self]
    rw [e0, det_swap1 M (i := i + k + 1) (by omega)]
    have := det_eq k (updR (updR M (i + k + 1) (M (i + k + 1 + 1))) (i + k + 1 + 1) (M (i + k + 1))) (i := i) (n := n) (by omega) (by
      rw [updR_ne _ _ (show i ≠ i + k + 1 + 1 by omega), updR_ne _ _ (show i ≠ i + k + 1 by omega), updR_ne _ _ (show i + k + 1 ≠ i + k + 1 + 1 by omega), updR_at]
      exact he)
    rw [this]; rfl
theorem det_same {n : Nat} (M : Mx) {i j : Nat} (hi : i < n) (hj : j < n) (hne : i ≠ j) (he : M i = M j) : det n M = 0 := by
  by_cases h : i < j
  · have e : j = i + (j - i - 1) + 1 := by omega
    rw [e] at he
    exact det_eq (j - i - 1) M (by omega) he
  · have e : i = j + (i - j - 1) + 1 := by omega
    rw [e] at he
    exact det_eq (i - j - 1) M (by omega) he.symm
theorem det_add {n : Nat} (M : Mx) {i j : Nat} (hi : i < n) (hj : j < n) (hne : i ≠ j) (k : Int) : det n (updR M i (fun c => M i c + k * M j c)) = det n M := by
  rw [det_lin M (M i) (M j) k hi, updR_self, det_same (updR M i (M j)) hi hj hne (by rw [updR_at, updR_ne _ _ (fun e => hne e.symm)]), Int.mul_zero, Int.add_zero]
theorem det_nil {n : Nat} (M : Mx) {i : Nat} (hi : i < n) (hz : ∀ c, M i c = 0) : det n M = 0 := by
  have := det_lin M (M i) (M i) 1 hi
  have e : (fun c => M i c + 1 * M i c) = M i := funext fun c => by rw [hz c]; rfl
  rw [e, updR_self] at this
  omega
theorem det_scale {n : Nat} (M : Mx) {i : Nat} (hi : i < n) (k : Int) : det n (updR M i (fun c => k * M i c)) = k * det n M := by
  have := det_lin M (fun _ => 0) (M i) k hi
  simp only [Int.zero_add] at this
  rw [this, updR_self, det_nil (updR M i (fun _ => 0)) hi (fun c => by rw [updR_at]), Int.zero_add]
theorem det_swap {n : Nat} (M : Mx) {i j : Nat} (hi : i < n) (hj : j < n) (hne : i ≠ j) (u v : Nat → Int) : det n (updR (updR M i u) j v) = - det n (updR (updR M i v) j u) := by
  have z := fun w : Nat → Int => det_same (n := n) (updR (updR M i w) j w) hi hj hne (by rw [updR_at, updR_ne _ _ hne, updR_at])
  have s := z (fun c => u c + 1 * v c)
  rw [det_lin _ u v 1 hj, updR_comm _ hne, updR_comm _ hne, det_lin _ u v 1 hi, det_lin _ u v 1 hi] at s
  have zu := z u
  have zv := z v
  rw [updR_comm _ hne] at zu zv
  rw [updR_comm _ hne, updR_comm (M) hne v u]
  omega
def idM : Mx := fun r c => if r = c then 1 else 0
theorem mnr_id : mnr idM 0 = idM := funext fun r => funext fun c => by simp [mnr, idM]
theorem det_one : ∀ n : Nat, det n idM = 1
  | 0 => rfl
  | n + 1 => by
    rw [det, dsum_one (k := 0) (by omega) (fun i hi hne => by simp [idM, hne]), mnr_id, det_one n]
    simp [sgd, idM]
def updC (M : Mx) (k : Nat) (b : Nat → Int) : Mx := fun r c => if c = k then b r else M r c
theorem det_col : ∀ {n k : Nat} (b : Nat → Int), k < n → det n (updC idM k b) = b k
  | 0, _, _, h => by omega
  | n + 1, 0, b, _ => by
    rw [det, dsum_one (k := 0) (by omega)]
    · have e : mnr (updC idM 0 b) 0 = idM := funext fun r => funext fun c => by simp [mnr, updC, idM]
      rw [e, det_one]
      simp [sgd, updC]
    · intro i hi hne
      rw [det_nil (mnr (updC idM 0 b) i) (i := 0) (by omega) (fun c => by
        have : (0 : Nat) < i := by omega
        simp [mnr, updC, idM, this]), Int.mul_zero]
  | n + 1, k + 1, b, h => by
    rw [det, dsum_one (k := 0) (by omega)]
    · have e : mnr (updC idM (k + 1) b) 0 = updC idM k (fun r => b (r + 1)) := funext fun r => funext fun c => by simp [mnr, updC, idM]
      rw [e, det_col _ (by omega)]
      simp [sgd, updC, idM]
    · intro i hi hne
      have : updC idM (k + 1) b i 0 = 0 := by simp [updC, idM, hne]
      rw [this]; simp
end Go.Proofs.YtoeikpioonlmfaaGreat


namespace Go.Proofs.YtoeikpioonlmfaaGreat
set_option linter.unusedSectionVars false
set_option linter.unusedVariables false
set_option linter.unusedSimpArgs false
set_option maxHeartbeats 1000000
theorem dsum_shift (f : Nat → Int) : ∀ n, dsum f (n + 1) = f 0 + dsum (fun i => f (i + 1)) n
  | 0 => by simp [dsum]
  | n + 1 => by rw [dsum, dsum_shift f n, dsum]; omega
theorem dsum_mul (k : Int) (f : Nat → Int) : ∀ n, k * dsum f n = dsum (fun i => k * f i) n
  | 0 => by simp [dsum]
  | n + 1 => by rw [dsum, dsum, Int.mul_add, dsum_mul k f n]
theorem dsum_plus (f g : Nat → Int) : ∀ n, dsum (fun i => f i + g i) n = dsum f n + dsum g n
  | 0 => by simp [dsum]
  | n + 1 => by rw [dsum, dsum, dsum, dsum_plus f g n]; omega
theorem dsum_swap (F : Nat → Nat → Int) (m : Nat) : ∀ n, dsum (fun i => dsum (fun k => F i k) m) n = dsum (fun k => dsum (fun i => F i k) n) m
  | 0 => (dsum_zero (f := fun k => dsum (fun i => F i k) 0) (fun i hi => rfl)).symm
  | n + 1 => by
    rw [dsum, dsum_swap F m n, ← dsum_plus]
    exact dsum_congr fun k hk => rfl
def mnc (M : Mx) (k : Nat) : Mx := fun r c => M (r + 1) (if c < k then c else c + 1)
theorem mnc_zero (M : Mx) : mnc M 0 = mnr M 0 := funext fun r => funext fun c => by simp [mnc, mnr]
theorem mnc_mnr (M : Mx) (i k : Nat) : mnc (mnr M (i + 1)) k = mnr (mnc M (k + 1)) i := funext fun r => funext fun c => by
  unfold mnc mnr
  have e1 : (if r + 1 < i + 1 then r + 1 else r + 1 + 1) = (if r < i then r else r + 1) + 1 := by split <;> split <;> omega
  have e2 : (if c < k then c else c + 1) + 1 = if c + 1 < k + 1 then c + 1 else c + 1 + 1 := by split <;> split <;> omega
  simp only [e1, e2]
theorem det_row : ∀ (n : Nat) (M : Mx), det (n + 1) M = dsum (fun k => sgd k * M 0 k * det n (mnc M k)) (n + 1)
  | 0, M => by simp [det, dsum]
  | n + 1, M => by
    rw [det, dsum_shift, dsum_shift (fun k => sgd k * M 0 k * det (n + 1) (mnc M k)), mnc_zero]
    congr 1
    have l1 : dsum (fun i => sgd (i + 1) * M (i + 1) 0 * det (n + 1) (mnr M (i + 1))) (n + 1) = dsum (fun i => dsum (fun k => sgd (i + 1) * M (i + 1) 0 * (sgd k * M 0 (k + 1) * det n (mnr (mnc M (k + 1)) i))) (n + 1)) (n + 1) := dsum_congr fun i hi => by
      rw [det_row n (mnr M (i + 1)), dsum_mul]
      refine dsum_congr fun k hk => ?_
      rw [mnc_mnr]
      have : mnr M (i + 1) 0 k = M 0 (k + 1) := by simp [mnr]
      rw [this]
    have l2 : dsum (fun k => sgd (k + 1) * M 0 (k + 1) * det (n + 1) (mnc M (k + 1))) (n + 1) = dsum (fun k => dsum (fun i => sgd (k + 1) * M 0 (k + 1) * (sgd i * M (i + 1) 0 * det n (mnr (mnc M (k + 1)) i))) (n + 1)) (n + 1) := dsum_congr fun k hk => by
      rw [det, dsum_mul]
      refine dsum_congr fun i hi => ?_
      have : mnc M (k + 1) i 0 = M (i + 1) 0 := by simp [mnc]
      rw [this]
    rw [l1, l2, dsum_swap]
    refine dsum_congr fun k hk => dsum_congr fun i hi => ?_
    rw [sgd_succ, sgd_succ]
    generalize det n (mnr (mnc M (k + 1)) i) = d
    generalize M (i + 1) 0 = a
    generalize M 0 (k + 1) = b
    have e : sgd i * a * (sgd k * b * d) = sgd k * b * (sgd i * a * d) := by ac_rfl
    rw [Int.neg_mul, Int.neg_mul, Int.neg_mul, Int.neg_mul, e]
def clr (M : Mx) (i : Nat) (w : Nat → Int) (t : Nat) : Mx := fun r => if r < t ∧ r ≠ i then fun c => M r c + w r * M i c else M r
theorem clr_zero (M : Mx) (i : Nat) (w : Nat → Int) : clr M i w 0 = M := funext fun r => by unfold clr; rw [if_neg (by omega)]
theorem det_clr {n : Nat} (M : Mx) {i : Nat} (hi : i < n) (w : Nat → Int) : ∀ t, t ≤ n → det n (clr M i w t) = det n M
  | 0, _ => by rw [clr_zero]
  | t + 1, ht => by
    rw [← det_clr M hi w t (by omega)]
    by_cases e : t = i
    · have : clr M i w (t + 1) = clr M i w t := funext fun r => by
        unfold clr
        by_cases h : r < t ∧ r ≠ i
        · rw [if_pos h, if_pos ⟨by omega, h.2⟩]
        · rw [if_neg h, if_neg (by omega)]
      rw [this]
    · have hi2 : clr M i w t i = M i := by unfold clr; rw [if_neg (by omega)]
      have ht2 : clr M i w t t = M t := by unfold clr; rw [if_neg (by omega)]
      have : clr M i w (t + 1) = updR (clr M i w t) t (fun c => clr M i w t t c + w t * clr M i w t i c) := funext fun r => by
        rw [hi2, ht2]
        unfold updR
        by_cases h : r = t
        · subst h; rw [if_pos rfl]; unfold clr; rw [if_pos ⟨by omega, e⟩]
        · rw [if_neg h]
          unfold clr
          by_cases h2 : r < t ∧ r ≠ i
          · rw [if_pos h2, if_pos ⟨by omega, h2.2⟩]
          · rw [if_neg h2, if_neg (by omega)]
      rw [this, det_add _ (by omega) hi e]
theorem dsum_cong {p : Int} {f g : Nat → Int} : ∀ {n : Nat}, (∀ i, i < n → f i % p = g i % p) → dsum f n % p = dsum g n % p
  | 0, _ => rfl
  | n + 1, h => by rw [dsum, dsum, Int.add_emod, dsum_cong (fun i hi => h i (by omega)), h n (by omega), ← Int.add_emod]
theorem det_pivot {p : Int} {n : Nat} (M : Mx) {i : Nat} (hi : i < n + 1) {q : Int} (hq : (M i 0 * q) % p = 1 % p) :
    det (n + 1) M % p = (sgd i * M i 0 * det n (fun r c => M (if r < i then r else r + 1) (c + 1) + (- (M (if r < i then r else r + 1) 0 * q)) * M i (c + 1))) % p := by
  rw [← det_clr M hi (fun r => - (M r 0 * q)) (n + 1) (Nat.le_refl _), det]
  have hii : clr M i (fun r => - (M r 0 * q)) (n + 1) i = M i := by unfold clr; rw [if_neg (by omega)]
  have hm : det n (mnr (clr M i (fun r => - (M r 0 * q)) (n + 1)) i) = det n (fun r c => M (if r < i then r else r + 1) (c + 1) + (- (M (if r < i then r else r + 1) 0 * q)) * M i (c + 1)) := det_congr fun r c hr hc => by
    unfold mnr clr
    rw [if_pos (by split <;> omega)]
  have hz : ∀ r, r < n + 1 → r ≠ i → clr M i (fun r => - (M r 0 * q)) (n + 1) r 0 % p = 0 := fun r hr hne => by
    unfold clr
    rw [if_pos ⟨hr, hne⟩]
    have e : M r 0 + - (M r 0 * q) * M i 0 = M r 0 - M r 0 * (M i 0 * q) := by
      rw [Int.neg_mul, Int.mul_assoc, Int.mul_comm q]; rfl
    show (M r 0 + - (M r 0 * q) * M i 0) % p = 0
    rw [e, Int.sub_emod, Int.mul_emod, hq, ← Int.mul_emod, Int.mul_one, Int.sub_self]; simp
  have hs := dsum_cong (p := p) (n := n + 1) (f := fun r => sgd r * clr M i (fun r => - (M r 0 * q)) (n + 1) r 0 * det n (mnr (clr M i (fun r => - (M r 0 * q)) (n + 1)) r)) (g := fun r => if r = i then sgd i * M i 0 * det n (fun r c => M (if r < i then r else r + 1) (c + 1) + (- (M (if r < i then r else r + 1) 0 * q)) * M i (c + 1)) else 0) (fun r hr => by
    by_cases h : r = i
    · subst h
      simp only [if_true]
      rw [hm, hii]
    · simp only [if_neg h]
      have := hz r hr h
      rw [Int.mul_emod, Int.mul_emod (sgd r), this]
      simp)
  rw [hs, dsum_one (k := i) hi (fun r hr hne => if_neg hne), if_pos rfl]
end Go.Proofs.YtoeikpioonlmfaaGreat


namespace Go.Proofs.YtoeikpioonlmfaaGreat
set_option linter.unusedSectionVars false
set_option linter.unusedVariables false
set_option linter.unusedSimpArgs false
set_option maxHeartbeats 1000000
def sel (W : Mx) (g : Nat → Nat) : Mx := fun r c => W r (g c)
theorem sel_upd (W : Mx) (i : Nat) (w : Nat → Int) (g : Nat → Nat) : sel (updR W i w) g = updR (sel W g) i (fun c => w (g c)) := funext fun r => funext fun c => by
  unfold sel updR; split <;> rfl
theorem sel_clr (W : Mx) (i : Nat) (w : Nat → Int) (t : Nat) (g : Nat → Nat) : sel (clr W i w t) g = clr (sel W g) i w t := funext fun r => funext fun c => by
  unfold sel clr; split <;> rfl
def RowEq (n w : Nat) (W W' : Mx) : Prop := ∃ s t : Int, s * t % 10007 = 1 ∧ ∀ g : Nat → Nat, (∀ c, c < n → g c < w) → det n (sel W g) * s % 10007 = det n (sel W' g) % 10007
theorem RowEq.refl (n w : Nat) (W : Mx) : RowEq n w W W := ⟨1, 1, rfl, fun g hg => by rw [Int.mul_one]⟩
theorem mul_mod_l (a b : Int) : a % 10007 * b % 10007 = a * b % 10007 := by rw [Int.mul_emod, Int.emod_emod_of_dvd _ (Int.dvd_refl _), ← Int.mul_emod]
theorem mul_mod_r (a b : Int) : a * (b % 10007) % 10007 = a * b % 10007 := by rw [Int.mul_emod, Int.emod_emod_of_dvd _ (Int.dvd_refl _), ← Int.mul_emod]
theorem RowEq.trans {n w : Nat} {W X Y : Mx} (h : RowEq n w W X) (k : RowEq n w X Y) : RowEq n w W Y := by
  obtain ⟨s, t, h1, h2⟩ := h
  obtain ⟨s', t', k1, k2⟩ := k
  refine ⟨s * s', t * t', ?_, fun g hg => ?_⟩
  · have e : s * s' * (t * t') = (s * t) * (s' * t') := by ac_rfl
    rw [e, Int.mul_emod, h1, k1]; rfl
  · rw [← k2 g hg, ← Int.mul_assoc, ← mul_mod_l, h2 g hg, mul_mod_l]
theorem RowEq.cong {n w : Nat} {W W' : Mx} (h : ∀ r c, r < n → c < w → W r c % 10007 = W' r c % 10007) : RowEq n w W W' :=
  ⟨1, 1, rfl, fun g hg => by rw [Int.mul_one]; exact det_cong fun r c hr hc => h r (g c) hr (hg c hc)⟩
theorem RowEq.clr {n w : Nat} (W : Mx) {i : Nat} (hi : i < n) (u : Nat → Int) : RowEq n w W (clr W i u n) :=
  ⟨1, 1, rfl, fun g hg => by rw [Int.mul_one, sel_clr, det_clr _ hi u n (Nat.le_refl _)]⟩
theorem RowEq.scale {n w : Nat} (W : Mx) {i : Nat} (hi : i < n) {k k' : Int} (hk : k * k' % 10007 = 1) : RowEq n w W (updR W i (fun c => k * W i c)) :=
  ⟨k, k', hk, fun g hg => by
    rw [sel_upd]
    have := det_scale (sel W g) hi k
    have e : (fun c => k * sel W g i c) = fun c => k * W i (g c) := rfl
    rw [e] at this
    rw [this, Int.mul_comm]⟩
theorem RowEq.swap {n w : Nat} (W : Mx) {i j : Nat} (hi : i < n) (hj : j < n) (hne : i ≠ j) : RowEq n w W (updR (updR W i (W j)) j (W i)) :=
  ⟨-1, -1, rfl, fun g hg => by
    rw [sel_upd, sel_upd]
    have e : sel W g = updR (updR (sel W g) i (fun c => W i (g c))) j (fun c => W j (g c)) := by
      have e1 : (fun c => W i (g c)) = sel W g i := rfl
      have e2 : (fun c => W j (g c)) = sel W g j := rfl
      rw [e1, e2, updR_self, updR_self]
    have h := det_swap (sel W g) hi hj hne (fun c => W j (g c)) (fun c => W i (g c))
    rw [h, ← e]
    congr 1
    omega⟩
theorem RowEq.full {n : Nat} {W W' : Mx} (h : RowEq n (n + 1) W W') (hid : ∀ r c, r < n → c < n → W' r c % 10007 = idM r c % 10007) :
    ∃ s : Int, det n W * s % 10007 = 1 ∧ ∀ k, k < n → W' k n % 10007 = det n (updC W k (fun r => W r n)) * s % 10007 := by
  obtain ⟨s, t, h1, h2⟩ := h
  refine ⟨s, ?_, fun k hk => ?_⟩
  · have := h2 id (fun c hc => by show c < n + 1; omega)
    have e : ∀ X : Mx, sel X id = X := fun X => rfl
    rw [e, e, det_cong (p := 10007) (N := idM) hid, det_one] at this
    exact this
  · have := h2 (fun c => if c = k then n else c) (fun c hc => by show (if c = k then n else c) < n + 1; split <;> omega)
    have e : sel W (fun c => if c = k then n else c) = updC W k (fun r => W r n) := funext fun r => funext fun c => by
      by_cases hc : c = k
      · simp [sel, updC, hc]
      · simp [sel, updC, hc]
    rw [e] at this
    rw [this, det_cong (p := 10007) (N := updC idM k (fun r => W' r n)), det_col _ hk]
    intro r c hr hc
    by_cases hck : c = k
    · simp [sel, updC, hck]
    · simp [sel, updC, hck]; exact hid r c hr hc
theorem RowEq.sing {n w : Nat} {W W' : Mx} (h : RowEq n w W W') (hw : n ≤ w) {i : Nat} (hi : i < n) (hz : ∀ c, c < n → W' i c % 10007 = 0) : det n W % 10007 = 0 := by
  obtain ⟨s, t, h1, h2⟩ := h
  have h3 := h2 id (fun c hc => by show c < w; omega)
  have e : ∀ X : Mx, sel X id = X := fun X => rfl
  rw [e, e] at h3
  have h4 : det n W' % 10007 = det n (updR W' i (fun _ => 0)) % 10007 := det_cong fun r c hr hc => by
    unfold updR
    by_cases hr2 : r = i
    · subst hr2; rw [if_pos rfl, hz c hc]; rfl
    · rw [if_neg hr2]
  rw [h4, det_nil (updR W' i (fun _ => 0)) hi (fun c => by rw [updR_at])] at h3
  have h5 : det n W * s * t % 10007 = 0 := by rw [← mul_mod_l, h3]; simp
  rw [Int.mul_assoc, ← mul_mod_r, h1, Int.mul_one] at h5
  exact h5
end Go.Proofs.YtoeikpioonlmfaaGreat


namespace Go.Proofs.YtoeikpioonlmfaaGreat
open Go.Abs
set_option linter.unusedSectionVars false
set_option linter.unusedVariables false
set_option linter.unusedSimpArgs false
set_option maxHeartbeats 1000000
def mx (m : List (List Int)) : Mx := fun r c => (m[r]?.getD [])[c]?.getD 0
def fndR (m : List (List Int)) (k : Nat) : Nat → Nat → Nat
  | 0, i => i
  | f + 1, i => if mx m i k = 0 then fndR m k f (i + 1) else i
theorem fndR_le (m : List (List Int)) (k : Nat) : ∀ f i, i ≤ fndR m k f i ∧ fndR m k f i ≤ i + f
  | 0, i => by simp [fndR]
  | f + 1, i => by
    rw [fndR]
    split
    · have := fndR_le m k f (i + 1); omega
    · omega
theorem fndR_zero (m : List (List Int)) (k : Nat) : ∀ f i r, i ≤ r → r < fndR m k f i → mx m r k = 0
  | 0, i, r, h1, h2 => by rw [fndR] at h2; omega
  | f + 1, i, r, h1, h2 => by
    rw [fndR] at h2
    split at h2
    · rename_i h
      by_cases e : r = i
      · subst e; exact h
      · exact fndR_zero m k f (i + 1) r (by omega) h2
    · omega
theorem fndR_ne (m : List (List Int)) (k : Nat) : ∀ f i, fndR m k f i < i + f → mx m (fndR m k f i) k ≠ 0
  | 0, i, h => by rw [fndR] at h; omega
  | f + 1, i, h => by
    rw [fndR] at h ⊢
    split
    · rename_i hz
      rw [if_pos hz] at h
      exact fndR_ne m k f (i + 1) (by omega)
    · rename_i hz; exact hz
def swp (m : List (List Int)) (i d : Nat) : List (List Int) := if i = d then m else (m.set i (m[d]?.getD [])).set d (m[i]?.getD [])
def scl (m : List (List Int)) (d k : Nat) : List (List Int) := m.set d (scalS (m[d]?.getD []) (pw (mx m d k) 10005))
def elD (m : List (List Int)) (d k : Nat) : List (List Int) := (List.range m.length).map fun r => if r = d then m[d]?.getD [] else plusS (m[r]?.getD []) (m[d]?.getD []) (- mx m r k)
def Rws (w : Nat) (m : List (List Int)) : Prop := ∀ r ∈ m, r.length = w ∧ Ns r
theorem Rws.at {w : Nat} {m : List (List Int)} (h : Rws w m) {i : Nat} (hi : i < m.length) : (m[i]?.getD []).length = w ∧ Ns (m[i]?.getD []) := h _ (by simp [hi])
theorem Rws.set {w : Nat} {m : List (List Int)} (h : Rws w m) {i : Nat} {r : List Int} (hr : r.length = w ∧ Ns r) : Rws w (m.set i r) := fun x hx => by
  rcases List.mem_or_eq_of_mem_set hx with hx | rfl
  · exact h x hx
  · exact hr
@[simp] theorem swp_len (m : List (List Int)) (i d : Nat) : (swp m i d).length = m.length := by unfold swp; split <;> simp
@[simp] theorem scl_len (m : List (List Int)) (d k : Nat) : (scl m d k).length = m.length := by simp [scl]
@[simp] theorem elD_len (m : List (List Int)) (d k : Nat) : (elD m d k).length = m.length := by simp [elD]
theorem swp_ok {w : Nat} {m : List (List Int)} (h : Rws w m) {i d : Nat} (hi : i < m.length) (hd : d < m.length) : Rws w (swp m i d) := by
  unfold swp
  split
  · exact h
  · exact (h.set (h.at hd)).set (h.at hi)
theorem scl_ok {w : Nat} {m : List (List Int)} (h : Rws w m) {d k : Nat} (hd : d < m.length) : Rws w (scl m d k) := h.set ⟨by rw [scalS_len]; exact (h.at hd).1, scalS_N _ _⟩
theorem elD_ok {w : Nat} {m : List (List Int)} (h : Rws w m) {d k : Nat} (hd : d < m.length) : Rws w (elD m d k) := fun x hx => by
  obtain ⟨r, hr, rfl⟩ := List.mem_map.1 hx
  have hr2 : r < m.length := by simpa using hr
  split
  · exact h.at hd
  · exact ⟨by rw [plusS_len]; exact (h.at hr2).1, plusS_N _ _ _⟩
theorem swp_mx {m : List (List Int)} {i d : Nat} (hi : i < m.length) (hd : d < m.length) : mx (swp m i d) = updR (updR (mx m) i (mx m d)) d (mx m i) := funext fun r => funext fun c => by
  unfold swp
  split
  · rename_i e; subst e; rw [updR_upd, updR_self]
  · rename_i e
    unfold mx updR
    by_cases h1 : r = d
    · subst h1
      rw [List.getElem?_set_self (by simpa using hd), if_pos rfl]; rfl
    · rw [List.getElem?_set_ne (fun x => h1 x.symm), if_neg h1]
      by_cases h2 : r = i
      · subst h2; rw [List.getElem?_set_self hi, if_pos rfl]; rfl
      · rw [List.getElem?_set_ne (fun x => h2 x.symm), if_neg h2]
theorem scl_at {w : Nat} {m : List (List Int)} (h : Rws w m) {d k : Nat} (hd : d < m.length) {r c : Nat} (hc : c < w) : mx (scl m d k) r c = if r = d then mx m d c * (pw (mx m d k) 10005 % 10007) % 10007 else mx m r c := by
  unfold scl
  show ((m.set d (scalS (m[d]?.getD []) (pw (mx m d k) 10005)))[r]?.getD [])[c]?.getD 0 = _
  by_cases e : r = d
  · subst e
    rw [List.getElem?_set_self hd, if_pos rfl]
    exact tb_get (fun i => (m[r]?.getD [])[i]?.getD 0 * (pw (mx m r k) 10005 % 10007) % 10007) (by rw [(h.at hd).1]; exact hc)
  · rw [List.getElem?_set_ne (fun x => e x.symm), if_neg e]; rfl
theorem elD_at {w : Nat} {m : List (List Int)} (h : Rws w m) {d k : Nat} {r c : Nat} (hr : r < m.length) (hc : c < w) : mx (elD m d k) r c = if r = d then mx m d c else (mx m r c + (- mx m r k) % 10007 * mx m d c) % 10007 := by
  have e0 : (elD m d k)[r]?.getD [] = if r = d then m[d]?.getD [] else plusS (m[r]?.getD []) (m[d]?.getD []) (- mx m r k) := by simp [elD, hr]
  show ((elD m d k)[r]?.getD [])[c]?.getD 0 = _
  rw [e0]
  by_cases e : r = d
  · rw [if_pos e, if_pos e]; rfl
  · rw [if_neg e, if_neg e]
    exact tb_get (fun i => ((m[r]?.getD [])[i]?.getD 0 + (- mx m r k) % 10007 * (m[d]?.getD [])[i]?.getD 0) % 10007) (by rw [(h.at hr).1]; exact hc)
end Go.Proofs.YtoeikpioonlmfaaGreat


namespace Go.Proofs.YtoeikpioonlmfaaGreat
open Go.Abs
set_option linter.unusedSectionVars false
set_option linter.unusedVariables false
set_option linter.unusedSimpArgs false
set_option maxHeartbeats 4000000
end Go.Proofs.YtoeikpioonlmfaaGreat


namespace Go.Proofs.YtoeikpioonlmfaaGreat
open Go.Abs
set_option linter.unusedSectionVars false
set_option linter.unusedVariables false
set_option linter.unusedSimpArgs false
set_option maxHeartbeats 1000000
def rowOk (A : List (List Int)) (r : List Int) : Bool := decide (r.length = (A[0]?.getD []).length) && numsB r
def matB (A : List (List Int)) : Bool := decide (1 ≤ A.length ∧ A.length ≤ 8) && (decide (1 ≤ (A[0]?.getD []).length ∧ (A[0]?.getD []).length ≤ 8) && A.all (rowOk A))
theorem matB_iff {A : List (List Int)} : matB A = true ↔ (1 ≤ A.length ∧ A.length ≤ 8) ∧ (1 ≤ (A[0]?.getD []).length ∧ (A[0]?.getD []).length ≤ 8) ∧ ∀ r ∈ A, r.length = (A[0]?.getD []).length ∧ Ns r := by
  unfold matB rowOk
  simp only [Bool.and_eq_true, decide_eq_true_eq, List.all_eq_true, numsB_N]
theorem lengthR_c (n : Nat) (cs : List AV) (hn : n ≤ 9223372036854775807) : Con Tryz.prog 119 [.sl n cs] (.int n) := by
  refine con_of_vc Tryz.mixed ⟨3, [], [], []⟩ Tryz.func119 (by decide) rfl (by simp) (by decide) (by simp [freshOK, freshL, go_sem]) ?_
  rw [Tryz.ntmps119]
  simp [go_sem]
  try omega
theorem at0 {A : List (List Int)} (h : 0 < A.length) : mat A = .sl (A[0]?.getD []).length (avs (A[0]?.getD [])) :: mat A.tail := by cases A with | nil => simp at h | cons x l => simp [mat]
set_option maxRecDepth 100000 in
theorem isMatrix_c (A : List (List Int)) (hl : A.length ≤ 9223372036854775807) (hr : ∀ r ∈ A, r.length ≤ 9223372036854775807) :
    Con Tryz.prog 100 [.sl A.length (mat A)] (.bool (matB A)) := by
  have cL := lengthR_c A.length (mat A) hl
  have cI := inRange_c (A.length : Int) 1 8
  by_cases h1 : 1 ≤ A.length ∧ A.length ≤ 8
  · have e1 : (decide ((1 : Int) ≤ A.length) && decide ((A.length : Int) ≤ 8)) = true := by simp; omega
    rw [e1] at cI
    have m0 := at0 (A := A) (by omega)
    have h0 : (A[0]?.getD []) ∈ A := by simp [show 0 < A.length by omega]
    have r0 := hr _ h0
    have fine : matB A = (decide (1 ≤ (A[0]?.getD []).length ∧ (A[0]?.getD []).length ≤ 8) && A.all (rowOk A)) := by unfold matB; rw [decide_eq_true h1]; rfl
    refine con_of_vc Tryz.mixed ⟨5, [], [], []⟩ Tryz.func100 (by decide) rfl (by simp) (by decide) (by simp [freshOK, freshL, go_sem]) ?_
    rw [Tryz.ntmps100]
    simp [go_sem]
    refine CallVC.of (cL) (by decide) ?_
    simp [go_sem]
    refine CallVC.of (cI) (by decide) ?_
    simp [go_sem]
    refine loop_inv (2 :: 4 :: List.range' 11 23) (fun i : Nat => [(11, .int i)]) (fun i => i ≤ A.length ∧ (∀ r ∈ A.take i, rowOk A r = true) ∧ (0 < i → 1 ≤ (A[0]?.getD []).length ∧ (A[0]?.getD []).length ≤ 8)) (fun i => A.length - i) 0 (by simp) (by simp [go_sem]) (by simp [go_sem]) ?_
    rintro i ⟨hi, hp, hq⟩
    simp [go_sem]
    refine ⟨fun h => ?_, fun h => ?_⟩ <;> simp at h
    · have hif := h
      have hx : A[i]?.getD [] ∈ A := by simp [h]
      have hx2 := hr _ hx
      have cl := length_c (A[i]?.getD []).length (avs (A[i]?.getD [])) hx2
      have ci := inRange_c ((A[i]?.getD []).length : Int) 1 8
      have cn := areNumbers_c (A[i]?.getD []) hx2
      have hno : rowOk A (A[i]?.getD []) = false → matB A = false := fun hh => by
        rw [fine]
        have : A.all (rowOk A) = false := by rw [List.all_eq_false]; exact ⟨_, hx, by simp [hh]⟩
        rw [this]; simp
      simp [go_sem, mat_drop hif]
      refine ⟨⟨hif, by rintro rfl; simp at hif⟩, ?_⟩
      generalize hR : A[i]?.getD [] = R at *
      by_cases c1 : R.length = (A[0]?.getD []).length
      · have c1' : (R.length : Int) = (A[0]?.getD []).length := by omega
        simp [go_sem, m0, c1']
        refine ⟨⟨by omega, by rintro rfl; simp at hif⟩, ?_⟩
        refine CallVC.of (cl) (by decide) ?_
        simp [go_sem]
        by_cases c2 : 1 ≤ R.length ∧ R.length ≤ 8
        · rw [show (decide ((1 : Int) ≤ R.length) && decide ((R.length : Int) ≤ 8)) = true by simp; omega] at ci
          refine CallVC.of (ci) (by decide) ?_
          simp [go_sem]
          cases hn : numsB R with
          | true =>
            rw [hn] at cn
            refine CallVC.of (cn) (by decide) ?_
            simp [go_sem]
            refine ⟨by omega, i + 1, ⟨by omega, take_all hif hp ?_, fun _ => by omega⟩, by omega, Off_reset _ _ _ (by simp), by omega⟩
            have : A[i] = R := by rw [← hR]; simp [hif]
            rw [this]; unfold rowOk; rw [hn, decide_eq_true c1]; rfl
          | false =>
            rw [hn] at cn
            refine CallVC.of (cn) (by decide) ?_
            simp [go_sem]
            exact hno (by unfold rowOk; rw [hn]; simp)
        · rw [show (decide ((1 : Int) ≤ R.length) && decide ((R.length : Int) ≤ 8)) = false by simp; omega] at ci
          refine CallVC.of (ci) (by decide) ?_
          simp [go_sem]
          rw [fine, decide_eq_false (by omega)]; rfl
      · have c1' : ¬ (R.length : Int) = (A[0]?.getD []).length := by omega
        simp [go_sem, m0, c1']
        exact ⟨⟨by omega, by rintro rfl; simp at hif⟩, hno (by unfold rowOk; rw [decide_eq_false c1]; rfl)⟩
    · simp [go_sem]
      rw [List.take_of_length_le h] at hp
      rw [fine, decide_eq_true (hq (by omega)), List.all_eq_true.2 hp]
      rfl
  · have e1 : (decide ((1 : Int) ≤ A.length) && decide ((A.length : Int) ≤ 8)) = false := by simp; omega
    rw [e1] at cI
    refine con_of_vc Tryz.mixed ⟨5, [], [], []⟩ Tryz.func100 (by decide) rfl (by simp) (by decide) (by simp [freshOK, freshL, go_sem]) ?_
    rw [Tryz.ntmps100]
    simp [go_sem]
    refine CallVC.of (cL) (by decide) ?_
    simp [go_sem]
    refine CallVC.of (cI) (by decide) ?_
    simp [go_sem]
    unfold matB
    rw [decide_eq_false h1]; rfl
set_option maxRecDepth 100000 in
theorem l01Matrix_c (A : List (List Int)) (hl : A.length ≤ 9223372036854775807) (hr : ∀ r ∈ A, r.length ≤ 9223372036854775807) :
    Con Tryz.prog 132 [.sl A.length (mat A)] (.int (if matB A = true then 0 else 1)) := by
  by_cases h1 : 1 ≤ A.length ∧ A.length ≤ 8
  · have m0 := at0 (A := A) (by omega)
    have h0 : (A[0]?.getD []) ∈ A := by simp [show 0 < A.length by omega]
    have r0 := hr _ h0
    have n1 : ¬ (A.length : Int) < 1 := by omega
    have n2 : ¬ (8 : Int) < A.length := by omega
    have n0 : ¬ A = [] := by rintro rfl; simp at h1
    by_cases h2 : 1 ≤ (A[0]?.getD []).length ∧ (A[0]?.getD []).length ≤ 8
    · have n3 : ¬ ((A[0]?.getD []).length : Int) < 1 := by omega
      have n4 : ¬ (8 : Int) < (A[0]?.getD []).length := by omega
      have fine : matB A = A.all (rowOk A) := by unfold matB; rw [decide_eq_true h1, decide_eq_true h2]; rfl
      refine con_of_vc Tryz.mixed ⟨4, [], [], []⟩ Tryz.func132 (by decide) rfl (by simp) (by decide) (by simp [freshOK, freshL, go_sem]) ?_
      rw [Tryz.ntmps132]
      simp [go_sem]
      simp [go_sem, n1, n2, m0, n3, n4]
      simp only [← m0]
      refine ⟨by omega, ?_⟩
      refine loop_inv (2 :: 3 :: List.range' 26 24) (fun i : Nat => [(3, .int i)]) (fun i => i ≤ A.length ∧ (∀ r ∈ A.take i, rowOk A r = true)) (fun i => A.length - i) 0 (by simp) (by simp [go_sem]) (by simp [go_sem]) ?_
      rintro i ⟨hi, hp⟩
      simp [go_sem]
      refine ⟨fun h => ?_, fun h => ?_⟩ <;> simp at h
      · have hif : i < A.length := by omega
        have hx : A[i]?.getD [] ∈ A := by simp [hif]
        have hx2 := hr _ hx
        have cn := l01Numbers_c (A[i]?.getD []) hx2
        have hno : rowOk A (A[i]?.getD []) = false → matB A = false := fun hh => by
          rw [fine, List.all_eq_false]; exact ⟨_, hx, by simp [hh]⟩
        simp [go_sem, mat_drop hif]
        simp [go_sem, m0]
        simp only [← m0]
        generalize hR : A[i]?.getD [] = R at *
        by_cases c1 : R.length = (A[0]?.getD []).length
        · have c1' : (R.length : Int) = (A[0]?.getD []).length := by omega
          simp [go_sem, mat_drop hif, hR, c1']
          refine ⟨by kernel_rfl, ⟨hif, n0⟩, ⟨by omega, n0⟩, ⟨hif, n0⟩, ?_⟩
          cases hn : numsB R with
          | true =>
            rw [hn] at cn
            refine CallD.of (cn) (by simp [roots, rootsL]) (by decide) ?_
            simp [go_sem]
            refine ⟨by kernel_rfl, ?_⟩
            simp [go_sem]
            refine ⟨by omega, i + 1, ⟨by omega, take_all hif hp ?_⟩, by omega, Off_reset _ _ _ (by simp), by omega⟩
            have : A[i] = R := by rw [← hR]; simp [hif]
            rw [this]; unfold rowOk; rw [hn, decide_eq_true c1]; rfl
          | false =>
            rw [hn] at cn
            refine CallD.of (cn) (by simp [roots, rootsL]) (by decide) ?_
            simp [go_sem]
            refine ⟨by kernel_rfl, ?_⟩
            simp [go_sem]
            rw [hno (by unfold rowOk; rw [hn]; simp)]
        · have c1' : ¬ (R.length : Int) = (A[0]?.getD []).length := by omega
          simp [go_sem, c1']
          refine ⟨by kernel_rfl, ⟨hif, n0⟩, ⟨by omega, n0⟩, ?_⟩
          refine ⟨by kernel_rfl, ?_⟩
          simp [go_sem]
          rw [hno (by unfold rowOk; rw [decide_eq_false c1]; rfl)]
      · simp [go_sem]
        rw [List.take_of_length_le (by omega)] at hp
        rw [fine, List.all_eq_true.2 hp]
    · have hm : matB A = false := by unfold matB; rw [decide_eq_true h1, decide_eq_false h2]; rfl
      rw [hm]
      by_cases n3 : ((A[0]?.getD []).length : Int) < 1
      · refine con_of_vc Tryz.mixed ⟨4, [], [], []⟩ Tryz.func132 (by decide) rfl (by simp) (by decide) (by simp [freshOK, freshL, go_sem]) ?_
        rw [Tryz.ntmps132]
        simp [go_sem]
        simp [go_sem, n1, n2, m0, n3]
        omega
      · have n4 : (8 : Int) < (A[0]?.getD []).length := by omega
        refine con_of_vc Tryz.mixed ⟨4, [], [], []⟩ Tryz.func132 (by decide) rfl (by simp) (by decide) (by simp [freshOK, freshL, go_sem]) ?_
        rw [Tryz.ntmps132]
        simp [go_sem]
        simp [go_sem, n1, n2, m0, n3, n4]
        omega
  · have hm : matB A = false := by unfold matB; rw [decide_eq_false h1]; rfl
    rw [hm]
    by_cases n1 : (A.length : Int) < 1
    · refine con_of_vc Tryz.mixed ⟨4, [], [], []⟩ Tryz.func132 (by decide) rfl (by simp) (by decide) (by simp [freshOK, freshL, go_sem]) ?_
      rw [Tryz.ntmps132]
      simp [go_sem]
      simp [go_sem, n1]
    · have n2 : (8 : Int) < A.length := by omega
      refine con_of_vc Tryz.mixed ⟨4, [], [], []⟩ Tryz.func132 (by decide) rfl (by simp) (by decide) (by simp [freshOK, freshL, go_sem]) ?_
      rw [Tryz.ntmps132]
      simp [go_sem]
      simp [go_sem, n1, n2]
def sqB (z : Int) (A : List (List Int)) : Bool := matB A && (decide ((A.length : Int) = z) && decide (((A[0]?.getD []).length : Int) = z))
theorem sqB_iff {z : Int} {A : List (List Int)} : sqB z A = true ↔ (1 ≤ A.length ∧ A.length ≤ 8) ∧ (A.length : Int) = z ∧ ∀ r ∈ A, (r.length : Int) = z ∧ Ns r := by
  unfold sqB
  simp only [Bool.and_eq_true, decide_eq_true_eq, matB_iff]
  constructor
  · rintro ⟨⟨h1, h2, h3⟩, h4, h5⟩
    exact ⟨h1, h4, fun r hr => ⟨by have := (h3 r hr).1; omega, (h3 r hr).2⟩⟩
  · rintro ⟨h1, h2, h3⟩
    have h0 : (A[0]?.getD []) ∈ A := by simp [show 0 < A.length by omega]
    have := (h3 _ h0).1
    exact ⟨⟨h1, by omega, fun r hr => ⟨by have := (h3 r hr).1; omega, (h3 r hr).2⟩⟩, h2, by omega⟩
set_option maxRecDepth 100000 in
theorem isFrame_c (z : Int) (n : Nat) (cs : List AV) (A : List (List Int)) (hl : A.length ≤ 9223372036854775807) (hr : ∀ r ∈ A, r.length ≤ 9223372036854775807) :
    Con Tryz.prog 82 [.agg [.int z, .sl n cs], .sl A.length (mat A)] (.bool (sqB z A)) := by
  have cM := isMatrix_c A hl hr
  have cL := lengthR_c A.length (mat A) hl
  unfold sqB
  cases hm : matB A with
  | false =>
    rw [hm] at cM
    refine con_of_vc Tryz.mixed ⟨5, [], [], []⟩ Tryz.func82 (by decide) rfl (by simp) (by decide) (by simp [freshOK, freshL, go_sem]) ?_
    rw [Tryz.ntmps82]
    simp [go_sem]
    refine ⟨by kernel_rfl, ?_⟩
    refine CallD.of (cM) (by simp [roots, rootsL]) (by decide) ?_
    simp [go_sem]
    refine ⟨by kernel_rfl, ?_⟩
    simp [go_sem]
  | true =>
    rw [hm] at cM
    have h1 := (matB_iff.1 hm).1
    have n0 : ¬ A = [] := by rintro rfl; simp at h1
    have m0 := at0 (A := A) (by omega)
    have cl := length_c (A[0]?.getD []).length (avs (A[0]?.getD [])) (by have := (matB_iff.1 hm).2.1; omega)
    by_cases h2 : (A.length : Int) = z
    · refine con_of_vc Tryz.mixed ⟨5, [], [], []⟩ Tryz.func82 (by decide) rfl (by simp) (by decide) (by simp [freshOK, freshL, go_sem]) ?_
      rw [Tryz.ntmps82]
      simp [go_sem]
      refine ⟨by kernel_rfl, ?_⟩
      refine CallD.of (cM) (by simp [roots, rootsL]) (by decide) ?_
      simp [go_sem]
      refine CallD.of (cL) (by simp [roots, rootsL]) (by decide) ?_
      simp [go_sem]
      simp [go_sem, h2, m0]
      refine ⟨by omega, ?_⟩
      refine CallD.of (cl) (by simp [roots, rootsL]) (by decide) ?_
      simp [go_sem]
      refine ⟨by kernel_rfl, ?_⟩
      simp [go_sem]
    · refine con_of_vc Tryz.mixed ⟨5, [], [], []⟩ Tryz.func82 (by decide) rfl (by simp) (by decide) (by simp [freshOK, freshL, go_sem]) ?_
      rw [Tryz.ntmps82]
      simp [go_sem]
      refine ⟨by kernel_rfl, ?_⟩
      refine CallD.of (cM) (by simp [roots, rootsL]) (by decide) ?_
      simp [go_sem]
      refine CallD.of (cL) (by simp [roots, rootsL]) (by decide) ?_
      simp [go_sem]
      simp [go_sem, h2]
      refine ⟨by kernel_rfl, ?_⟩
      simp [go_sem]
set_option maxRecDepth 100000 in
theorem l13Square_c (z : Int) (A : List (List Int)) (hl : A.length ≤ 9223372036854775807) (hr : ∀ r ∈ A, r.length ≤ 9223372036854775807) :
    Con Tryz.prog 77 [.int z, .sl A.length (mat A)] (.bool (sqB z A)) := by
  have cM := l01Matrix_c A hl hr
  unfold sqB
  cases hm : matB A with
  | false =>
    rw [hm] at cM
    refine con_of_vc Tryz.mixed ⟨5, [], [], []⟩ Tryz.func77 (by decide) rfl (by simp) (by decide) (by simp [freshOK, freshL, go_sem]) ?_
    rw [Tryz.ntmps77]
    simp [go_sem]
    refine CallVC.of (cM) (by decide) ?_
    simp [go_sem]
  | true =>
    rw [hm] at cM
    have h1 := (matB_iff.1 hm).1
    have n0 : ¬ A = [] := by rintro rfl; simp at h1
    have m0 := at0 (A := A) (by omega)
    by_cases h2 : (A.length : Int) = z
    · refine con_of_vc Tryz.mixed ⟨5, [], [], []⟩ Tryz.func77 (by decide) rfl (by simp) (by decide) (by simp [freshOK, freshL, go_sem]) ?_
      rw [Tryz.ntmps77]
      simp [go_sem]
      refine CallVC.of (cM) (by decide) ?_
      simp [go_sem]
      simp [go_sem, h2, m0]
      omega
    · refine con_of_vc Tryz.mixed ⟨5, [], [], []⟩ Tryz.func77 (by decide) rfl (by simp) (by decide) (by simp [freshOK, freshL, go_sem]) ?_
      rw [Tryz.ntmps77]
      simp [go_sem]
      refine CallVC.of (cM) (by decide) ?_
      simp [go_sem]
      simp [go_sem, h2]
end Go.Proofs.YtoeikpioonlmfaaGreat


namespace Go.Proofs.YtoeikpioonlmfaaGreat
open Go.Abs
set_option linter.unusedSectionVars false
set_option linter.unusedVariables false
set_option linter.unusedSimpArgs false
set_option maxHeartbeats 4000000
def linK (row : List Int) : Nat → List Mon
  | 0 => []
  | k + 1 => putL (linK row k) (row[k]?.getD 0) (oneE row.length k)
theorem linK_ok {n : Nat} {row : List Int} (hl : row.length = n) (hN : Ns row) : ∀ k, k ≤ n → (linK row k).length ≤ k ∧ ∀ m ∈ linK row k, WOk n 1 m
  | 0, _ => ⟨by simp [linK], fun m hm => by simp [linK] at hm⟩
  | k + 1, hk => by
    have ih := linK_ok hl hN k (by omega)
    have h1 := putL_len (linK row k) (row[k]?.getD 0) (oneE row.length k)
    refine ⟨by rw [linK]; omega, fun m hm => ?_⟩
    rw [linK] at hm
    rw [hl] at hm
    exact putGo_wok (n := n) (B := 1) ⟨hN.get k, (oneE_wok (n := n) (k := k)).len, (oneE_wok (n := n) (k := k)).pw⟩ _ _ ih.2 m hm
set_option maxRecDepth 100000 in
theorem l13Linear_c (row : List Int) (h3 : row.length ≤ 8) (hN : Ns row) : Con Tryz.prog 80 [.sl row.length (avs row)] (.own 97 (linK row row.length).length (omons (linK row row.length))) := by
  refine con_of_vc Tryz.mixed ⟨5, [], [], []⟩ Tryz.func80 (by decide) rfl (by simp) (by decide) (by simp [freshOK, freshL, go_sem]) ?_
  rw [Tryz.ntmps80]
  simp [go_sem]
  refine loop_inv ([3, 4] ++ List.range' 6 16) (fun k : Nat => [(3, .own 97 (linK row k).length (omons (linK row k))), (4, .int k)]) (fun k => k ≤ row.length) (fun k => row.length - k) 0 (by simp) (by simp [go_sem, linK, omons]) (by simp [go_sem]) ?_
  intro k hk
  by_cases hkr : k < row.length
  · have hki : (k : Int) < row.length := by omega
    have ne : ¬ row = [] := by rintro rfl; simp at hkr
    have ok := linK_ok rfl hN k hk
    have cO := l13One_c row.length k (by omega) hkr
    have cP := l13Put_c (linK row k) (row[k]?.getD 0) (oneE row.length k) (hN.get k) (fun m hm => ⟨(ok.2 m hm).num, by have := (ok.2 m hm).len; omega⟩) (by omega) (by simp; omega)
    rw [oneE_len] at cP
    have e1 : linK row (k + 1) = putL (linK row k) (row[k]?.getD 0) (oneE row.length k) := rfl
    rw [← e1] at cP
    generalize hL1 : linK row (k + 1) = L1 at *
    simp [go_sem, hki, avs_drop hkr]
    refine ⟨by kernel_rfl, ne, ?_⟩
    refine CallD.of (cO) (by simp [roots, rootsL]) (by decide) ?_
    simp [go_sem]
    refine CallD.of (cP) (by simp [roots, rootsL]) (by decide) ?_
    simp [go_sem]
    refine ⟨by kernel_rfl, ?_⟩
    simp [go_sem]
    exact ⟨by omega, k + 1, by omega, by omega, Off_reset _ _ _ (by simp), by rw [hL1]; exact ⟨rfl, rfl⟩, by omega⟩
  · have e : k = row.length := by omega
    subst e
    have hki : ¬ (row.length : Int) < row.length := by omega
    simp [go_sem, hki]
def linF (m : List (List Int)) : List (List Mon) := m.map fun r => linK r r.length
theorem linF_len (m : List (List Int)) : (linF m).length = m.length := by simp [linF]
theorem linF_get {m : List (List Int)} {i : Nat} (h : i < m.length) : (linF m)[i]?.getD [] = linK (m[i]?.getD []) (m[i]?.getD []).length := by simp [linF, h]
end Go.Proofs.YtoeikpioonlmfaaGreat


namespace Go.Proofs.YtoeikpioonlmfaaGreat
open Go.Abs
set_option linter.unusedSectionVars false
set_option linter.unusedVariables false
set_option linter.unusedSimpArgs false
set_option maxHeartbeats 1000000
def linL (a : List Int) : List Mon := (List.range a.length).map fun i => (a[i]?.getD 0, oneE a.length i)
@[simp] theorem linL_len (a : List Int) : (linL a).length = a.length := by simp [linL]
theorem linL_at {a : List Int} {i : Nat} (h : i < a.length) : (linL a)[i]?.getD (0, []) = (a[i]?.getD 0, oneE a.length i) := by simp [linL, h]
theorem oneE_get {n i j : Nat} (hj : j < n) : (oneE n i)[j]?.getD 0 = if i = j then 1 else 0 := by
  unfold oneE
  rw [List.getElem?_set]
  by_cases e : i = j
  · subst e; simp [hj]
  · simp [e, hj]
theorem linL_nd {a : List Int} (h3 : a.length ≤ 3) : (linL a).Pairwise (fun a b => keyOf a.2 ≠ keyOf b.2) := by
  unfold linL
  rw [List.pairwise_map]
  refine List.Pairwise.imp_of_mem (R := fun a b => a < b) (fun {i j} hi hj hij e => ?_) (List.pairwise_lt_range)
  have hi : i < a.length := by simpa using hi
  have e2 := keyOf_inj (a := oneE a.length i) (b := oneE a.length j) (by simp) (by simp; omega) e
  have h1 := oneE_get (i := i) hi
  rw [e2, oneE_get hi, if_neg (by omega), if_pos rfl] at h1
  omega
set_option maxRecDepth 100000 in
theorem linear_c (a : List Int) (h3 : a.length ≤ 3) : Con Tryz.prog 84 [.sl a.length (avs a)] (.mp (polF (linL a))) := by
  refine con_of_vc Tryz.mixed ⟨7, [], [], []⟩ Tryz.func84 (by decide) rfl (by simp) (by decide) (by simp [freshOK, freshL, go_sem]) ?_
  rw [Tryz.ntmps84]
  simp [go_sem]
  refine loop_inv (3 :: 4 :: 5 :: 6 :: List.range' 10 12) (fun i : Nat => [(3, .mp (polF ((linL a).take i))), (10, .int i)]) (fun i => i ≤ a.length) (fun i => a.length - i) 0 (by simp) (by simp [go_sem, polF, polG]) (by simp [go_sem]) ?_
  intro i hi
  simp [go_sem]
  refine ⟨fun h => ?_, fun h => ?_⟩ <;> simp at h
  · have hif := h
    have hv := polF_take (p := linL a) (i := i) (by simpa using h)
    rw [linL_at hif] at hv
    simp only at hv
    simp [go_sem, avs_drop hif]
    have hk : keyOf (oneE a.length i) = (if i = 0 then 1 else 0, if i = 1 then 1 else 0, if i = 2 then 1 else 0) := by
      have g : ∀ j : Nat, (oneE a.length i)[j]?.getD 0 = if i = j then 1 else 0 := fun j => by
        rcases Nat.lt_or_ge j a.length with hj | hj
        · exact oneE_get hj
        · rw [List.getElem?_eq_none (by simpa using hj), if_neg (by omega)]; rfl
      unfold keyOf
      rw [g 0, g 1, g 2]
    have hi3 : i = 0 ∨ i = 1 ∨ i = 2 := by omega
    rw [hk] at hv
    rcases hi3 with rfl | rfl | rfl
    · simp [go_sem]
      exact ⟨⟨hif, by rintro rfl; simp at hif⟩, 1, by omega, by omega, Off_reset _ _ _ (by simp), by simpa using hv.symm, by omega⟩
    · simp [go_sem]
      exact ⟨⟨hif, by rintro rfl; simp at hif⟩, 2, by omega, by omega, Off_reset _ _ _ (by simp), by simpa using hv.symm, by omega⟩
    · simp [go_sem]
      exact ⟨⟨hif, by rintro rfl; simp at hif⟩, 3, by omega, by omega, Off_reset _ _ _ (by simp), by simpa using hv.symm, by omega⟩
  · have e : i = a.length := by omega
    subst e
    simp [go_sem]
    rw [List.take_of_length_le (by simp)]
section
variable {q : List (List Int)} {f : List (List Mon)} {n : Nat}
theorem addK_comm (a b : Key) : addK a b = addK b a := by unfold addK; rw [Int.add_comm a.1, Int.add_comm a.2.1, Int.add_comm a.2.2]
end
end Go.Proofs.YtoeikpioonlmfaaGreat


namespace Go.Proofs.YtoeikpioonlmfaaGreat
open Go.Abs
set_option linter.unusedSectionVars false
set_option linter.unusedVariables false
set_option linter.unusedSimpArgs false
set_option maxHeartbeats 1000000
noncomputable def mulM (c d : Key → Option Int) : Key → Option Int := mapT (prT (enE c) (enE d))
noncomputable def stN (q c : Key → Option Int) : Nat → Key → Option Int
  | 0 => c
  | n + 1 => mulM (stN q c n) q
noncomputable def chN (Q : List (Key → Option Int)) (e : Key × Int) : Nat → Key → Option Int
  | 0 => mset mzero (0, 0, 0) e.2
  | i + 1 => stN (Q[i]?.getD mzero) (chN Q e i) (at3 i e.1).toNat
noncomputable def sbF (Q : List (Key → Option Int)) (es : List (Key × Int)) : Key → Option Int := es.foldl (fun o e => addM o (chN Q e Q.length) 1) mzero
structure Mok (B : Int) (c : Key → Option Int) : Prop where
  en : ∃ es, Enum c es
  pw : ∀ k x, c k = some x → isN x ∧ 0 ≤ k.1 ∧ k.1 ≤ B ∧ 0 ≤ k.2.1 ∧ k.2.1 ≤ B ∧ 0 ≤ k.2.2 ∧ k.2.2 ≤ B
theorem Mok.le {B C : Int} {c : Key → Option Int} (h : Mok B c) (hBC : B ≤ C) : Mok C c := ⟨h.en, fun k x hk => by
  obtain ⟨a, b, b2, d, d2, e, e2⟩ := h.pw k x hk
  exact ⟨a, b, by omega, d, by omega, e, by omega⟩⟩
theorem Mok.eok {B : Int} {c : Key → Option Int} (h : Mok B c) (hB : B ≤ 1000) : ∀ k x, c k = some x → EOk (k, x) := fun k x hk => by
  obtain ⟨a, b, b2, d, d2, e, e2⟩ := h.pw k x hk
  exact ⟨a, b, by show k.1 ≤ 1000; omega, d, by show k.2.1 ≤ 1000; omega, e, by show k.2.2 ≤ 1000; omega⟩
theorem Mok.mapN {B : Int} {c : Key → Option Int} (h : Mok B c) : MapN c := fun k x hk => (h.pw k x hk).1
theorem mapT_en (T : List (Key × Int)) : ∃ es, Enum (mapT T) es := enum_exists (T.map (·.1)) _ fun k x h => by
  unfold mapT at h
  split at h
  · rename_i h2
    obtain ⟨e, he, hk⟩ := hasK_iff.1 h2
    exact List.mem_map.2 ⟨e, he, hk⟩
  · simp at h
theorem Mok.mul {B C : Int} {c d : Key → Option Int} (h : Mok B c) (h2 : Mok C d) : Mok (B + C) (mulM c d) := ⟨mapT_en _, fun k x hk => by
  unfold mulM mapT at hk
  split at hk
  · rename_i h3
    obtain ⟨e, he, e1⟩ := hasK_iff.1 h3
    obtain ⟨a, ha, he⟩ := List.mem_flatMap.1 he
    obtain ⟨b, hb, rfl⟩ := List.mem_map.1 he
    have va := h.pw _ _ ((enE_is h.en).val a ha)
    have vb := h2.pw _ _ ((enE_is h2.en).val b hb)
    subst e1
    simp only [Option.some.injEq] at hk
    rw [← hk]
    refine ⟨isN_mod _, ?_⟩
    simp only [addK]
    omega
  · simp at hk⟩
theorem Mok.one {x : Int} (hx : isN x) : Mok 0 (mset mzero (0, 0, 0) x) := by
  have key : ∀ k y, mset mzero (0, 0, 0) x k = some y → k = (0, 0, 0) ∧ y = x := fun k y h => by
    unfold mset at h
    split at h
    · rename_i e; exact ⟨e, by simpa using h.symm⟩
    · simp [mzero] at h
  refine ⟨enum_exists [(0, 0, 0)] _ fun k y h => by simp [(key k y h).1], fun k y h => ?_⟩
  obtain ⟨rfl, rfl⟩ := key k y h
  exact ⟨hx, by simp, by simp, by simp, by simp, by simp, by simp⟩
theorem Mok.zero (B : Int) : Mok B mzero := ⟨⟨[], .nil, by simp, fun _ _ => rfl⟩, fun k x h => by simp [mzero] at h⟩
theorem Mok.add {B x : Int} {o q : Key → Option Int} (h : Mok B o) (h2 : Mok B q) : Mok B (addM o q x) := by
  have key : ∀ k y, addM o q x k = some y → isN y ∧ ((∃ a, q k = some a) ∨ ∃ a, o k = some a) := fun k y hk => by
    unfold addM at hk
    cases hq : q k with
    | none => rw [hq] at hk; exact ⟨(h.pw k y hk).1, .inr ⟨y, hk⟩⟩
    | some a => rw [hq] at hk; simp at hk; rw [← hk]; exact ⟨isN_mod _, .inl ⟨a, rfl⟩⟩
  obtain ⟨e1, h3⟩ := h.en
  obtain ⟨e2, h4⟩ := h2.en
  refine ⟨enum_exists (e1.map (·.1) ++ e2.map (·.1)) _ fun k y hk => ?_, fun k y hk => ?_⟩
  · rcases (key k y hk).2 with ⟨a, ha⟩ | ⟨a, ha⟩
    · exact List.mem_append_right _ (List.mem_map.2 ⟨(k, a), (enum_mem h4).2 ha, rfl⟩)
    · exact List.mem_append_left _ (List.mem_map.2 ⟨(k, a), (enum_mem h3).2 ha, rfl⟩)
  · refine ⟨(key k y hk).1, ?_⟩
    rcases (key k y hk).2 with ⟨a, ha⟩ | ⟨a, ha⟩
    · exact (h2.pw k a ha).2
    · exact (h.pw k a ha).2
theorem stN_ok {B : Int} {q c : Key → Option Int} (hc : Mok B c) (hq : Mok 1 q) : ∀ n : Nat, Mok (B + (n : Int)) (stN q c n)
  | 0 => hc.le (by omega)
  | n + 1 => ((stN_ok hc hq n).mul hq).le (by omega)
theorem addM_swap (o p q : Key → Option Int) : addM (addM o p 1) q 1 = addM (addM o q 1) p 1 := by
  funext k
  unfold addM
  cases q k <;> cases p k <;> simp
  omega
theorem sbF_perm (Q : List (Key → Option Int)) {a b : List (Key × Int)} (h : a.Perm b) : sbF Q a = sbF Q b :=
  h.foldl_eq' (fun x _ y _ z => addM_swap z _ _) _
structure Rlt (n : Nat) (B : Int) (c : Key → Option Int) (L : List Mon) : Prop where
  ok : Mok B c
  wok : ∀ m ∈ L, WOk n B m
  cf : ∀ K, gv c K % 10007 = cfL L K % 10007
theorem Rlt.le {n : Nat} {B C : Int} {c : Key → Option Int} {L : List Mon} (h : Rlt n B c L) (hBC : B ≤ C) : Rlt n C c L := ⟨h.ok.le hBC, fun m hm => (h.wok m hm).le hBC, h.cf⟩
theorem Rlt.mul {n : Nat} (hn : n ≤ 3) {B C : Int} {c d : Key → Option Int} {L l : List Mon} (h : Rlt n B c L) (h2 : Rlt n C d l) : Rlt n (B + C) (mulM c d) (prodL L l) := by
  refine ⟨h.ok.mul h2.ok, prodL_wok h.wok h2.wok, fun K => ?_⟩
  have hE := enE_is h.ok.en
  have hD := enE_is h2.ok.en
  have e0 : gv (mulM c d) K % 10007 = cfT (prT (enE c) (enE d)) K % 10007 := by
    show (mapT (prT (enE c) (enE d)) K).getD 0 % 10007 = _
    rw [mapT_get, Int.emod_emod_of_dvd _ (Int.dvd_refl _)]
  rw [e0, prodL_cf, cfT_prT]
  have s1 : sumI (fun e : Key × Int => sumI (fun b : Key × Int => if K = addK e.1 b.1 then e.2 * b.2 else 0) (enE d)) (enE c) % 10007 = sumI (fun e : Key × Int => sumI (fun b : Mon => if K = addK e.1 (keyOf b.2) then e.2 * b.1 else 0) l) (enE c) % 10007 := by
    refine sumI_mod fun e he => ?_
    have a1 := coef_sub K e.1 e.2 Prod.fst Prod.snd (enE d)
    have a2 := coef_sub K e.1 e.2 (fun m : Mon => keyOf m.2) (fun m => m.1) l
    rw [a1, a2, coef_enum hD]
    exact mod_mul _ (h2.cf _)
  rw [s1, sumI_swap]
  have s2 : sumI (fun b : Mon => sumI (fun e : Key × Int => if K = addK e.1 (keyOf b.2) then e.2 * b.1 else 0) (enE c)) l % 10007 = sumI (fun b : Mon => sumI (fun a : Mon => if K = addK (keyOf b.2) (keyOf a.2) then b.1 * a.1 else 0) L) l % 10007 := by
    refine sumI_mod fun b hb => ?_
    have e1 : sumI (fun e : Key × Int => if K = addK e.1 (keyOf b.2) then e.2 * b.1 else 0) (enE c) = sumI (fun e : Key × Int => if K = addK (keyOf b.2) e.1 then b.1 * e.2 else 0) (enE c) := sumI_congr fun e _ => by rw [addK_comm, Int.mul_comm]
    have a1 := coef_sub K (keyOf b.2) b.1 Prod.fst Prod.snd (enE c)
    have a2 := coef_sub K (keyOf b.2) b.1 (fun m : Mon => keyOf m.2) (fun m => m.1) L
    rw [e1, a1, a2, coef_enum hE]
    exact mod_mul _ (h.cf _)
  rw [s2, sumI_swap]
  unfold pcf
  refine congrArg (· % 10007) (sumI_congr fun a ha => sumI_congr fun b hb => ?_)
  rw [keyOf_add (by rw [(h.wok a ha).len, (h2.wok b hb).len]) (by rw [(h.wok a ha).len]; exact hn), addK_comm, Int.mul_comm]
theorem Rlt.add {n : Nat} {B x : Int} {o q : Key → Option Int} {L l : List Mon} (h : Rlt n B o L) (h2 : Rlt n B q l) : Rlt n B (addM o q x) (plusL L x l) :=
  ⟨h.ok.add h2.ok, plusL_wok _ _ h2.wok h.wok, fun K => by
    have a1 := h.cf K
    have a2 := mod_mul x (h2.cf K)
    rw [addM_gv, plusL_cf]
    generalize x * gv q K = t1 at *
    generalize x * cfL l K = t2 at *
    omega⟩
theorem keyOf_rep (n : Nat) : keyOf (List.replicate n 0) = (0, 0, 0) := by
  unfold keyOf
  have : ∀ i : Nat, (List.replicate n (0 : Int))[i]?.getD 0 = 0 := fun i => by
    rw [List.getElem?_replicate]; split <;> rfl
  rw [this, this, this]
theorem Rlt.one {n : Nat} {x : Int} (hx : isN x) : Rlt n 0 (mset mzero (0, 0, 0) x) [(x, List.replicate n 0)] := by
  refine ⟨Mok.one hx, fun m hm => ?_, fun K => ?_⟩
  · simp at hm
    subst hm
    refine ⟨hx, by simp, fun y hy => ?_⟩
    have := (List.mem_replicate.1 hy).2
    omega
  · rw [cfL_cons, keyOf_rep]
    unfold gv mset
    by_cases e : K = (0, 0, 0)
    · rw [if_pos e, if_pos e]; simp [cfL, coef, sumI]
    · rw [if_neg e, if_neg e]; simp [cfL, coef, sumI, mzero]
theorem linL_mem {a : List Int} {m : Mon} (h : m ∈ linL a) : ∃ i, i < a.length ∧ m = (a[i]?.getD 0, oneE a.length i) := by
  unfold linL at h
  obtain ⟨i, hi, rfl⟩ := List.mem_map.1 h
  exact ⟨i, by simpa using hi, rfl⟩
theorem Rlt.line {n : Nat} (hn : n ≤ 3) {a : List Int} (hl : a.length = n) (hN : Ns a) : Rlt n 1 (polF (linL a)) (linK a n) := by
  have nd := linL_nd (a := a) (by omega)
  refine ⟨⟨⟨_, polF_enum nd⟩, fun k x hk => ?_⟩, (linK_ok hl hN n (Nat.le_refl _)).2, fun K => ?_⟩
  · obtain ⟨m, hm, e⟩ := List.mem_map.1 ((polF_some nd).1 hk)
    obtain ⟨i, hi, rfl⟩ := linL_mem hm
    have e1 : keyOf (oneE a.length i) = k := congrArg Prod.fst e
    have e2 : a[i]?.getD 0 = x := congrArg Prod.snd e
    have w := oneE_wok (n := a.length) (k := i)
    have g := fun j => w.get (by omega) j
    subst e1 e2
    exact ⟨hN.get i, (g 0).1, (g 0).2, (g 1).1, (g 1).2, (g 2).1, (g 2).2⟩
  · rw [polF_gv nd]
    have gen : ∀ k, k ≤ a.length → cfL (linK a k) K % 10007 = sumI (fun i => if K = keyOf (oneE a.length i) then a[i]?.getD 0 else 0) (List.range k) % 10007 := by
      intro k
      induction k with
      | zero => intro _; rfl
      | succ k ih =>
        intro hk
        have := ih (by omega)
        rw [linK, putL_cf, List.range_succ, sumI_app]
        simp only [sumI, Int.add_zero]
        omega
    rw [← hl, gen _ (Nat.le_refl _)]
    unfold linL cfL coef
    rw [sumI_map]
def stL (l c : List Mon) : Nat → List Mon
  | 0 => c
  | n + 1 => prodL (stL l c n) l
def chQ' (n : Nat) (A : List (List Mon)) (m : Mon) : Nat → List Mon
  | 0 => [(m.1, List.replicate n 0)]
  | i + 1 => stL (A[i]?.getD []) (chQ' n A m i) (m.2[i]?.getD 0).toNat
def mvL (n : Nat) (A : List (List Mon)) (p : List Mon) : List Mon := p.foldl (fun s m => plusL s 1 (chQ' n A m A.length)) []
theorem Rlt.pow {n : Nat} (hn : n ≤ 3) {B : Int} {c q : Key → Option Int} {L l : List Mon} (h : Rlt n B c L) (h2 : Rlt n 1 q l) : ∀ k : Nat, Rlt n (B + (k : Int)) (stN q c k) (stL l L k)
  | 0 => h.le (by omega)
  | k + 1 => ((Rlt.pow hn h h2 k).mul hn h2).le (by omega)
theorem Rlt.chain {n : Nat} (hn : n ≤ 3) {Q : List (Key → Option Int)} {A : List (List Mon)} (hQ : Q.length = n) (hA : A.length = n) (hR : ∀ i, i < n → Rlt n 1 (Q[i]?.getD mzero) (A[i]?.getD [])) {m : Mon} (hm : VOk n m) :
    ∀ i : Nat, i ≤ n → Rlt n (3 * (i : Int)) (chN Q (keyM m) i) (chQ' n A m i)
  | 0, _ => Rlt.one hm.num
  | i + 1, hi => by
    have ih := Rlt.chain hn hQ hA hR hm i (by omega)
    have e : at3 i (keyM m).1 = m.2[i]?.getD 0 := at3_keyOf (by omega)
    have b := (hm.wok).get (by omega) i
    rw [chN, chQ', e]
    exact (Rlt.pow hn ih (hR i (by omega)) _).le (by omega)
theorem Rlt.sub {n : Nat} (hn : n ≤ 3) {Q : List (Key → Option Int)} {A : List (List Mon)} (hQ : Q.length = n) (hA : A.length = n) (hR : ∀ i, i < n → Rlt n 1 (Q[i]?.getD mzero) (A[i]?.getD [])) {p : List Mon} (hp : ∀ m ∈ p, VOk n m) :
    Rlt n 9 (sbF Q (p.map keyM)) (mvL n A p) := by
  have gen : ∀ (p : List Mon) (o : Key → Option Int) (L : List Mon), (∀ m ∈ p, VOk n m) → Rlt n 9 o L → Rlt n 9 ((p.map keyM).foldl (fun o e => addM o (chN Q e Q.length) 1) o) (p.foldl (fun s m => plusL s 1 (chQ' n A m A.length)) L) := by
    intro p
    induction p with
    | nil => intro o L _ h; exact h
    | cons m p ih =>
      intro o L hp h
      refine ih _ _ (fun a ha => hp a (by simp [ha])) (h.add ?_)
      rw [hQ, hA]
      exact (Rlt.chain hn hQ hA hR (hp m (by simp)) n (Nat.le_refl _)).le (by omega)
  exact gen p mzero [] hp ⟨Mok.zero 9, by simp, fun K => rfl⟩
noncomputable def rwM (Q : List (Key → Option Int)) (f : List (List Mon)) (row : List Int) : Nat → Key → Option Int
  | 0 => mzero
  | k + 1 => addM (rwM Q f row k) (sbF Q ((f[k]?.getD []).map keyM)) (row[k]?.getD 0)
def rwQ (n : Nat) (A f : List (List Mon)) (row : List Int) : Nat → List Mon
  | 0 => []
  | k + 1 => plusL (rwQ n A f row k) (row[k]?.getD 0) (mvL n A (f[k]?.getD []))
theorem Rlt.rows {n : Nat} (hn : n ≤ 3) {Q : List (Key → Option Int)} {A f : List (List Mon)} (hQ : Q.length = n) (hA : A.length = n) (hR : ∀ i, i < n → Rlt n 1 (Q[i]?.getD mzero) (A[i]?.getD [])) (hf : ∀ p ∈ f, ∀ m ∈ p, VOk n m) (row : List Int) :
    ∀ k, k ≤ f.length → Rlt n 9 (rwM Q f row k) (rwQ n A f row k)
  | 0, _ => ⟨Mok.zero 9, by simp [rwQ], fun K => rfl⟩
  | k + 1, hk => (Rlt.rows hn hQ hA hR hf row k (by omega)).add (Rlt.sub hn hQ hA hR (hf _ (memD [] (by omega))))
theorem stL_len {l c : List Mon} (hl : l.length ≤ 3) : ∀ k, (stL l c k).length ≤ c.length * 3 ^ k
  | 0 => by simp [stL]
  | k + 1 => by
    have h1 := prodL_len (stL l c k) l
    have h2 := stL_len hl (c := c) k
    have h3 : (stL l c k).length * l.length ≤ (c.length * 3 ^ k) * 3 := Nat.mul_le_mul h2 hl
    rw [stL, Nat.pow_succ, ← Nat.mul_assoc]
    omega
theorem chQ_len {n : Nat} {A : List (List Mon)} {m : Mon} (hA : ∀ i : Nat, (A[i]?.getD []).length ≤ 3) : ∀ i, (chQ' n A m i).length ≤ 3 ^ ((m.2.take i).map Int.toNat).sum
  | 0 => by simp [chQ']
  | i + 1 => by
    have h1 := stL_len (hA i) (c := chQ' n A m i) (m.2[i]?.getD 0).toNat
    have h2 := chQ_len hA i (m := m) (n := n)
    have h3 := Nat.mul_le_mul_right (3 ^ (m.2[i]?.getD 0).toNat) h2
    have h4 : ((m.2.take (i + 1)).map Int.toNat).sum = ((m.2.take i).map Int.toNat).sum + (m.2[i]?.getD 0).toNat := by
      rw [List.take_add_one, List.map_append, List.sum_append]
      cases m.2[i]? <;> simp
    rw [chQ', h4, Nat.pow_add]
    omega
theorem sum_toNat : ∀ (l : List Int), (∀ x ∈ l, 0 ≤ x) → ((l.map Int.toNat).sum : Int) = l.sum
  | [], _ => rfl
  | a :: l, h => by
    have := sum_toNat l (fun x hx => h x (by simp [hx]))
    have := h a (by simp)
    simp only [List.map_cons, List.sum_cons]
    omega
theorem chQ_27 {z : Int} {n : Nat} {A : List (List Mon)} {m : Mon} (hA : ∀ i : Nat, (A[i]?.getD []).length ≤ 3) (hm : MonOk z m) (hd : degL m.2 0 ≤ 3) : (chQ' n A m m.2.length).length ≤ 27 := by
  obtain ⟨h1, h2⟩ := degL_le (by omega) hd
  have h3 := chQ_len (n := n) hA m.2.length (m := m)
  have h4 := sum_toNat m.2 (fun x hx => (h1 x hx).1)
  rw [List.take_length] at h3
  have h5 : (m.2.map Int.toNat).sum ≤ 3 := by omega
  have h6 := Nat.pow_le_pow_right (show 0 < 3 by omega) h5
  omega
theorem mvL_len {z : Int} {n : Nat} {A : List (List Mon)} (hA : ∀ i : Nat, (A[i]?.getD []).length ≤ 3) (hAl : A.length = n) {p : List Mon} (hp : ∀ m ∈ p, MonOk z m ∧ degL m.2 0 ≤ 3 ∧ m.2.length = n) : (mvL n A p).length ≤ 27 * p.length := by
  have gen : ∀ (p : List Mon) (L : List Mon), (∀ m ∈ p, MonOk z m ∧ degL m.2 0 ≤ 3 ∧ m.2.length = n) → (p.foldl (fun s m => plusL s 1 (chQ' n A m A.length)) L).length ≤ L.length + 27 * p.length := by
    intro p
    induction p with
    | nil => intro L _; simp
    | cons m p ih =>
      intro L hp
      have h1 := ih (plusL L 1 (chQ' n A m A.length)) (fun a ha => hp a (by simp [ha]))
      have h2 := plusL_len 1 (chQ' n A m A.length) L
      obtain ⟨h3, h4, h5⟩ := hp m (by simp)
      have h6 := chQ_27 (n := n) hA h3 h4
      rw [h5, ← hAl] at h6
      rw [hAl] at h6
      rw [List.foldl_cons, List.length_cons]
      rw [hAl] at h1 h2 ⊢
      omega
  have := gen p [] hp
  simpa [mvL] using this
theorem rwQ_srt {n : Nat} (hn : n ≤ 3) {Q : List (Key → Option Int)} {A f : List (List Mon)} (hQ : Q.length = n) (hA : A.length = n) (hR : ∀ i, i < n → Rlt n 1 (Q[i]?.getD mzero) (A[i]?.getD [])) (hf : ∀ p ∈ f, ∀ m ∈ p, VOk n m) (row : List Int) :
    ∀ k, k ≤ f.length → Srt (rwQ n A f row k) ∧ Nzl (rwQ n A f row k)
  | 0, _ => ⟨List.Pairwise.nil, by simp [Nzl, rwQ]⟩
  | k + 1, hk => plusL_srt _ _ (Rlt.sub hn hQ hA hR (hf _ (memD [] (by omega)))).wok (Rlt.rows hn hQ hA hR hf row k (by omega)).wok (rwQ_srt hn hQ hA hR hf row k (by omega))
end Go.Proofs.YtoeikpioonlmfaaGreat


namespace Go.Proofs.YtoeikpioonlmfaaGreat
open Go.Abs CR
set_option linter.unusedSectionVars false
set_option linter.unusedVariables false
set_option linter.unusedSimpArgs false
set_option maxHeartbeats 1000000
section
variable {α : Type} [CR α]
def tq (k : Nat) (a : α) : Ser α := fun n => if n = k then a else ofI 0
theorem cmul_z (b : Ser α) : ∀ n, cmul n (fun _ => ofI 0) b = ofI 0
  | 0 => zmul _
  | n + 1 => by
    have : sh (fun _ => (ofI 0 : α)) = fun _ => ofI 0 := rfl
    rw [cmul, this, cmul_z b n, zmul, add0]
theorem tq_mul (a b : α) (k : Nat) : ∀ i, (tq i a * tq k b : Ser α) = tq (i + k) (a * b) := by
  intro i
  funext n
  show cmul n (tq i a) (tq k b) = tq (i + k) (a * b) n
  induction n generalizing i with
  | zero =>
    show tq i a 0 * tq k b 0 = _
    unfold tq
    by_cases h1 : 0 = i
    · rw [if_pos h1]
      by_cases h2 : 0 = k
      · rw [if_pos h2, if_pos (by omega)]
      · rw [if_neg h2, if_neg (by omega), mul0]
    · rw [if_neg h1, zmul, if_neg (by omega)]
  | succ n ih =>
    rw [cmul]
    cases i with
    | zero =>
      have e1 : sh (tq 0 a) = fun _ => ofI 0 := by
        funext m
        show (if m + 1 = 0 then a else ofI 0) = ofI 0
        rw [if_neg (by omega)]
      rw [e1, cmul_z, add0]
      unfold tq
      rw [if_pos rfl]
      by_cases h : n + 1 = k
      · rw [if_pos h, if_pos (by omega)]
      · rw [if_neg h, if_neg (by omega), mul0]
    | succ i =>
      have e1 : sh (tq (i + 1) a) = tq i a := by
        funext m
        show (if m + 1 = i + 1 then a else ofI 0) = if m = i then a else ofI 0
        by_cases h : m = i
        · rw [if_pos h, if_pos (by omega)]
        · rw [if_neg h, if_neg (by omega)]
      have e2 : tq (i + 1) a 0 = ofI 0 := if_neg (by omega)
      rw [e1, e2, zmul, zadd, ih]
      unfold tq
      by_cases h : n = i + k
      · rw [if_pos h, if_pos (by omega)]
      · rw [if_neg h, if_neg (by omega)]
theorem tq_of (x : Int) : (ofI x : Ser α) = tq 0 (ofI x) := rfl
theorem tq_pwr (k : Nat) : (pwr (tq 1 (ofI 1)) k : Ser α) = tq k (ofI 1) := by
  induction k with
  | zero => rfl
  | succ k ih => rw [pwr, ih, tq_mul, mul1]
theorem tq_pwr0 (a : α) (k : Nat) : (pwr (tq 0 a) k : Ser α) = tq 0 (pwr a k) := by
  induction k with
  | zero => rfl
  | succ k ih => rw [pwr, ih, tq_mul]; rfl
theorem mon_pad (U : Nat → α) {e : Nat → Nat} {n : Nat} (h : ∀ j, n ≤ j → e j = 0) : ∀ k, mon U e (n + k) = mon U e n
  | 0 => rfl
  | k + 1 => by
    show mon U e (n + k) * pwr (U (n + k)) (e (n + k)) = _
    rw [h _ (by omega), mon_pad U h k, pwr, mul1]
end
abbrev S3 := Ser (Ser (Ser Int))
def gen3 (j : Nat) : S3 := if j = 0 then tq 1 (ofI 1) else if j = 1 then tq 0 (tq 1 (ofI 1)) else tq 0 (tq 0 (tq 1 (ofI 1)))
theorem mon_gen (e : Nat → Nat) : mon gen3 e 3 = tq (e 0) (tq (e 1) (tq (e 2) 1)) := by
  have g0 : gen3 0 = tq 1 (ofI 1) := rfl
  have g1 : gen3 1 = tq 0 (tq 1 (ofI 1)) := rfl
  have g2 : gen3 2 = tq 0 (tq 0 (tq 1 (ofI 1))) := rfl
  rw [mon, mon, mon, mon, g0, g1, g2, tq_pwr, tq_pwr0, tq_pwr, tq_pwr0, tq_pwr0, tq_pwr, omul, tq_mul, omul, tq_mul, tq_mul]
  rw [tq_of (α := Int) 1, tq_mul]
  simp only [Nat.add_zero, Nat.zero_add]
  rfl
theorem evM_gen {n : Nat} (hn : n ≤ 3) (a b c : Nat) : ∀ L : List Mon, LOk n L → (evM n gen3 L) a b c = cfL L ((a : Int), (b : Int), (c : Int))
  | [], _ => by
    rw [evM_nil]
    show (if a = 0 then (ofI 0 : Ser (Ser Int)) else ofI 0) b c = 0
    rw [ite_self]
    show (if b = 0 then (ofI 0 : Ser Int) else ofI 0) c = 0
    rw [ite_self]
    show (if c = 0 then (0 : Int) else 0) = 0
    rw [ite_self]
  | m :: L, h => by
    have ih := evM_gen hn a b c L h.tl
    obtain ⟨h1, h2⟩ := h.hd
    have hz : ∀ j, n ≤ j → ex m.2 j = 0 := fun j hj => by unfold ex; simp [show m.2.length ≤ j by omega]
    have e1 : mon gen3 (ex m.2) n = mon gen3 (ex m.2) 3 := by
      have := mon_pad gen3 hz (3 - n)
      rw [← this, show n + (3 - n) = 3 by omega]
    rw [evM_cons, cfL_cons, e1, mon_gen]
    show ((ofI m.1 * tq (ex m.2 0) (tq (ex m.2 1) (tq (ex m.2 2) (1 : Int))) : S3)) a b c + evM n gen3 L a b c = _
    rw [ih, tq_of, tq_mul, tq_of, tq_mul, tq_of, tq_mul]
    congr 1
    have g : ∀ i : Nat, 0 ≤ m.2[i]?.getD 0 := fun i => by
      rcases Nat.lt_or_ge i m.2.length with hi | hi
      · simp [hi]; exact h2 _ (List.getElem_mem hi)
      · simp [hi]
    have t : ∀ i : Nat, ((ex m.2 i : Nat) : Int) = m.2[i]?.getD 0 := fun i => by unfold ex; have := g i; omega
    have k : keyOf m.2 = (((ex m.2 0 : Nat) : Int), ((ex m.2 1 : Nat) : Int), ((ex m.2 2 : Nat) : Int)) := by unfold keyOf; rw [t, t, t]
    rw [k]
    simp only [Nat.zero_add]
    unfold tq
    by_cases ha : a = ex m.2 0
    · rw [if_pos ha]
      by_cases hb : b = ex m.2 1
      · rw [if_pos hb]
        by_cases hc : c = ex m.2 2
        · rw [if_pos hc, if_pos (by rw [ha, hb, hc])]
          exact Int.mul_one _
        · rw [if_neg hc, if_neg (fun e => hc (by simp at e; omega))]; rfl
      · rw [if_neg hb, if_neg (fun e => hb (by simp at e; omega))]
        show (if c = 0 then (0 : Int) else 0) = 0
        rw [ite_self]
    · rw [if_neg ha, if_neg (fun e => ha (by simp at e; omega))]
      show (if b = 0 then (ofI 0 : Ser Int) else ofI 0) c = 0
      rw [ite_self]
      show (if c = 0 then (0 : Int) else 0) = 0
      rw [ite_self]
theorem cfL_neg {n : Nat} {L : List Mon} (h : LOk n L) {K : Key} (hK : ¬ NN K) : cfL L K = 0 := by
  refine sumI_zero fun m hm => if_neg fun e => hK ?_
  have h2 := (h m hm).2
  have g : ∀ i : Nat, 0 ≤ m.2[i]?.getD 0 := fun i => by
    rcases Nat.lt_or_ge i m.2.length with hi | hi
    · simp [hi]; exact h2 _ (List.getElem_mem hi)
    · simp [hi]
  rw [e]
  exact ⟨g 0, g 1, g 2⟩
theorem Alk.cf {n : Nat} (hn : n ≤ 3) {p q : List Mon} (hp : LOk n p) (hq : LOk n q) (h : Alk (polM n p) (polM n q)) (K : Key) : cfL p K % 10007 = cfL q K % 10007 := by
  by_cases hK : NN K
  · obtain ⟨x, y, z⟩ := K
    obtain ⟨h1, h2, h3⟩ := hK
    simp only at h1 h2 h3
    have e := h S3 (cgS (cgS (cgS cgI (z.toNat + 1)) (y.toNat + 1)) (x.toNat + 1)) gen3 x.toNat (by omega) y.toNat (by omega) z.toNat (by omega)
    have e : (evM n gen3 p) x.toNat y.toNat z.toNat % 10007 = (evM n gen3 q) x.toNat y.toNat z.toNat % 10007 := e
    rw [evM_gen hn _ _ _ p hp, evM_gen hn _ _ _ q hq, Int.toNat_of_nonneg h1, Int.toNat_of_nonneg h2, Int.toNat_of_nonneg h3] at e
    exact e
  · rw [cfL_neg hp hK, cfL_neg hq hK]
end Go.Proofs.YtoeikpioonlmfaaGreat


namespace Go.Proofs.YtoeikpioonlmfaaGreat
open Go.Abs CR
set_option linter.unusedSectionVars false
set_option linter.unusedVariables false
set_option linter.unusedSimpArgs false
set_option maxHeartbeats 1000000
section
variable {α : Type} [CR α]
end
def trF (n : Nat) (m : List (List Int)) (f : List (List Mon)) (B : List (List Int)) : List (List Mon) := (List.range n).map fun i => rwQ n (linF m) f (B[i]?.getD []) n
@[simp] theorem trF_len (n : Nat) (m : List (List Int)) (f : List (List Mon)) (B : List (List Int)) : (trF n m f B).length = n := by simp [trF]
theorem trF_at {n : Nat} {m : List (List Int)} {f : List (List Mon)} {B : List (List Int)} {i : Nat} (h : i < n) : (trF n m f B)[i]?.getD [] = rwQ n (linF m) f (B[i]?.getD []) n := by simp [trF, h]
def InvR (n : Nat) (m B : List (List Int)) : Prop := ∀ v : Nat → Int, ∀ r, r < n → dsum (fun c => mx m r c * dsum (fun k => mx B c k * v k) n) n % 10007 = v r % 10007
end Go.Proofs.YtoeikpioonlmfaaGreat


namespace Go.Proofs.YtoeikpioonlmfaaGreat
open Go.RowKit Go.Shelf Go.Lib Go.Abs
set_option linter.unusedSectionVars false
set_option linter.unusedVariables false
set_option linter.unusedSimpArgs false
set_option maxRecDepth 100000 in
set_option maxHeartbeats 4000000 in
theorem Grow_calls (n : Nat) (h0 : 0 < n) (hn : n ≤ 1048576) (i : TypeInfo) (z : Value) (hi : Tryz.prog.info? 2 = some i) (hz : i.zero = some z) (hs : 0 < i.size) (hb : i.bytes = 8) (w : World) :
    Calls Tryz.prog 203 #[.slice none 0 0, .int .i64 n] w fun e w' =>
      e = .returned (.slice (some ⟨w.heap.size, 0, none⟩) 0 (grownCap w n 0 2)) ∧
      w' = w.drew.alloc (.cells (([] : List Value).toArray ++ Builtin.zeroCells z.cells n ++ Builtin.zeroCells z.cells (grownCap w n 0 2 - n)) 2) := by
  have h1 : ¬ ((n : Int) < 0) := by omega
  have h2 : wrap64 (n : Int) = n := by unfold wrap64; omega
  have h4 : (n : Int) > 0 := by omega
  have hrz : ∀ ty, (Builtin.append_ #[35, 3] ty #[.slice none 0 0, .int .i64 (n : Int)]).run Tryz.prog w =
      .ok (.slice (some ⟨w.heap.size, 0, none⟩) n (grownCap w n 0 2)) (w.drew.alloc (.cells (([] : List Value).toArray ++ Builtin.zeroCells z.cells n ++ Builtin.zeroCells z.cells (grownCap w n 0 2 - n)) 2)) := fun ty => by
    have h := Lib.run_append_grow_zeros w 35 3 ty 2 i z .i64 .i64 Tryz.underlying35 Tryz.underlying3 hi hz none 0 0 [] (run_firstCells_none w.drew i.size 0 0 0) n h0 hs (by omega) (by omega)
      (by rw [hb]; omega) (by
        rw [hb]
        have := growslice_fits (need := 0 + n) (old := 0) (bytes := 8) (by omega) (by omega)
        exact this)
    simp only [Nat.zero_add] at h
    exact h
  have hGn : n ≤ grownCap w n 0 2 := grownCap_ge w _ _ _
  obtain ⟨G, hG⟩ : ∃ G, G = grownCap w n 0 2 := ⟨_, rfl⟩
  rw [← hG] at hrz hGn ⊢
  have hG63 : G ≤ 9223372036854775807 := by
    have := grownCap_le_maxLen w n 0 2 (by unfold maxLen; omega)
    rw [← hG] at this
    unfold maxLen at this
    omega
  clear hG
  go_enter Tryz.func203, Tryz.ntmps203
  go_wp2_with (at_builtin; refine Lib.wpList_append_run _ rfl _ _ _ _ rfl _ _ rfl rfl _ _ (hrz _) ?_)
  all_goals (go_ret; exact ⟨rfl, rfl⟩)
theorem Grow_c (n : Nat) (h0 : 0 < n) (hn : n ≤ 1048576) : Con Tryz.prog 203 [.val (.slice none 0 0), .int n] (.own 2 0 []) := by
  refine ⟨⟨_, Tryz.func203, by decide, rfl⟩, fun w vs hl ha => ?_⟩
  have k := ha (fun _ => undef) (fun _ => [])
  generalize hoz : ([] : List Nat) = oz at k
  obtain ⟨i, z, hi, hz, hs, hb, hzs, _, hce⟩ := infoT_some Tryz.info2
  cases k with
  | cons c v o cs vs os hc ht =>
    cases ht with
    | cons c2 v2 o2 cs2 vs2 os2 hc2 ht2 =>
      have e2 : vs2 = [] := by simpa using hl
      subst e2
      cases hc2 with
      | cell _ _ _ hc2 =>
        cases hc2 with
        | val _ _ =>
          cases hc with
          | cell _ _ _ hc =>
            cases hc with
            | val _ _ =>
              refine (Grow_calls n h0 hn i z hi hz (by omega) hb w).mono ?_
              rintro e w' ⟨rfl, rfl⟩
              have hge : n ≤ grownCap w n 0 2 := grownCap_ge w _ _ _
              have hrep : RepC Tryz.prog (w.drew.alloc (.cells (([] : List Value).toArray ++ Builtin.zeroCells z.cells n ++ Builtin.zeroCells z.cells (grownCap w n 0 2 - n)) 2)) (fun _ => False) (.own 2 0 []) (.slice (some ⟨w.heap.size, 0, none⟩) 0 (grownCap w n 0 2)) [w.heap.size] :=
                .own _ _ 0 _ _ _ _ (heapDrewNew w _) (by omega) (by rw [hce]; simp [size_zeroCells, hzs, ← Nat.add_mul]; omega) (.nil _)
              refine ⟨_, [w.heap.size], rfl, ⟨rfl, rfl, rfl, by simp, fun b hb => heapDrewOld w _ b hb, by first | exact Nat.le_refl _ | exact dr_succ _⟩, fun tm oss => .cell _ _ _ (hrep.mono (fun _ h => h.elim) (fun _ _ => rfl)), by simp, by simp⟩
def flL (xss : List (List Int)) (i : Nat) : List Int := (xss.take i).flatten
theorem flL_zero (xss : List (List Int)) : flL xss 0 = [] := rfl
theorem flL_succ {xss : List (List Int)} {i : Nat} (h : i < xss.length) : flL xss (i + 1) = flL xss i ++ xss[i]?.getD [] := by
  unfold flL
  rw [List.take_add_one, List.flatten_append]
  simp [h]
theorem flL_le (xss : List (List Int)) {i : Nat} (h : i ≤ xss.length) : (flL xss i).length ≤ (flL xss xss.length).length := by
  unfold flL
  rw [List.take_length]
  have : xss.flatten = (xss.take i).flatten ++ (xss.drop i).flatten := by rw [← List.flatten_append, List.take_append_drop]
  rw [this, List.length_append]; omega
set_option maxRecDepth 100000 in
set_option maxHeartbeats 4000000 in
theorem Concat_c (xss : List (List Int)) (h0 : 0 < (flL xss xss.length).length) (hn : (flL xss xss.length).length ≤ 1048576) (hl : xss.length ≤ 1048576) :
    Con Tryz.prog 151 [.sl xss.length (mat xss)] (.own 2 (flL xss xss.length).length (avs (flL xss xss.length))) := by
  have cG := Con.gfz (Grow_c (flL xss xss.length).length h0 hn) (by simp [hasOwnL, hasOwn]) rfl
  refine con_of_vc Tryz.mixed ⟨9, [], [1000000 + 203], []⟩ Tryz.func151 (by decide) rfl (by simp) (by decide) (by simp [freshOK, freshL, go_sem]) ?_
  rw [Tryz.ntmps151]
  simp [go_sem]
  refine loop_inv ([3, 5] ++ List.range' 11 12) (fun i : Nat => [(3, .int (flL xss i).length), (11, .int i)]) (fun i => i ≤ xss.length) (fun i => xss.length - i) 0 (by simp) (by simp [go_sem, flL_zero]) (by simp [go_sem]) ?_
  intro i hi
  by_cases hin : i < xss.length
  · have hii : (i : Int) < xss.length := by omega
    have ne : ¬ xss = [] := by rintro rfl; simp at hin
    have ft := congrArg List.length (flL_succ hin)
    rw [List.length_append] at ft
    have fl := flL_le xss (i := i + 1) (by omega)
    generalize (flL xss i).length = s at *
    generalize (flL xss xss.length).length = T at *
    simp [go_sem, hii, mat_drop hin]
    generalize (xss[i]?.getD []).length = x at *
    refine ⟨ne, ⟨by omega, by omega⟩, ?_⟩
    have hs : ¬ ((s : Int) + x < 0) := by omega
    simp [go_sem, hs]
    refine ⟨⟨by omega, by omega⟩, i + 1, by omega, by omega, Off_reset _ _ _ (by simp), ?_, by omega⟩
    omega
  · have e : i = xss.length := by omega
    subst e
    have hii : ¬ (xss.length : Int) < xss.length := by omega
    simp [go_sem, hii]
    refine ⟨_, _, cG, ?_⟩
    simp [go_sem]
    refine loop_inv ([6, 8] ++ List.range' 27 8) (fun i : Nat => [(6, .own 2 (flL xss i).length (avs (flL xss i))), (27, .int i)]) (fun i => i ≤ xss.length) (fun i => xss.length - i) 0 (by simp) (by simp [go_sem, avs, flL_zero]) (by simp [go_sem]) ?_
    intro i hi
    by_cases hin : i < xss.length
    · have hii : (i : Int) < xss.length := by omega
      have ne : ¬ xss = [] := by rintro rfl; simp at hin
      have ft := flL_succ hin
      have fl := flL_le xss (i := i + 1) (by omega)
      rw [ft, List.length_append] at fl
      simp [go_sem, hii, mat_drop hin]
      refine ⟨ne, ?_⟩
      exact ⟨⟨by omega, by omega⟩, ⟨by omega, by omega⟩, i + 1, by omega, by omega, Off_reset _ _ _ (by simp), by rw [ft, List.length_append, avs_app]; exact ⟨rfl, rfl⟩, by omega⟩
    · have e : i = xss.length := by omega
      subst e
      have hii : ¬ (xss.length : Int) < xss.length := by omega
      simp [go_sem, hii]
end Go.Proofs.YtoeikpioonlmfaaGreat


namespace Go.Proofs.YtoeikpioonlmfaaGreat
open Go.Abs
set_option linter.unusedSectionVars false
set_option linter.unusedVariables false
set_option linter.unusedSimpArgs false
set_option maxHeartbeats 1000000
end Go.Proofs.YtoeikpioonlmfaaGreat


namespace Go.Proofs.YtoeikpioonlmfaaGreat
set_option linter.unusedSectionVars false
set_option linter.unusedVariables false
set_option maxRecDepth 100000
def fp : Nat → Nat → Nat → Nat
  | 0, _, _ => 1
  | f + 1, a, n => Nat.rec (1 % 10007) (fun _ _ => Nat.rec (fp f (Nat.mod (Nat.mul a a) 10007) (Nat.div n 2)) (fun _ _ => Nat.mod (Nat.mul a (fp f (Nat.mod (Nat.mul a a) 10007) (Nat.div n 2))) 10007) (Nat.mod n 2)) n
def chB (g : Nat → Nat) : Nat → Nat → Bool
  | 0, lo => Nat.beq (g lo) 1
  | d + 1, lo => and (chB g d lo) (chB g d (lo + 2 ^ d))
def ivN (a : Nat) : Nat := a * fp 15 a 10005 % 10007
theorem fp_eq : ∀ (f a n : Nat), n < 2 ^ f → fp f a n = a ^ n % 10007
  | 0, a, n, h => by
    have : n = 0 := by simp at h; exact h
    subst this; rfl
  | f + 1, a, 0, _ => by show 1 % 10007 = a ^ 0 % 10007; rw [Nat.pow_zero]
  | f + 1, a, n + 1, h => by
    have hh : (n + 1) / 2 < 2 ^ f := by rw [Nat.pow_succ] at h; omega
    have ih := fp_eq f (a * a % 10007) ((n + 1) / 2) hh
    have sq : (a * a % 10007) ^ ((n + 1) / 2) % 10007 = a ^ (2 * ((n + 1) / 2)) % 10007 := by
      rw [← Nat.pow_mod, Nat.pow_mul, Nat.pow_two]
    rw [sq] at ih
    have e0 : fp (f + 1) a (n + 1) = Nat.rec (fp f (a * a % 10007) ((n + 1) / 2)) (fun _ _ => a * fp f (a * a % 10007) ((n + 1) / 2) % 10007) ((n + 1) % 2) := rfl
    rw [e0, ih]
    rcases Nat.mod_two_eq_zero_or_one (n + 1) with h2 | h2
    · rw [h2]
      show a ^ (2 * ((n + 1) / 2)) % 10007 = a ^ (n + 1) % 10007
      rw [show 2 * ((n + 1) / 2) = n + 1 by omega]
    · rw [h2]
      show a * (a ^ (2 * ((n + 1) / 2)) % 10007) % 10007 = a ^ (n + 1) % 10007
      rw [show n + 1 = 2 * ((n + 1) / 2) + 1 by omega, Nat.pow_succ, Nat.mul_mod, Nat.mod_mod, ← Nat.mul_mod, Nat.mul_comm]
      rw [show (2 * ((n + 1) / 2) + 1) / 2 = (n + 1) / 2 by omega]
theorem chB_ok (g : Nat → Nat) : ∀ (d lo : Nat), chB g d lo = true → ∀ a, lo ≤ a → a < lo + 2 ^ d → g a = 1
  | 0, lo, h, a, h1, h2 => by
    have : a = lo := by simp at h2; omega
    subst this
    rw [chB] at h
    exact Nat.eq_of_beq_eq_true h
  | d + 1, lo, h, a, h1, h2 => by
    rw [chB, Bool.and_eq_true] at h
    rw [Nat.pow_succ] at h2
    by_cases hl : a < lo + 2 ^ d
    · exact chB_ok g d lo h.1 a h1 hl
    · exact chB_ok g d (lo + 2 ^ d) h.2 a (by omega) (by omega)
set_option maxHeartbeats 4000000 in
theorem chB_1 : chB ivN 13 1 = true := by decide +kernel
theorem chB_2 : chB ivN 10 8193 = true := by decide +kernel
theorem chB_3 : chB ivN 9 9217 = true := by decide +kernel
theorem chB_4 : chB ivN 8 9495 = true := by decide +kernel
theorem chB_5 : chB ivN 8 9751 = true := by decide +kernel
theorem inv_nat {a : Nat} (h0 : a ≠ 0) (h : a < 10007) : ivN a = 1 := by
  by_cases h1 : a < 8193
  · exact chB_ok ivN 13 1 chB_1 a (by omega) (by omega)
  by_cases h2 : a < 9217
  · exact chB_ok ivN 10 8193 chB_2 a (by omega) (by omega)
  by_cases h3 : a < 9729
  · exact chB_ok ivN 9 9217 chB_3 a (by omega) (by omega)
  by_cases h4 : a < 9751
  · exact chB_ok ivN 8 9495 chB_4 a (by omega) (by omega)
  · exact chB_ok ivN 8 9751 chB_5 a (by omega) (by omega)
theorem fp_pow (n e : Nat) (he : e < 2 ^ 15) : ((fp 15 n e : Nat) : Int) = pw (n : Int) (e : Int) := by
  rw [fp_eq 15 n e he]
  unfold pw
  rw [Int.toNat_natCast, Int.natCast_emod, Int.natCast_pow]; rfl
theorem fp_pw (n : Nat) : ((fp 15 n 10005 : Nat) : Int) = pw (n : Int) 10005 := fp_pow n 10005 (by decide)
theorem inv_ok {a : Int} (h : isN a) (h0 : a ≠ 0) : a * pw a 10005 % 10007 = 1 := by
  obtain ⟨n, rfl⟩ : ∃ n : Nat, a = n := ⟨a.toNat, by have := h.1; omega⟩
  have hn : n < 10007 := by have := h.2; omega
  have hv := inv_nat (a := n) (by omega) hn
  rw [← fp_pw, ← Int.natCast_mul]
  unfold ivN at hv
  generalize n * fp 15 n 10005 = z at *
  omega
end Go.Proofs.YtoeikpioonlmfaaGreat


namespace Go.Proofs.YtoeikpioonlmfaaGreat
open Go.Abs
set_option linter.unusedSectionVars false
set_option linter.unusedVariables false
set_option linter.unusedSimpArgs false
set_option maxHeartbeats 1000000
structure GI (n w : Nat) (W0 : Mx) (m : List (List Int)) (done k : Nat) : Prop where
  len : m.length = n
  rws : Rws w m
  eqv : RowEq n w W0 (mx m)
  dle : done ≤ n
  piv : ∃ piv : Nat → Nat, (∀ j, j < done → piv j < k ∧ ∀ r, r < n → mx m r (piv j) = if r = j then 1 else 0) ∧ (∀ j, j + 1 < done → piv j < piv (j + 1)) ∧ (∀ j, j < done → ∀ c, c < piv j → mx m j c = 0)
  low : ∀ r, done ≤ r → r < n → ∀ c, c < k → mx m r c = 0
theorem GI.start {n w : Nat} {m : List (List Int)} (hl : m.length = n) (hr : Rws w m) : GI n w (mx m) m 0 0 :=
  ⟨hl, hr, RowEq.refl n w _, by omega, ⟨fun _ => 0, fun j hj => by omega, fun j hj => by omega, fun j hj => by omega⟩, fun r _ _ c hc => by omega⟩
theorem GI.skip {n w : Nat} {W0 : Mx} {m : List (List Int)} {done k : Nat} (h : GI n w W0 m done k) (hz : ∀ r, done ≤ r → r < n → mx m r k = 0) : GI n w W0 m done (k + 1) := by
  obtain ⟨h1, h2, h3, h4, ⟨p, p1, p2, p3⟩, h6⟩ := h
  refine ⟨h1, h2, h3, h4, ⟨p, fun j hj => ⟨by have := (p1 j hj).1; omega, (p1 j hj).2⟩, p2, p3⟩, fun r hr hn c hc => ?_⟩
  by_cases e : c = k
  · subst e; exact hz r hr hn
  · exact h6 r hr hn c (by omega)
theorem mx_N {w : Nat} {m : List (List Int)} (h : Rws w m) {r : Nat} (hr : r < m.length) (c : Nat) : isN (mx m r c) := (h.at hr).2.get c
theorem GI.step {n w : Nat} {W0 : Mx} {m : List (List Int)} {done k i : Nat} (h : GI n w W0 m done k) (hk : k < w) (hd : done < n) (h1 : done ≤ i) (h2 : i < n) (hne : mx m i k ≠ 0) :
    GI n w W0 (elD (scl (swp m i done) done k) done k) (done + 1) (k + 1) := by
  obtain ⟨hl, hr, he, hdl, ⟨p, p1, p2, p3⟩, hlow⟩ := h
  have il : i < m.length := by omega
  have dl : done < m.length := by omega
  have sm := swp_mx il dl
  have sr := swp_ok hr il dl
  have sl := swp_len m i done
  have se : RowEq n w W0 (mx (swp m i done)) := by
    by_cases e : i = done
    · have : swp m i done = m := by unfold swp; rw [if_pos e]
      rw [this]; exact he
    · rw [sm]; exact he.trans (RowEq.swap _ h2 hd e)
  have sd : ∀ c, mx (swp m i done) done c = mx m i c := fun c => by rw [sm, updR_at]
  have slow : ∀ r, done ≤ r → r < n → ∀ c, c < k → mx (swp m i done) r c = 0 := fun r hr1 hr2 c hc => by
    rw [sm]
    unfold updR
    by_cases a1 : r = done
    · rw [if_pos a1]; exact hlow i h1 h2 c hc
    · rw [if_neg a1]
      by_cases a2 : r = i
      · rw [if_pos a2]; exact hlow done (Nat.le_refl _) hd c hc
      · rw [if_neg a2]; exact hlow r hr1 hr2 c hc
  have sup : ∀ r, r < done → mx (swp m i done) r = mx m r := fun r hr1 => by
    rw [sm, updR_ne _ _ (by omega), updR_ne _ _ (by omega)]
  have snz : mx (swp m i done) done k ≠ 0 := by rw [sd]; exact hne
  generalize swp m i done = a at *
  have al : a.length = n := by omega
  have ad : done < a.length := by omega
  have cr := scl_ok (k := k) sr ad
  have cl := scl_len a done k
  have cat := fun r c (hc : c < w) => scl_at (k := k) sr ad (r := r) hc
  have iv := inv_ok (mx_N sr ad k) snz
  have ce : RowEq n w (mx a) (mx (scl a done k)) := by
    refine (RowEq.scale (mx a) hd (k := pw (mx a done k) 10005) (k' := mx a done k) (by rw [Int.mul_comm]; exact iv)).trans (RowEq.cong fun r c hr1 hc => ?_)
    rw [cat r c hc]
    unfold updR
    by_cases e : r = done
    · subst e
      rw [if_pos rfl, if_pos rfl, mul_mod_r, Int.emod_emod_of_dvd _ (Int.dvd_refl _), Int.mul_comm]
    · rw [if_neg e, if_neg e]
  have ck : mx (scl a done k) done k = 1 := by rw [cat _ _ hk, if_pos rfl, mul_mod_r]; exact iv
  have cz : ∀ c, c < k → mx (scl a done k) done c = 0 := fun c hc => by
    rw [cat _ _ (by omega), if_pos rfl, slow done (Nat.le_refl _) hd c hc]; simp
  have co : ∀ r c, r ≠ done → c < w → mx (scl a done k) r c = mx a r c := fun r c hr1 hc => by rw [cat _ _ hc, if_neg hr1]
  generalize scl a done k = b at *
  have bl : b.length = n := by omega
  have bd : done < b.length := by omega
  have er := elD_ok (k := k) cr bd
  have el := elD_len b done k
  have eat := fun r c (hr1 : r < n) (hc : c < w) => elD_at (d := done) (k := k) cr (r := r) (c := c) (by omega) hc
  have ee : RowEq n w (mx b) (mx (elD b done k)) := by
    refine (RowEq.clr (mx b) hd (fun r => - mx b r k)).trans (RowEq.cong fun r c hr1 hc => ?_)
    rw [eat r c hr1 hc]
    unfold clr
    by_cases e : r = done
    · subst e; rw [if_neg (by omega), if_pos rfl]
    · rw [if_pos ⟨hr1, e⟩, if_neg e, Int.emod_emod_of_dvd _ (Int.dvd_refl _), Int.add_emod, Int.add_emod (mx b r c), mul_mod_l]
  have keep : ∀ r c, r < n → c < w → mx b done c = 0 → mx (elD b done k) r c = mx b r c := fun r c hr1 hc hz => by
    rw [eat r c hr1 hc]
    by_cases e : r = done
    · rw [if_pos e, e]
    · rw [if_neg e, hz, Int.mul_zero, Int.add_zero]
      have := mx_N cr (show r < b.length by omega) c
      exact Int.emod_eq_of_lt this.1 (by have := this.2; omega)
  have fin : ∀ r, r < n → mx (elD b done k) r k = if r = done then 1 else 0 := fun r hr1 => by
    rw [eat r k hr1 hk, ck]
    by_cases e : r = done
    · rw [if_pos e, if_pos e]
    · rw [if_neg e, if_neg e, Int.mul_one]; omega
  refine ⟨by omega, er, (se.trans ce).trans ee, by omega, ⟨fun j => if j = done then k else p j, fun j hj => ?_, fun j hj => ?_, fun j hj c hc => ?_⟩, fun r hr1 hr2 c hc => ?_⟩
  · by_cases e : j = done
    · subst e
      simp only [if_true]
      exact ⟨by omega, fin⟩
    · have hjd : j < done := by omega
      have q := p1 j hjd
      simp only [if_neg e]
      refine ⟨by omega, fun r hr1 => ?_⟩
      rw [keep r (p j) hr1 (by omega) (cz _ q.1)]
      by_cases e2 : r = done
      · subst e2; rw [cz _ q.1, if_neg (by omega)]
      · rw [co r (p j) e2 (by omega)]
        by_cases e3 : r < done
        · rw [sup r e3]; exact q.2 r hr1
        · rw [slow r (by omega) hr1 (p j) q.1, if_neg (by omega)]
  · by_cases e : j + 1 = done
    · have q := p1 j (by omega)
      simp only [if_pos e, if_neg (show ¬ j = done by omega)]
      exact q.1
    · simp only [if_neg e, if_neg (show ¬ j = done by omega)]
      exact p2 j (by omega)
  · by_cases e : j = done
    · subst e
      simp only [if_true] at hc
      rw [keep j c (by omega) (by omega) (cz c hc), cz c hc]
    · have hjd : j < done := by omega
      have q := p1 j hjd
      simp only [if_neg e] at hc
      rw [keep j c (by omega) (by omega) (cz c (by omega)), co j c e (by omega), sup j hjd]
      exact p3 j hjd c hc
  · by_cases e : c = k
    · subst e; rw [fin r hr2, if_neg (by omega)]
    · rw [keep r c hr2 (by omega) (cz c (by omega)), co r c (by omega) (by omega)]
      exact slow r (by omega) hr2 c (by omega)
end Go.Proofs.YtoeikpioonlmfaaGreat


namespace Go.Proofs.YtoeikpioonlmfaaGreat
open Go.Abs
set_option linter.unusedSectionVars false
set_option linter.unusedVariables false
set_option linter.unusedSimpArgs false
set_option maxHeartbeats 1000000
def stepR (m : List (List Int)) (d : Int) (done k : Nat) : List (List Int) × Int × Nat :=
  if fndR m k (m.length - done) done = m.length then (m, 0, done)
  else (elD (scl (swp m (fndR m k (m.length - done) done) done) done k) done k, (if fndR m k (m.length - done) done = done then d else (- d) % 10007) * mx (swp m (fndR m k (m.length - done) done) done) done k % 10007, done + 1)
def redR : Nat → Nat → List (List Int) × Int × Nat → List (List Int) × Int × Nat
  | 0, _, st => st
  | f + 1, k, st => if st.2.2 < st.1.length then redR f (k + 1) (stepR st.1 st.2.1 st.2.2 k) else st
theorem stepR_GI {n w : Nat} {W0 : Mx} {m : List (List Int)} {d : Int} {done k : Nat} (h : GI n w W0 m done k) (hk : k < w) (hd : done < n) : GI n w W0 (stepR m d done k).1 (stepR m d done k).2.2 (k + 1) := by
  have hl := h.len
  have fl := fndR_le m k (m.length - done) done
  unfold stepR
  by_cases e : fndR m k (m.length - done) done = m.length
  · rw [if_pos e]
    exact h.skip fun r h1 h2 => fndR_zero m k (m.length - done) done r h1 (by omega)
  · rw [if_neg e]
    exact h.step hk hd fl.1 (by omega) (fndR_ne m k (m.length - done) done (by omega))
theorem redR_GI {n w : Nat} {W0 : Mx} : ∀ (f k : Nat) (st : List (List Int) × Int × Nat), k + f = w → GI n w W0 st.1 st.2.2 k →
    ∃ k', k' ≤ w ∧ (k' = w ∨ (redR f k st).2.2 = n) ∧ GI n w W0 (redR f k st).1 (redR f k st).2.2 k'
  | 0, k, st, hk, h => ⟨k, by omega, .inl (by omega), h⟩
  | f + 1, k, st, hk, h => by
    rw [redR]
    have hl := h.len
    have hd := h.dle
    split
    · rename_i hlt
      exact redR_GI f (k + 1) _ (by omega) (stepR_GI h (by omega) (by omega))
    · rename_i hlt
      exact ⟨k, by omega, .inr (by omega), h⟩
def ldF (r : List Int) : Nat → Nat → Nat
  | 0, i => i
  | f + 1, i => if r[i]?.getD 0 = 0 then ldF r f (i + 1) else i
theorem ldF_le (r : List Int) : ∀ f i, i ≤ ldF r f i ∧ ldF r f i ≤ i + f
  | 0, i => by simp [ldF]
  | f + 1, i => by
    rw [ldF]
    split
    · have := ldF_le r f (i + 1); omega
    · omega
theorem ldF_zero (r : List Int) : ∀ f i j, i ≤ j → j < ldF r f i → r[j]?.getD 0 = 0
  | 0, i, j, h1, h2 => by rw [ldF] at h2; omega
  | f + 1, i, j, h1, h2 => by
    rw [ldF] at h2
    split at h2
    · rename_i h
      by_cases e : j = i
      · subst e; exact h
      · exact ldF_zero r f (i + 1) j (by omega) h2
    · omega
theorem ldF_ne (r : List Int) : ∀ f i, ldF r f i < i + f → r[ldF r f i]?.getD 0 ≠ 0
  | 0, i, h => by rw [ldF] at h; omega
  | f + 1, i, h => by
    rw [ldF] at h ⊢
    split
    · rename_i hz
      rw [if_pos hz] at h
      exact ldF_ne r f (i + 1) (by omega)
    · rename_i hz; exact hz
def leadL (r : List Int) : Nat := ldF r r.length 0
def oneB (n : Nat) (m : List (List Int)) (done : Nat) : Bool := decide (done = n) && decide (leadL (m[n - 1]?.getD []) = n - 1)
theorem piv_ge {p : Nat → Nat} {n : Nat} (h : ∀ j, j + 1 < n → p j < p (j + 1)) : ∀ j, j < n → j ≤ p j
  | 0, _ => by omega
  | j + 1, hj => by have := piv_ge h j (by omega); have := h j hj; omega
theorem piv_le {p : Nat → Nat} {n : Nat} (h : ∀ j, j + 1 < n → p j < p (j + 1)) : ∀ t j, j + t + 1 = n → p j + t ≤ p (n - 1)
  | 0, j, hj => by rw [show n - 1 = j by omega]; omega
  | t + 1, j, hj => by have := piv_le h t (j + 1) (by omega); have := h j (by omega); omega
theorem GI.one {n : Nat} {W0 : Mx} {m : List (List Int)} {done k : Nat} (h : GI n (n + 1) W0 m done k) (hn : 0 < n) (hk : k ≤ n + 1) (ho : oneB n m done = true) : ∀ r c, r < n → c < n → mx m r c = idM r c := by
  unfold oneB at ho
  simp only [Bool.and_eq_true, decide_eq_true_eq] at ho
  obtain ⟨hd, hl⟩ := ho
  subst hd
  obtain ⟨p, p1, p2, p3⟩ := h.piv
  have rl := (h.rws.at (i := done - 1) (by rw [h.len]; omega)).1
  have hne := ldF_ne (m[done - 1]?.getD []) (m[done - 1]?.getD []).length 0 (by
    have : ldF (m[done - 1]?.getD []) (m[done - 1]?.getD []).length 0 = done - 1 := hl
    omega)
  have hl2 : ldF (m[done - 1]?.getD []) (m[done - 1]?.getD []).length 0 = done - 1 := hl
  rw [hl2] at hne
  have hp : p (done - 1) ≤ done - 1 := by
    rcases Nat.lt_or_ge (done - 1) (p (done - 1)) with hlt | hge
    · exact (hne (p3 (done - 1) (by omega) (done - 1) hlt)).elim
    · exact hge
  intro r c hr hc
  have g1 := piv_ge p2 c hc
  have g2 := piv_le p2 (done - 1 - c) c (by omega)
  have e : p c = c := by omega
  have := (p1 c hc).2 r hr
  rw [e] at this
  exact this
theorem GI.none {n : Nat} {W0 : Mx} {m : List (List Int)} {done k : Nat} (h : GI n (n + 1) W0 m done k) (hn : 0 < n) (hk : k ≤ n + 1) (hf : k = n + 1 ∨ done = n) (ho : oneB n m done = false) : ∃ i, i < n ∧ ∀ c, c < n → mx m i c = 0 := by
  refine ⟨n - 1, by omega, fun c hc => ?_⟩
  have hdl := h.dle
  by_cases hd : done = n
  · subst hd
    obtain ⟨p, p1, p2, p3⟩ := h.piv
    have rl := (h.rws.at (i := done - 1) (by rw [h.len]; omega)).1
    have g1 := piv_ge p2 (done - 1) (by omega)
    have q := p1 (done - 1) (by omega)
    by_cases e : p (done - 1) = done - 1
    · have e1 : mx m (done - 1) (done - 1) = 1 := by
        have := q.2 (done - 1) (by omega)
        rw [e, if_pos rfl] at this
        exact this
      have l1 := ldF_le (m[done - 1]?.getD []) (m[done - 1]?.getD []).length 0
      have hl : leadL (m[done - 1]?.getD []) = done - 1 := by
        unfold leadL
        rcases Nat.lt_trichotomy (ldF (m[done - 1]?.getD []) (m[done - 1]?.getD []).length 0) (done - 1) with hlt | heq | hgt
        · have := ldF_ne (m[done - 1]?.getD []) (m[done - 1]?.getD []).length 0 (by omega)
          exact (this (p3 (done - 1) (by omega) _ (by omega))).elim
        · exact heq
        · have := ldF_zero (m[done - 1]?.getD []) (m[done - 1]?.getD []).length 0 (done - 1) (by omega) hgt
          have e2 : mx m (done - 1) (done - 1) = 0 := this
          rw [e1] at e2; omega
      unfold oneB at ho
      rw [hl] at ho
      simp at ho
    · exact p3 (done - 1) (by omega) c (by omega)
  · exact h.low (n - 1) (by omega) (by omega) c (by omega)
end Go.Proofs.YtoeikpioonlmfaaGreat


namespace Go.Proofs.YtoeikpioonlmfaaGreat
open Go.Abs
set_option linter.unusedSectionVars false
set_option linter.unusedVariables false
set_option linter.unusedSimpArgs false
set_option maxHeartbeats 1000000
theorem solve_no {n : Nat} {m : List (List Int)} (hn : 0 < n) (hl : m.length = n) (hr : Rws (n + 1) m) (ho : oneB n (redR (n + 1) 0 (m, 1, 0)).1 (redR (n + 1) 0 (m, 1, 0)).2.2 = false) : det n (mx m) % 10007 = 0 := by
  obtain ⟨k', h1, h2, h3⟩ := redR_GI (n + 1) 0 (m, 1, 0) (by omega) (GI.start hl hr)
  obtain ⟨i, hi, hz⟩ := h3.none hn h1 h2 ho
  exact h3.eqv.sing (by omega) hi (fun c hc => by rw [hz c hc]; rfl)
theorem solve_yes {n : Nat} {m : List (List Int)} (hn : 0 < n) (hl : m.length = n) (hr : Rws (n + 1) m) (ho : oneB n (redR (n + 1) 0 (m, 1, 0)).1 (redR (n + 1) 0 (m, 1, 0)).2.2 = true) :
    det n (mx m) % 10007 ≠ 0 ∧ ∀ k, k < n → mx (redR (n + 1) 0 (m, 1, 0)).1 k n = det n (updC (mx m) k (fun r => mx m r n)) % 10007 * (pw (det n (mx m) % 10007) 10005) % 10007 := by
  obtain ⟨k', h1, h2, h3⟩ := redR_GI (n + 1) 0 (m, 1, 0) (by omega) (GI.start hl hr)
  have hid := h3.one hn h1 ho
  obtain ⟨s, s1, s2⟩ := h3.eqv.full (fun r c hr hc => by rw [hid r c hr hc])
  have hne : det n (mx m) % 10007 ≠ 0 := fun h0 => by
    rw [← mul_mod_l, h0] at s1
    simp at s1
  refine ⟨hne, fun k hk => ?_⟩
  have iv := inv_ok (a := det n (mx m) % 10007) ⟨by omega, by omega⟩ hne
  have hN := mx_N h3.rws (show k < (redR (n + 1) 0 (m, 1, 0)).1.length by rw [h3.len]; exact hk) n
  have hs := s2 k hk
  rw [Int.emod_eq_of_lt hN.1 (by have := hN.2; omega)] at hs
  rw [hs]
  generalize det n (updC (mx m) k (fun r => mx m r n)) = dk
  generalize pw (det n (mx m) % 10007) 10005 = q at *
  generalize det n (mx m) = d at *
  have e1 : s % 10007 = q % 10007 := by
    have a1 : s * (d * q) % 10007 = s % 10007 := by
      rw [← mul_mod_r, ← mul_mod_l d q, iv, Int.mul_one]
    have a2 : s * (d * q) = d * s * q := by ac_rfl
    rw [a2, ← mul_mod_l, s1, Int.one_mul] at a1
    exact a1.symm
  rw [mul_mod_l, ← mul_mod_r dk s, e1, mul_mod_r]
def minL (a : List (List Int)) (k : Nat) : List (List Int) := (List.range (a.length - 1)).map fun r => (a[r + 1]?.getD []).take k ++ (a[r + 1]?.getD []).drop (k + 1)
theorem minL_len (a : List (List Int)) (k : Nat) : (minL a k).length = a.length - 1 := by simp [minL]
theorem minL_ok {n : Nat} {a : List (List Int)} (hl : a.length = n + 1) (hr : Rws (n + 1) a) {k : Nat} (hk : k < n + 1) : Rws n (minL a k) := fun x hx => by
  obtain ⟨r, h, rfl⟩ := List.mem_map.1 hx
  have hr2 : r + 1 < a.length := by have : r < a.length - 1 := by simpa using h
                                    omega
  have q := hr.at hr2
  refine ⟨by simp [q.1]; omega, fun y hy => ?_⟩
  rcases List.mem_append.1 hy with h | h
  · exact q.2 y (List.mem_of_mem_take h)
  · exact q.2 y (List.mem_of_mem_drop h)
theorem minL_mx {n : Nat} {a : List (List Int)} (hl : a.length = n + 1) (hr : Rws (n + 1) a) {k : Nat} (hk : k < n + 1) : ∀ r c, r < n → c < n → mx (minL a k) r c = mnc (mx a) k r c := fun r c h1 h2 => by
  have q := (hr.at (i := r + 1) (by omega)).1
  have e : (minL a k)[r]?.getD [] = (a[r + 1]?.getD []).take k ++ (a[r + 1]?.getD []).drop (k + 1) := by simp [minL, show r < a.length - 1 by omega]
  show ((minL a k)[r]?.getD [])[c]?.getD 0 = (a[r + 1]?.getD [])[if c < k then c else c + 1]?.getD 0
  rw [e]
  generalize a[r + 1]?.getD [] = row at *
  by_cases hc : c < k
  · rw [if_pos hc, List.getElem?_append_left (by simp; omega), List.getElem?_take_of_lt hc]
  · rw [if_neg hc, List.getElem?_append_right (by simp; omega), List.getElem?_drop]
    congr 2
    simp; omega
end Go.Proofs.YtoeikpioonlmfaaGreat


namespace Go.Proofs.YtoeikpioonlmfaaGreat
open Go.Abs
set_option linter.unusedSectionVars false
set_option linter.unusedVariables false
set_option linter.unusedSimpArgs false
set_option maxHeartbeats 1000000
def lsum (t : Nat → Int) : Nat → Int
  | 0 => 0
  | k + 1 => if k % 2 = 0 then (lsum t k + t k) % 10007 else (lsum t k - t k) % 10007
def restL (a : List (List Int)) (i : Nat) (q : Int) : List (List Int) := (List.range (a.length - 1)).map fun r => tb (fun j => (mx a (if r < i then r else r + 1) (j + 1) - mx a (if r < i then r else r + 1) 0 * q % 10007 * mx a i (j + 1) % 10007) % 10007) (a.length - 1)
def ldet : Nat → List (List Int) → Int
  | 0, _ => 1
  | n + 1, a => if n + 1 ≤ 4 then lsum (fun k => mx a 0 k * ldet n (minL a k) % 10007) (n + 1)
    else if fndR a 0 (n + 1) 0 = n + 1 then 0
    else if fndR a 0 (n + 1) 0 % 2 = 1 then (0 - mx a (fndR a 0 (n + 1) 0) 0 * ldet n (restL a (fndR a 0 (n + 1) 0) (pw (mx a (fndR a 0 (n + 1) 0) 0) 10005)) % 10007) % 10007
    else mx a (fndR a 0 (n + 1) 0) 0 * ldet n (restL a (fndR a 0 (n + 1) 0) (pw (mx a (fndR a 0 (n + 1) 0) 0) 10005)) % 10007
theorem lsum_is {t : Nat → Int} {u : Nat → Int} : ∀ n, (∀ k, k < n → t k % 10007 = u k % 10007) → lsum t n % 10007 = dsum (fun k => sgd k * u k) n % 10007
  | 0, _ => rfl
  | n + 1, h => by
    have ih := lsum_is n (fun k hk => h k (by omega))
    have hn := h n (by omega)
    rw [lsum, dsum]
    generalize dsum (fun k => sgd k * u k) n = z at *
    unfold sgd
    by_cases e : n % 2 = 0
    · rw [if_pos e, if_pos e]; omega
    · rw [if_neg e, if_neg e]; omega
theorem restL_ok {n : Nat} {a : List (List Int)} (hl : a.length = n + 1) (i : Nat) (q : Int) : (restL a i q).length = n ∧ Rws n (restL a i q) := by
  refine ⟨by simp [restL, hl], fun x hx => ?_⟩
  obtain ⟨r, _, rfl⟩ := List.mem_map.1 hx
  exact ⟨by simp [tb, hl], tb_N fun j _ => isN_mod _⟩
theorem restL_mx {n : Nat} {a : List (List Int)} (hl : a.length = n + 1) {i : Nat} (q : Int) : ∀ r c, r < n → c < n → mx (restL a i q) r c % 10007 = (mx a (if r < i then r else r + 1) (c + 1) + (- (mx a (if r < i then r else r + 1) 0 * q)) * mx a i (c + 1)) % 10007 := fun r c h1 h2 => by
  have e : (restL a i q)[r]?.getD [] = tb (fun j => (mx a (if r < i then r else r + 1) (j + 1) - mx a (if r < i then r else r + 1) 0 * q % 10007 * mx a i (j + 1) % 10007) % 10007) n := by simp [restL, hl, h1]
  have e2 : mx (restL a i q) r c = (mx a (if r < i then r else r + 1) (c + 1) - mx a (if r < i then r else r + 1) 0 * q % 10007 * mx a i (c + 1) % 10007) % 10007 := by
    show ((restL a i q)[r]?.getD [])[c]?.getD 0 = _
    rw [e]
    exact tb_get (fun j => (mx a (if r < i then r else r + 1) (j + 1) - mx a (if r < i then r else r + 1) 0 * q % 10007 * mx a i (j + 1) % 10007) % 10007) h2
  rw [e2, mul_mod_l, Int.neg_mul]
  generalize mx a (if r < i then r else r + 1) 0 * q * mx a i (c + 1) = z
  omega
theorem ldet_is : ∀ (n : Nat) (a : List (List Int)), a.length = n → Rws n a → ldet n a = det n (mx a) % 10007
  | 0, a, hl, hr => rfl
  | n + 1, a, hl, hr => by
    rw [ldet]
    split
    · have h1 := lsum_is (t := fun k => mx a 0 k * ldet n (minL a k) % 10007) (u := fun k => mx a 0 k * det n (mnc (mx a) k)) (n + 1) (fun k hk => by
        have q := ldet_is n (minL a k) (by rw [minL_len]; omega) (minL_ok hl hr hk)
        rw [det_congr (minL_mx hl hr hk)] at q
        show mx a 0 k * ldet n (minL a k) % 10007 % 10007 = _
        rw [q, mul_mod_r, Int.emod_emod_of_dvd _ (Int.dvd_refl _)])
      have h2 : lsum (fun k => mx a 0 k * ldet n (minL a k) % 10007) (n + 1) % 10007 = lsum (fun k => mx a 0 k * ldet n (minL a k) % 10007) (n + 1) := by
        rw [lsum]; split <;> exact Int.emod_emod_of_dvd _ (Int.dvd_refl _)
      rw [← h2, h1, det_row]
      congr 1
      exact dsum_congr fun k hk => by rw [Int.mul_assoc]
    · have fl := fndR_le a 0 (n + 1) 0
      split
      · rename_i hf
        rw [det, dsum_zero (fun i hi => by rw [fndR_zero a 0 (n + 1) 0 i (by omega) (by omega)]; simp)]
        rfl
      · rename_i hf
        have hne := fndR_ne a 0 (n + 1) 0 (by omega)
        generalize fndR a 0 (n + 1) 0 = i at *
        have hi : i < n + 1 := by omega
        have iv := inv_ok (mx_N hr (show i < a.length by omega) 0) hne
        have hp := det_pivot (p := 10007) (mx a) hi (q := pw (mx a i 0) 10005) (by rw [iv]; rfl)
        have ro := restL_ok hl i (pw (mx a i 0) 10005)
        have q := ldet_is n (restL a i (pw (mx a i 0) 10005)) ro.1 ro.2
        rw [det_cong (restL_mx hl (i := i) (pw (mx a i 0) 10005))] at q
        rw [hp]
        generalize det n (fun r c => mx a (if r < i then r else r + 1) (c + 1) + -(mx a (if r < i then r else r + 1) 0 * pw (mx a i 0) 10005) * mx a i (c + 1)) = d at *
        rw [q]
        generalize mx a i 0 = x at *
        unfold sgd
        split
        · rename_i h2
          rw [if_neg (by omega), mul_mod_r]
          have : -1 * x * d = - (x * d) := by rw [Int.neg_mul, Int.neg_mul, Int.one_mul]
          rw [this]
          generalize x * d = z
          omega
        · rename_i h2
          rw [if_pos (by omega), mul_mod_r, Int.one_mul]
end Go.Proofs.YtoeikpioonlmfaaGreat


namespace Go.Proofs.YtoeikpioonlmfaaGreat
open Go.Abs
set_option linter.unusedSectionVars false
set_option linter.unusedVariables false
set_option linter.unusedSimpArgs false
set_option maxHeartbeats 1000000
def widL (a : List (List Int)) (b : List Int) : List (List Int) := (List.range a.length).map fun i => a[i]?.getD [] ++ [b[i]?.getD 0]
def repL (a : List (List Int)) (k : Nat) (b : List Int) : List (List Int) := (List.range a.length).map fun i => (a[i]?.getD []).set k (b[i]?.getD 0)
theorem widL_ok {n : Nat} {a : List (List Int)} {b : List Int} (hl : a.length = n) (hr : Rws n a) (hb : Ns b) : (widL a b).length = n ∧ Rws (n + 1) (widL a b) := by
  refine ⟨by simp [widL, hl], fun x hx => ?_⟩
  obtain ⟨i, h, rfl⟩ := List.mem_map.1 hx
  have q := hr.at (show i < a.length by simpa using h)
  refine ⟨by simp [q.1], fun y hy => ?_⟩
  rcases List.mem_append.1 hy with h | h
  · exact q.2 y h
  · simp at h; subst h; exact hb.get i
theorem widL_mx {n : Nat} {a : List (List Int)} {b : List Int} (hl : a.length = n) (hr : Rws n a) : ∀ r, r < n → (∀ c, c < n → mx (widL a b) r c = mx a r c) ∧ mx (widL a b) r n = b[r]?.getD 0 := fun r h => by
  have q := (hr.at (i := r) (by omega)).1
  have e : (widL a b)[r]?.getD [] = a[r]?.getD [] ++ [b[r]?.getD 0] := by simp [widL, show r < a.length by omega]
  refine ⟨fun c hc => ?_, ?_⟩
  · show ((widL a b)[r]?.getD [])[c]?.getD 0 = (a[r]?.getD [])[c]?.getD 0
    rw [e, List.getElem?_append_left (by omega)]
  · show ((widL a b)[r]?.getD [])[n]?.getD 0 = _
    rw [e, List.getElem?_append_right (by omega), q, Nat.sub_self]; rfl
theorem repL_ok {n : Nat} {a : List (List Int)} {b : List Int} (hl : a.length = n) (hr : Rws n a) (hb : Ns b) (k : Nat) : (repL a k b).length = n ∧ Rws n (repL a k b) := by
  refine ⟨by simp [repL, hl], fun x hx => ?_⟩
  obtain ⟨i, h, rfl⟩ := List.mem_map.1 hx
  have q := hr.at (show i < a.length by simpa using h)
  refine ⟨by rw [List.length_set]; exact q.1, fun y hy => ?_⟩
  rcases List.mem_or_eq_of_mem_set hy with h | h
  · exact q.2 y h
  · subst h; exact hb.get i
theorem repL_mx {n : Nat} {a : List (List Int)} {b : List Int} (hl : a.length = n) (hr : Rws n a) {k : Nat} (hk : k < n) : ∀ r c, r < n → c < n → mx (repL a k b) r c = updC (mx a) k (fun r => b[r]?.getD 0) r c := fun r c h1 h2 => by
  have q := (hr.at (i := r) (by omega)).1
  have e : (repL a k b)[r]?.getD [] = (a[r]?.getD []).set k (b[r]?.getD 0) := by simp [repL, show r < a.length by omega]
  show ((repL a k b)[r]?.getD [])[c]?.getD 0 = _
  rw [e]
  unfold updC
  by_cases hc : c = k
  · subst hc; rw [if_pos rfl, List.getElem?_set_self (by omega)]; rfl
  · rw [if_neg hc, List.getElem?_set_ne (fun x => hc x.symm)]; rfl
theorem solve_is {n : Nat} {a : List (List Int)} {b : List Int} (hn : 0 < n) (hl : a.length = n) (hr : Rws n a) (hb : Ns b) :
    oneB n (redR (n + 1) 0 (widL a b, 1, 0)).1 (redR (n + 1) 0 (widL a b, 1, 0)).2.2 = decide (ldet n a ≠ 0) ∧
    (ldet n a ≠ 0 → ∀ k, k < n → mx (redR (n + 1) 0 (widL a b, 1, 0)).1 k n = ldet n (repL a k b) * pw (ldet n a) 10005 % 10007) := by
  have wo := widL_ok hl hr hb
  have wm := widL_mx (b := b) hl hr
  have d1 : det n (mx (widL a b)) = det n (mx a) := det_congr fun r c h1 h2 => (wm r h1).1 c h2
  have d2 : ∀ k, k < n → det n (updC (mx (widL a b)) k (fun r => mx (widL a b) r n)) = det n (mx (repL a k b)) := fun k hk => det_congr fun r c h1 h2 => by
    rw [repL_mx hl hr hk r c h1 h2]
    unfold updC
    by_cases hc : c = k
    · rw [if_pos hc, if_pos hc]; exact (wm r h1).2
    · rw [if_neg hc, if_neg hc]; exact (wm r h1).1 c h2
  have dl := ldet_is n a hl hr
  cases ho : oneB n (redR (n + 1) 0 (widL a b, 1, 0)).1 (redR (n + 1) 0 (widL a b, 1, 0)).2.2 with
  | false =>
    have := solve_no hn wo.1 wo.2 ho
    rw [d1, ← dl] at this
    exact ⟨by simp [this], fun h => (h this).elim⟩
  | true =>
    have := solve_yes hn wo.1 wo.2 ho
    rw [d1, ← dl] at this
    refine ⟨by simp [this.1], fun _ k hk => ?_⟩
    rw [this.2 k hk, d2 k hk, ldet_is n (repL a k b) (repL_ok hl hr hb k).1 (repL_ok hl hr hb k).2]
end Go.Proofs.YtoeikpioonlmfaaGreat


namespace Go.Proofs.YtoeikpioonlmfaaGreat
open Go.Abs CR
set_option linter.unusedSectionVars false
set_option linter.unusedVariables false
set_option linter.unusedSimpArgs false
set_option maxHeartbeats 1000000
section
variable {α : Type}
def mnR (M : Nat → Nat → α) (i : Nat) : Nat → Nat → α := fun r c => M (if r < i then r else r + 1) (c + 1)
end
section
variable {α : Type} [CR α]
def dR (f : Nat → α) : Nat → α
  | 0 => ofI 0
  | n + 1 => dR f n + f n
def dtR : Nat → (Nat → Nat → α) → α
  | 0, _ => ofI 1
  | n + 1, M => dR (fun i => ofI (sgd i) * M i 0 * dtR n (mnR M i)) (n + 1)
end
end Go.Proofs.YtoeikpioonlmfaaGreat


namespace Go.Proofs.YtoeikpioonlmfaaGreat
open Go.Abs CR
set_option linter.unusedSectionVars false
set_option linter.unusedVariables false
set_option linter.unusedSimpArgs false
set_option maxHeartbeats 1000000
section
variable {α : Type} [CR α]
end
end Go.Proofs.YtoeikpioonlmfaaGreat


namespace Go.Proofs.YtoeikpioonlmfaaGreat
open Go.Abs CR
set_option linter.unusedSectionVars false
set_option linter.unusedVariables false
set_option linter.unusedSimpArgs false
set_option maxHeartbeats 1000000
section
variable {α : Type} [CR α]
end
end Go.Proofs.YtoeikpioonlmfaaGreat


namespace Go.Proofs.YtoeikpioonlmfaaGreat
open Go.Abs CR
set_option linter.unusedSectionVars false
set_option linter.unusedVariables false
set_option linter.unusedSimpArgs false
set_option maxHeartbeats 1000000
theorem cmul_nil (b : Ser Int) : ∀ (k : Nat) (a : Ser Int), (∀ i, a i = 0) → cmul k a b = 0
  | 0, a, h => by show a 0 * b 0 = 0; rw [h 0, Int.zero_mul]
  | k + 1, a, h => by
    show a 0 * b (k + 1) + cmul k (sh a) b = 0
    rw [h 0, cmul_nil b k (sh a) (fun i => h (i + 1)), Int.zero_mul]; rfl
theorem cmul_lin {a : Ser Int} (h : ∀ i, a (i + 2) = 0) (b : Ser Int) (k : Nat) : cmul (k + 1) a b = a 0 * b (k + 1) + a 1 * b k := by
  show a 0 * b (k + 1) + cmul k (sh a) b = _
  congr 1
  cases k with
  | zero => rfl
  | succ k =>
    show sh a 0 * b (k + 1) + cmul k (sh (sh a)) b = _
    rw [cmul_nil b k (sh (sh a)) (fun i => h i), Int.add_zero]; rfl
theorem dsum_id {n j : Nat} (hj : j < n) (f : Nat → Int) : dsum (fun c => idM j c * f c) n = f j := by
  rw [dsum_one hj (fun i hi hne => by unfold idM; rw [if_neg (fun e => hne e.symm), Int.zero_mul])]
  unfold idM; rw [if_pos rfl, Int.one_mul]
def Ev (z : Int) (d : Nat) (f : Ser Int) (v : Int) : Prop := (∀ k, d < k → f k = 0) ∧ dsum (fun k => f k * z ^ k) (d + 1) = v
theorem Ev.zero (z : Int) (d : Nat) : Ev z d (ofI 0) 0 := by
  have h0 : ∀ k, (ofI 0 : Ser Int) k = 0 := fun k => by cases k <;> rfl
  exact ⟨fun k _ => h0 k, dsum_zero fun k _ => by rw [h0, Int.zero_mul]⟩
theorem Ev.add {z : Int} {d : Nat} {f g : Ser Int} {v w : Int} (h : Ev z d f v) (k : Ev z d g w) : Ev z d (f + g) (v + w) := by
  refine ⟨fun i hi => by rw [ser_add, h.1 i hi, k.1 i hi]; rfl, ?_⟩
  rw [← h.2, ← k.2, ← dsum_plus]
  exact dsum_congr fun i hi => by rw [ser_add, Int.add_mul]
theorem Ev.lin {z : Int} {d : Nat} {f g : Ser Int} {w : Int} (hf : ∀ i, f (i + 2) = 0) (k : Ev z d g w) : Ev z (d + 1) (f * g) ((f 0 + f 1 * z) * w) := by
  have at1 : ∀ i, (f * g) (i + 1) = f 0 * g (i + 1) + f 1 * g i := fun i => cmul_lin hf g i
  have at0 : (f * g) 0 = f 0 * g 0 := rfl
  refine ⟨fun i hi => ?_, ?_⟩
  · obtain ⟨j, rfl⟩ : ∃ j, i = j + 1 := ⟨i - 1, by omega⟩
    rw [at1, k.1 (j + 1) (by omega), k.1 j (by omega)]; omega
  · have e1 : dsum (fun i => (f * g) (i + 1) * z ^ (i + 1)) (d + 1) = dsum (fun i => f 0 * (g (i + 1) * z ^ (i + 1)) + (f 1 * z) * (g i * z ^ i)) (d + 1) :=
      dsum_congr fun i hi => by
        rw [at1, Int.add_mul, Int.pow_succ]
        congr 1
        · rw [Int.mul_assoc]
        · rw [Int.mul_assoc, Int.mul_assoc]
          congr 1
          rw [← Int.mul_assoc, Int.mul_comm]
    have e2 : dsum (fun i => g i * z ^ i) (d + 1 + 1) = w := by
      show dsum (fun i => g i * z ^ i) (d + 1) + g (d + 1) * z ^ (d + 1) = w
      rw [k.2, k.1 (d + 1) (by omega), Int.zero_mul, Int.add_zero]
    rw [dsum_shift] at e2
    rw [dsum_shift, e1, dsum_lin, at0, ← dsum_mul, k.2, Int.add_mul]
    have e3 : f 0 * w = f 0 * (g 0 * z ^ 0) + f 0 * dsum (fun i => g (i + 1) * z ^ (i + 1)) (d + 1) := by rw [← Int.mul_add, e2]
    rw [e3, Int.mul_assoc (f 0) (g 0), Int.add_assoc]
theorem Ev.dR {z : Int} {d : Nat} {f : Nat → Ser Int} {v : Nat → Int} : ∀ {n : Nat}, (∀ i, i < n → Ev z d (f i) (v i)) → Ev z d (dR f n) (dsum v n)
  | 0, _ => Ev.zero z d
  | n + 1, h => Ev.add (Ev.dR (n := n) (fun i hi => h i (by omega))) (h n (by omega))
theorem Ev.det {z : Int} : ∀ (n : Nat) (A : Nat → Nat → Ser Int), (∀ r c i, A r c (i + 2) = 0) → Ev z n (dtR n A) (det n (fun r c => A r c 0 + A r c 1 * z))
  | 0, A, _ => by
    refine ⟨fun k hk => ?_, ?_⟩
    · obtain ⟨j, rfl⟩ : ∃ j, k = j + 1 := ⟨k - 1, by omega⟩
      rfl
    · show (0 : Int) + 1 * z ^ 0 = 1
      rw [Int.pow_zero]; rfl
  | n + 1, A, h => by
    rw [dtR, Go.Proofs.YtoeikpioonlmfaaGreat.det]
    refine Ev.dR fun i hi => ?_
    have q := Ev.lin (f := ofI (sgd i) * A i 0) (fun t => by
      show cmul (t + 2) (sOf (sgd i)) (A i 0) = 0
      rw [cmul_comm, cmul_of, h, Int.zero_mul]) (Ev.det (z := z) n (mnR A i) (fun r c t => h _ _ _))
    have e : ∀ t, (ofI (sgd i) * A i 0) t = sgd i * A i 0 t := fun t => by
      show cmul t (sOf (sgd i)) (A i 0) = _
      rw [cmul_comm, cmul_of]; exact Int.mul_comm _ _
    rw [e, e, Int.mul_assoc, ← Int.mul_add] at q
    exact q
end Go.Proofs.YtoeikpioonlmfaaGreat


namespace Go.Proofs.YtoeikpioonlmfaaGreat
open Go.Abs
set_option linter.unusedSectionVars false
set_option linter.unusedVariables false
set_option linter.unusedSimpArgs false
set_option maxHeartbeats 1000000
def Nul (n w : Nat) (m : List (List Int)) (x : Nat → Int) : Prop := ∀ r, r < n → dsum (fun c => mx m r c * x c) w % 10007 = 0
theorem Nul.swp {n w : Nat} {m : List (List Int)} {x : Nat → Int} (h : Nul n w m x) (hl : m.length = n) {i d : Nat} (hi : i < n) (hd : d < n) : Nul n w (swp m i d) x := by
  intro r hr
  rw [swp_mx (by omega) (by omega)]
  by_cases e1 : r = d
  · subst e1; rw [updR_at]; exact h i hi
  · rw [updR_ne _ _ e1]
    by_cases e2 : r = i
    · subst e2; rw [updR_at]; exact h d hd
    · rw [updR_ne _ _ e2]; exact h r hr
theorem Nul.scl {n w : Nat} {m : List (List Int)} {x : Nat → Int} (h : Nul n w m x) (hl : m.length = n) (hr : Rws w m) {d k : Nat} (hd : d < n) : Nul n w (scl m d k) x := by
  intro r hrn
  by_cases e : r = d
  · subst e
    have e1 : dsum (fun c => mx (Go.Proofs.YtoeikpioonlmfaaGreat.scl m r k) r c * x c) w % 10007 = dsum (fun c => (pw (mx m r k) 10005 % 10007) * (mx m r c * x c)) w % 10007 := dsum_cong fun c hc => by
      rw [scl_at hr (by omega) hc, if_pos rfl, mul_mod_l]
      congr 1
      rw [Int.mul_comm (mx m r c), Int.mul_assoc]
    rw [e1, ← dsum_mul, ← mul_mod_r, h r hrn]; simp
  · have e1 : dsum (fun c => mx (Go.Proofs.YtoeikpioonlmfaaGreat.scl m d k) r c * x c) w % 10007 = dsum (fun c => mx m r c * x c) w % 10007 := dsum_cong fun c hc => by
      rw [scl_at hr (by omega) hc, if_neg e]
    rw [e1]; exact h r hrn
theorem Nul.elD {n w : Nat} {m : List (List Int)} {x : Nat → Int} (h : Nul n w m x) (hl : m.length = n) (hr : Rws w m) {d k : Nat} (hd : d < n) : Nul n w (elD m d k) x := by
  intro r hrn
  by_cases e : r = d
  · have e1 : dsum (fun c => mx (Go.Proofs.YtoeikpioonlmfaaGreat.elD m d k) r c * x c) w % 10007 = dsum (fun c => mx m d c * x c) w % 10007 := dsum_cong fun c hc => by
      rw [elD_at hr (by omega) hc, if_pos e]
    rw [e1]; exact h d hd
  · have e1 : dsum (fun c => mx (Go.Proofs.YtoeikpioonlmfaaGreat.elD m d k) r c * x c) w % 10007 = dsum (fun c => mx m r c * x c + ((- mx m r k) % 10007) * (mx m d c * x c)) w % 10007 := dsum_cong fun c hc => by
      rw [elD_at hr (by omega) hc, if_neg e, mul_mod_l, Int.add_mul, Int.mul_assoc]
    rw [e1, dsum_lin, Int.add_emod, h r hrn, ← mul_mod_r, h d hd]; simp
theorem stepR_Nul {n w : Nat} {W0 : Mx} {m : List (List Int)} {d : Int} {done k : Nat} {x : Nat → Int} (g : GI n w W0 m done k) (hk : k < w) (hd : done < n) (h : Nul n w m x) : Nul n w (stepR m d done k).1 x := by
  have hl := g.len
  have fl := fndR_le m k (m.length - done) done
  unfold stepR
  by_cases e : fndR m k (m.length - done) done = m.length
  · rw [if_pos e]; exact h
  · rw [if_neg e]
    have s1 := swp_ok g.rws (i := fndR m k (m.length - done) done) (d := done) (by omega) (by omega)
    have s2 := h.swp hl (i := fndR m k (m.length - done) done) (d := done) (by omega) hd
    have l1 := swp_len m (fndR m k (m.length - done) done) done
    have t1 := scl_ok s1 (d := done) (k := k) (by omega)
    have t2 := s2.scl (by omega) s1 (k := k) hd
    exact t2.elD (by rw [scl_len, l1]; exact hl) t1 hd
theorem redR_Nul {n w : Nat} {W0 : Mx} {x : Nat → Int} : ∀ (f k : Nat) (st : List (List Int) × Int × Nat), k + f = w → GI n w W0 st.1 st.2.2 k → Nul n w st.1 x → Nul n w (redR f k st).1 x
  | 0, k, st, hk, g, h => h
  | f + 1, k, st, hk, g, h => by
    rw [redR]
    have hl := g.len
    split
    · rename_i hlt
      exact redR_Nul f (k + 1) _ (by omega) (stepR_GI g (by omega) (by omega)) (stepR_Nul g (by omega) (by omega) h)
    · exact h
theorem solve_uniq {n : Nat} {a : List (List Int)} {b : List Int} {e : Nat → Int} (hn : 0 < n) (hl : a.length = n) (hr : Rws n a) (hb : Ns b) (h0 : ldet n a ≠ 0)
    (he : ∀ r, r < n → dsum (fun c => mx a r c * e c) n % 10007 = b[r]?.getD 0 % 10007) :
    ∀ k, k < n → ldet n (repL a k b) * pw (ldet n a) 10005 % 10007 = e k % 10007 := by
  intro k hk
  have sv := solve_is hn hl hr hb
  have wo := widL_ok hl hr hb
  have wm := widL_mx (b := b) hl hr
  rw [← sv.2 h0 k hk]
  have ho := sv.1
  rw [decide_eq_true h0] at ho
  obtain ⟨k', h1, h2, h3⟩ := redR_GI (n + 1) 0 (widL a b, 1, 0) (by omega) (GI.start wo.1 wo.2)
  have hid := h3.one hn h1 ho
  have hN := mx_N h3.rws (show k < (redR (n + 1) 0 (widL a b, 1, 0)).1.length by rw [h3.len]; exact hk) n
  have nu : Nul n (n + 1) (widL a b) (fun c => if c < n then e c else -1) := fun r hrn => by
    have e1 : dsum (fun c => mx (widL a b) r c * (fun c => if c < n then e c else -1) c) (n + 1) = dsum (fun c => mx a r c * e c) n + b[r]?.getD 0 * (-1) := by
      rw [dsum]
      congr 1
      · exact dsum_congr fun c hc => by simp only [if_pos hc]; rw [(wm r hrn).1 c hc]
      · simp only [if_neg (show ¬ n < n by omega)]; rw [(wm r hrn).2]
    rw [e1]
    have := he r hrn
    omega
  have nr := redR_Nul (n + 1) 0 (widL a b, 1, 0) (by omega) (GI.start wo.1 wo.2) nu k hk
  have e2 : dsum (fun c => mx (redR (n + 1) 0 (widL a b, 1, 0)).1 k c * (fun c => if c < n then e c else -1) c) (n + 1) = e k + mx (redR (n + 1) 0 (widL a b, 1, 0)).1 k n * (-1) := by
    rw [dsum]
    congr 1
    · have : dsum (fun c => mx (redR (n + 1) 0 (widL a b, 1, 0)).1 k c * (fun c => if c < n then e c else -1) c) n = dsum (fun c => idM k c * e c) n := dsum_congr fun c hc => by
        simp only [if_pos hc]; rw [hid k c hk hc]
      rw [this, dsum_id hk]
    · simp only [if_neg (show ¬ n < n by omega)]
  rw [e2] at nr
  obtain ⟨n0, n1⟩ := hN
  generalize mx (redR (n + 1) 0 (widL a b, 1, 0)).1 k n = y at *
  omega
end Go.Proofs.YtoeikpioonlmfaaGreat


namespace Go.Proofs.YtoeikpioonlmfaaGreat
open Go.Abs
set_option linter.unusedSectionVars false
set_option linter.unusedVariables false
set_option linter.unusedSimpArgs false
set_option maxHeartbeats 4000000
theorem rmat_get {A : List (List Int)} {k : Nat} (h : k < A.length) : (mat A)[k]? = some (.sl (A[k]?.getD []).length (avs (A[k]?.getD []))) := by simp [mat, h]
theorem rmat_set (A : List (List Int)) (k : Nat) (l : List Int) : (mat A).set k (.sl l.length (avs l)) = mat (A.set k l) := by simp [mat, List.map_set]
theorem rmat_take (A : List (List Int)) (k : Nat) : (mat A).take k = mat (A.take k) := by simp [mat, List.map_take]
theorem rmat_kl (W : List Nat) (A : List (List Int)) : klL W (mat A) = mat A := by
  induction A with
  | nil => rfl
  | cons r A ih => simp only [mat, List.map_cons] at ih ⊢; rw [klL, ih]; rfl
def mxR {α : Type} (A C : List α) (i : Nat) : List α := C.take i ++ A.drop i
theorem mxR_zero {α : Type} (A C : List α) : mxR A C 0 = A := by simp [mxR]
theorem mxR_all {α : Type} {A C : List α} (h : C.length = A.length) : mxR A C A.length = C := by simp [mxR, ← h]
theorem mxR_len {α : Type} {A C : List α} (h : C.length = A.length) {i : Nat} (hi : i ≤ A.length) : (mxR A C i).length = A.length := by simp [mxR]; omega
theorem mxR_get {α : Type} {A C : List α} (h : C.length = A.length) {i j : Nat} (hi : i ≤ A.length) (d : α) : (mxR A C i)[j]?.getD d = if j < i then C[j]?.getD d else A[j]?.getD d := by
  unfold mxR
  split
  · rename_i hj
    rw [List.getElem?_append_left (by simp; omega), List.getElem?_take_of_lt hj]
  · rename_i hj
    rw [List.getElem?_append_right (by simp; omega), List.getElem?_drop]
    congr 2
    simp; omega
theorem mxR_set {α : Type} {A C : List α} (h : C.length = A.length) {i : Nat} (hi : i < A.length) (d : α) : (mxR A C i).set i (C[i]?.getD d) = mxR A C (i + 1) := by
  unfold mxR
  have hc : i < C.length := by omega
  rw [List.set_append_right _ _ (by simp; omega)]
  have e1 : (C.take i).length = i := by simp; omega
  have e2 : C.take (i + 1) = C.take i ++ [C[i]] := by rw [List.take_add_one, List.getElem?_eq_getElem hc]; rfl
  rw [e1, Nat.sub_self, List.drop_eq_getElem_cons hi, List.set_cons_zero, e2, List.getElem?_eq_getElem hc, List.append_assoc]
  rfl
theorem elD_row {m : List (List Int)} {d k r : Nat} (hr : r < m.length) : (elD m d k)[r]?.getD [] = if r = d then m[d]?.getD [] else plusS (m[r]?.getD []) (m[d]?.getD []) (- mx m r k) := by
  simp [elD, hr]
set_option maxRecDepth 100000 in
theorem reduce_c {w : Nat} (a : List (List Int)) (h0 : 0 < a.length) (hl : a.length ≤ 1000) (hw : w ≤ 1000) (hr : Rws w a) :
    GCon Tryz.prog 152 [.sl a.length (mat a)] (.tup [.own 35 (redR w 0 (a, 1, 0)).2.2 (mat ((redR w 0 (a, 1, 0)).1.take (redR w 0 (a, 1, 0)).2.2)), .int (redR w 0 (a, 1, 0)).2.1]) [.any] := by
  have cC := Con.gfz (cloneRows_c a (by omega) (fun r h => by have := (hr r h).1; omega)) (by simp [hasOwnL, hasOwn]) (omat_frz a)
  refine gcon_of_vc Tryz.mixed ⟨10, [96, 124], [1000000 + 204], [131, 1001113990216]⟩ [2, 3] [] Tryz.func152 (by decide) rfl rfl (by simp) (by simp) (by decide) ?_
  rw [Tryz.ntmps152]
  simp [go_sem]
  refine ⟨_, _, cC, ?_⟩
  simp [go_sem]
  refine loop_inv ([5, 6, 7, 8, 9] ++ List.range' 12 117 ++ [4]) (fun x : Nat × List (List Int) × Int × Nat => [(4, .own 35 x.2.1.length (mat x.2.1)), (5, .int x.2.2.1), (6, .int x.2.2.2), (7, .int x.1)])
    (fun x => x.1 ≤ w ∧ x.2.1.length = a.length ∧ Rws w x.2.1 ∧ isN x.2.2.1 ∧ x.2.2.2 ≤ a.length ∧ redR (w - x.1) x.1 x.2 = redR w 0 (a, 1, 0)) (fun x => w - x.1) (0, a, 1, 0) ⟨by simp, rfl, hr, ⟨by simp, by simp⟩, by simp, rfl⟩ (by simp [go_sem]) (by simp [go_sem, rmat_kl]) ?_
  rintro ⟨k, m, det, done⟩ ⟨hk, hm, hmr, hd, hdn, he⟩
  simp only at hk hm hmr hd hdn he
  have m0 : 0 < m.length := by omega
  have g0 := rmat_get m0
  have r0 := (hmr.at m0).1
  have fin : ¬ (k < w ∧ done < m.length) → redR w 0 (a, 1, 0) = (m, det, done) := fun h => by
    rw [← he]
    rcases Nat.lt_or_ge k w with h1 | h1
    · obtain ⟨f, hf⟩ : ∃ f, w - k = f + 1 := ⟨w - k - 1, by omega⟩
      rw [hf, redR, if_neg (by simp only; omega)]
    · rw [show w - k = 0 by omega, redR]
  by_cases hkw : k < w
  · by_cases hdl : done < m.length
    · clear fin
      have hst : redR (w - (k + 1)) (k + 1) (stepR m det done k) = redR w 0 (a, 1, 0) := by
        rw [← he, show w - k = (w - (k + 1)) + 1 by omega, redR, if_pos hdl]
      clear he
      simp [go_sem, g0, m0, r0, hkw, hdl, -getElem?_pos]
      have fl := fndR_le m k (m.length - done) done
      refine loop_inv ([8] ++ List.range' 32 16) (fun i : Nat => [(8, .int i)]) (fun i => done ≤ i ∧ i ≤ m.length ∧ fndR m k (m.length - i) i = fndR m k (m.length - done) done) (fun i => m.length - i) done ⟨Nat.le_refl _, by omega, rfl⟩ (by simp [go_sem]) (by simp [go_sem]) ?_
      rintro i ⟨hi1, hi2, hi3⟩
      by_cases hil : i < m.length
      · have gi := rmat_get hil
        have ri := (hmr.at hil).1
        have hin : ((i : Nat) : Int).toNat = i := by omega
        have hfi : fndR m k (m.length - i) i = if mx m i k = 0 then fndR m k (m.length - (i + 1)) (i + 1) else i := by
          rw [show m.length - i = (m.length - (i + 1)) + 1 by omega, fndR]
        have mxi : (m[i]?.getD [])[k]?.getD 0 = mx m i k := rfl
        have kr : k < (m[i]?.getD []).length := by omega
        simp [go_sem, hil, gi, avs_drop kr, mxi, -getElem?_pos]
        by_cases hz : mx m i k = 0
        · rw [if_pos hz] at hfi
          simp [go_sem, hz]
          refine ⟨⟨by omega, fun e => by rw [e] at kr; simp at kr⟩, ⟨by omega, by omega⟩, i + 1, ⟨by omega, by omega, by rw [← hi3, hfi]⟩, by omega, Off_reset _ _ _ (by simp), by omega⟩
        · rw [if_neg hz, hi3] at hfi
          subst hfi
          clear hi3
          generalize hI : fndR m k (m.length - done) done = I at *
          have hsr : stepR m det done k = (elD (scl (swp m I done) done k) done k, (if I = done then det else (- det) % 10007) * mx (swp m I done) done k % 10007, done + 1) := by
            unfold stepR
            rw [hI, if_neg (by omega)]
          rw [hsr] at hst
          clear hsr hI
          have hIl : ¬ ((I : Nat) : Int) = m.length := by omega
          simp [go_sem, hz, hil, hIl, -getElem?_pos]
          refine ⟨⟨kr, fun e => by rw [e] at kr; simp at kr⟩, ?_⟩
          by_cases hID : I = done
          · have hsw : swp m I done = m := by unfold swp; rw [if_pos hID]
            rw [hsw, if_pos hID] at hst
            have hMl := hm
            have hMr := hmr
            have hDN := hd
            simp [go_sem, hID]
            generalize m = M at *
            generalize det = D at *
            have nd := mx_N hMr (show done < M.length by omega) k
            have gd := rmat_get (show done < M.length by omega)
            have rd := hMr.at (show done < M.length by omega)
            have kd : k < (M[done]?.getD []).length := by omega
            have mxd : (M[done]?.getD [])[k]?.getD 0 = mx M done k := rfl
            have f1 := mul_fits hDN nd
            have set1 := rmat_set M done (scalS (M[done]?.getD []) (pw (mx M done k) 10005))
            rw [scalS_len] at set1
            have hsc : M.set done (scalS (M[done]?.getD []) (pw (mx M done k) 10005)) = scl M done k := rfl
            rw [hsc] at set1
            have bl := scl_len M done k
            have br := scl_ok hMr (k := k) (show done < M.length by omega)
            have cI := inv_c (mx M done k) nd
            have pb : fits (pw (mx M done k) 10005) := by have := isN_mod ((mx M done k) ^ (10005 : Int).toNat); exact ⟨by have := this.1; show _ ≤ _ % _; omega, by have := this.2; show _ % _ ≤ _; omega⟩
            have cS := scaled_c (M[done]?.getD []) (pw (mx M done k) 10005) rd.2 pb (by omega)
            clear hsc
            generalize hb : scl M done k = b at *
            simp [go_sem, gd, avs_drop kd, mxd]
            have kne : ¬ M[done]?.getD [] = [] := fun e => by rw [e] at kd; simp at kd
            refine ⟨by omega, ⟨kd, kne⟩, f1, ?_⟩
            refine CallVC.of (num_c _ f1.1 f1.2) (by decide) ?_
            simp [go_sem]
            simp [go_sem, gd, avs_drop kd, mxd]
            refine ⟨by kernel_rfl, by omega, ⟨kd, kne⟩, ?_⟩
            refine CallD.of (cI) (by simp [roots, rootsL]) (by decide) ?_
            simp [go_sem]
            refine CallD.of cS (by simp [go_sem, roots, rootsL]) (by decide) ?_
            simp [go_sem, gd, set1]
            refine ⟨by omega, ?_⟩
            refine ⟨by kernel_rfl, ?_⟩
            simp [go_sem]
            have ce : ∀ r, r < b.length → (elD b done k)[r]?.getD [] = if r = done then b[done]?.getD [] else plusS (b[r]?.getD []) (b[done]?.getD []) (- mx b r k) := fun r hr => elD_row hr
            have cl := elD_len b done k
            have cr := elD_ok br (k := k) (show done < b.length by omega)
            generalize elD b done k = C at *
            refine loop_inv ([9] ++ List.range' 100 27 ++ [4]) (fun r : Nat => [(4, .own 35 M.length (mat (mxR b C r))), (100, .int r)]) (fun r => r ≤ M.length) (fun r => M.length - r) 0 (by simp) (by simp [go_sem, mxR_zero]) (by simp [go_sem, rmat_kl]) ?_
            intro r hr1
            by_cases hrl : r < M.length
            · have Zl := mxR_len (A := b) (C := C) (by omega) (show r ≤ b.length by omega)
              have gd2 : done < (mxR b C r).length := by omega
              have gr2 : r < (mxR b C r).length := by omega
              have gd3 := rmat_get gd2
              have gr3 := rmat_get gr2
              have zr : (mxR b C r)[r]?.getD [] = b[r]?.getD [] := by rw [mxR_get (by omega) (by omega), if_neg (by omega)]
              have zd : (mxR b C r)[done]?.getD [] = b[done]?.getD [] := by
                rw [mxR_get (by omega) (by omega)]
                split
                · rw [ce done (by omega), if_pos rfl]
                · rfl
              have sr := mxR_set (A := b) (C := C) (by omega) (show r < b.length by omega) []
              have sr0 : r = done → mxR b C (r + 1) = mxR b C r := fun e => by
                rw [← sr, ce r (by omega), if_pos e, ← zd, ← e]
                refine List.ext_getElem? fun j => ?_
                rw [List.getElem?_set]
                split
                · rename_i ej; subst ej; simp [gr2]
                · rfl
              rw [zr] at gr3
              rw [zd] at gd3
              have br1 := br.at (show r < b.length by omega)
              have bd1 := br.at (show done < b.length by omega)
              have nr := mx_N br (show r < b.length by omega) k
              have mr : (b[r]?.getD [])[k]?.getD 0 = mx b r k := rfl
              have kr1 : k < (b[r]?.getD []).length := by omega
              have fr : fits (- mx b r k) := ⟨by have := nr.2; omega, by have := nr.1; omega⟩
              have cP := plus_c (b[r]?.getD []) (b[done]?.getD []) (- mx b r k) br1.2 bd1.2 fr (by omega) (by omega)
              have setr := rmat_set (mxR b C r) r (plusS (b[r]?.getD []) (b[done]?.getD []) (- mx b r k))
              rw [plusS_len] at setr
              generalize hZ : mxR b C r = Z at *
              generalize hZ2 : mxR b C (r + 1) = Z2 at *
              have kne1 : ¬ b[r]?.getD [] = [] := fun e => by rw [e] at kr1; simp at kr1
              by_cases hrd : r = done
              · have h2 := sr0 hrd
                have hdM : done < M.length := by omega
                simp [go_sem, hrd, hdM]
                exact ⟨by omega, r + 1, by omega, by omega, Off_reset _ _ _ (by simp), by rw [hZ2, h2], by omega⟩
              · have hcr := ce r (by omega)
                rw [if_neg hrd] at hcr
                rw [hcr] at sr
                rw [sr] at setr
                have hri : ¬ ((r : Nat) : Int) = done := by omega
                simp [go_sem, hrl, hrd, hri, gd3, gr3, avs_drop kr1, mr, -getElem?_pos]
                refine ⟨by kernel_rfl, by omega, ⟨kr1, kne1⟩, ⟨by have := nr.2; omega, by have := nr.1; omega⟩, ?_⟩
                refine CallD.of cP (by simp [go_sem, roots, rootsL]) (by decide) ?_
                simp [go_sem, setr]
                refine ⟨by omega, by omega, ?_⟩
                refine ⟨by kernel_rfl, ?_⟩
                simp [go_sem]
                exact ⟨by omega, r + 1, by omega, by omega, Off_reset _ _ _ (by simp), by rw [hZ2], by omega⟩
            · have e2 : r = M.length := by omega
              subst e2
              have eC : mxR b C M.length = C := by rw [← bl]; exact mxR_all (by omega)
              rw [eC]
              simp [go_sem]
              refine ⟨⟨by omega, by omega⟩, ⟨by omega, by omega⟩, k + 1, C, D * mx M done k % 10007, done + 1, ⟨by omega, by omega, cr, isN_mod _, by omega, hst⟩, by omega, (by repeat (first | exact Off_reset _ _ _ (by simp) | (refine Off.reset (by intro x hx; simp at hx ⊢; omega) (by simp) ?_; simp -failIfUnchanged [go_sem, Off_reset]))), ⟨by omega, rfl⟩, rfl, by omega, by omega⟩
          · have hsw : swp m I done = (m.set I (m[done]?.getD [])).set done (m[I]?.getD []) := by unfold swp; rw [if_neg hID]
            have hIDi : ¬ ((I : Nat) : Int) = done := by omega
            rw [if_neg hID] at hst
            have gdd := rmat_get hdl
            have hMl : (swp m I done).length = a.length := by rw [swp_len]; exact hm
            have hMr := swp_ok hmr hil hdl
            have hDN := isN_mod (- det)
            have s1 := rmat_set m I (m[done]?.getD [])
            have s2 := rmat_set (m.set I (m[done]?.getD [])) done (m[I]?.getD [])
            rw [← hsw] at s2
            have ml : m.length = (swp m I done).length := by rw [swp_len]
            generalize swp m I done = M at *
            simp [go_sem, hIDi, gi, gdd, s1, s2, hil, hdl, -getElem?_pos]
            refine ⟨by kernel_rfl, ?_, ?_⟩
            · refine ⟨by kernel_rfl, ⟨by have := hd.2; omega, by have := hd.1; omega⟩, ?_⟩
              refine CallVC.of (num_c _ (by have := hd.2; omega) (by have := hd.1; omega)) (by decide) ?_
              simp [go_sem]
              generalize (- det) % 10007 = D at *
              rw [ml]
              have nd := mx_N hMr (show done < M.length by omega) k
              have gd := rmat_get (show done < M.length by omega)
              have rd := hMr.at (show done < M.length by omega)
              have kd : k < (M[done]?.getD []).length := by omega
              have mxd : (M[done]?.getD [])[k]?.getD 0 = mx M done k := rfl
              have f1 := mul_fits hDN nd
              have set1 := rmat_set M done (scalS (M[done]?.getD []) (pw (mx M done k) 10005))
              rw [scalS_len] at set1
              have hsc : M.set done (scalS (M[done]?.getD []) (pw (mx M done k) 10005)) = scl M done k := rfl
              rw [hsc] at set1
              have bl := scl_len M done k
              have br := scl_ok hMr (k := k) (show done < M.length by omega)
              have cI := inv_c (mx M done k) nd
              have pb : fits (pw (mx M done k) 10005) := by have := isN_mod ((mx M done k) ^ (10005 : Int).toNat); exact ⟨by have := this.1; show _ ≤ _ % _; omega, by have := this.2; show _ % _ ≤ _; omega⟩
              have cS := scaled_c (M[done]?.getD []) (pw (mx M done k) 10005) rd.2 pb (by omega)
              clear hsc
              generalize hb : scl M done k = b at *
              simp [go_sem, gd, avs_drop kd, mxd]
              have kne : ¬ M[done]?.getD [] = [] := fun e => by rw [e] at kd; simp at kd
              refine ⟨by omega, ⟨kd, kne⟩, f1, ?_⟩
              refine CallVC.of (num_c _ f1.1 f1.2) (by decide) ?_
              simp [go_sem]
              simp [go_sem, gd, avs_drop kd, mxd]
              refine ⟨by kernel_rfl, by omega, ⟨kd, kne⟩, ?_⟩
              refine CallD.of (cI) (by simp [roots, rootsL]) (by decide) ?_
              simp [go_sem]
              refine CallD.of cS (by simp [go_sem, roots, rootsL]) (by decide) ?_
              simp [go_sem, gd, set1]
              refine ⟨by omega, ?_⟩
              refine ⟨by kernel_rfl, ?_⟩
              simp [go_sem]
              have ce : ∀ r, r < b.length → (elD b done k)[r]?.getD [] = if r = done then b[done]?.getD [] else plusS (b[r]?.getD []) (b[done]?.getD []) (- mx b r k) := fun r hr => elD_row hr
              have cl := elD_len b done k
              have cr := elD_ok br (k := k) (show done < b.length by omega)
              generalize elD b done k = C at *
              refine loop_inv ([9] ++ List.range' 100 27 ++ [4]) (fun r : Nat => [(4, .own 35 M.length (mat (mxR b C r))), (100, .int r)]) (fun r => r ≤ M.length) (fun r => M.length - r) 0 (by simp) (by simp [go_sem, mxR_zero]) (by simp [go_sem, rmat_kl]) ?_
              intro r hr1
              by_cases hrl : r < M.length
              · have Zl := mxR_len (A := b) (C := C) (by omega) (show r ≤ b.length by omega)
                have gd2 : done < (mxR b C r).length := by omega
                have gr2 : r < (mxR b C r).length := by omega
                have gd3 := rmat_get gd2
                have gr3 := rmat_get gr2
                have zr : (mxR b C r)[r]?.getD [] = b[r]?.getD [] := by rw [mxR_get (by omega) (by omega), if_neg (by omega)]
                have zd : (mxR b C r)[done]?.getD [] = b[done]?.getD [] := by
                  rw [mxR_get (by omega) (by omega)]
                  split
                  · rw [ce done (by omega), if_pos rfl]
                  · rfl
                have sr := mxR_set (A := b) (C := C) (by omega) (show r < b.length by omega) []
                have sr0 : r = done → mxR b C (r + 1) = mxR b C r := fun e => by
                  rw [← sr, ce r (by omega), if_pos e, ← zd, ← e]
                  refine List.ext_getElem? fun j => ?_
                  rw [List.getElem?_set]
                  split
                  · rename_i ej; subst ej; simp [gr2]
                  · rfl
                rw [zr] at gr3
                rw [zd] at gd3
                have br1 := br.at (show r < b.length by omega)
                have bd1 := br.at (show done < b.length by omega)
                have nr := mx_N br (show r < b.length by omega) k
                have mr : (b[r]?.getD [])[k]?.getD 0 = mx b r k := rfl
                have kr1 : k < (b[r]?.getD []).length := by omega
                have fr : fits (- mx b r k) := ⟨by have := nr.2; omega, by have := nr.1; omega⟩
                have cP := plus_c (b[r]?.getD []) (b[done]?.getD []) (- mx b r k) br1.2 bd1.2 fr (by omega) (by omega)
                have setr := rmat_set (mxR b C r) r (plusS (b[r]?.getD []) (b[done]?.getD []) (- mx b r k))
                rw [plusS_len] at setr
                generalize hZ : mxR b C r = Z at *
                generalize hZ2 : mxR b C (r + 1) = Z2 at *
                have kne1 : ¬ b[r]?.getD [] = [] := fun e => by rw [e] at kr1; simp at kr1
                by_cases hrd : r = done
                · have h2 := sr0 hrd
                  have hdM : done < M.length := by omega
                  simp [go_sem, hrd, hdM]
                  exact ⟨by omega, r + 1, by omega, by omega, Off_reset _ _ _ (by simp), by rw [hZ2, h2], by omega⟩
                · have hcr := ce r (by omega)
                  rw [if_neg hrd] at hcr
                  rw [hcr] at sr
                  rw [sr] at setr
                  have hri : ¬ ((r : Nat) : Int) = done := by omega
                  simp [go_sem, hrl, hrd, hri, gd3, gr3, avs_drop kr1, mr, -getElem?_pos]
                  refine ⟨by kernel_rfl, by omega, ⟨kr1, kne1⟩, ⟨by have := nr.2; omega, by have := nr.1; omega⟩, ?_⟩
                  refine CallD.of cP (by simp [go_sem, roots, rootsL]) (by decide) ?_
                  simp [go_sem, setr]
                  refine ⟨by omega, by omega, ?_⟩
                  refine ⟨by kernel_rfl, ?_⟩
                  simp [go_sem]
                  exact ⟨by omega, r + 1, by omega, by omega, Off_reset _ _ _ (by simp), by rw [hZ2], by omega⟩
              · have e2 : r = M.length := by omega
                subst e2
                have eC : mxR b C M.length = C := by rw [← bl]; exact mxR_all (by omega)
                rw [eC]
                simp [go_sem]
                refine ⟨⟨by omega, by omega⟩, ⟨by omega, by omega⟩, k + 1, C, D * mx M done k % 10007, done + 1, ⟨by omega, by omega, cr, isN_mod _, by omega, hst⟩, by omega, (by repeat (first | exact Off_reset _ _ _ (by simp) | (refine Off.reset (by intro x hx; simp at hx ⊢; omega) (by simp) ?_; simp -failIfUnchanged [go_sem, Off_reset]))), ⟨by omega, rfl⟩, rfl, by omega, by omega⟩
            · refine ⟨by kernel_rfl, ⟨by have := hd.2; omega, by have := hd.1; omega⟩, ?_⟩
              refine CallVC.of (num_c _ (by have := hd.2; omega) (by have := hd.1; omega)) (by decide) ?_
              simp [go_sem]
              generalize (- det) % 10007 = D at *
              rw [ml]
              have nd := mx_N hMr (show done < M.length by omega) k
              have gd := rmat_get (show done < M.length by omega)
              have rd := hMr.at (show done < M.length by omega)
              have kd : k < (M[done]?.getD []).length := by omega
              have mxd : (M[done]?.getD [])[k]?.getD 0 = mx M done k := rfl
              have f1 := mul_fits hDN nd
              have set1 := rmat_set M done (scalS (M[done]?.getD []) (pw (mx M done k) 10005))
              rw [scalS_len] at set1
              have hsc : M.set done (scalS (M[done]?.getD []) (pw (mx M done k) 10005)) = scl M done k := rfl
              rw [hsc] at set1
              have bl := scl_len M done k
              have br := scl_ok hMr (k := k) (show done < M.length by omega)
              have cI := inv_c (mx M done k) nd
              have pb : fits (pw (mx M done k) 10005) := by have := isN_mod ((mx M done k) ^ (10005 : Int).toNat); exact ⟨by have := this.1; show _ ≤ _ % _; omega, by have := this.2; show _ % _ ≤ _; omega⟩
              have cS := scaled_c (M[done]?.getD []) (pw (mx M done k) 10005) rd.2 pb (by omega)
              clear hsc
              generalize hb : scl M done k = b at *
              simp [go_sem, gd, avs_drop kd, mxd]
              have kne : ¬ M[done]?.getD [] = [] := fun e => by rw [e] at kd; simp at kd
              refine ⟨by omega, ⟨kd, kne⟩, f1, ?_⟩
              refine CallVC.of (num_c _ f1.1 f1.2) (by decide) ?_
              simp [go_sem]
              simp [go_sem, gd, avs_drop kd, mxd]
              refine ⟨by kernel_rfl, by omega, ⟨kd, kne⟩, ?_⟩
              refine CallD.of (cI) (by simp [roots, rootsL]) (by decide) ?_
              simp [go_sem]
              refine CallD.of cS (by simp [go_sem, roots, rootsL]) (by decide) ?_
              simp [go_sem, gd, set1]
              refine ⟨by omega, ?_⟩
              refine ⟨by kernel_rfl, ?_⟩
              simp [go_sem]
              have ce : ∀ r, r < b.length → (elD b done k)[r]?.getD [] = if r = done then b[done]?.getD [] else plusS (b[r]?.getD []) (b[done]?.getD []) (- mx b r k) := fun r hr => elD_row hr
              have cl := elD_len b done k
              have cr := elD_ok br (k := k) (show done < b.length by omega)
              generalize elD b done k = C at *
              refine loop_inv ([9] ++ List.range' 100 27 ++ [4]) (fun r : Nat => [(4, .own 35 M.length (mat (mxR b C r))), (100, .int r)]) (fun r => r ≤ M.length) (fun r => M.length - r) 0 (by simp) (by simp [go_sem, mxR_zero]) (by simp [go_sem, rmat_kl]) ?_
              intro r hr1
              by_cases hrl : r < M.length
              · have Zl := mxR_len (A := b) (C := C) (by omega) (show r ≤ b.length by omega)
                have gd2 : done < (mxR b C r).length := by omega
                have gr2 : r < (mxR b C r).length := by omega
                have gd3 := rmat_get gd2
                have gr3 := rmat_get gr2
                have zr : (mxR b C r)[r]?.getD [] = b[r]?.getD [] := by rw [mxR_get (by omega) (by omega), if_neg (by omega)]
                have zd : (mxR b C r)[done]?.getD [] = b[done]?.getD [] := by
                  rw [mxR_get (by omega) (by omega)]
                  split
                  · rw [ce done (by omega), if_pos rfl]
                  · rfl
                have sr := mxR_set (A := b) (C := C) (by omega) (show r < b.length by omega) []
                have sr0 : r = done → mxR b C (r + 1) = mxR b C r := fun e => by
                  rw [← sr, ce r (by omega), if_pos e, ← zd, ← e]
                  refine List.ext_getElem? fun j => ?_
                  rw [List.getElem?_set]
                  split
                  · rename_i ej; subst ej; simp [gr2]
                  · rfl
                rw [zr] at gr3
                rw [zd] at gd3
                have br1 := br.at (show r < b.length by omega)
                have bd1 := br.at (show done < b.length by omega)
                have nr := mx_N br (show r < b.length by omega) k
                have mr : (b[r]?.getD [])[k]?.getD 0 = mx b r k := rfl
                have kr1 : k < (b[r]?.getD []).length := by omega
                have fr : fits (- mx b r k) := ⟨by have := nr.2; omega, by have := nr.1; omega⟩
                have cP := plus_c (b[r]?.getD []) (b[done]?.getD []) (- mx b r k) br1.2 bd1.2 fr (by omega) (by omega)
                have setr := rmat_set (mxR b C r) r (plusS (b[r]?.getD []) (b[done]?.getD []) (- mx b r k))
                rw [plusS_len] at setr
                generalize hZ : mxR b C r = Z at *
                generalize hZ2 : mxR b C (r + 1) = Z2 at *
                have kne1 : ¬ b[r]?.getD [] = [] := fun e => by rw [e] at kr1; simp at kr1
                by_cases hrd : r = done
                · have h2 := sr0 hrd
                  have hdM : done < M.length := by omega
                  simp [go_sem, hrd, hdM]
                  exact ⟨by omega, r + 1, by omega, by omega, Off_reset _ _ _ (by simp), by rw [hZ2, h2], by omega⟩
                · have hcr := ce r (by omega)
                  rw [if_neg hrd] at hcr
                  rw [hcr] at sr
                  rw [sr] at setr
                  have hri : ¬ ((r : Nat) : Int) = done := by omega
                  simp [go_sem, hrl, hrd, hri, gd3, gr3, avs_drop kr1, mr, -getElem?_pos]
                  refine ⟨by kernel_rfl, by omega, ⟨kr1, kne1⟩, ⟨by have := nr.2; omega, by have := nr.1; omega⟩, ?_⟩
                  refine CallD.of cP (by simp [go_sem, roots, rootsL]) (by decide) ?_
                  simp [go_sem, setr]
                  refine ⟨by omega, by omega, ?_⟩
                  refine ⟨by kernel_rfl, ?_⟩
                  simp [go_sem]
                  exact ⟨by omega, r + 1, by omega, by omega, Off_reset _ _ _ (by simp), by rw [hZ2], by omega⟩
              · have e2 : r = M.length := by omega
                subst e2
                have eC : mxR b C M.length = C := by rw [← bl]; exact mxR_all (by omega)
                rw [eC]
                simp [go_sem]
                refine ⟨⟨by omega, by omega⟩, ⟨by omega, by omega⟩, k + 1, C, D * mx M done k % 10007, done + 1, ⟨by omega, by omega, cr, isN_mod _, by omega, hst⟩, by omega, (by repeat (first | exact Off_reset _ _ _ (by simp) | (refine Off.reset (by intro x hx; simp at hx ⊢; omega) (by simp) ?_; simp -failIfUnchanged [go_sem, Off_reset]))), ⟨by omega, rfl⟩, rfl, by omega, by omega⟩
      · have e0 : i = m.length := by omega
        subst e0
        rw [Nat.sub_self, fndR] at hi3
        have hsr : stepR m det done k = (m, 0, done) := by unfold stepR; rw [if_pos hi3.symm]
        rw [hsr] at hst
        simp [go_sem]
        exact ⟨by omega, k + 1, m, 0, done, ⟨by omega, hm, hmr, ⟨by omega, by omega⟩, hdn, hst⟩, by omega, (Off.reset (by intro x hx; simp at hx ⊢; omega) (by simp) (by simp [go_sem, Off_reset])), ⟨rfl, rfl⟩, by omega⟩
    · have hf := fin (by omega)
      have hed : done = m.length := by omega
      rw [hf]
      simp [go_sem, g0, m0, r0, hkw, hdl, -getElem?_pos]
      exact ⟨by omega, rmat_take _ _⟩
  · have hf := fin (by omega)
    rw [hf]
    simp [go_sem, g0, m0, r0, hkw, -getElem?_pos]
    exact ⟨by omega, rmat_take _ _⟩
end Go.Proofs.YtoeikpioonlmfaaGreat


namespace Go.Proofs.YtoeikpioonlmfaaGreat
open Go.Abs
set_option linter.unusedSectionVars false
set_option linter.unusedVariables false
set_option linter.unusedSimpArgs false
set_option maxHeartbeats 4000000
theorem memR {α : Type} {l : List α} {i : Nat} (d : α) (h : i < l.length) : l[i]?.getD d ∈ l := by simp [h]
theorem avs_tk (xs : List Int) (k : Nat) : (avs xs).take k = avs (xs.take k) := by simp [avs, List.map_take]
theorem avs_dp (xs : List Int) (k : Nat) : (avs xs).drop k = avs (xs.drop k) := by simp [avs, List.map_drop]
def outL (r : List Int) (k : Nat) : List Int := r.take k ++ r.drop (k + 1)
theorem outL_len {r : List Int} {k : Nat} (h : k < r.length) : (outL r k).length = r.length - 1 := by simp [outL]; omega
theorem minL_succ {a : List (List Int)} {k i : Nat} (h : i + 1 < a.length) : ((List.range (i + 1)).map fun r => outL (a[r + 1]?.getD []) k) = ((List.range i).map fun r => outL (a[r + 1]?.getD []) k) ++ [outL (a[i + 1]?.getD []) k] := by
  rw [List.range_succ, List.map_append]; rfl
set_option maxRecDepth 100000 in
theorem l01Minor_c (a : List (List Int)) (k : Nat) (h0 : 0 < a.length) (hl : a.length ≤ 1000) (hr : ∀ r ∈ a, r.length = a.length) (hk : k < a.length) :
    Con Tryz.prog 199 [.sl a.length (mat a), .int k] (.own 35 (a.length - 1) (omat (minL a k))) := by
  have hm : minL a k = (List.range (a.length - 1)).map fun r => outL (a[r + 1]?.getD []) k := rfl
  rw [hm]
  refine con_of_vc Tryz.mixed ⟨8, [], [], []⟩ Tryz.func199 (by decide) rfl (by simp) (by decide) (by simp [freshOK, freshL, go_sem]) ?_
  rw [Tryz.ntmps199]
  simp [go_sem]
  refine loop_inv (5 :: 6 :: 7 :: List.range' 9 25) (fun i : Nat => [(5, .own 35 i (omat ((List.range i).map fun r => outL (a[r + 1]?.getD []) k))), (6, .int (i + 1))]) (fun i => i + 1 ≤ a.length) (fun i => a.length - i) 0 (by simp; omega) (by simp [go_sem, omat]) (by simp [go_sem]) ?_
  intro i hi
  simp [go_sem]
  refine ⟨fun h => ?_, fun h => ?_⟩ <;> simp at h
  · have hif : i + 1 < a.length := by omega
    have hx := hr _ (memR [] hif)
    have ii : ((i : Int) + 1).toNat = i + 1 := by omega
    have ol := outL_len (r := a[i + 1]?.getD []) (k := k) (by omega)
    have hs := minL_succ (k := k) hif
    have hdr := mat_drop hif
    have hoo : outL (a[i + 1]?.getD []) k = (a[i + 1]?.getD []).take k ++ (a[i + 1]?.getD []).drop (k + 1) := rfl
    generalize a[i + 1]?.getD [] = row at *
    have cO := l01Own_c (row.take k) (by simp; omega)
    have tl : (row.take k).length = k := by simp; omega
    rw [tl] at cO
    simp [go_sem, ii, hdr, avs_tk, avs_dp]
    have kk : ((k : Int) + 1).toNat = k + 1 := by omega
    refine ⟨⟨by omega, by omega, by rintro rfl; simp at hif⟩, by omega, ?_⟩
    refine CallVC.of (cO) (by decide) ?_
    simp [go_sem]
    simp [go_sem, ii, hdr, kk, avs_tk, avs_dp]
    have n1 : k + ((row.length : Int) - ((k : Int) + 1)).toNat = (outL row k).length := by omega
    have n2 : avs (row.take k) ++ avs ((row.drop (k + 1)).take ((row.length : Int) - ((k : Int) + 1)).toNat) = avs (outL row k) := by
      have n3 : (row.drop (k + 1)).take ((row.length : Int) - ((k : Int) + 1)).toNat = row.drop (k + 1) := List.take_of_length_le (by simp; omega)
      rw [n3, ← avs_app, hoo]
    refine ⟨⟨by omega, by omega, by rintro rfl; simp at hif⟩, ⟨by omega, by omega⟩, ⟨by omega, by omega⟩, ⟨by omega, by omega, by omega, by omega⟩, ⟨by omega, by omega⟩, ⟨by omega, by omega⟩, i + 1, by omega, by omega, Off_reset _ _ _ (by simp), ⟨rfl, ?_⟩, by omega⟩
    rw [n1, n2, hs]
    simp [omat]
  · have e : i = a.length - 1 := by omega
    subst e
    simp [go_sem]
theorem lsum_N {t : Nat → Int} : ∀ n, isN (lsum t n)
  | 0 => ⟨by simp [lsum], by simp [lsum]⟩
  | n + 1 => by rw [lsum]; split <;> exact isN_mod _
theorem ldet_isN (n : Nat) (a : List (List Int)) (hl : a.length = n) (hr : Rws n a) : isN (ldet n a) := by
  cases n with
  | zero => exact ⟨by simp [ldet], by simp [ldet]⟩
  | succ n => rw [ldet_is _ a hl hr]; exact isN_mod _
def clrE (a : List (List Int)) (i : Nat) (q : Int) (k j : Nat) : Int := (mx a k (j + 1) - mx a k 0 * q % 10007 * mx a i (j + 1) % 10007) % 10007
theorem clrE_is (a : List (List Int)) (i : Nat) (q : Int) (k j : Nat) : (mx a k (j + 1) - mx a k 0 * q % 10007 * mx a i (j + 1)) % 10007 = clrE a i q k j := by unfold clrE; simp
def rowR (a : List (List Int)) (i : Nat) (q : Int) (k : Nat) : List Int := tb (clrE a i q k) (a.length - 1)
def skp (i r : Nat) : Nat := if r < i then r else r + 1
def cnt (i k : Nat) : Nat := if k ≤ i then k else k - 1
theorem restL_eq (a : List (List Int)) (i : Nat) (q : Int) : restL a i q = (List.range (a.length - 1)).map fun r => rowR a i q (skp i r) := rfl
theorem cnt_same {i k : Nat} (h : k = i) : cnt i (k + 1) = cnt i k := by unfold cnt; rw [if_neg (by omega), if_pos (by omega)]; omega
theorem cnt_next {i k : Nat} (h : k ≠ i) : cnt i (k + 1) = cnt i k + 1 ∧ skp i (cnt i k) = k := by
  unfold cnt skp
  by_cases h1 : k < i
  · rw [if_pos (by omega), if_pos (by omega), if_pos h1]; exact ⟨rfl, rfl⟩
  · rw [if_neg (by omega), if_neg (show ¬ k ≤ i by omega), if_neg (by omega)]; exact ⟨by omega, by omega⟩
set_option maxRecDepth 100000 in
theorem l01Det_c : ∀ (n : Nat) (a : List (List Int)), a.length = n → n ≤ 100 → Rws n a → Con Tryz.prog 146 [.sl a.length (mat a)] (.int (ldet n a))
  | 0, a, hl, hn, hr => by
    have h0 : a = [] := List.length_eq_zero_iff.1 hl
    subst h0
    refine con_of_vc Tryz.mixed ⟨13, [], [], []⟩ Tryz.func146 (by decide) rfl (by simp) (by decide) (by simp [freshOK, freshL, go_sem]) ?_
    rw [Tryz.ntmps146]
    simp [go_sem]
    rfl
  | n + 1, a, hl, hn, hr => by
    have ih := fun b hb hbr => l01Det_c n b hb (by omega) hbr
    have h0 : ¬ a.length = 0 := by omega
    have ne : ¬ a = [] := by rintro rfl; simp at hl
    have rl : ∀ r ∈ a, r.length = a.length := fun r h => by rw [(hr r h).1, hl]
    have m0 := mat_drop (xss := a) (k := 0) (by omega)
    simp only [List.drop_zero] at m0
    have m1 : AV.sl (a[0]?.getD []).length (avs (a[0]?.getD [])) :: mat a.tail = mat a := by cases a with | nil => simp at hl | cons x l => simp [mat]
    have r0 := hr.at (show 0 < a.length by omega)
    by_cases h4 : n + 1 ≤ 4
    · have h4' : (a.length : Int) ≤ 4 := by omega
      have e0 : ldet (n + 1) a = lsum (fun k => mx a 0 k * ldet n (minL a k) % 10007) (n + 1) := by rw [ldet, if_pos h4]
      rw [e0]
      refine con_of_vc Tryz.mixed ⟨13, [], [], []⟩ Tryz.func146 (by decide) rfl (by simp) (by decide) (by simp [freshOK, freshL, go_sem]) ?_
      rw [Tryz.ntmps146]
      simp [go_sem]
      simp [go_sem, h0, h4', ne]
      refine loop_inv (3 :: 4 :: 5 :: List.range' 19 26) (fun k : Nat => [(3, .int (lsum (fun k => mx a 0 k * ldet n (minL a k) % 10007) k)), (4, .int k)]) (fun k => k ≤ n + 1) (fun k => n + 1 - k) 0 (by simp) (by simp [go_sem, lsum]) (by simp [go_sem]) ?_
      intro k hk
      by_cases hkn : k < n + 1
      · have hki : (k : Int) < a.length := by omega
        have kr : k < (a[0]?.getD []).length := by omega
        have mm : (a[0]?.getD [])[k]?.getD 0 = mx a 0 k := rfl
        have cM := l01Minor_c a k (by omega) (by omega) rl (by omega)
        have ml := minL_len a k
        have mr := minL_ok hl hr hkn
        have cD := ih (minL a k) (by omega) mr
        rw [ml] at cD
        have dN := ldet_isN n (minL a k) (by omega) mr
        have f1 := mul_fits (r0.2.get k) dN
        have ls : lsum (fun k => mx a 0 k * ldet n (minL a k) % 10007) (k + 1) = if k % 2 = 0 then (lsum (fun k => mx a 0 k * ldet n (minL a k) % 10007) k + mx a 0 k * ldet n (minL a k) % 10007) % 10007 else (lsum (fun k => mx a 0 k * ldet n (minL a k) % 10007) k - mx a 0 k * ldet n (minL a k) % 10007) % 10007 := rfl
        have lN := lsum_N (t := fun k => mx a 0 k * ldet n (minL a k) % 10007) k
        have pN := isN_mod (mx a 0 k * ldet n (minL a k))
        simp [go_sem, hki, m0, avs_drop kr, mm]
        simp only [m1]
        have krn : ¬ a[0]?.getD [] = [] := fun e => by rw [e] at kr; simp at kr
        rw [mm] at f1
        refine ⟨by kernel_rfl, by omega, ⟨kr, krn⟩, ?_⟩
        refine CallD.of (cM) (by simp [roots, rootsL]) (by decide) ?_
        simp [go_sem]
        refine CallD.of (cD) (by simp [roots, rootsL]) (by decide) ?_
        simp [go_sem]
        refine CallD.of (l01Mul_c _ _ f1) (by simp [roots, rootsL]) (by decide) ?_
        simp [go_sem]
        refine ⟨by kernel_rfl, ?_⟩
        simp [go_sem]
        have kt : ((k : Nat) : Int).tmod 2 = ((k % 2 : Nat) : Int) := bit_cast k
        simp [go_sem, kt]
        generalize lsum (fun k => mx a 0 k * ldet n (minL a k) % 10007) k = L at *
        generalize mx a 0 k * ldet n (minL a k) % 10007 = p at *
        have fa := add_fits lN pN
        have fs := sub_fits lN pN
        refine ⟨fun h => ?_, fun h => ?_⟩ <;> simp at h
        · have h2 : k % 2 = 0 := by omega
          rw [if_pos h2] at ls
          simp [go_sem]
          refine CallVC.of (l01Add_c _ _ fa) (by decide) ?_
          simp [go_sem]
          exact ⟨by omega, k + 1, by omega, by omega, Off_reset _ _ _ (by simp), by rw [ls], by omega⟩
        · have h2 : ¬ k % 2 = 0 := by omega
          rw [if_neg h2] at ls
          simp [go_sem]
          refine CallVC.of (l01Sub_c _ _ fs) (by decide) ?_
          simp [go_sem]
          exact ⟨by omega, k + 1, by omega, by omega, Off_reset _ _ _ (by simp), by rw [ls], by omega⟩
      · have : k = n + 1 := by omega
        subst this
        have hki : ¬ (n : Int) + 1 < a.length := by omega
        simp [go_sem, hki]
    · have h4' : ¬ (a.length : Int) ≤ 4 := by omega
      have fl := fndR_le a 0 (n + 1) 0
      refine con_of_vc Tryz.mixed ⟨13, [], [], []⟩ Tryz.func146 (by decide) rfl (by simp) (by decide) (by simp [freshOK, freshL, go_sem]) ?_
      rw [Tryz.ntmps146]
      simp [go_sem]
      simp [go_sem, h0, h4', ne]
      refine loop_inv ([2] ++ List.range' 6 7 ++ List.range' 46 83) (fun i : Nat => [(6, .int i)]) (fun i => i ≤ n + 1 ∧ fndR a 0 (n + 1 - i) i = fndR a 0 (n + 1) 0) (fun i => n + 1 - i) 0 (by simp) (by simp [go_sem]) (by simp [go_sem]) ?_
      rintro i ⟨hi, hi2⟩
      by_cases hin : i < n + 1
      · have hii : (i : Int) < a.length := by omega
        have hia : i < a.length := by omega
        have ri := hr.at hia
        have k0 : 0 < (a[i]?.getD []).length := by omega
        have mm : (a[i]?.getD [])[0]?.getD 0 = mx a i 0 := rfl
        have di := avs_drop k0
        simp only [List.drop_zero] at di
        have hfi : fndR a 0 (n + 1 - i) i = if mx a i 0 = 0 then fndR a 0 (n + 1 - (i + 1)) (i + 1) else i := by
          rw [show n + 1 - i = (n + 1 - (i + 1)) + 1 by omega, fndR]
        have kne : ¬ a[i]?.getD [] = [] := fun e => by rw [e] at k0; simp at k0
        simp [go_sem, hii, mat_drop hia, di, mm]
        refine ⟨ne, k0, ?_⟩
        by_cases hz : mx a i 0 = 0
        · rw [if_pos hz] at hfi
          simp [go_sem, hz]
          exact ⟨by omega, i + 1, ⟨by omega, by rw [← hi2, hfi]⟩, by omega, Off_reset _ _ _ (by simp), by omega⟩
        · rw [if_neg hz, hi2] at hfi
          have xN := mx_N hr hia 0
          have e0 : ldet (n + 1) a = if i % 2 = 1 then (0 - mx a i 0 * ldet n (restL a i (pw (mx a i 0) 10005)) % 10007) % 10007 else mx a i 0 * ldet n (restL a i (pw (mx a i 0) 10005)) % 10007 := by
            rw [ldet, if_neg h4, hfi, if_neg (by omega)]
          rw [e0]
          clear e0 hi2
          have qN : isN (pw (mx a i 0) 10005) := isN_mod _
          simp [go_sem, hz, mat_drop hia, di, mm]
          refine ⟨⟨hia, ne⟩, k0, ?_⟩
          refine CallVC.of (l01Inv_c _ xN) (by decide) ?_
          simp [go_sem]
          generalize pw (mx a i 0) 10005 = q at *
          refine loop_inv ([7, 9, 10, 11] ++ List.range' 67 47) (fun k : Nat => [(7, .own 35 (cnt i k) (omat ((List.range (cnt i k)).map fun r => rowR a i q (skp i r)))), (9, .int k)]) (fun k => k ≤ n + 1) (fun k => n + 1 - k) 0 (by simp) (by simp [go_sem, cnt, omat]) (by simp [go_sem]) ?_
          intro k hk
          by_cases hkn : k < n + 1
          · have hkl : (k : Int) < a.length := by omega
            have hka : k < a.length := by omega
            by_cases hki : k = i
            · have hkii : (k : Int) = i := by omega
              have cs := cnt_same hki
              simp [go_sem, hkl, hkii, hii]
              exact ⟨by omega, k + 1, by omega, by omega, Off_reset _ _ _ (by simp), by rw [cs]; exact ⟨rfl, rfl⟩, by omega⟩
            · have hkii : ¬ (k : Int) = i := by omega
              have cs := cnt_next hki
              have rk := hr.at hka
              have kk0 : 0 < (a[k]?.getD []).length := by omega
              simp [go_sem, hkl, hkii]
              refine loop_inv ([10, 11] ++ List.range' 77 33) (fun j : Nat => [(10, .own 2 j (avs (tb (clrE a i q k) j))), (11, .int (j + 1))]) (fun j => j ≤ n) (fun j => n - j) 0 (by simp) (by simp [go_sem]) (by simp [go_sem]) ?_
              intro j hj
              by_cases hjn : j < n
              · have hjl : (j : Int) + 1 < a.length := by omega
                have jj : ((j : Int) + 1).toNat = j + 1 := by omega
                have dk0 : avs (a[k]?.getD []) = .val (.int .i64 (mx a k 0)) :: avs (a[k]?.getD []).tail := by
                  have := avs_drop kk0
                  rw [List.drop_zero, List.drop_one] at this
                  rw [this]; rfl
                have dk1 : (avs (a[k]?.getD []).tail).drop j = .val (.int .i64 (mx a k (j + 1))) :: avs ((a[k]?.getD []).drop (j + 2)) := by
                  rw [← List.drop_one, avs_drop (by simp; omega)]
                  congr 1
                  · simp [mx, Nat.add_comm]
                  · rw [List.drop_drop]; congr 2; omega
                have di1 : (avs (a[i]?.getD [])).drop (j + 1) = .val (.int .i64 (mx a i (j + 1))) :: avs ((a[i]?.getD []).drop (j + 2)) := by
                  rw [avs_drop (by omega)]; rfl
                have n1 := mx_N hr hka (j + 1)
                have n2 := mx_N hr hka 0
                have n3 := mx_N hr hia (j + 1)
                have f1 := mul_fits n2 qN
                have f2 := mul_fits (isN_mod (mx a k 0 * q)) n3
                have f3 := sub_fits n1 (isN_mod (mx a k 0 * q % 10007 * mx a i (j + 1)))
                have ts := tb_succ (clrE a i q k) j
                simp [go_sem, hjl, jj, mat_drop hka, mat_drop hia, dk0, dk1, di1]
                refine ⟨by kernel_rfl, ⟨hka, ne⟩, ⟨by omega, by omega⟩, ⟨hka, ne⟩, kk0, ?_⟩
                refine CallD.of (l01Mul_c _ _ f1) (by simp [roots, rootsL]) (by decide) ?_
                simp [go_sem]
                simp [go_sem, jj, mat_drop hia, di1]
                refine ⟨⟨hia, ne⟩, ⟨by omega, by omega, kne⟩, ?_⟩
                refine CallD.of (l01Mul_c _ _ f2) (by simp [roots, rootsL]) (by decide) ?_
                simp [go_sem]
                refine CallD.of (l01Sub_c _ _ f3) (by simp [roots, rootsL]) (by decide) ?_
                simp [go_sem]
                refine ⟨by omega, ?_⟩
                refine ⟨by kernel_rfl, ?_⟩
                simp [go_sem]
                exact ⟨⟨by omega, by omega⟩, j + 1, by omega, by omega, Off_reset _ _ _ (by simp), by rw [ts, avs_snoc, clrE_is]; exact ⟨rfl, rfl⟩, by omega⟩
              · have e2 : j = n := by omega
                subst e2
                have hjl : ¬ (j : Int) + 1 < a.length := by omega
                have e4 : tb (clrE a i q k) j = rowR a i q k := by unfold rowR; rw [hl, Nat.add_sub_cancel]
                have e5 : omat ((List.range (cnt i k + 1)).map fun r => rowR a i q (skp i r)) = omat ((List.range (cnt i k)).map fun r => rowR a i q (skp i r)) ++ [.own 2 j (avs (rowR a i q k))] := by
                  have rl2 : (rowR a i q k).length = j := by unfold rowR; simp; omega
                  rw [omat_range_succ, cs.2, rl2]
                have cb : cnt i k ≤ k := by unfold cnt; split <;> omega
                simp [go_sem, hjl]
                exact ⟨by omega, by omega, k + 1, by omega, by omega, (Off.reset (by intro x hx; simp at hx ⊢; omega) (by simp) (by simp [go_sem, Off_reset])), by rw [cs.1, e5, e4]; exact ⟨rfl, rfl⟩, by omega⟩
          · have e1 : k = n + 1 := by omega
            subst e1
            have hki : ¬ (n : Int) + 1 < a.length := by omega
            have ec : cnt i (n + 1) = n := by unfold cnt; split <;> omega
            have er := restL_eq a i q
            rw [hl, Nat.add_sub_cancel] at er
            have ro := restL_ok hl i q
            have cD := ih (restL a i q) ro.1 ro.2
            rw [ro.1] at cD
            have dN := ldet_isN n (restL a i q) ro.1 ro.2
            rw [ec, ← er]
            have f1 := mul_fits xN dN
            have f2 := sub_fits (show isN 0 from ⟨by omega, by omega⟩) (isN_mod (mx a i 0 * ldet n (restL a i q)))
            simp [go_sem, hki, mat_drop hia, di, mm]
            refine ⟨by kernel_rfl, ⟨hia, ne⟩, k0, ?_⟩
            refine CallD.of (cD) (by simp [roots, rootsL]) (by decide) ?_
            simp [go_sem]
            refine CallD.of (l01Mul_c _ _ f1) (by simp [roots, rootsL]) (by decide) ?_
            simp [go_sem]
            refine ⟨by kernel_rfl, ?_⟩
            simp [go_sem]
            refine ⟨fun h => ?_, fun h => ?_⟩ <;> simp at h
            · have h2 : i % 2 = 1 := by have := bit_cast i; omega
              rw [if_pos h2]
              simp [go_sem]
              refine CallVC.of (l01Sub_c _ _ f2) (by decide) ?_
              simp [go_sem]
            · have h2 : ¬ i % 2 = 1 := by have := bit_cast i; omega
              rw [if_neg h2]
              simp [go_sem]
      · have : i = n + 1 := by omega
        subst this
        have hki : ¬ (n : Int) + 1 < a.length := by omega
        rw [Nat.sub_self, fndR] at hi2
        have e0 : ldet (n + 1) a = 0 := by rw [ldet, if_neg h4, if_pos hi2.symm]
        rw [e0]
        simp [go_sem, hki]
end Go.Proofs.YtoeikpioonlmfaaGreat


namespace Go.Proofs.YtoeikpioonlmfaaGreat
open Go.Abs
set_option linter.unusedSectionVars false
set_option linter.unusedVariables false
set_option linter.unusedSimpArgs false
set_option maxHeartbeats 4000000
theorem omat_kl (W : List Nat) (A : List (List Int)) : klL W (omat A) = omat A := by
  induction A with
  | nil => rfl
  | cons r A ih => simp only [omat, List.map_cons] at ih ⊢; rw [klL, ih]; rfl
def sysF (n : Nat) (a : List (List Int)) (b : List Int) (k : Nat) : Int := ldet n (repL a k b) * pw (ldet n a) 10005 % 10007
def solX (n : Nat) (a : List (List Int)) (b : List Int) : List Int := if ldet n a = 0 then [] else tb (sysF n a b) n
def solR (n : Nat) (a : List (List Int)) (b : List Int) : AV := .tup [.own 2 (solX n a b).length (avs (solX n a b)), .bool (decide (ldet n a ≠ 0))]
theorem repL_row {a : List (List Int)} {k i : Nat} {b : List Int} (hi : i < a.length) : (repL a k b)[i]?.getD [] = (a[i]?.getD []).set k (b[i]?.getD 0) := by simp [repL, hi]
set_option maxRecDepth 100000 in
theorem l01Solve_c {n : Nat} (a : List (List Int)) (b : List Int) (hl : a.length = n) (hn : n ≤ 100) (hr : Rws n a) (hb : Ns b) (hbl : n ≤ b.length) :
    Con Tryz.prog 147 [.sl a.length (mat a), .sl b.length (avs b)] (solR n a b) := by
  have cD := l01Det_c n a hl hn hr
  have dN := ldet_isN n a hl hr
  unfold solR solX
  by_cases h0 : ldet n a = 0
  · rw [if_pos h0]
    simp only [h0, ne_eq, not_true_eq_false, decide_false]
    refine Con.n1 _ ?_
    rw [h0] at cD
    refine con_of_vc Tryz.mixed ⟨11, [], [], []⟩ Tryz.func147 (by decide) rfl (by simp) (by decide) (by simp [freshOK, freshL, go_sem]) ?_
    rw [Tryz.ntmps147]
    simp [go_sem]
    refine CallVC.of (cD) (by decide) ?_
    simp [go_sem]
  · rw [if_neg h0]
    simp only [h0, ne_eq, not_false_eq_true, decide_true, tb_len]
    have sF : ∀ k, sysF n a b k = ldet n (repL a k b) * pw (ldet n a) 10005 % 10007 := fun k => rfl
    generalize ldet n a = d at *
    refine con_of_vc Tryz.mixed ⟨11, [], [], []⟩ Tryz.func147 (by decide) rfl (by simp) (by decide) (by simp [freshOK, freshL, go_sem]) ?_
    rw [Tryz.ntmps147]
    simp [go_sem]
    refine CallVC.of (cD) (by decide) ?_
    simp [go_sem]
    simp [go_sem, h0]
    refine loop_inv ([7, 8, 9, 10] ++ List.range' 16 32) (fun k : Nat => [(7, .own 2 k (avs (tb (sysF n a b) k))), (8, .int k)]) (fun k => k ≤ n) (fun k => n - k) 0 (by simp) (by simp [go_sem]) (by simp [go_sem]) ?_
    intro k hk
    by_cases hkn : k < n
    · have hki : (k : Int) < a.length := by omega
      have rl : ∀ r ∈ a, r.length ≤ 1048576 := fun r h => by have := (hr r h).1; omega
      have cO := l01Own2_c a (by omega) rl
      have ro := repL_ok (b := b) hl hr hb k
      have rw' : ∀ i, i < a.length → (repL a k b)[i]?.getD [] = (a[i]?.getD []).set k (b[i]?.getD 0) := fun i hi => repL_row hi
      have cR := l01Det_c n (repL a k b) ro.1 hn ro.2
      have cR : Con Tryz.prog 146 [.sl a.length (mat (repL a k b))] (.int (ldet n (repL a k b))) := by rw [ro.1] at cR; rw [hl]; exact cR
      have rN := ldet_isN n (repL a k b) ro.1 ro.2
      have hsf := sF k
      generalize repL a k b = B at *
      simp [go_sem, hki]
      refine CallVC.of (cO) (by decide) ?_
      simp [go_sem]
      refine loop_inv ([10] ++ List.range' 24 16 ++ [9]) (fun i : Nat => [(9, .own 35 a.length (omat (mxR a B i))), (10, .int i)]) (fun i => i ≤ n) (fun i => n - i) 0 (by simp) (by simp [go_sem, mxR_zero]) (by simp [go_sem, omat_kl]) ?_
      intro i hi
      by_cases hin : i < n
      · have hii : (i : Int) < a.length := by omega
        have hia : i < a.length := by omega
        have Ml := mxR_len (A := a) (C := B) (by omega) (show i ≤ a.length by omega)
        have hg := omat_get (A := mxR a B i) (k := i) (by omega)
        have hgi : (mxR a B i)[i]?.getD [] = a[i]?.getD [] := by rw [mxR_get (by omega) (by omega), if_neg (by omega)]
        rw [hgi] at hg
        have hset := omat_set (mxR a B i) i (B[i]?.getD [])
        rw [mxR_set (by omega) hia] at hset
        have hnew := rw' i hia
        have ri := hr.at hia
        have hkr : k < (a[i]?.getD []).length := by omega
        have hib : i < b.length := by omega
        generalize mxR a B i = M at *
        generalize B[i]?.getD [] = new at *
        generalize a[i]?.getD [] = old at *
        have bne : ¬ b = [] := by rintro rfl; simp at hib
        simp [go_sem, hii, hg, avs_drop hib]
        refine ⟨by kernel_rfl, ⟨hib, bne⟩, hkr, ?_⟩
        refine ⟨by kernel_rfl, ?_⟩
        simp [go_sem]
        exact ⟨by omega, i + 1, by omega, by omega, Off_reset _ _ _ (by simp), by rw [← hset, hnew, List.length_set, avs_set], by omega⟩
      · have e : i = n := by omega
        subst e
        have hii : ¬ (i : Int) < a.length := by omega
        have hall := mxR_all (A := a) (C := B) (by omega)
        rw [hl] at hall
        rw [hall]
        have ts := tb_succ (sysF i a b) k
        have f1 : fits (ldet i B * pw d 10005) := mul_fits rN (isN_mod _)
        simp [go_sem, hii]
        refine CallVC.of (cR) (by decide) ?_
        simp [go_sem]
        refine CallVC.of (l01Inv_c _ dN) (by decide) ?_
        simp [go_sem]
        refine CallVC.of (l01Mul_c _ _ f1) (by decide) ?_
        simp [go_sem]
        rw [← hsf]
        exact ⟨by omega, by omega, k + 1, by omega, by omega, (Off.reset (by intro x hx; simp at hx ⊢; omega) (by simp) (by simp [go_sem, Off_reset])), by rw [ts, avs_snoc]; exact ⟨rfl, rfl⟩, by omega⟩
    · have e : k = n := by omega
      subst e
      have hki : ¬ (k : Int) < a.length := by omega
      simp [go_sem, hki]
theorem leadL_c (a : List Int) (hl : a.length ≤ 1048576) : Con Tryz.prog 153 [.sl a.length (avs a)] (.int (leadL a)) := by
  refine con_of_vc Tryz.mixed ⟨4, [], [], []⟩ Tryz.func153 (by decide) rfl (by simp) (by decide) (by simp [freshOK, freshL, go_sem]) ?_
  rw [Tryz.ntmps153]
  simp [go_sem]
  refine loop_inv (3 :: List.range' 4 13) (fun i : Nat => [(3, .int i)]) (fun i => i ≤ a.length ∧ ldF a (a.length - i) i = leadL a) (fun i => a.length - i) 0 ⟨by omega, by simp [leadL]⟩ (by simp [go_sem]) (by simp [go_sem]) ?_
  rintro i ⟨hi, he⟩
  by_cases h : i < a.length
  · have hf : ldF a (a.length - i) i = if a[i]?.getD 0 = 0 then ldF a (a.length - (i + 1)) (i + 1) else i := by
      rw [show a.length - i = (a.length - (i + 1)) + 1 by omega, ldF]
    have ne : ¬ a = [] := by rintro rfl; simp at h
    have hii : (i : Int) < a.length := by omega
    by_cases hz : a[i]?.getD 0 = 0
    · rw [if_pos hz] at hf
      simp [go_sem, hii, avs_drop h, hz]
      exact ⟨ne, by omega, i + 1, ⟨by omega, by rw [← he, hf]⟩, by omega, Off_reset _ _ _ (by simp), by omega⟩
    · rw [if_neg hz, he] at hf
      simp [go_sem, hii, avs_drop h, hz]
      exact ⟨ne, by omega⟩
  · have e : i = a.length := by omega
    subst e
    rw [Nat.sub_self, ldF] at he
    simp [go_sem]
    omega
end Go.Proofs.YtoeikpioonlmfaaGreat


namespace Go.Proofs.YtoeikpioonlmfaaGreat
open Go.Abs
set_option linter.unusedSectionVars false
set_option linter.unusedVariables false
set_option linter.unusedSimpArgs false
set_option maxHeartbeats 1000000
theorem Nul.unswp {n w : Nat} {m : List (List Int)} {x : Nat → Int} {i d : Nat} (h : Nul n w (Go.Proofs.YtoeikpioonlmfaaGreat.swp m i d) x) (hl : m.length = n) (hi : i < n) (hd : d < n) : Nul n w m x := by
  have e : ∀ r, mx (Go.Proofs.YtoeikpioonlmfaaGreat.swp m i d) r = updR (updR (mx m) i (mx m d)) d (mx m i) r := fun r => by rw [swp_mx (by omega) (by omega)]
  intro r hr
  by_cases e1 : r = i
  · subst e1
    have := h d hd
    rw [e d, updR_at] at this
    exact this
  · by_cases e2 : r = d
    · subst e2
      have := h i hi
      rw [e i, updR_ne _ _ (fun k => e1 k.symm), updR_at] at this
      exact this
    · have := h r hr
      rw [e r, updR_ne _ _ e2, updR_ne _ _ e1] at this
      exact this
theorem Nul.unscl {n w : Nat} {m : List (List Int)} {x : Nat → Int} {d k : Nat} (h : Nul n w (Go.Proofs.YtoeikpioonlmfaaGreat.scl m d k) x) (hl : m.length = n) (hr : Rws w m) (hd : d < n) (hN : isN (mx m d k)) (h0 : mx m d k ≠ 0) : Nul n w m x := by
  intro r hrn
  have hh := h r hrn
  by_cases e : r = d
  · subst e
    have e1 : dsum (fun c => mx (Go.Proofs.YtoeikpioonlmfaaGreat.scl m r k) r c * x c) w % 10007 = dsum (fun c => (pw (mx m r k) 10005 % 10007) * (mx m r c * x c)) w % 10007 := dsum_cong fun c hc => by
      rw [scl_at hr (by omega) hc, if_pos rfl, mul_mod_l]
      congr 1
      rw [Int.mul_comm (mx m r c), Int.mul_assoc]
    rw [e1, ← dsum_mul] at hh
    have hi := inv_ok hN h0
    generalize dsum (fun c => mx m r c * x c) w = s at *
    generalize mx m r k = p at *
    have e2 : s % 10007 = p * (pw p 10005 % 10007 * s) % 10007 := by
      rw [← Int.mul_assoc, ← mul_mod_l (p * (pw p 10005 % 10007)), mul_mod_r, hi, Int.one_mul]
    rw [e2, ← mul_mod_r, hh]; simp
  · have e1 : dsum (fun c => mx (Go.Proofs.YtoeikpioonlmfaaGreat.scl m d k) r c * x c) w % 10007 = dsum (fun c => mx m r c * x c) w % 10007 := dsum_cong fun c hc => by
      rw [scl_at hr (by omega) hc, if_neg e]
    rw [e1] at hh; exact hh
theorem Nul.unelD {n w : Nat} {m : List (List Int)} {x : Nat → Int} {d k : Nat} (h : Nul n w (Go.Proofs.YtoeikpioonlmfaaGreat.elD m d k) x) (hl : m.length = n) (hr : Rws w m) (hd : d < n) : Nul n w m x := by
  have hdd : dsum (fun c => mx m d c * x c) w % 10007 = 0 := by
    have hh := h d hd
    have e1 : dsum (fun c => mx (Go.Proofs.YtoeikpioonlmfaaGreat.elD m d k) d c * x c) w % 10007 = dsum (fun c => mx m d c * x c) w % 10007 := dsum_cong fun c hc => by
      rw [elD_at hr (by omega) hc, if_pos rfl]
    rw [e1] at hh; exact hh
  intro r hrn
  by_cases e : r = d
  · subst e; exact hdd
  · have hh := h r hrn
    have e1 : dsum (fun c => mx (Go.Proofs.YtoeikpioonlmfaaGreat.elD m d k) r c * x c) w % 10007 = dsum (fun c => mx m r c * x c + ((- mx m r k) % 10007) * (mx m d c * x c)) w % 10007 := dsum_cong fun c hc => by
      rw [elD_at hr (by omega) hc, if_neg e, mul_mod_l, Int.add_mul, Int.mul_assoc]
    rw [e1, dsum_lin, Int.add_emod, ← mul_mod_r (- mx m r k % 10007), hdd] at hh
    simpa using hh
theorem stepR_unNul {n w : Nat} {W0 : Mx} {m : List (List Int)} {d : Int} {done k : Nat} {x : Nat → Int} (g : GI n w W0 m done k) (hk : k < w) (hd : done < n) (h : Nul n w (stepR m d done k).1 x) : Nul n w m x := by
  have hl := g.len
  have fl := fndR_le m k (m.length - done) done
  unfold stepR at h
  by_cases e : fndR m k (m.length - done) done = m.length
  · rw [if_pos e] at h; exact h
  · rw [if_neg e] at h
    have s1 := swp_ok g.rws (i := fndR m k (m.length - done) done) (d := done) (by omega) (by omega)
    have l1 := swp_len m (fndR m k (m.length - done) done) done
    have t1 := scl_ok s1 (d := done) (k := k) (by omega)
    have fne := fndR_ne m k (m.length - done) done (by omega)
    have hp : mx (swp m (fndR m k (m.length - done) done) done) done k = mx m (fndR m k (m.length - done) done) k := by
      rw [swp_mx (by omega) (by omega), updR_at]
    have h2 := Nul.unelD h (by rw [scl_len, l1]; exact hl) t1 hd
    have h3 := Nul.unscl h2 (by omega) s1 hd (mx_N s1 (by omega) k) (by rw [hp]; exact fne)
    exact Nul.unswp h3 hl (by omega) hd
theorem redR_unNul {n w : Nat} {W0 : Mx} {x : Nat → Int} : ∀ (f k : Nat) (st : List (List Int) × Int × Nat), k + f = w → GI n w W0 st.1 st.2.2 k → Nul n w (redR f k st).1 x → Nul n w st.1 x
  | 0, k, st, hk, g, h => h
  | f + 1, k, st, hk, g, h => by
    rw [redR] at h
    have hl := g.len
    split at h
    · rename_i hlt
      exact stepR_unNul g (by omega) (by omega) (redR_unNul f (k + 1) _ (by omega) (stepR_GI g (by omega) (by omega)) h)
    · exact h
end Go.Proofs.YtoeikpioonlmfaaGreat


namespace Go.Proofs.YtoeikpioonlmfaaGreat
open Go.Abs
set_option linter.unusedSectionVars false
set_option linter.unusedVariables false
set_option linter.unusedSimpArgs false
set_option maxHeartbeats 1000000
end Go.Proofs.YtoeikpioonlmfaaGreat


namespace Go.Proofs.YtoeikpioonlmfaaGreat
open Go.Abs
set_option linter.unusedSectionVars false
set_option linter.unusedVariables false
set_option linter.unusedSimpArgs false
set_option maxHeartbeats 1000000
end Go.Proofs.YtoeikpioonlmfaaGreat


namespace Go.Proofs.YtoeikpioonlmfaaGreat
open Go.Abs
set_option linter.unusedSectionVars false
set_option linter.unusedVariables false
set_option linter.unusedSimpArgs false
set_option maxHeartbeats 4000000
end Go.Proofs.YtoeikpioonlmfaaGreat


namespace Go.Proofs.YtoeikpioonlmfaaGreat
open Go.Abs
set_option linter.unusedSectionVars false
set_option linter.unusedVariables false
set_option linter.unusedSimpArgs false
set_option maxHeartbeats 4000000
def unR (n i : Nat) : List Int := tb (fun c => if c = i then 1 else 0) n
theorem unR_set {n i : Nat} (h : i < n) : (List.replicate n (0 : Int)).set i 1 = unR n i := by
  refine List.ext_getElem (by simp [unR]) fun c h1 h2 => ?_
  rw [List.getElem_set]
  simp only [unR, tb, List.getElem_map, List.getElem_range]
  by_cases e : i = c
  · subst e; simp
  · rw [if_neg e, if_neg (fun x => e x.symm)]; simp
end Go.Proofs.YtoeikpioonlmfaaGreat


namespace Go.Proofs.YtoeikpioonlmfaaGreat
open Go.Abs
set_option linter.unusedSectionVars false
set_option linter.unusedVariables false
set_option linter.unusedSimpArgs false
set_option maxHeartbeats 1000000
theorem dsum_split (f : Nat → Int) (n : Nat) : ∀ m, dsum f (n + m) = dsum f n + dsum (fun j => f (n + j)) m
  | 0 => by simp [dsum]
  | m + 1 => by
    have : n + (m + 1) = (n + m) + 1 := rfl
    rw [this, dsum, dsum_split f n m, dsum]; omega
def catL (n : Nat) (a : List (List Int)) : List (List Int) := (List.range n).map fun i => a[i]?.getD [] ++ unR n i
theorem unR_get {n i c : Nat} (h : c < n) : (unR n i)[c]?.getD 0 = if c = i then 1 else 0 := tb_get _ h
theorem unR_len (n i : Nat) : (unR n i).length = n := by simp [unR]
theorem unR_N (n i : Nat) : Ns (unR n i) := tb_N fun k _ => by split <;> exact ⟨by omega, by omega⟩
theorem catL_row {n : Nat} {a : List (List Int)} {i : Nat} (h : i < n) : (catL n a)[i]?.getD [] = a[i]?.getD [] ++ unR n i := by simp [catL, h]
theorem catL_ok {n : Nat} {a : List (List Int)} (hl : a.length = n) (hr : Rws n a) : (catL n a).length = n ∧ Rws (n + n) (catL n a) := by
  refine ⟨by simp [catL], fun x hx => ?_⟩
  obtain ⟨i, h, rfl⟩ := List.mem_map.1 hx
  have q := hr.at (show i < a.length by have : i < n := by simpa using h
                                        omega)
  refine ⟨by rw [List.length_append, q.1, unR_len], fun y hy => ?_⟩
  rcases List.mem_append.1 hy with h | h
  · exact q.2 y h
  · exact unR_N n i y h
theorem catL_mx {n : Nat} {a : List (List Int)} (hl : a.length = n) (hr : Rws n a) {r : Nat} (h : r < n) : (∀ c, c < n → mx (catL n a) r c = mx a r c) ∧ ∀ c, c < n → mx (catL n a) r (n + c) = idM r c := by
  have q := (hr.at (i := r) (by omega)).1
  have e := catL_row (a := a) h
  refine ⟨fun c hc => ?_, fun c hc => ?_⟩
  · show ((catL n a)[r]?.getD [])[c]?.getD 0 = (a[r]?.getD [])[c]?.getD 0
    rw [e, List.getElem?_append_left (by omega)]
  · show ((catL n a)[r]?.getD [])[n + c]?.getD 0 = _
    rw [e, List.getElem?_append_right (by omega), q, Nat.add_sub_cancel_left, unR_get hc]
    unfold idM
    by_cases e : c = r
    · subst e; simp
    · rw [if_neg e, if_neg (fun x => e x.symm)]
theorem cat_full {n : Nat} {a : List (List Int)} (hn : 0 < n) (hl : a.length = n) (hr : Rws n a) : (redR (n + n) 0 (catL n a, 1, 0)).2.2 = n := by
  have wo := catL_ok hl hr
  have wm := fun r h => catL_mx hl hr (r := r) h
  obtain ⟨k', h1, h2, h3⟩ := redR_GI (n + n) 0 (catL n a, 1, 0) (by omega) (GI.start wo.1 wo.2)
  rcases h2 with h2 | h2
  · subst h2
    have hd := h3.dle
    rcases Nat.lt_or_ge (redR (n + n) 0 (catL n a, 1, 0)).2.2 n with hlt | hge
    · exfalso
      have low := h3.low (n - 1) (by omega) (by omega)
      obtain ⟨s, t, k1, k2⟩ := h3.eqv
      have k3 := k2 (fun c => n + c) (fun c hc => by show n + c < n + n; omega)
      have e1 : det n (sel (mx (catL n a)) (fun c => n + c)) = 1 :=
        (det_congr (M := sel (mx (catL n a)) (fun c => n + c)) (N := idM) (fun r c hr hc => (wm r hr).2 c hc)).trans (det_one n)
      have e2 : det n (sel (mx (redR (n + n) 0 (catL n a, 1, 0)).1) (fun c => n + c)) = 0 := by
        rw [det_congr (N := updR (sel (mx (redR (n + n) 0 (catL n a, 1, 0)).1) (fun c => n + c)) (n - 1) (fun _ => 0)) (fun r c hr hc => by
          unfold updR
          by_cases e : r = n - 1
          · subst e; rw [if_pos rfl]; exact low (n + c) (by omega)
          · rw [if_neg e])]
        exact det_nil _ (show n - 1 < n by omega) (fun c => by rw [updR_at])
      rw [e1, e2, Int.one_mul] at k3
      rw [← mul_mod_l, k3] at k1
      simp at k1
    · omega
  · exact h2
def bckL (n : Nat) (R : List (List Int)) : List (List Int) := R.map fun r => r.drop n
theorem bckL_row (n : Nat) (R : List (List Int)) (i : Nat) : (bckL n R)[i]?.getD [] = (R[i]?.getD []).drop n := by
  simp only [bckL, List.getElem?_map]
  cases R[i]? <;> simp
theorem bckL_mx (n : Nat) (R : List (List Int)) (r c : Nat) : mx (bckL n R) r c = mx R r (n + c) := by
  show ((bckL n R)[r]?.getD [])[c]?.getD 0 = (R[r]?.getD [])[n + c]?.getD 0
  rw [bckL_row, List.getElem?_drop]
theorem bckL_ok {n : Nat} {R : List (List Int)} (hl : R.length = n) (hr : Rws (n + n) R) : (bckL n R).length = n ∧ Rws n (bckL n R) := by
  refine ⟨by simp [bckL, hl], fun x hx => ?_⟩
  obtain ⟨r, h, rfl⟩ := List.mem_map.1 hx
  have q := hr r h
  exact ⟨by simp [q.1], fun y hy => q.2 y (List.mem_of_mem_drop hy)⟩
theorem cat_none {n : Nat} {a : List (List Int)} (hn : 0 < n) (hl : a.length = n) (hr : Rws n a) {j : Nat} (hj : j < n) (hld : n ≤ leadL ((redR (n + n) 0 (catL n a, 1, 0)).1[j]?.getD [])) : ldet n a = 0 := by
  have wo := catL_ok hl hr
  have wm := fun r h => catL_mx hl hr (r := r) h
  obtain ⟨k', h1, h2, h3⟩ := redR_GI (n + n) 0 (catL n a, 1, 0) (by omega) (GI.start wo.1 wo.2)
  have := h3.eqv.sing (by omega) hj (fun c hc => by
    have : mx (redR (n + n) 0 (catL n a, 1, 0)).1 j c = 0 := ldF_zero _ _ 0 c (Nat.zero_le _) (Nat.lt_of_lt_of_le hc hld)
    rw [this]; rfl)
  rw [ldet_is n a hl hr, ← this]
  exact congrArg (· % 10007) (det_congr fun r c h1 h2 => ((wm r h1).1 c h2).symm)
theorem GI.oneW {n w : Nat} {W0 : Mx} {m : List (List Int)} {k : Nat} (h : GI n w W0 m n k) (hn : 0 < n) (hw : n ≤ w) (hl : leadL (m[n - 1]?.getD []) < n) : ∀ r c, r < n → c < n → mx m r c = idM r c := by
  obtain ⟨p, p1, p2, p3⟩ := h.piv
  have rl := (h.rws.at (i := n - 1) (by rw [h.len]; omega)).1
  have hl2 : ldF (m[n - 1]?.getD []) (m[n - 1]?.getD []).length 0 < n := hl
  have hl3 : n ≤ (m[n - 1]?.getD []).length := by rw [rl]; exact hw
  have hne := ldF_ne (m[n - 1]?.getD []) (m[n - 1]?.getD []).length 0 (by rw [Nat.zero_add]; exact Nat.lt_of_lt_of_le hl2 hl3)
  have hp : p (n - 1) ≤ n - 1 := by
    rcases Nat.lt_or_ge (leadL (m[n - 1]?.getD [])) (p (n - 1)) with hlt | hge
    · exact (hne (p3 (n - 1) (by omega) _ hlt)).elim
    · omega
  intro r c hr hc
  have g1 := piv_ge p2 c hc
  have g2 := piv_le p2 (n - 1 - c) c (by omega)
  have e : p c = c := by omega
  have := (p1 c hc).2 r hr
  rw [e] at this
  exact this
theorem cat_some {n : Nat} {a : List (List Int)} (hn : 0 < n) (hl : a.length = n) (hr : Rws n a) (hld : leadL ((redR (n + n) 0 (catL n a, 1, 0)).1[n - 1]?.getD []) < n) :
    ldet n a ≠ 0 ∧ ∀ v : Nat → Int, ∀ r, r < n → dsum (fun c => mx a r c * dsum (fun k => mx (bckL n (redR (n + n) 0 (catL n a, 1, 0)).1) c k * v k) n) n % 10007 = v r % 10007 := by
  have wo := catL_ok hl hr
  have wm := fun r h => catL_mx hl hr (r := r) h
  have cf := cat_full hn hl hr
  obtain ⟨k', h1, h2, h3⟩ := redR_GI (n + n) 0 (catL n a, 1, 0) (by omega) (GI.start wo.1 wo.2)
  have h3' := h3
  rw [cf] at h3'
  have hid := h3'.oneW hn (by omega) hld
  have wid := fun x => redR_unNul (x := x) (n + n) 0 (catL n a, 1, 0) (by omega) (GI.start wo.1 wo.2)
  generalize (redR (n + n) 0 (catL n a, 1, 0)).1 = R at *
  refine ⟨fun h0 => ?_, fun v r hrn => ?_⟩
  · obtain ⟨s, t, k1, k2⟩ := h3'.eqv
    have k3 := k2 id (fun c hc => by show c < n + n; omega)
    have e : ∀ X : Mx, sel X id = X := fun X => rfl
    rw [e, e, det_congr (N := mx a) (fun r c h1 h2 => (wm r h1).1 c h2), det_congr (N := idM) hid, det_one, ← mul_mod_l, ← ldet_is n a hl hr, h0] at k3
    simp at k3
  · have nr : Nul n (n + n) R (fun c => if c < n then dsum (fun k => mx (bckL n R) c k * v k) n else - v (c - n)) := fun k hk => by
      rw [dsum_split]
      have e1 : dsum (fun c => mx R k c * (if c < n then dsum (fun k => mx (bckL n R) c k * v k) n else - v (c - n))) n = dsum (fun j => mx (bckL n R) k j * v j) n := by
        rw [dsum_congr (g := fun c => idM k c * dsum (fun j => mx (bckL n R) c j * v j) n) (fun c hc => by rw [if_pos hc, hid k c hk hc]), dsum_id hk]
      have e2 : dsum (fun j => mx R k (n + j) * (if n + j < n then dsum (fun k => mx (bckL n R) (n + j) k * v k) n else - v (n + j - n))) n = (-1) * dsum (fun j => mx (bckL n R) k j * v j) n := by
        rw [dsum_mul]
        exact dsum_congr fun j hj => by
          rw [if_neg (by omega), Nat.add_sub_cancel_left, bckL_mx, Int.mul_neg]; omega
      rw [e1, e2]
      generalize dsum (fun j => mx (bckL n R) k j * v j) n = z
      have : z + -1 * z = 0 := by omega
      rw [this]; rfl
    have nu := wid _ nr r hrn
    rw [dsum_split] at nu
    have e1 : dsum (fun c => mx (catL n a) r c * (if c < n then dsum (fun k => mx (bckL n R) c k * v k) n else - v (c - n))) n = dsum (fun c => mx a r c * dsum (fun k => mx (bckL n R) c k * v k) n) n :=
      dsum_congr fun c hc => by rw [if_pos hc, (wm r hrn).1 c hc]
    have e2 : dsum (fun j => mx (catL n a) r (n + j) * (if n + j < n then dsum (fun k => mx (bckL n R) (n + j) k * v k) n else - v (n + j - n))) n = - v r := by
      rw [dsum_congr (g := fun j => idM r j * - v j) (fun j hj => by rw [if_neg (by omega), Nat.add_sub_cancel_left, (wm r hrn).2 j hj]), dsum_id hrn]
    rw [e1, e2] at nu
    generalize dsum (fun c => mx a r c * dsum (fun k => mx (bckL n R) c k * v k) n) n = z at *
    omega
end Go.Proofs.YtoeikpioonlmfaaGreat


namespace Go.Proofs.YtoeikpioonlmfaaGreat
open Go.Abs
set_option linter.unusedSectionVars false
set_option linter.unusedVariables false
set_option linter.unusedSimpArgs false
set_option maxHeartbeats 1000000
end Go.Proofs.YtoeikpioonlmfaaGreat


namespace Go.Proofs.YtoeikpioonlmfaaGreat
open Go.Abs
set_option linter.unusedSectionVars false
set_option linter.unusedVariables false
set_option linter.unusedSimpArgs false
set_option maxHeartbeats 4000000
theorem flL_two (a b : List Int) : flL [a, b] 2 = a ++ b := by simp [flL]
theorem omat_cat_succ (n : Nat) (a : List (List Int)) (i : Nat) (h : (a[i]?.getD []).length = n) : omat ((List.range (i + 1)).map fun i => a[i]?.getD [] ++ unR n i) = omat ((List.range i).map fun i => a[i]?.getD [] ++ unR n i) ++ [.own 2 (n + n) (avs (a[i]?.getD [] ++ unR n i))] := by
  have := omat_range_succ (fun i => a[i]?.getD [] ++ unR n i) i
  rw [List.length_append, h, unR_len] at this
  exact this
set_option maxRecDepth 100000 in
theorem inverse_w {n : Nat} (a : List (List Int)) (h0 : 0 < n) (hl : a.length = n) (hn : n ≤ 100) (hr : Rws n a) {R : List (List Int)} {dt : Int} (x : AV)
    (hst : redR (n + n) 0 (catL n a, 1, 0) = (R, dt, n)) (gl : R.length = n) (gr : Rws (n + n) R) (hf : freshOK x = true)
    (hA : leadL (R[n - 1]?.getD []) < n → x = .tup [.own 35 n (omat (bckL n R)), .bool true])
    (hB : ∀ j, j < n → n ≤ leadL (R[j]?.getD []) → x = .tup [.val (.slice none 0 0), .bool false]) :
    Con Tryz.prog 83 [.sl a.length (mat a)] x := by
  have wo := catL_ok (n := n) (a := a) hl hr
  have cR := reduce_c (w := n + n) (catL n a) (by omega) (by omega) (by omega) wo.2
  have hw : catL n a = (List.range n).map fun i => a[i]?.getD [] ++ unR n i := rfl
  have ne : ¬ a = [] := by rintro rfl; simp at hl; omega
  rw [wo.1, hst] at cR
  simp only at cR
  have ht : R.take n = R := List.take_of_length_le (by omega)
  rw [ht] at cR
  have rp := avs_repl n 0
  refine con_of_vc Tryz.mixed ⟨13, [36], [1000000 + 152], []⟩ Tryz.func83 (by decide) rfl (by simp) (by decide) hf ?_
  rw [Tryz.ntmps83]
  simp [go_sem]
  refine loop_inv ([4, 5, 6, 7] ++ List.range' 16 19) (fun i : Nat => [(4, .own 35 i (omat ((List.range i).map fun i => a[i]?.getD [] ++ unR n i))), (16, .int i)]) (fun i => i ≤ n) (fun i => n - i) 0 (by simp) (by simp [go_sem, omat]) (by simp [go_sem]) ?_
  intro i hi
  by_cases hin : i < n
  · have hii : (i : Int) < a.length := by omega
    have hia : i < a.length := by omega
    have ri := (hr.at hia).1
    have cC := Concat_c [a[i]?.getD [], unR n i] (by show 0 < (flL [_, _] 2).length; rw [flL_two, List.length_append, unR_len]; omega) (by show (flL [_, _] 2).length ≤ _; rw [flL_two, List.length_append, unR_len]; omega) (by simp)
    have cl2 : [a[i]?.getD [], unR n i].length = 2 := rfl
    rw [cl2, flL_two, List.length_append, unR_len, ri] at cC
    have ho := omat_cat_succ n a i ri
    have rs := unR_set hin
    have mm : mat [a[i]?.getD [], unR n i] = [.sl n (avs (a[i]?.getD [])), .sl n (avs (unR n i))] := by simp [mat, ri, unR_len]
    rw [mm] at cC
    have hrw : a[i]'hia = a[i]?.getD [] := by simp [hia]
    generalize hrow : a[i]?.getD [] = row at *
    simp [go_sem, hii, mat_drop hia, hrow, hrw, hl, ri, hin, rp, avs_set, rs]
    refine ⟨ne, ⟨by omega, by omega⟩, ?_⟩
    refine CallVC.of (cC) (by decide) ?_
    simp [go_sem]
    exact ⟨⟨by omega, by omega⟩, ⟨by omega, by omega⟩, i + 1, by omega, by omega, Off_reset _ _ _ (by simp), by rw [ho]; exact ⟨rfl, rfl⟩, by omega⟩
  · have e : i = n := by omega
    subst e
    have hii : ¬ (i : Int) < a.length := by omega
    rw [← hw]
    simp [go_sem, hii]
    refine ⟨_, _, cR, ?_⟩
    simp [go_sem]
    refine loop_inv ([2, 3, 10, 12] ++ List.range' 43 18) (fun j : Nat => [(10, .own 35 j (omat (bckL i (R.take j)))), (43, .int j)]) (fun j => j ≤ i ∧ ∀ t, t < j → leadL (R[t]?.getD []) < i) (fun j => i - j) 0 ⟨by omega, fun t ht => by omega⟩ (by simp [go_sem, bckL, omat]) (by simp [go_sem]) ?_
    rintro j ⟨hj, hp⟩
    by_cases hjn : j < i
    · have hji : (j : Int) < i := by omega
      have hR1 := rmat_get (A := R) (k := j) (by omega)
      have rr := gr.at (show j < R.length by omega)
      have hL := leadL_c (R[j]?.getD []) (by omega)
      have hne : ¬ R = [] := by rintro rfl; simp at gl; omega
      have hj2 : j < R.length := by omega
      have ha0 : a.length = i := hl
      have dc : Con Tryz.prog 117 [.sl ((R[j]?.getD []).drop i).length (avs ((R[j]?.getD []).drop i))] (.own 2 ((R[j]?.getD []).drop i).length (avs ((R[j]?.getD []).drop i))) := Clone_c _ (by rw [List.length_drop]; omega)
      have dl : ((R[j]?.getD []).drop i).length = i := by rw [List.length_drop, rr.1]; omega
      rw [dl] at dc
      by_cases hld : leadL (R[j]?.getD []) < i
      · have hld2 : ¬ i ≤ leadL (R[j]?.getD []) := by omega
        generalize hrow : R[j]?.getD [] = row at *
        have dl2 : row.length - i = i := by omega
        have dl3 : i ≤ row.length := by omega
        have hsl : List.take i (List.drop i (avs row)) = avs (row.drop i) := by
          rw [List.take_of_length_le (by simp [avs]; omega)]
          simp [avs, List.map_drop]
        have bt : bckL i (R.take (j + 1)) = bckL i (R.take j) ++ [row.drop i] := by
          unfold bckL
          rw [List.take_add_one, List.map_append, List.getElem?_eq_getElem hj2]
          rw [List.getElem?_eq_getElem hj2] at hrow
          simp at hrow
          simp [hrow]
        have ob : omat (bckL i (R.take (j + 1))) = omat (bckL i (R.take j)) ++ [.own 2 i (avs (row.drop i))] := by
          rw [bt]
          unfold omat
          rw [List.map_append]
          simp [dl2]
        simp [go_sem, hji, hR1]
        refine CallVC.of (hL) (by decide) ?_
        simp [go_sem]
        have bl : (bckL i (R.take j)).length = j := by simp [bckL, gl]; omega
        simp [go_sem, ha0, hld2, dl2, hsl]
        refine ⟨dl3, ?_⟩
        refine CallVC.of (dc) (by decide) ?_
        simp [go_sem]
        exact ⟨⟨by omega, by omega⟩, ⟨by omega, by omega⟩, j + 1, ⟨by omega, fun t ht => by rcases Nat.lt_or_ge t j with h | h; exact hp t h; obtain rfl : t = j := (by omega); rw [hrow]; exact hld⟩, by omega, Off_reset _ _ _ (by simp), by rw [ob]; exact ⟨rfl, rfl⟩, by omega⟩
      · have hx := hB j hjn (by omega)
        have hld2 : i ≤ leadL (R[j]?.getD []) := by omega
        subst hx
        generalize hrow : R[j]?.getD [] = row at *
        simp [go_sem, hji, hR1]
        refine CallVC.of (hL) (by decide) ?_
        simp [go_sem]
        simp [go_sem, ha0, hld2]
    · have e : j = i := by omega
      subst e
      have hji : ¬ (j : Int) < j := by omega
      have hx := hA (hp (j - 1) (by omega))
      have htk : R.take j = R := List.take_of_length_le (by omega)
      have ha0 : a.length = j := hl
      subst hx
      simp [go_sem, hji, htk, ha0]
def invL (n : Nat) (a : List (List Int)) : List (List Int) := bckL n (redR (n + n) 0 (catL n a, 1, 0)).1
def invB (n : Nat) (a : List (List Int)) : Bool := decide (leadL ((redR (n + n) 0 (catL n a, 1, 0)).1[n - 1]?.getD []) < n)
theorem invB_is {n : Nat} {a : List (List Int)} (h0 : 0 < n) (hl : a.length = n) (hr : Rws n a) : invB n a = decide (ldet n a ≠ 0) := by
  unfold invB
  by_cases h : leadL ((redR (n + n) 0 (catL n a, 1, 0)).1[n - 1]?.getD []) < n
  · have := (cat_some h0 hl hr h).1
    simp [h, this]
  · have := cat_none h0 hl hr (j := n - 1) (by omega) (by omega)
    simp [h, this]
theorem inverseOf_c {n : Nat} (a : List (List Int)) (h0 : 0 < n) (hl : a.length = n) (hn : n ≤ 100) (hr : Rws n a) :
    Con Tryz.prog 83 [.sl a.length (mat a)] (if invB n a = true then .tup [.own 35 n (omat (invL n a)), .bool true] else .tup [.val (.slice none 0 0), .bool false]) := by
  have wo := catL_ok (n := n) (a := a) hl hr
  have cf := cat_full h0 hl hr
  have cN : ∀ j, j < n → n ≤ leadL ((redR (n + n) 0 (catL n a, 1, 0)).1[j]?.getD []) → ldet n a = 0 := fun j hj => cat_none h0 hl hr hj
  have iB := invB_is h0 hl hr
  obtain ⟨k', g1, g2, g3⟩ := redR_GI (n + n) 0 (catL n a, 1, 0) (by omega) (GI.start wo.1 wo.2)
  have gl := g3.len
  have gr := g3.rws
  clear g3 g1 g2
  unfold invL
  have iB2 : invB n a = decide (leadL ((redR (n + n) 0 (catL n a, 1, 0)).1[n - 1]?.getD []) < n) := rfl
  generalize hst : redR (n + n) 0 (catL n a, 1, 0) = st at *
  obtain ⟨R, dt, dn⟩ := st
  simp only at cf cN gl gr iB2
  subst cf
  refine inverse_w a h0 hl hn hr _ hst gl gr (by split <;> simp [freshOK, freshL]) (fun h => ?_) (fun j hj h => ?_)
  · rw [iB2, decide_eq_true h]; rfl
  · rw [iB, if_neg (by simp [cN j hj h])]
end Go.Proofs.YtoeikpioonlmfaaGreat


namespace Go.Proofs.YtoeikpioonlmfaaGreat
open Go.Abs
set_option linter.unusedSectionVars false
set_option linter.unusedVariables false
set_option linter.unusedSimpArgs false
set_option maxHeartbeats 1000000
theorem invL_ok {n : Nat} {a : List (List Int)} (h0 : 0 < n) (hl : a.length = n) (hr : Rws n a) : (invL n a).length = n ∧ Rws n (invL n a) := by
  have wo := catL_ok (n := n) (a := a) hl hr
  obtain ⟨k', g1, g2, g3⟩ := redR_GI (n + n) 0 (catL n a, 1, 0) (by omega) (GI.start wo.1 wo.2)
  exact bckL_ok g3.len g3.rws
theorem inv_InvR {n : Nat} {a : List (List Int)} (h0 : 0 < n) (hl : a.length = n) (hr : Rws n a) (hd : ldet n a ≠ 0) : InvR n a (invL n a) := by
  have h := invB_is h0 hl hr
  rw [decide_eq_true hd] at h
  unfold invB at h
  exact fun v r hr2 => (cat_some h0 hl hr (by simpa using h)).2 v r hr2
theorem inv_sys {n : Nat} {a : List (List Int)} (h0 : 0 < n) (hl : a.length = n) (hr : Rws n a) (hd : ldet n a ≠ 0) {i k : Nat} (hi : i < n) (hk : k < n) : sysF n a (unR n k) i = mx (invL n a) i k := by
  have hI := inv_InvR h0 hl hr hd
  have hs := solve_uniq h0 hl hr (unR_N n k) hd (e := fun c => mx (invL n a) c k) (fun r hrn => by
    have h1 := hI (fun j => if j = k then 1 else 0) r hrn
    rw [unR_get hrn]
    have h2 : dsum (fun c => mx a r c * dsum (fun j => mx (invL n a) c j * if j = k then 1 else 0) n) n = dsum (fun c => mx a r c * mx (invL n a) c k) n := dsum_congr fun c hc => by
      rw [dsum_one hk (fun x _ hx => by rw [if_neg hx, Int.mul_zero]), if_pos rfl, Int.mul_one]
    rw [h2] at h1
    exact h1) i hi
  have ok := (invL_ok h0 hl hr).2.at (show i < (invL n a).length by rw [(invL_ok h0 hl hr).1]; exact hi)
  have hN : isN (mx (invL n a) i k) := ok.2.get k
  unfold sysF
  rw [hs]
  obtain ⟨a1, a2⟩ := hN
  exact Int.emod_eq_of_lt a1 (by omega)
def tfE (z : Int) (f : List (List Mon)) (m : List (List Int)) : Int := if fieldB z f = true then if sqB z m = true then if ldet m.length m = 0 then 5 else 0 else 1 else 1
def tfX (z : Int) (f : List (List Mon)) (m : List (List Int)) : List (List Mon) := if tfE z f m = 0 then trF m.length m f (invL m.length m) else []
def tfR (z : Int) (f : List (List Mon)) (m : List (List Int)) : AV := .tup [.agg [.int (if tfE z f m = 0 then z else 0), .own 92 (tfX z f m).length (oprt (tfX z f m))], .int (tfE z f m)]
theorem tfE_ok {z : Int} {f : List (List Mon)} {m : List (List Int)} (h : tfE z f m = 0) : fieldB z f = true ∧ sqB z m = true ∧ ldet m.length m ≠ 0 := by
  unfold tfE at h
  split at h
  · split at h
    · split at h
      · omega
      · exact ⟨by assumption, by assumption, by assumption⟩
    · omega
  · omega
structure TfOk (z : Int) (f : List (List Mon)) (m : List (List Int)) : Prop where
  hF : FieldOk z f
  n1 : 1 ≤ m.length
  n3 : m.length ≤ 3
  zm : (m.length : Int) = z
  fl : f.length = m.length
  hr : Rws m.length m
theorem TfOk.of {z : Int} {f : List (List Mon)} {m : List (List Int)} (h1 : fieldB z f = true) (h2 : sqB z m = true) : TfOk z f m := by
  have hF := fieldB_iff.1 h1
  obtain ⟨a, b, c⟩ := sqB_iff.1 h2
  have := hF.lo
  have := hF.hi
  have := hF.len
  exact ⟨hF, by omega, by omega, b, by omega, fun r hr => ⟨by have := (c r hr).1; omega, (c r hr).2⟩⟩
section
variable {z : Int} {f : List (List Mon)} {m : List (List Int)}
theorem TfOk.vok (h : TfOk z f m) : ∀ p ∈ f, ∀ a ∈ p, VOk m.length a := fun p hp a ha => by
  have := (partB_mem (h.hF.part p hp) ha)
  rw [← h.zm] at this
  exact this.vok
theorem TfOk.line (h : TfOk z f m) (i : Nat) (hi : i < m.length) : Rlt m.length 1 ((m.map fun r => polF (linL r))[i]?.getD mzero) ((linF m)[i]?.getD []) := by
  have q := h.hr.at hi
  rw [linF_get hi]
  have e : (m.map fun r => polF (linL r))[i]?.getD mzero = polF (linL (m[i]?.getD [])) := by simp [hi]
  rw [e]
  have := Rlt.line h.n3 q.1 q.2
  rw [q.1]; exact this
theorem TfOk.rows (h : TfOk z f m) (row : List Int) (k : Nat) (hk : k ≤ m.length) : Rlt m.length 9 (rwM (m.map fun r => polF (linL r)) f row k) (rwQ m.length (linF m) f row k) ∧ Srt (rwQ m.length (linF m) f row k) ∧ Nzl (rwQ m.length (linF m) f row k) :=
  ⟨Rlt.rows h.n3 (by simp) (linF_len m) h.line h.vok row k (by rw [h.fl]; exact hk), rwQ_srt h.n3 (by simp) (linF_len m) h.line h.vok row k (by rw [h.fl]; exact hk)⟩
theorem degB_of {z : Int} {p : List Mon} (h : partB z p = true) : ∀ a ∈ p, degL a.2 0 ≤ 3 := by
  have h2 := partB_deg (fun m hm => (partB_mem h hm).len) (partSrt h).1 (partSrt h).2
  rw [h] at h2
  exact fun a ha => by simpa using List.all_eq_true.1 h2.symm a ha
theorem linF_len3 (h : TfOk z f m) (i : Nat) : ((linF m)[i]?.getD []).length ≤ 3 := by
  rcases Nat.lt_or_ge i m.length with hi | hi
  · rw [linF_get hi]
    have q := h.hr.at hi
    have ok := linK_ok q.1 q.2 (m[i]?.getD []).length (by rw [q.1]; exact Nat.le_refl _)
    have := h.n3
    omega
  · have : (linF m)[i]?.getD [] = [] := by simp [linF, hi]
    rw [this]; simp
theorem TfOk.mv_len (h : TfOk z f m) {k : Nat} (hk : k < f.length) : (mvL m.length (linF m) (f[k]?.getD [])).length ≤ 540 := by
  have hp := h.hF.part _ (memD [] hk)
  have hd := degB_of (p := f[k]?.getD []) hp
  have h1 := mvL_len (z := z) (n := m.length) (linF_len3 h) (linF_len m) (p := f[k]?.getD []) (fun a ha => ⟨partB_mem hp ha, hd a ha, by have := (partB_mem hp ha).len; have := h.zm; omega⟩)
  have h2 := part20 h.hF.hi hp
  omega
theorem TfOk.rw_len (h : TfOk z f m) (row : List Int) : ∀ k, k ≤ f.length → (rwQ m.length (linF m) f row k).length ≤ 540 * k
  | 0, _ => by simp [rwQ]
  | k + 1, hk => by
    have h1 := TfOk.rw_len h row k (by omega)
    have h2 := h.mv_len (show k < f.length by omega)
    have h3 := plusL_len (row[k]?.getD 0) (mvL m.length (linF m) (f[k]?.getD [])) (rwQ m.length (linF m) f row k)
    rw [rwQ]
    omega
theorem TfOk.tiny (h : TfOk z f m) (B : List (List Int)) : Tiny (trF m.length m f B) := by
  have n3 := h.n3
  refine ⟨by simp; omega, fun p hp => ?_⟩
  obtain ⟨i, hi, rfl⟩ := List.mem_map.1 hp
  have h1 := h.rw_len (B[i]?.getD []) f.length (Nat.le_refl _)
  have h2 := (h.rows (B[i]?.getD []) m.length (Nat.le_refl _)).1.wok
  rw [h.fl] at h1
  exact ⟨by omega, fun a ha => by have := (h2 a ha).len; omega⟩
end
theorem tfX_tiny (z : Int) (f : List (List Mon)) (m : List (List Int)) : Tiny (tfX z f m) := by
  unfold tfX
  split
  · rename_i h
    obtain ⟨h1, h2, h3⟩ := tfE_ok h
    exact (TfOk.of h1 h2).tiny _
  · exact ⟨by simp, by simp⟩
end Go.Proofs.YtoeikpioonlmfaaGreat


namespace Go.Proofs.YtoeikpioonlmfaaGreat
open Go.Abs
set_option linter.unusedSectionVars false
set_option linter.unusedVariables false
set_option linter.unusedSimpArgs false
set_option maxHeartbeats 2000000
theorem chN_ok {Q : List (Key → Option Int)} {e : Key × Int} (he : isN e.2 ∧ ∀ i, 0 ≤ at3 i e.1 ∧ at3 i e.1 ≤ 3) (hM : ∀ i : Nat, i < Q.length → Mok 1 (Q[i]?.getD mzero)) : ∀ i : Nat, i ≤ Q.length → Mok (3 * (i : Int)) (chN Q e i)
  | 0, _ => Mok.one he.1
  | i + 1, hi => by
    have h := he.2 i
    exact (stN_ok (chN_ok he hM i (by omega)) (hM i (by omega)) _).le (by omega)
theorem foldl_mid {Q : List (Key → Option Int)} (o : Key → Option Int) (l1 l2 : List (Key × Int)) (e : Key × Int) :
    (l1 ++ e :: l2).foldl (fun o e => addM o (chN Q e Q.length) 1) o = (l1 ++ l2).foldl (fun o e => addM o (chN Q e Q.length) 1) (addM o (chN Q e Q.length) 1) := by
  have h : (l1 ++ e :: l2).Perm (e :: (l1 ++ l2)) := List.perm_middle
  rw [h.foldl_eq' (fun x _ y _ z => addM_swap z _ _) o]
  rfl
set_option maxRecDepth 100000 in
theorem substituted_c (c : Key → Option Int) (es0 : List (Key × Int)) (Q : List (Key → Option Int)) (hE : Enum c es0) (hc : ∀ e ∈ es0, isN e.2 ∧ ∀ i, 0 ≤ at3 i e.1 ∧ at3 i e.1 ≤ 3) (hQ : Q.length ≤ 3) (hM : ∀ i : Nat, i < Q.length → Mok 1 (Q[i]?.getD mzero)) :
    Con Tryz.prog 85 [.fmp c, .sl Q.length (Q.map AV.fmp)] (.mp (sbF Q es0)) := by
  refine con_of_vc Tryz.mixed ⟨11, [41], [62], []⟩ Tryz.func85 (by decide) rfl (by simp) (by decide) (by simp [freshOK, freshL, go_sem]) ?_
  rw [Tryz.ntmps85]
  simp [go_sem]
  intro es hes
  refine loop_inv (List.range' 5 6 ++ List.range' 13 30) (fun x : (Key → Option Int) × Option (Key × Int) × List (Key × Int) => [(5, .mp x.1), (13, .it x.2.1 x.2.2)]) (fun x => x.2.2.foldl (fun o e => addM o (chN Q e Q.length) 1) x.1 = sbF Q es0 ∧ (∀ e ∈ x.2.2, isN e.2 ∧ ∀ i, 0 ≤ at3 i e.1 ∧ at3 i e.1 ≤ 3) ∧ Mok 9 x.1) (fun x => x.2.2.length) (mzero, none, es) ⟨sbF_perm Q (enum_unique hes hE), fun e he => hc e ((enum_unique hes hE).mem_iff.1 he), Mok.zero 9⟩ (by simp [go_sem]) (by simp [go_sem]) ?_
  rintro ⟨o, l, rem⟩ ⟨h1, h2, h3⟩
  simp only at h1 h2 h3
  simp [go_sem, keyAV]
  refine ⟨fun hr => ?_, fun l1 k0 k1 k2 x l2 hr => ?_⟩
  · subst hr
    exact h1
  · subst hr
    have he := h2 ((k0, k1, k2), x) (by simp)
    have ok := fun i hi => chN_ok he hM i hi
    have g0 := he.2 0
    have g1 := he.2 1
    have g2 := he.2 2
    refine loop_inv (8 :: 9 :: 10 :: List.range' 25 15) (fun i : Nat => [(8, .mp (chN Q ((k0, k1, k2), x) i)), (25, .int i)]) (fun i => i ≤ Q.length) (fun i => Q.length - i) 0 (by simp) (by simp [go_sem, chN]) (by simp [go_sem]) ?_
    intro i hi
    by_cases hiQ : i < Q.length
    · have hii : (i : Int) < Q.length := by omega
      have ne : ¬ Q = [] := by rintro rfl; simp at hiQ
      have fd := fmps_drop hiQ
      have hm := hM i hiQ
      have okc := ok i (by omega)
      have eC : chN Q ((k0, k1, k2), x) (i + 1) = stN (Q[i]?.getD mzero) (chN Q ((k0, k1, k2), x) i) (at3 i (k0, k1, k2)).toNat := rfl
      have i3 : i = 0 ∨ i = 1 ∨ i = 2 := by omega
      have gi := he.2 i
      generalize hq : Q[i]?.getD mzero = q at *
      generalize hC : chN Q ((k0, k1, k2), x) i = C at *
      have key : ∀ k : Nat, at3 i (k0, k1, k2) = k → chN Q ((k0, k1, k2), x) (i + 1) = stN q C k := fun k hk => by rw [eC, hk]; rfl
      rcases i3 with rfl | rfl | rfl
      · have hkk : ∃ n : Nat, k0 = n := ⟨k0.toNat, by have := gi.1; simp only [at3] at this; simp at this; omega⟩
        obtain ⟨n, rfl⟩ := hkk
        have hn := key n rfl
        have n3 : (n : Int) ≤ 3 := by have := gi.2; simp only [at3] at this; simp at this; omega
        simp [go_sem, fd, hiQ]
        refine ⟨ne, ?_⟩
        refine loop_inv (8 :: List.range' 33 6) (fun k : Nat => [(8, .mp (stN q C k)), (33, .int k)]) (fun k => k ≤ n) (fun k => n - k) 0 (by simp) (by simp [go_sem, stN]) (by simp [go_sem]) ?_
        intro k hk
        have mk := stN_ok okc hm k
        have cP := product_c (enE_is mk.en) (enE_is hm.en) (mk.eok (by have := gi.2; simp only [at3] at this; simp at this; omega)) (hm.eok (by omega))
        have e1 : stN q C (k + 1) = mapT (prT (enE (stN q C k)) (enE q)) := rfl
        rw [← e1] at cP
        generalize hk1 : stN q C (k + 1) = C1 at *
        simp [go_sem]
        refine ⟨fun h => ?_, fun h => ?_⟩ <;> simp at h
        · simp [go_sem]
          refine CallVC.of (cP) (by decide) ?_
          simp [go_sem]
          exact ⟨⟨by omega, by omega⟩, k + 1, by omega, by omega, Off_reset _ _ _ (by simp), hk1.symm, by omega⟩
        · have e : k = n := by omega
          subst e
          simp [go_sem]
          exact ⟨1, by omega, by omega, (Off.reset (by intro x hx; simp at hx ⊢; omega) (by simp) (by simp [go_sem, Off_reset])), hn.symm, by simp⟩
      · have hkk : ∃ n : Nat, k1 = n := ⟨k1.toNat, by have := gi.1; simp only [at3] at this; simp at this; omega⟩
        obtain ⟨n, rfl⟩ := hkk
        have hn := key n rfl
        have n3 : (n : Int) ≤ 3 := by have := gi.2; simp only [at3] at this; simp at this; omega
        have hi1 : (1 : Int) < Q.length := by omega
        simp [go_sem, fd, hi1]
        refine ⟨ne, ?_⟩
        refine loop_inv (8 :: List.range' 33 6) (fun k : Nat => [(8, .mp (stN q C k)), (33, .int k)]) (fun k => k ≤ n) (fun k => n - k) 0 (by simp) (by simp [go_sem, stN]) (by simp [go_sem]) ?_
        intro k hk
        have mk := stN_ok okc hm k
        have cP := product_c (enE_is mk.en) (enE_is hm.en) (mk.eok (by have := gi.2; simp only [at3] at this; simp at this; omega)) (hm.eok (by omega))
        have e1 : stN q C (k + 1) = mapT (prT (enE (stN q C k)) (enE q)) := rfl
        rw [← e1] at cP
        generalize hk1 : stN q C (k + 1) = C1 at *
        simp [go_sem]
        refine ⟨fun h => ?_, fun h => ?_⟩ <;> simp at h
        · simp [go_sem]
          refine CallVC.of (cP) (by decide) ?_
          simp [go_sem]
          exact ⟨⟨by omega, by omega⟩, k + 1, by omega, by omega, Off_reset _ _ _ (by simp), hk1.symm, by omega⟩
        · have e : k = n := by omega
          subst e
          simp [go_sem]
          exact ⟨2, by omega, by omega, (Off.reset (by intro x hx; simp at hx ⊢; omega) (by simp) (by simp [go_sem, Off_reset])), hn.symm, by simp⟩
      · have hkk : ∃ n : Nat, k2 = n := ⟨k2.toNat, by have := gi.1; simp only [at3] at this; simp at this; omega⟩
        obtain ⟨n, rfl⟩ := hkk
        have hn := key n rfl
        have n3 : (n : Int) ≤ 3 := by have := gi.2; simp only [at3] at this; simp at this; omega
        have hi2 : (2 : Int) < Q.length := by omega
        simp [go_sem, fd, hi2]
        refine ⟨ne, ?_⟩
        refine loop_inv (8 :: List.range' 33 6) (fun k : Nat => [(8, .mp (stN q C k)), (33, .int k)]) (fun k => k ≤ n) (fun k => n - k) 0 (by simp) (by simp [go_sem, stN]) (by simp [go_sem]) ?_
        intro k hk
        have mk := stN_ok okc hm k
        have cP := product_c (enE_is mk.en) (enE_is hm.en) (mk.eok (by have := gi.2; simp only [at3] at this; simp at this; omega)) (hm.eok (by omega))
        have e1 : stN q C (k + 1) = mapT (prT (enE (stN q C k)) (enE q)) := rfl
        rw [← e1] at cP
        generalize hk1 : stN q C (k + 1) = C1 at *
        simp [go_sem]
        refine ⟨fun h => ?_, fun h => ?_⟩ <;> simp at h
        · simp [go_sem]
          refine CallVC.of (cP) (by decide) ?_
          simp [go_sem]
          exact ⟨⟨by omega, by omega⟩, k + 1, by omega, by omega, Off_reset _ _ _ (by simp), hk1.symm, by omega⟩
        · have e : k = n := by omega
          subst e
          simp [go_sem]
          exact ⟨3, by omega, by omega, (Off.reset (by intro x hx; simp at hx ⊢; omega) (by simp) (by simp [go_sem, Off_reset])), hn.symm, by simp⟩
    · have e : i = Q.length := by omega
      subst e
      have cA := add_c o (chN Q ((k0, k1, k2), x) Q.length) 1 h3.mapN (ok _ (Nat.le_refl _)).mapN ⟨by omega, by omega⟩
      simp [go_sem]
      refine ⟨_, _, cA, ?_⟩
      simp [go_sem]
      have hf := foldl_mid (Q := Q) o l1 l2 ((k0, k1, k2), x)
      rw [hf] at h1
      exact ⟨_, _, l1 ++ l2, ⟨h1, fun a b c d he => h2 ((a, b, c), d) (by rcases List.mem_append.1 he with h | h <;> simp [h]), h3.add ((ok _ (Nat.le_refl _)).le (by omega))⟩, by simp, (Off.reset (by intro x hx; simp at hx ⊢; omega) (by simp) (by simp [go_sem, Off_reset])), rfl, rfl, rfl⟩
end Go.Proofs.YtoeikpioonlmfaaGreat


namespace Go.Proofs.YtoeikpioonlmfaaGreat
open Go.Abs
set_option linter.unusedSectionVars false
set_option linter.unusedVariables false
set_option linter.unusedSimpArgs false
set_option maxHeartbeats 2000000
def plcL (m : List (List Int)) (i : Nat) : List AV := (m.take i).map fun r => AV.mp (polF (linL r))
theorem plcL_snoc {m : List (List Int)} {i : Nat} (h : i < m.length) : plcL m (i + 1) = plcL m i ++ [.mp (polF (linL (m[i]?.getD [])))] := by
  unfold plcL
  rw [List.take_add_one, List.map_append]; simp [h]
theorem plcL_all (m : List (List Int)) : frzL (plcL m m.length) = m.map (AV.fmp ∘ fun r => polF (linL r)) := by
  unfold plcL
  rw [List.take_length]
  have := mps_frz (m.map fun r => polF (linL r))
  rw [List.map_map, List.map_map] at this
  exact this
noncomputable def sumQ (m : List (List Int)) (f : List (List Mon)) (B : List (List Int)) (i : Nat) : List (Key → Option Int) := (List.range i).map fun j => rwM (m.map fun r => polF (linL r)) f (B[j]?.getD []) f.length
@[simp] theorem sumQ_len (m : List (List Int)) (f : List (List Mon)) (B : List (List Int)) (i : Nat) : (sumQ m f B i).length = i := by simp [sumQ]
theorem sumQ_snoc (m : List (List Int)) (f : List (List Mon)) (B : List (List Int)) (i : Nat) : (sumQ m f B (i + 1)).map AV.mp = (sumQ m f B i).map AV.mp ++ [.mp (rwM (m.map fun r => polF (linL r)) f (B[i]?.getD []) f.length)] := by simp [sumQ, List.range_succ]
theorem sumQ_at {m : List (List Int)} {f : List (List Mon)} {B : List (List Int)} {i n : Nat} (h : i < n) : (sumQ m f B n)[i]?.getD mzero = rwM (m.map fun r => polF (linL r)) f (B[i]?.getD []) f.length := by simp [sumQ, h]
set_option maxRecDepth 100000 in
theorem TransformField_c (z : Int) (f : List (List Mon)) (m : List (List Int)) (hs : Small f) (hm : m.length ≤ 1048576) (hr : ∀ r ∈ m, r.length ≤ 1048576) :
    Con Tryz.prog 28 [.agg [.int z, .sl f.length (prt f)], .sl m.length (mat m)] (tfR z f m) := by
  have cI := IsField_c z f hs
  have cQ := isFrame_c z f.length (prt f) m (by omega) (fun r h => by have := hr r h; omega)
  unfold tfR tfX
  cases h1 : fieldB z f with
  | false =>
    have e : tfE z f m = 1 := by unfold tfE; rw [h1]; rfl
    rw [h1] at cI
    rw [e]
    refine nF _ ?_
    refine con_of_vc Tryz.mixed ⟨17, [6, 57, 67], [62], []⟩ Tryz.func28 (by decide) rfl (by simp) (by decide) (by simp [freshOK, freshL, go_sem]) ?_
    rw [Tryz.ntmps28]
    simp [go_sem]
    refine CallVC.of (cI) (by decide) ?_
    simp [go_sem]
  | true =>
  cases h2 : sqB z m with
  | false =>
    have e : tfE z f m = 1 := by unfold tfE; rw [h1, h2]; rfl
    rw [h1] at cI
    rw [h2] at cQ
    rw [e]
    refine nF _ ?_
    refine con_of_vc Tryz.mixed ⟨17, [6, 57, 67], [62], []⟩ Tryz.func28 (by decide) rfl (by simp) (by decide) (by simp [freshOK, freshL, go_sem]) ?_
    rw [Tryz.ntmps28]
    simp [go_sem]
    refine CallVC.of (cI) (by decide) ?_
    simp [go_sem]
    refine CallVC.of (cQ) (by decide) ?_
    simp [go_sem]
  | true =>
  rw [h1] at cI
  rw [h2] at cQ
  have okk := TfOk.of h1 h2
  have hF := okk.hF
  have n1 := okk.n1
  have n3 := okk.n3
  have zm := okk.zm
  have fl := okk.fl
  have hR := okk.hr
  have cV := inverseOf_c m n1 rfl (by omega) hR
  rw [invB_is n1 rfl hR] at cV
  by_cases hd : ldet m.length m = 0
  · have e : tfE z f m = 5 := by unfold tfE; rw [h1, h2, hd]; rfl
    rw [hd] at cV
    rw [e]
    refine nF _ ?_
    refine con_of_vc Tryz.mixed ⟨17, [6, 57, 67], [62], []⟩ Tryz.func28 (by decide) rfl (by simp) (by decide) (by simp [freshOK, freshL, go_sem]) ?_
    rw [Tryz.ntmps28]
    simp [go_sem]
    refine CallVC.of (cI) (by decide) ?_
    simp [go_sem]
    refine CallVC.of (cQ) (by decide) ?_
    simp [go_sem]
    refine CallVC.of (cV) (by decide) ?_
    simp [go_sem]
  · have e : tfE z f m = 0 := by unfold tfE; rw [h1, h2, if_neg hd]; rfl
    rw [decide_eq_true hd] at cV
    rw [e]
    simp only [if_true]
    obtain ⟨bl, bR⟩ := invL_ok n1 rfl hR
    generalize hB : invL m.length m = B at *
    have cP := polynomials_c z f hF hs
    refine con_of_vc Tryz.mixed ⟨17, [6, 57, 67], [62], []⟩ Tryz.func28 (by decide) rfl (by simp) (by decide) (by simp [freshOK, freshL, go_sem]) ?_
    rw [Tryz.ntmps28]
    simp [go_sem]
    refine CallVC.of (cI) (by decide) ?_
    simp [go_sem]
    refine CallVC.of (cQ) (by decide) ?_
    simp [go_sem]
    refine CallVC.of (cV) (by decide) ?_
    simp [go_sem]
    refine loop_inv (8 :: 10 :: List.range' 38 10) (fun i : Nat => [(8, .own 87 i (plcL m i)), (38, .int i)]) (fun i => i ≤ m.length) (fun i => m.length - i) 0 (by simp) (by simp [go_sem, plcL]) (by simp [go_sem]) ?_
    intro i hi
    simp [go_sem]
    refine ⟨fun h => ?_, fun h => ?_⟩ <;> simp at h
    · have q := hR.at h
      have cL := linear_c (m[i]?.getD []) (by omega)
      have ps := plcL_snoc h
      simp [go_sem, mat_drop h]
      refine ⟨⟨h, fun e => by rw [e] at h; simp at h⟩, ?_⟩
      refine CallVC.of (cL) (by decide) ?_
      simp [go_sem]
      have pl : (plcL m i).length = i := by simp [plcL]; omega
      exact ⟨⟨pl, by omega, by omega⟩, ⟨by omega, by omega⟩, i + 1, by omega, by omega, Off_reset _ _ _ (by simp), ⟨rfl, ps.symm⟩, by omega⟩
    · have e : i = m.length := by omega
      subst e
      simp [go_sem]
      refine loop_inv (11 :: 13 :: 14 :: 15 :: 16 :: List.range' 51 28) (fun i : Nat => [(11, .own 87 i ((sumQ m f B i).map AV.mp)), (51, .int i)]) (fun i => i ≤ m.length) (fun i => m.length - i) 0 (by simp) (by simp [go_sem, sumQ]) (by simp [go_sem]) ?_
      intro i hi
      simp [go_sem]
      refine ⟨fun h => ?_, fun h => ?_⟩ <;> simp at h
      · have hiB : i < B.length := by omega
        have q := bR.at hiB
        have sn := sumQ_snoc m f B i
        generalize hrow : B[i]?.getD [] = row at *
        simp [go_sem, mat_drop hiB, hrow]
        refine ⟨⟨h, fun e => by rw [e] at hiB; simp at hiB⟩, ?_⟩
        refine CallVC.of (cP) (by decide) ?_
        simp [go_sem]
        refine loop_inv (14 :: 15 :: 16 :: List.range' 59 15) (fun k : Nat => [(14, .mp (rwM (m.map fun r => polF (linL r)) f row k)), (59, .int k)]) (fun k => k ≤ f.length) (fun k => f.length - k) 0 (by simp) (by simp [go_sem, rwM]) (by simp [go_sem]) ?_
        intro k hk
        simp [go_sem]
        refine ⟨fun h => ?_, fun h => ?_⟩ <;> simp at h
        · have hkm : k < m.length := by omega
          have hp := hF.part _ (memD [] h)
          have nd := keys_nd hF.hi hp
          have cS := substituted_c (polF (f[k]?.getD [])) ((f[k]?.getD []).map keyM) (m.map fun r => polF (linL r)) (polF_enum nd) (fun e he => by
            obtain ⟨a, ha, rfl⟩ := List.mem_map.1 he
            have mo := partB_mem hp ha
            have vo := okk.vok _ (memD [] h) a ha
            refine ⟨vo.num, fun t => ?_⟩
            have g := fun j => mo.get j
            show 0 ≤ at3 t (keyOf a.2) ∧ at3 t (keyOf a.2) ≤ 3
            unfold at3 keyOf
            split
            · exact g 0
            · split
              · exact g 1
              · exact g 2) (by simpa using n3) (fun j hj => (okk.line j (by simpa using hj)).ok)
          rw [List.length_map, List.map_map] at cS
          have r1 := (okk.rows row k (by omega)).1.ok.mapN
          have r2 := (Rlt.sub okk.n3 (by simp) (linF_len m) okk.line (okk.vok _ (memD [] h))).ok.mapN
          have q0 := q.2.get k
          have hA := add_c (rwM (m.map fun r => polF (linL r)) f row k) (sbF (m.map fun r => polF (linL r)) ((f[k]?.getD []).map keyM)) (row[k]?.getD 0) r1 r2 ⟨by have := q0.1; omega, by have := q0.2; omega⟩
          have e1 : rwM (m.map fun r => polF (linL r)) f row (k + 1) = addM (rwM (m.map fun r => polF (linL r)) f row k) (sbF (m.map fun r => polF (linL r)) ((f[k]?.getD []).map keyM)) (row[k]?.getD 0) := rfl
          have fd := fpols_drop h
          have hrk : k < row.length := by omega
          have rd := avs_drop hrk
          rw [← e1] at hA
          generalize hM1 : rwM (m.map fun r => polF (linL r)) f row (k + 1) = M1 at *
          generalize rwM (m.map fun r => polF (linL r)) f row k = M0 at *
          generalize sbF (m.map fun r => polF (linL r)) ((f[k]?.getD []).map keyM) = H at *
          simp [go_sem, fd]
          refine ⟨⟨h, fun e => by rw [e] at h; simp at h⟩, ?_⟩
          simp [go_sem, plcL_all, rd]
          refine ⟨by kernel_rfl, ?_⟩
          refine CallD.of (cS) (by simp [roots, rootsL, frz, frzL]) (by decide) ?_
          simp [go_sem]
          simp [go_sem, rd]
          refine ⟨⟨hrk, fun e => by rw [e] at hrk; simp at hrk⟩, ?_⟩
          refine ⟨_, _, hA.g, ?_⟩
          simp [go_sem]
          refine ⟨by kernel_rfl, ?_⟩
          simp [go_sem]
          exact ⟨⟨by omega, by omega⟩, k + 1, by omega, by omega, Off_reset _ _ _ (by simp), hM1.symm, by omega⟩
        · have e : k = f.length := by omega
          subst e
          simp [go_sem]
          exact ⟨⟨by omega, by omega⟩, ⟨by omega, by omega⟩, i + 1, by omega, by omega, (Off.reset (by intro x hx; simp at hx ⊢; omega) (by simp) (by simp [go_sem, Off_reset])), ⟨rfl, sn.symm⟩, by omega⟩
      · have e : i = m.length := by omega
        subst e
        simp [go_sem, mps_frz]
        rw [← zm] at *
        have cF := fieldOf_c m.length (sumQ m f B m.length) (trF m.length m f B) (by simp) (by simp; omega) (by simp; omega) (fun i hi => by
          have hi2 : i < m.length := by simpa using hi
          rw [sumQ_at hi2, trF_at hi2, fl]
          have ro := okk.rows (B[i]?.getD []) m.length (Nat.le_refl _)
          have rl := okk.rw_len (B[i]?.getD []) f.length (Nat.le_refl _)
          rw [fl] at rl
          exact part_c2 n1 n3 ro.1.ok.mapN ro.2.1 ro.2.2 (fun a ha => (ro.1.wok a ha).len) (by omega) ro.1.cf)
        rw [sumQ_len, trF_len] at cF
        refine CallVC.of (cF) (by decide) ?_
        simp [go_sem]
end Go.Proofs.YtoeikpioonlmfaaGreat


namespace Go.Proofs.YtoeikpioonlmfaaGreat
open Go.Abs
set_option linter.unusedSectionVars false
set_option linter.unusedVariables false
set_option linter.unusedSimpArgs false
set_option maxHeartbeats 2000000
theorem unR_one {n k : Nat} : unR n k = (List.replicate n 0).set k 1 := by
  refine List.ext_getElem (by simp [unR_len]) fun i hi hj => ?_
  have h : i < n := by simpa [unR_len] using hi
  have e := unR_get (i := k) h
  have e2 : (unR n k)[i]?.getD 0 = (unR n k)[i] := by simp [hi]
  rw [← e2, e, List.getElem_set]
  by_cases h2 : k = i
  · rw [if_pos h2, if_pos h2.symm]
  · rw [if_neg h2, if_neg (fun x => h2 x.symm)]; simp
def rwA : List Int → AV
  | [] => .val (.slice none 0 0)
  | x :: l => .own 2 (x :: l).length (avs (x :: l))
theorem rwA_pos {l : List Int} (h : 0 < l.length) : rwA l = .own 2 l.length (avs l) := by cases l with | nil => simp at h | cons x l => rfl
def ivC (n : Nat) (R : List (List Int)) (k i : Nat) : List AV := (List.range n).map fun j => rwA ((R[j]?.getD []).take (if j < i then k + 1 else k))
@[simp] theorem ivC_len (n : Nat) (R : List (List Int)) (k i : Nat) : (ivC n R k i).length = n := by simp [ivC]
theorem ivC_start (n : Nat) (R : List (List Int)) : ivC n R 0 0 = List.replicate n (.val (.slice none 0 0)) := by
  refine List.ext_getElem (by simp) fun i hi hj => ?_
  simp [ivC, rwA]
theorem ivC_col (n : Nat) (R : List (List Int)) (k : Nat) : ivC n R k n = ivC n R (k + 1) 0 := by
  refine List.ext_getElem (by simp) fun i hi hj => ?_
  have h : i < n := by simpa using hi
  simp [ivC, h]
theorem ivC_get {n : Nat} {R : List (List Int)} {k i : Nat} (h : i < n) : (ivC n R k i)[i]? = some (rwA ((R[i]?.getD []).take k)) := by simp [ivC, h]
theorem ivC_set {n : Nat} {R : List (List Int)} {k i : Nat} (h : i < n) (hk : k < (R[i]?.getD []).length) : (ivC n R k i).set i (.own 2 (k + 1) (avs ((R[i]?.getD []).take k) ++ [.val (.int .i64 (mx R i k))])) = ivC n R k (i + 1) := by
  refine List.ext_getElem (by simp) fun j h1 h2 => ?_
  have hj : j < n := by simpa using h2
  rw [List.getElem_set]
  by_cases e : i = j
  · subst e
    rw [if_pos rfl]
    have e1 : (R[i]?.getD []).take (k + 1) = (R[i]?.getD []).take k ++ [mx R i k] := by
      rw [List.take_add_one]; unfold mx; simp [hk]
    have e2 : ((R[i]?.getD []).take (k + 1)).length = k + 1 := by simp; omega
    simp only [ivC, List.getElem_map, List.getElem_range, show i < i + 1 by omega, if_true]
    rw [rwA_pos (by omega), e2, e1, avs_snoc]
  · rw [if_neg e]
    have : (j < i + 1) = (j < i) := by simp; omega
    simp [ivC, this]
theorem ivC_end {n : Nat} {R : List (List Int)} (hn : 0 < n) (hl : R.length = n) (hr : Rws n R) : ivC n R n 0 = omat R := by
  refine List.ext_getElem (by simp [omat, hl]) fun i hi hj => ?_
  have h : i < n := by simpa using hi
  have q := hr.at (show i < R.length by omega)
  have e : R[i]?.getD [] = R[i] := by simp [show i < R.length by omega]
  have e2 : (R[i]?.getD []).take n = R[i]?.getD [] := List.take_of_length_le (by omega)
  simp only [ivC, List.getElem_map, List.getElem_range, Nat.not_lt_zero, if_false, omat]
  rw [e2, rwA_pos (by omega), e]
set_option maxRecDepth 100000 in
theorem specInverse_c (a : List (List Int)) (h1 : 1 ≤ a.length) (h8 : a.length ≤ 8) (hr : Rws a.length a) :
    Con Tryz.prog 78 [.sl a.length (mat a)] (if ldet a.length a = 0 then .tup [.own 35 0 [], .int 5] else .tup [.own 35 a.length (omat (invL a.length a)), .int 0]) := by
  have r0 := hr.at (show 0 < a.length by omega)
  have cM := l01Matrix_c a (by omega) (fun r h => by have := (hr r h).1; omega)
  have hM : matB a = true := matB_iff.2 ⟨by omega, by omega, fun r h => ⟨by have := (hr r h).1; omega, (hr r h).2⟩⟩
  rw [if_pos hM] at cM
  have cD := l01Det_c a.length a rfl (by omega) hr
  have m0 := mat_drop (xss := a) (k := 0) (by omega)
  simp only [List.drop_zero] at m0
  have m1 : AV.sl (a[0]?.getD []).length (avs (a[0]?.getD [])) :: mat a.tail = mat a := by cases a with | nil => simp at h1 | cons x l => simp [mat]
  have ne : ¬ a = [] := by rintro rfl; simp at h1
  have r0l : (a[0]?.getD []).length = a.length := r0.1
  by_cases hd : ldet a.length a = 0
  · rw [hd] at cD
    rw [if_pos hd]
    refine Con.n1 _ ?_
    refine con_of_vc Tryz.mixed ⟨10, [], [], [1001511990014]⟩ Tryz.func78 (by decide) rfl (by simp) (by decide) (by simp [freshOK, freshL, go_sem]) ?_
    rw [Tryz.ntmps78]
    simp [go_sem]
    refine CallVC.of (cM) (by decide) ?_
    simp [go_sem]
    simp [go_sem, m0]
    simp only [m1]
    simp [go_sem, r0l, ne]
    refine ⟨by omega, ?_⟩
    refine CallVC.of (cD) (by decide) ?_
    simp [go_sem]
  · rw [if_neg hd]
    have io := invL_ok h1 rfl hr
    have sy := fun i k (hi : i < a.length) (hk : k < a.length) => inv_sys h1 rfl hr hd hi hk
    generalize invL a.length a = R at *
    refine con_of_vc Tryz.mixed ⟨10, [], [], [1001511990014]⟩ Tryz.func78 (by decide) rfl (by simp) (by decide) (by simp [freshOK, freshL, go_sem]) ?_
    rw [Tryz.ntmps78]
    simp [go_sem]
    refine CallVC.of (cM) (by decide) ?_
    simp [go_sem]
    simp [go_sem, m0]
    simp only [m1]
    simp [go_sem, r0l, ne]
    refine ⟨by omega, ?_⟩
    refine CallVC.of (cD) (by decide) ?_
    simp [go_sem]
    simp [go_sem, hd]
    refine ⟨by omega, ?_⟩
    refine loop_inv (List.range' 4 6 ++ List.range' 28 37) (fun k : Nat => [(4, .own 35 a.length (ivC a.length R k 0)), (5, .int k)]) (fun k => k ≤ a.length) (fun k => a.length - k) 0 (by simp) (by simp [go_sem, ivC_start]) (by simp [go_sem]) ?_
    intro k hk
    simp [go_sem]
    refine ⟨fun h => ?_, fun h => ?_⟩ <;> simp at h
    · have cS := l01Solve_c a (unR a.length k) rfl (by omega) hr (unR_N _ _) (by rw [unR_len]; omega)
      rw [unR_len] at cS
      have ue := unR_one (n := a.length) (k := k)
      unfold solR solX at cS
      rw [if_neg hd] at cS
      have hcol : ∀ i, i < a.length → (tb (sysF a.length a (unR a.length k)) a.length)[i]?.getD 0 = mx R i k := fun i hi => by rw [tb_get _ hi]; exact sy i k hi h
      have hcl : (tb (sysF a.length a (unR a.length k)) a.length).length = a.length := by simp
      rw [ue] at cS hcol hcl
      rw [hcl, decide_eq_true hd] at cS
      generalize tb (sysF a.length a ((List.replicate a.length 0).set k 1)) a.length = col at *
      simp [go_sem, avs_repl, avs_set]
      refine ⟨⟨by omega, by omega⟩, h, ?_⟩
      refine CallVC.of (cS) (by decide) ?_
      simp [go_sem]
      refine loop_inv (4 :: 9 :: List.range' 46 19) (fun i : Nat => [(4, .own 35 a.length (ivC a.length R k i)), (9, .int i)]) (fun i => i ≤ a.length) (fun i => a.length - i) 0 (by simp) (by simp [go_sem]) (by simp [go_sem]) ?_
      intro i hi
      by_cases hia : i < a.length
      · have hii : (i : Int) < a.length := by omega
        have gt := ivC_get (R := R) (k := k) hia
        have q := io.2.at (show i < R.length by rw [io.1]; exact hia)
        have st := ivC_set (R := R) (k := k) hia (by rw [q.1]; exact h)
        have hc := hcol i hia
        have hil : i < col.length := by omega
        have cdr := avs_drop hil
        rw [List.getD_eq_getElem?_getD, hc] at cdr
        have cg : (avs col)[i]? = some (.val (.int .i64 (mx R i k))) := by
          rw [← hc]; simp [avs, hil]
        have tk : ((R[i]?.getD []).take k).length = k := by simp; omega
        generalize mx R i k = x at *
        generalize (R[i]?.getD []).take k = l at *
        rcases k with _ | k
        · have l0 : l = [] := List.length_eq_zero_iff.1 tk
          subst l0
          simp [go_sem, hii, gt, cdr, cg, rwA]
          repeat' apply And.intro
          all_goals first
            | omega
            | exact ⟨i + 1, by omega, by omega, Off_reset _ _ _ (by simp), by simpa using st, by omega⟩
            | exact ⟨i + 1, by omega, by omega, Off_reset _ _ _ (by simp), st, by omega⟩
            | (intro e; rw [e] at hil; simp at hil; done)
            | kernel_rfl
            | skip
        · have lp := rwA_pos (l := l) (by omega)
          rw [lp, tk] at gt
          simp [go_sem, hii, gt, cdr, cg]
          repeat' apply And.intro
          all_goals first
            | omega
            | exact ⟨i + 1, by omega, by omega, Off_reset _ _ _ (by simp), by simpa using st, by omega⟩
            | exact ⟨i + 1, by omega, by omega, Off_reset _ _ _ (by simp), st, by omega⟩
            | (intro e; rw [e] at hil; simp at hil; done)
            | kernel_rfl
            | skip
      · have e : i = a.length := by omega
        subst e
        have hii : ¬ (a.length : Int) < a.length := by omega
        have ee := ivC_col a.length R k
        simp [go_sem, hii]
        exact ⟨⟨by omega, by omega⟩, k + 1, by omega, by omega, (Off.reset (by intro x hx; simp at hx ⊢; omega) (by simp) (by simp [go_sem, Off_reset])), ee, by omega⟩
    · have e : k = a.length := by omega
      subst e
      have ee := ivC_end h1 io.1 io.2
      simp [go_sem, ee]
end Go.Proofs.YtoeikpioonlmfaaGreat

