/- Texts of the own layer and contracts, part 6: B0 B1 B2 P0 C0 C1 C4 C5 C6 C7 C8 C2 C9 C10 C11 C12 F0 F1 F2 F3 F4 F5 F6 P1 P2 P3 P4 P5 P6 C13 F7 Q0 G0 G1 Q1 Q2 L3 Q9 B3 C3 B4 B5 B6 B7 B8 B9 B10 B11 B12 B13 B14 B15 Q10 Q11 Q12 Q13 Q3 Q4 Q5 P7 Q6 Q7 Q8 Q14 B16 R1 R2 R3 R7 R8 R9 C14 W17. -/
import Derived.Test.YtnokgijakdaehaaGreatDoorM5
namespace Go.Proofs.YtnokgijakdaehaaGreatDoor
set_option linter.unusedSectionVars false
set_option linter.unusedVariables false
set_option linter.unusedSimpArgs false
set_option maxHeartbeats 1000000
abbrev Mx := Nat → Nat → Int
def sgd (i : Nat) : Int := if i % 2 = 0 then 1 else -1
theorem sgd_succ (i : Nat) : sgd (i + 1) = - sgd i := by
  unfold sgd
  by_cases h : i % 2 = 0
  · rw [if_pos h, if_neg (by omega)]
  · rw [if_neg h, if_pos (by omega)]; rfl
def dsum (f : Nat → Int) : Nat → Int
  | 0 => 0
  | n + 1 => dsum f n + f n
theorem dsum_congr {f g : Nat → Int} : ∀ {n : Nat}, (∀ i, i < n → f i = g i) → dsum f n = dsum g n
  | 0, _ => rfl
  | n + 1, h => by rw [dsum, dsum, dsum_congr (fun i hi => h i (by omega)), h n (by omega)]
theorem dsum_lin (f g : Nat → Int) (k : Int) : ∀ n : Nat, dsum (fun i => f i + k * g i) n = dsum f n + k * dsum g n
  | 0 => by simp [dsum]
  | n + 1 => by rw [dsum, dsum, dsum, dsum_lin f g k n, Int.mul_add]; omega
theorem dsum_zero {f : Nat → Int} : ∀ {n : Nat}, (∀ i, i < n → f i = 0) → dsum f n = 0
  | 0, _ => rfl
  | n + 1, h => by rw [dsum, dsum_zero (fun i hi => h i (by omega)), h n (by omega)]; rfl
theorem dsum_one {f : Nat → Int} {k : Nat} : ∀ {n : Nat}, k < n → (∀ i, i < n → i ≠ k → f i = 0) → dsum f n = f k
  | 0, h, _ => by omega
  | n + 1, h, hz => by
    rw [dsum]
    by_cases e : k = n
    · subst e
      rw [dsum_zero (fun i hi => hz i (by omega) (by omega)), Int.zero_add]
    · rw [dsum_one (n := n) (by omega) (fun i hi hne => hz i (by omega) hne), hz n (by omega) (by omega), Int.add_zero]
theorem dsum_two {f : Nat → Int} {k : Nat} : ∀ {n : Nat}, k + 1 < n → (∀ i, i < n → i ≠ k → i ≠ k + 1 → f i = 0) → dsum f n = f k + f (k + 1)
  | 0, h, _ => by omega
  | n + 1, h, hz => by
    rw [dsum]
    by_cases e : k + 1 = n
    · subst e
      rw [dsum_one (k := k) (by omega) (fun i hi hne => hz i (by omega) hne (by omega))]
    · rw [dsum_two (n := n) (by omega) (fun i hi h1 h2 => hz i (by omega) h1 h2), hz n (by omega) (by omega) (by omega), Int.add_zero]
def mnr (M : Mx) (i : Nat) : Mx := fun r c => M (if r < i then r else r + 1) (c + 1)
def det : Nat → Mx → Int
  | 0, _ => 1
  | n + 1, M => dsum (fun i => sgd i * M i 0 * det n (mnr M i)) (n + 1)
def updR (M : Mx) (i : Nat) (w : Nat → Int) : Mx := fun r => if r = i then w else M r
theorem updR_self (M : Mx) (i : Nat) : updR M i (M i) = M := funext fun r => by
  unfold updR; split
  · rename_i h; rw [h]
  · rfl
theorem updR_at (M : Mx) (i : Nat) (w : Nat → Int) : updR M i w i = w := by simp [updR]
theorem updR_ne (M : Mx) {i r : Nat} (w : Nat → Int) (h : r ≠ i) : updR M i w r = M r := by simp [updR, h]
theorem updR_upd (M : Mx) (i : Nat) (v w : Nat → Int) : updR (updR M i v) i w = updR M i w := funext fun r => by
  unfold updR; split <;> rfl
theorem updR_comm (M : Mx) {i j : Nat} (h : i ≠ j) (v w : Nat → Int) : updR (updR M i v) j w = updR (updR M j w) i v := funext fun r => by
  unfold updR
  by_cases h1 : r = i
  · subst h1; rw [if_neg h, if_pos rfl, if_pos rfl]
  · rw [if_neg h1, if_neg h1]
theorem mnr_self (M : Mx) (i : Nat) (w : Nat → Int) : mnr (updR M i w) i = mnr M i := funext fun r => funext fun c => by
  unfold mnr updR
  rw [if_neg (by split <;> omega)]
theorem mnr_ne (M : Mx) {i j : Nat} (w : Nat → Int) (h : j ≠ i) : mnr (updR M i w) j = updR (mnr M j) (if i < j then i else i - 1) (fun c => w (c + 1)) := funext fun r => funext fun c => by
  unfold mnr updR
  by_cases h1 : (if r < j then r else r + 1) = i
  · have h2 : r = if i < j then i else i - 1 := by
      split at h1 <;> split <;> omega
    rw [if_pos h1, if_pos h2]
  · have h2 : ¬ r = if i < j then i else i - 1 := by
      split at h1 <;> split <;> omega
    rw [if_neg h1, if_neg h2]
theorem det_congr : ∀ {n : Nat} {M N : Mx}, (∀ r c, r < n → c < n → M r c = N r c) → det n M = det n N
  | 0, _, _, _ => rfl
  | n + 1, M, N, h => by
    rw [det, det]
    refine dsum_congr fun i hi => ?_
    rw [h i 0 hi (by omega)]
    rw [det_congr (n := n) (M := mnr M i) (N := mnr N i) (fun r c hr hc => h _ _ (by split <;> omega) (by omega))]
theorem det_cong {p : Int} : ∀ {n : Nat} {M N : Mx}, (∀ r c, r < n → c < n → M r c % p = N r c % p) → det n M % p = det n N % p
  | 0, _, _, _ => rfl
  | n + 1, M, N, h => by
    rw [det, det]
    have gen : ∀ m : Nat, m ≤ n + 1 → dsum (fun i => sgd i * M i 0 * det n (mnr M i)) m % p = dsum (fun i => sgd i * N i 0 * det n (mnr N i)) m % p := by
      intro m
      induction m with
      | zero => intro _; rfl
      | succ m ih =>
        intro hm
        rw [dsum, dsum, Int.add_emod, ih (by omega), Int.add_emod (dsum (fun i => sgd i * N i 0 * det n (mnr N i)) m)]
        have e1 := h m 0 (by omega) (by omega)
        have e2 := det_cong (p := p) (n := n) (M := mnr M m) (N := mnr N m) (fun r c hr hc => h _ _ (by split <;> omega) (by omega))
        have e3 : (sgd m * M m 0 * det n (mnr M m)) % p = (sgd m * N m 0 * det n (mnr N m)) % p := by
          rw [Int.mul_emod, Int.mul_emod (sgd m), e1, e2, ← Int.mul_emod (sgd m), ← Int.mul_emod]
        rw [e3]
    exact gen _ (Nat.le_refl _)
theorem det_lin : ∀ {n : Nat} (M : Mx) {i : Nat} (u v : Nat → Int) (k : Int), i < n → det n (updR M i (fun c => u c + k * v c)) = det n (updR M i u) + k * det n (updR M i v)
  | 0, _, _, _, _, _, h => by omega
  | n + 1, M, i, u, v, k, h => by
    rw [det, det, det, ← dsum_lin]
    refine dsum_congr fun j hj => ?_
    by_cases e : j = i
    · subst e
      simp only [mnr_self, updR_at]
      generalize det n (mnr M j) = d
      rw [Int.mul_add, Int.add_mul]
      congr 1
      ac_rfl
    · simp only [mnr_ne M _ e, updR_ne M _ e]
      rw [det_lin (n := n) (mnr M j) (fun c => u (c + 1)) (fun c => v (c + 1)) k (by split <;> omega), Int.mul_add]
      congr 1
      ac_rfl
theorem det_adj : ∀ {n : Nat} (M : Mx) {i : Nat}, i + 1 < n → M i = M (i + 1) → det n M = 0
  | 0, _, _, h, _ => by omega
  | n + 1, M, i, h, he => by
    rw [det, dsum_two (k := i) h]
    · have hm : mnr M (i + 1) = mnr M i := funext fun r => funext fun c => by
        unfold mnr
        by_cases h1 : r < i
        · rw [if_pos (by omega), if_pos h1]
        · by_cases h2 : r = i
          · subst h2; rw [if_pos (by omega), if_neg (by omega), he]
          · rw [if_neg (by omega), if_neg (by omega)]
      rw [hm, ← he, sgd_succ, Int.neg_mul, Int.neg_mul]
      omega
    · intro j hj h1 h2
      have hz : det n (mnr M j) = 0 := by
        by_cases hlt : i < j
        · refine det_adj (mnr M j) (i := i) (by omega) (funext fun c => ?_)
          unfold mnr
          rw [if_pos hlt, if_pos (by omega), he]
        · obtain ⟨i', rfl⟩ : ∃ i', i = i' + 1 := ⟨i - 1, by omega⟩
          refine det_adj (mnr M j) (i := i') (by omega) (funext fun c => ?_)
          unfold mnr
          rw [if_neg (by omega), if_neg (by omega), he]
      rw [hz, Int.mul_zero]
theorem det_swap1 {n : Nat} (M : Mx) {i : Nat} (h : i + 1 < n) (u v : Nat → Int) : det n (updR (updR M i u) (i + 1) v) = - det n (updR (updR M i v) (i + 1) u) := by
  have hne : i ≠ i + 1 := by omega
  have z := fun w : Nat → Int => det_adj (n := n) (updR (updR M i w) (i + 1) w) h (by rw [updR_at, updR_ne _ _ hne, updR_at])
  have s := z (fun c => u c + 1 * v c)
  rw [det_lin _ u v 1 h, updR_comm _ hne, updR_comm _ hne, det_lin _ u v 1 (by omega), det_lin _ u v 1 (by omega)] at s
  have zu := z u
  have zv := z v
  rw [updR_comm _ hne] at zu zv
  rw [updR_comm _ hne, updR_comm (M) hne v u]
  omega
theorem det_eq : ∀ {n : Nat} (k : Nat) (M : Mx) {i : Nat}, i + k + 1 < n → M i = M (i + k + 1) → det n M = 0
  | n, 0, M, i, h, he => det_adj M h he
  | n, k + 1, M, i, h, he => by
    have hne : i + k + 1 ≠ i + (k + 1) + 1 := by omega
    have e0 : M = updR (updR M (i + k + 1) (M (i + k + 1))) (i + k + 1 + 1) (M (i + k + 1 + 1)) := by rw [updR_self, updR_self]
    rw [e0, det_swap1 M (i := i + k + 1) (by omega)]
    have := det_eq k (updR (updR M (i + k + 1) (M (i + k + 1 + 1))) (i + k + 1 + 1) (M (i + k + 1))) (i := i) (n := n) (by omega) (by
      rw [updR_ne _ _ (show i ≠ i + k + 1 + 1 by omega), updR_ne _ _ (show i ≠ i + k + 1 by omega), updR_ne _ _ (show i + k + 1 ≠ i + k + 1 + 1 by omega), updR_at]
      exact he)
    rw [this]; rfl
theorem det_same {n : Nat} (M : Mx) {i j : Nat} (hi : i < n) (hj : j < n) (hne : i ≠ j) (he : M i = M j) : det n M = 0 := by
  by_cases h : i < j
  · have e : j = i + (j - i - 1) + 1 := by omega
    rw [e] at he
    exact det_eq (j - i - 1) M (by omega) he
  · have e : i = j + (i - j - 1) + 1 := by omega
    rw [e] at he
    exact det_eq (i - j - 1) M (by omega) he.symm
theorem det_add {n : Nat} (M : Mx) {i j : Nat} (hi : i < n) (hj : j < n) (hne : i ≠ j) (k : Int) : det n (updR M i (fun c => M i c + k * M j c)) = det n M := by
  rw [det_lin M (M i) (M j) k hi, updR_self, det_same (updR M i (M j)) hi hj hne (by rw [updR_at, updR_ne _ _ (fun e => hne e.symm)]), Int.mul_zero, Int.add_zero]
theorem det_nil {n : Nat} (M : Mx) {i : Nat} (hi : i < n) (hz : ∀ c, M i c = 0) : det n M = 0 := by
  have := det_lin M (M i) (M i) 1 hi
  have e : (fun c => M i c + 1 * M i c) = M i := funext fun c => by rw [hz c]; rfl
  rw [e, updR_self] at this
  omega
theorem det_scale {n : Nat} (M : Mx) {i : Nat} (hi : i < n) (k : Int) : det n (updR M i (fun c => k * M i c)) = k * det n M := by
  have := det_lin M (fun _ => 0) (M i) k hi
  simp only [Int.zero_add] at this
  rw [this, updR_self, det_nil (updR M i (fun _ => 0)) hi (fun c => by rw [updR_at]), Int.zero_add]
theorem det_swap {n : Nat} (M : Mx) {i j : Nat} (hi : i < n) (hj : j < n) (hne : i ≠ j) (u v : Nat → Int) : det n (updR (updR M i u) j v) = - det n (updR (updR M i v) j u) := by
  have z := fun w : Nat → Int => det_same (n := n) (updR (updR M i w) j w) hi hj hne (by rw [updR_at, updR_ne _ _ hne, updR_at])
  have s := z (fun c => u c + 1 * v c)
  rw [det_lin _ u v 1 hj, updR_comm _ hne, updR_comm _ hne, det_lin _ u v 1 hi, det_lin _ u v 1 hi] at s
  have zu := z u
  have zv := z v
  rw [updR_comm _ hne] at zu zv
  rw [updR_comm _ hne, updR_comm (M) hne v u]
  omega
def idM : Mx := fun r c => if r = c then 1 else 0
theorem mnr_id : mnr idM 0 = idM := funext fun r => funext fun c => by simp [mnr, idM]
theorem det_one : ∀ n : Nat, det n idM = 1
  | 0 => rfl
  | n + 1 => by
    rw [det, dsum_one (k := 0) (by omega) (fun i hi hne => by simp [idM, hne]), mnr_id, det_one n]
    simp [sgd, idM]
def updC (M : Mx) (k : Nat) (b : Nat → Int) : Mx := fun r c => if c = k then b r else M r c
theorem det_col : ∀ {n k : Nat} (b : Nat → Int), k < n → det n (updC idM k b) = b k
  | 0, _, _, h => by omega
  | n + 1, 0, b, _ => by
    rw [det, dsum_one (k := 0) (by omega)]
    · have e : mnr (updC idM 0 b) 0 = idM := funext fun r => funext fun c => by simp [mnr, updC, idM]
      rw [e, det_one]
      simp [sgd, updC]
    · intro i hi hne
      rw [det_nil (mnr (updC idM 0 b) i) (i := 0) (by omega) (fun c => by
        have : (0 : Nat) < i := by omega
        simp [mnr, updC, idM, this]), Int.mul_zero]
  | n + 1, k + 1, b, h => by
    rw [det, dsum_one (k := 0) (by omega)]
    · have e : mnr (updC idM (k + 1) b) 0 = updC idM k (fun r => b (r + 1)) := funext fun r => funext fun c => by simp [mnr, updC, idM]
      rw [e, det_col _ (by omega)]
      simp [sgd, updC, idM]
    · intro i hi hne
      have : updC idM (k + 1) b i 0 = 0 := by simp [updC, idM, hne]
      rw [this]; simp
end Go.Proofs.YtnokgijakdaehaaGreatDoor


namespace Go.Proofs.YtnokgijakdaehaaGreatDoor
set_option linter.unusedSectionVars false
set_option linter.unusedVariables false
set_option linter.unusedSimpArgs false
set_option maxHeartbeats 1000000
theorem dsum_shift (f : Nat → Int) : ∀ n, dsum f (n + 1) = f 0 + dsum (fun i => f (i + 1)) n
  | 0 => by simp [dsum]
  | n + 1 => by rw [dsum, dsum_shift f n, dsum]; omega
theorem dsum_mul (k : Int) (f : Nat → Int) : ∀ n, k * dsum f n = dsum (fun i => k * f i) n
  | 0 => by simp [dsum]
  | n + 1 => by rw [dsum, dsum, Int.mul_add, dsum_mul k f n]
theorem dsum_plus (f g : Nat → Int) : ∀ n, dsum (fun i => f i + g i) n = dsum f n + dsum g n
  | 0 => by simp [dsum]
  | n + 1 => by rw [dsum, dsum, dsum, dsum_plus f g n]; omega
theorem dsum_swap (F : Nat → Nat → Int) (m : Nat) : ∀ n, dsum (fun i => dsum (fun k => F i k) m) n = dsum (fun k => dsum (fun i => F i k) n) m
  | 0 => (dsum_zero (f := fun k => dsum (fun i => F i k) 0) (fun i hi => rfl)).symm
  | n + 1 => by
    rw [dsum, dsum_swap F m n, ← dsum_plus]
    exact dsum_congr fun k hk => rfl
def mnc (M : Mx) (k : Nat) : Mx := fun r c => M (r + 1) (if c < k then c else c + 1)
theorem mnc_zero (M : Mx) : mnc M 0 = mnr M 0 := funext fun r => funext fun c => by simp [mnc, mnr]
theorem mnc_mnr (M : Mx) (i k : Nat) : mnc (mnr M (i + 1)) k = mnr (mnc M (k + 1)) i := funext fun r => funext fun c => by
  unfold mnc mnr
  have e1 : (if r + 1 < i + 1 then r + 1 else r + 1 + 1) = (if r < i then r else r + 1) + 1 := by split <;> split <;> omega
  have e2 : (if c < k then c else c + 1) + 1 = if c + 1 < k + 1 then c + 1 else c + 1 + 1 := by split <;> split <;> omega
  simp only [e1, e2]
theorem det_row : ∀ (n : Nat) (M : Mx), det (n + 1) M = dsum (fun k => sgd k * M 0 k * det n (mnc M k)) (n + 1)
  | 0, M => by simp [det, dsum]
  | n + 1, M => by
    rw [det, dsum_shift, dsum_shift (fun k => sgd k * M 0 k * det (n + 1) (mnc M k)), mnc_zero]
    congr 1
    have l1 : dsum (fun i => sgd (i + 1) * M (i + 1) 0 * det (n + 1) (mnr M (i + 1))) (n + 1) = dsum (fun i => dsum (fun k => sgd (i + 1) * M (i + 1) 0 * (sgd k * M 0 (k + 1) * det n (mnr (mnc M (k + 1)) i))) (n + 1)) (n + 1) := dsum_congr fun i hi => by
      rw [det_row n (mnr M (i + 1)), dsum_mul]
      refine dsum_congr fun k hk => ?_
      rw [mnc_mnr]
      have : mnr M (i + 1) 0 k = M 0 (k + 1) := by simp [mnr]
      rw [this]
    have l2 : dsum (fun k => sgd (k + 1) * M 0 (k + 1) * det (n + 1) (mnc M (k + 1))) (n + 1) = dsum (fun k => dsum (fun i => sgd (k + 1) * M 0 (k + 1) * (sgd i * M (i + 1) 0 * det n (mnr (mnc M (k + 1)) i))) (n + 1)) (n + 1) := dsum_congr fun k hk => by
      rw [det, dsum_mul]
      refine dsum_congr fun i hi => ?_
      have : mnc M (k + 1) i 0 = M (i + 1) 0 := by simp [mnc]
      rw [this]
    rw [l1, l2, dsum_swap]
    refine dsum_congr fun k hk => dsum_congr fun i hi => ?_
    rw [sgd_succ, sgd_succ]
    generalize det n (mnr (mnc M (k + 1)) i) = d
    generalize M (i + 1) 0 = a
    generalize M 0 (k + 1) = b
    have e : sgd i * a * (sgd k * b * d) = sgd k * b * (sgd i * a * d) := by ac_rfl
    rw [Int.neg_mul, Int.neg_mul, Int.neg_mul, Int.neg_mul, e]
def clr (M : Mx) (i : Nat) (w : Nat → Int) (t : Nat) : Mx := fun r => if r < t ∧ r ≠ i then fun c => M r c + w r * M i c else M r
theorem clr_zero (M : Mx) (i : Nat) (w : Nat → Int) : clr M i w 0 = M := funext fun r => by unfold clr; rw [if_neg (by omega)]
theorem det_clr {n : Nat} (M : Mx) {i : Nat} (hi : i < n) (w : Nat → Int) : ∀ t, t ≤ n → det n (clr M i w t) = det n M
  | 0, _ => by rw [clr_zero]
  | t + 1, ht => by
    rw [← det_clr M hi w t (by omega)]
    by_cases e : t = i
    · have : clr M i w (t + 1) = clr M i w t := funext fun r => by
        unfold clr
        by_cases h : r < t ∧ r ≠ i
        · rw [if_pos h, if_pos ⟨by omega, h.2⟩]
        · rw [if_neg h, if_neg (by omega)]
      rw [this]
    · have hi2 : clr M i w t i = M i := by unfold clr; rw [if_neg (by omega)]
      have ht2 : clr M i w t t = M t := by unfold clr; rw [if_neg (by omega)]
      have : clr M i w (t + 1) = updR (clr M i w t) t (fun c => clr M i w t t c + w t * clr M i w t i c) := funext fun r => by
        rw [hi2, ht2]
        unfold updR
        by_cases h : r = t
        · subst h; rw [if_pos rfl]; unfold clr; rw [if_pos ⟨by omega, e⟩]
        · rw [if_neg h]
          unfold clr
          by_cases h2 : r < t ∧ r ≠ i
          · rw [if_pos h2, if_pos ⟨by omega, h2.2⟩]
          · rw [if_neg h2, if_neg (by omega)]
      rw [this, det_add _ (by omega) hi e]
theorem dsum_cong {p : Int} {f g : Nat → Int} : ∀ {n : Nat}, (∀ i, i < n → f i % p = g i % p) → dsum f n % p = dsum g n % p
  | 0, _ => rfl
  | n + 1, h => by rw [dsum, dsum, Int.add_emod, dsum_cong (fun i hi => h i (by omega)), h n (by omega), ← Int.add_emod]
theorem det_pivot {p : Int} {n : Nat} (M : Mx) {i : Nat} (hi : i < n + 1) {q : Int} (hq : (M i 0 * q) % p = 1 % p) :
    det (n + 1) M % p = (sgd i * M i 0 * det n (fun r c => M (if r < i then r else r + 1) (c + 1) + (- (M (if r < i then r else r + 1) 0 * q)) * M i (c + 1))) % p := by
  rw [← det_clr M hi (fun r => - (M r 0 * q)) (n + 1) (Nat.le_refl _), det]
  have hii : clr M i (fun r => - (M r 0 * q)) (n + 1) i = M i := by unfold clr; rw [if_neg (by omega)]
  have hm : det n (mnr (clr M i (fun r => - (M r 0 * q)) (n + 1)) i) = det n (fun r c => M (if r < i then r else r + 1) (c + 1) + (- (M (if r < i then r else r + 1) 0 * q)) * M i (c + 1)) := det_congr fun r c hr hc => by
    unfold mnr clr
    rw [if_pos (by split <;> omega)]
  have hz : ∀ r, r < n + 1 → r ≠ i → clr M i (fun r => - (M r 0 * q)) (n + 1) r 0 % p = 0 := fun r hr hne => by
    unfold clr
    rw [if_pos ⟨hr, hne⟩]
    have e : M r 0 + - (M r 0 * q) * M i 0 = M r 0 - M r 0 * (M i 0 * q) := by
      rw [Int.neg_mul, Int.mul_assoc, Int.mul_comm q]; rfl
    show (M r 0 + - (M r 0 * q) * M i 0) % p = 0
    rw [e, Int.sub_emod, Int.mul_emod, hq, ← Int.mul_emod, Int.mul_one, Int.sub_self]; simp
  have hs := dsum_cong (p := p) (n := n + 1) (f := fun r => sgd r * clr M i (fun r => - (M r 0 * q)) (n + 1) r 0 * det n (mnr (clr M i (fun r => - (M r 0 * q)) (n + 1)) r)) (g := fun r => if r = i then sgd i * M i 0 * det n (fun r c => M (if r < i then r else r + 1) (c + 1) + (- (M (if r < i then r else r + 1) 0 * q)) * M i (c + 1)) else 0) (fun r hr => by
    by_cases h : r = i
    · subst h
      simp only [if_true]
      rw [hm, hii]
    · simp only [if_neg h]
      have := hz r hr h
      rw [Int.mul_emod, Int.mul_emod (sgd r), this]
      simp)
  rw [hs, dsum_one (k := i) hi (fun r hr hne => if_neg hne), if_pos rfl]
end Go.Proofs.YtnokgijakdaehaaGreatDoor


namespace Go.Proofs.YtnokgijakdaehaaGreatDoor
set_option linter.unusedSectionVars false
set_option linter.unusedVariables false
set_option linter.unusedSimpArgs false
set_option maxHeartbeats 1000000
def sel (W : Mx) (g : Nat → Nat) : Mx := fun r c => W r (g c)
theorem sel_upd (W : Mx) (i : Nat) (w : Nat → Int) (g : Nat → Nat) : sel (updR W i w) g = updR (sel W g) i (fun c => w (g c)) := funext fun r => funext fun c => by
  unfold sel updR; split <;> rfl
theorem sel_clr (W : Mx) (i : Nat) (w : Nat → Int) (t : Nat) (g : Nat → Nat) : sel (clr W i w t) g = clr (sel W g) i w t := funext fun r => funext fun c => by
  unfold sel clr; split <;> rfl
def RowEq (n w : Nat) (W W' : Mx) : Prop := ∃ s t : Int, s * t % 10007 = 1 ∧ ∀ g : Nat → Nat, (∀ c, c < n → g c < w) → det n (sel W g) * s % 10007 = det n (sel W' g) % 10007
theorem RowEq.refl (n w : Nat) (W : Mx) : RowEq n w W W := ⟨1, 1, rfl, fun g hg => by rw [Int.mul_one]⟩
theorem mul_mod_l (a b : Int) : a % 10007 * b % 10007 = a * b % 10007 := by rw [Int.mul_emod, Int.emod_emod_of_dvd _ (Int.dvd_refl _), ← Int.mul_emod]
theorem mul_mod_r (a b : Int) : a * (b % 10007) % 10007 = a * b % 10007 := by rw [Int.mul_emod, Int.emod_emod_of_dvd _ (Int.dvd_refl _), ← Int.mul_emod]
theorem RowEq.trans {n w : Nat} {W X Y : Mx} (h : RowEq n w W X) (k : RowEq n w X Y) : RowEq n w W Y := by
  obtain ⟨s, t, h1, h2⟩ := h
  obtain ⟨s', t', k1, k2⟩ := k
  refine ⟨s * s', t * t', ?_, fun g hg => ?_⟩
  · have e : s * s' * (t * t') = (s * t) * (s' * t') := by ac_rfl
    rw [e, Int.mul_emod, h1, k1]; rfl
  · rw [← k2 g hg, ← Int.mul_assoc, ← mul_mod_l, h2 g hg, mul_mod_l]
theorem RowEq.cong {n w : Nat} {W W' : Mx} (h : ∀ r c, r < n → c < w → W r c % 10007 = W' r c % 10007) : RowEq n w W W' :=
  ⟨1, 1, rfl, fun g hg => by rw [Int.mul_one]; exact det_cong fun r c hr hc => h r (g c) hr (hg c hc)⟩
theorem RowEq.clr {n w : Nat} (W : Mx) {i : Nat} (hi : i < n) (u : Nat → Int) : RowEq n w W (clr W i u n) :=
  ⟨1, 1, rfl, fun g hg => by rw [Int.mul_one, sel_clr, det_clr _ hi u n (Nat.le_refl _)]⟩
theorem RowEq.scale {n w : Nat} (W : Mx) {i : Nat} (hi : i < n) {k k' : Int} (hk : k * k' % 10007 = 1) : RowEq n w W (updR W i (fun c => k * W i c)) :=
  ⟨k, k', hk, fun g hg => by
    rw [sel_upd]
    have := det_scale (sel W g) hi k
    have e : (fun c => k * sel W g i c) = fun c => k * W i (g c) := rfl
    rw [e] at this
    rw [this, Int.mul_comm]⟩
theorem RowEq.swap {n w : Nat} (W : Mx) {i j : Nat} (hi : i < n) (hj : j < n) (hne : i ≠ j) : RowEq n w W (updR (updR W i (W j)) j (W i)) :=
  ⟨-1, -1, rfl, fun g hg => by
    rw [sel_upd, sel_upd]
    have e : sel W g = updR (updR (sel W g) i (fun c => W i (g c))) j (fun c => W j (g c)) := by
      have e1 : (fun c => W i (g c)) = sel W g i := rfl
      have e2 : (fun c => W j (g c)) = sel W g j := rfl
      rw [e1, e2, updR_self, updR_self]
    have h := det_swap (sel W g) hi hj hne (fun c => W j (g c)) (fun c => W i (g c))
    rw [h, ← e]
    congr 1
    omega⟩
theorem RowEq.full {n : Nat} {W W' : Mx} (h : RowEq n (n + 1) W W') (hid : ∀ r c, r < n → c < n → W' r c % 10007 = idM r c % 10007) :
    ∃ s : Int, det n W * s % 10007 = 1 ∧ ∀ k, k < n → W' k n % 10007 = det n (updC W k (fun r => W r n)) * s % 10007 := by
  obtain ⟨s, t, h1, h2⟩ := h
  refine ⟨s, ?_, fun k hk => ?_⟩
  · have := h2 id (fun c hc => by show c < n + 1; omega)
    have e : ∀ X : Mx, sel X id = X := fun X => rfl
    rw [e, e, det_cong (p := 10007) (N := idM) hid, det_one] at this
    exact this
  · have := h2 (fun c => if c = k then n else c) (fun c hc => by show (if c = k then n else c) < n + 1; split <;> omega)
    have e : sel W (fun c => if c = k then n else c) = updC W k (fun r => W r n) := funext fun r => funext fun c => by
      by_cases hc : c = k
      · simp [sel, updC, hc]
      · simp [sel, updC, hc]
    rw [e] at this
    rw [this, det_cong (p := 10007) (N := updC idM k (fun r => W' r n)), det_col _ hk]
    intro r c hr hc
    by_cases hck : c = k
    · simp [sel, updC, hck]
    · simp [sel, updC, hck]; exact hid r c hr hc
theorem RowEq.sing {n w : Nat} {W W' : Mx} (h : RowEq n w W W') (hw : n ≤ w) {i : Nat} (hi : i < n) (hz : ∀ c, c < n → W' i c % 10007 = 0) : det n W % 10007 = 0 := by
  obtain ⟨s, t, h1, h2⟩ := h
  have h3 := h2 id (fun c hc => by show c < w; omega)
  have e : ∀ X : Mx, sel X id = X := fun X => rfl
  rw [e, e] at h3
  have h4 : det n W' % 10007 = det n (updR W' i (fun _ => 0)) % 10007 := det_cong fun r c hr hc => by
    unfold updR
    by_cases hr2 : r = i
    · subst hr2; rw [if_pos rfl, hz c hc]; rfl
    · rw [if_neg hr2]
  rw [h4, det_nil (updR W' i (fun _ => 0)) hi (fun c => by rw [updR_at])] at h3
  have h5 : det n W * s * t % 10007 = 0 := by rw [← mul_mod_l, h3]; simp
  rw [Int.mul_assoc, ← mul_mod_r, h1, Int.mul_one] at h5
  exact h5
end Go.Proofs.YtnokgijakdaehaaGreatDoor


namespace Go.Proofs.YtnokgijakdaehaaGreatDoor
set_option linter.unusedSectionVars false
set_option linter.unusedVariables false
set_option linter.unusedSimpArgs false
abbrev Key3 := Int × Int × Int
def r4 : List Int := [0, 1, 2, 3]
def box : List Key3 := r4.flatMap fun i => r4.flatMap fun j => r4.map fun k => (i, j, k)
theorem mem_box {k : Key3} : k ∈ box ↔ 0 ≤ k.1 ∧ k.1 ≤ 3 ∧ 0 ≤ k.2.1 ∧ k.2.1 ≤ 3 ∧ 0 ≤ k.2.2 ∧ k.2.2 ≤ 3 := by
  obtain ⟨a, b, c⟩ := k
  have h4 : ∀ x : Int, x ∈ r4 ↔ 0 ≤ x ∧ x ≤ 3 := fun x => by simp [r4]; omega
  simp only [box, List.mem_flatMap, List.mem_map, Prod.mk.injEq]
  constructor
  · rintro ⟨i, hi, j, hj, k, hk, rfl, rfl, rfl⟩
    have := (h4 i).1 hi; have := (h4 j).1 hj; have := (h4 k).1 hk
    omega
  · rintro ⟨h1, h2, h3, h5, h6, h7⟩
    exact ⟨a, (h4 a).2 ⟨h1, h2⟩, b, (h4 b).2 ⟨h3, h5⟩, c, (h4 c).2 ⟨h6, h7⟩, rfl, rfl, rfl⟩
def inc (i : Nat) (k : Key3) : Key3 := if i = 0 then (k.1 + 1, k.2.1, k.2.2) else if i = 1 then (k.1, k.2.1 + 1, k.2.2) else (k.1, k.2.1, k.2.2 + 1)
def at3 (i : Nat) (k : Key3) : Int := if i = 0 then k.1 else if i = 1 then k.2.1 else k.2.2
def der (i : Nat) (C : Key3 → Int) (k : Key3) : Int := (at3 i k + 1) * C (inc i k)
def alo (v : Nat → Int) (C : Key3 → Int) : Nat → Key3 → Int
  | 0, _ => 0
  | n + 1, k => alo v C n k + v n * der n C k
end Go.Proofs.YtnokgijakdaehaaGreatDoor


namespace Go.Abs
def avs (xs : List Int) : List AV := xs.map AV.int
@[simp] theorem avs_len (xs : List Int) : (avs xs).length = xs.length := by simp [avs]
@[simp] theorem avs_nil : avs [] = [] := rfl
theorem avs_snoc (xs : List Int) (x : Int) : avs (xs ++ [x]) = avs xs ++ [.val (.int .i64 x)] := by simp [avs]
theorem avs_cons (xs : List Int) (x : Int) : avs (x :: xs) = .val (.int .i64 x) :: avs xs := by simp [avs]
theorem avs_app (xs ys : List Int) : avs (xs ++ ys) = avs xs ++ avs ys := by simp [avs]
theorem avs_drop {xs : List Int} {k : Nat} (h : k < xs.length) : (avs xs).drop k = .val (.int .i64 (xs.getD k 0)) :: avs (xs.drop (k + 1)) := by
  rw [avs, ← List.map_drop, List.drop_eq_getElem_cons h, List.map_cons]; simp [h, avs]
@[simp] theorem avs_inj {xs ys : List Int} : (avs xs = avs ys) = (xs = ys) := by
  apply propext
  constructor
  · intro h
    induction xs generalizing ys with
    | nil => cases ys with
      | nil => rfl
      | cons y ys => simp [avs] at h
    | cons x xs ih => cases ys with
      | nil => simp [avs] at h
      | cons y ys =>
        rw [avs_cons, avs_cons] at h
        injection h with h1 h2
        injection h1 with h1
        injection h1 with _ h1
        rw [h1, ih h2]
  · rintro rfl; rfl
theorem avs_set (xs : List Int) (k : Nat) (x : Int) : (avs xs).set k (.val (.int .i64 x)) = avs (xs.set k x) := by
  simp [avs, List.map_set]
theorem avs_repl (n : Nat) (x : Int) : List.replicate n (AV.val (.int .i64 x)) = avs (List.replicate n x) := by simp [avs]
@[simp] theorem avs_fresh (xs : List Int) : freshL (avs xs) = true := by
  induction xs with
  | nil => rfl
  | cons x xs ih => simp [avs_cons, freshL, ih, freshOK]
@[simp] theorem avs_frz (xs : List Int) : frzL (avs xs) = avs xs := by
  induction xs with
  | nil => rfl
  | cons x xs ih => simp [avs_cons, frzL, ih, frz]
@[simp] theorem avs_kl (W : List Nat) (xs : List Int) : klL W (avs xs) = avs xs := by
  induction xs with
  | nil => rfl
  | cons x xs ih => simp [avs_cons, klL, ih, kl]
@[simp] theorem avs_own (xs : List Int) : hasOwnL (avs xs) = false := by
  induction xs with
  | nil => rfl
  | cons x xs ih => simp [avs_cons, hasOwnL, ih, hasOwn]
@[simp] theorem avs_ne {xs : List Int} : (avs xs = []) = (xs = []) := by
  cases xs <;> simp [avs]
theorem tmod_up {n : Int} (h : 0 ≤ n) (m : Int) : n.tmod m = n % m := Int.tmod_eq_emod_of_nonneg h
theorem tdiv_up {n : Int} (h : 0 ≤ n) (m : Int) : n.tdiv m = n / m := Int.tdiv_eq_ediv_of_nonneg h
theorem num_law (n : Int) : (n.tmod 10007 + 10007).tmod 10007 = n % 10007 := by
  rw [Int.tmod_eq_emod, Int.tmod_eq_emod]; split <;> split <;> simp_all <;> omega
theorem num_low (n : Int) : -10007 < n.tmod 10007 ∧ n.tmod 10007 < 10007 := by
  constructor
  · rw [Int.tmod_eq_emod]; split <;> simp_all <;> omega
  · exact Int.tmod_lt_of_pos n (by omega)
end Go.Abs


namespace Go.Proofs.YtnokgijakdaehaaGreatDoor
open Go.Abs
set_option linter.unusedSectionVars false
set_option linter.unusedVariables false
set_option linter.unusedSimpArgs false
set_option maxHeartbeats 400000
theorem inRange_c (n a b : Int) : Con Tryz.prog 111 [.int n, .int a, .int b] (.bool (decide (a ≤ n) && decide (n ≤ b))) := by
  refine con_of_vc Tryz.mixed ⟨4, [], [], []⟩ Tryz.func111 (by decide) rfl (by simp) (by decide) rfl ?_
  rw [Tryz.ntmps111]
  simp [go_sem]
  refine ⟨fun h => ?_, fun h => ?_⟩ <;> simp at h <;> simp [go_sem, h] <;> omega
theorem l01In_c (n a b : Int) : Con Tryz.prog 126 [.int n, .int a, .int b] (.bool (decide (a ≤ n) && decide (n ≤ b))) := by
  refine con_of_vc Tryz.mixed ⟨4, [], [], []⟩ Tryz.func126 (by decide) rfl (by simp) (by decide) rfl ?_
  rw [Tryz.ntmps126]
  simp [go_sem]
  refine ⟨fun h => ?_, fun h => ?_⟩ <;> simp at h <;> simp [go_sem, h] <;> omega
def held (xs : List Int) (k : Int) : Int := if xs = (List.range xs.length).map (fun (i : Nat) => k + i) then k + xs.length else -1
end Go.Proofs.YtnokgijakdaehaaGreatDoor


namespace Go.Proofs.YtnokgijakdaehaaGreatDoor
open Go.Abs
set_option linter.unusedSectionVars false
set_option linter.unusedVariables false
set_option linter.unusedSimpArgs false
set_option maxHeartbeats 1000000
def idxF {α : Type} (p : α → Bool) : List α → Int
  | [] => -1
  | x :: xs => if p x then 0 else if idxF p xs = -1 then -1 else idxF p xs + 1
theorem idxF_ge {α : Type} (p : α → Bool) : ∀ xs : List α, -1 ≤ idxF p xs ∧ idxF p xs < xs.length
  | [] => by simp [idxF]
  | x :: xs => by
    have := idxF_ge p xs
    simp only [idxF, List.length_cons]
    split
    · omega
    · split <;> omega
theorem idxF_any {α : Type} (p : α → Bool) (xs : List α) : decide (0 ≤ idxF p xs) = xs.any p := by
  induction xs with
  | nil => simp [idxF]
  | cons x xs ih =>
    have := idxF_ge p xs
    simp only [idxF, List.any_cons, ← ih]
    by_cases hp : p x = true
    · simp [hp]
    · simp only [hp]
      simp
      split
      · rename_i e; simp [e]
      · by_cases h : 0 ≤ idxF p xs <;> simp [h] <;> omega
theorem idxF_skip {α : Type} (p : α → Bool) : ∀ (xs : List α) (i : Nat), (∀ x ∈ xs.take i, p x = false) → i ≤ xs.length → (idxF p xs = if idxF p (xs.drop i) = -1 then -1 else idxF p (xs.drop i) + i)
  | xs, 0, h, hl => by simp
  | [], i + 1, h, hl => by simp at hl
  | x :: xs, i + 1, h, hl => by
    have h1 : p x = false := h x (by simp)
    have h2 := idxF_skip p xs i (fun y hy => h y (by simp [hy])) (by simpa using hl)
    simp only [idxF, h1, List.drop_succ_cons]
    have := (idxF_ge p (xs.drop i)).1
    simp
    rw [h2]
    split
    · simp
    · rename_i hne
      rw [if_neg (by omega)]
      omega
theorem IndexFuncI_c (g : FuncId) (p : Int → Bool) (xs : List Int) (hl : xs.length ≤ 9223372036854775807) (hg : ∀ x ∈ xs, Con Tryz.prog g [.int x] (.bool (p x))) :
    Con Tryz.prog 170 [.sl xs.length (avs xs), .val (.func (.func g) #[] #[])] (.int (idxF p xs)) := by
  refine con_of_vc Tryz.mixed ⟨6, [], [], []⟩ Tryz.func170 (by decide) rfl (by simp) (by decide) rfl ?_
  rw [Tryz.ntmps170]
  simp [go_sem]
  refine loop_inv (5 :: List.range' 8 20) (fun i : Nat => [(8, .int i)]) (fun i => i ≤ xs.length ∧ ∀ x ∈ xs.take i, p x = false) (fun i => xs.length - i) 0 (by simp) (by simp [go_sem]) (by simp [go_sem]) ?_
  rintro i ⟨hi, hf⟩
  simp [go_sem]
  have sk := idxF_skip p xs i hf hi
  refine ⟨fun h => ?_, fun h => ?_⟩ <;> simp at h
  · have hx : xs[i]?.getD 0 ∈ xs := by simp [h]
    have hd : xs.drop i = xs[i]?.getD 0 :: xs.drop (i + 1) := by rw [List.drop_eq_getElem_cons h]; simp [h]
    simp [go_sem, avs_drop h]
    refine ⟨⟨h, by rintro rfl; simp at h⟩, CallVC.of (hg _ hx) (by decide) ?_⟩
    simp [go_sem]
    refine ⟨fun h2 => ?_, fun h2 => ?_⟩ <;> simp [go_sem]
    · rw [sk, hd]; simp [idxF, h2]
    · refine ⟨by omega, i + 1, ⟨by omega, ?_⟩, by omega, Off_reset _ _ _ (by simp), by omega⟩
      intro x hx2
      rw [List.take_add_one, List.getElem?_eq_getElem h, Option.toList_some, List.mem_append, List.mem_singleton] at hx2
      rcases hx2 with hx2 | hx2
      · exact hf x hx2
      · rw [hx2]; simpa [h] using h2
  · simp [go_sem]
    rw [sk, List.drop_eq_nil_of_le h]; simp [idxF]
theorem ContainsFuncI_c (g : FuncId) (p : Int → Bool) (xs : List Int) (hl : xs.length ≤ 9223372036854775807) (hg : ∀ x ∈ xs, Con Tryz.prog g [.int x] (.bool (p x))) :
    Con Tryz.prog 116 [.sl xs.length (avs xs), .val (.func (.func g) #[] #[])] (.bool (xs.any p)) := by
  refine con_of_vc Tryz.mixed ⟨5, [], [], []⟩ Tryz.func116 (by decide) rfl (by simp) (by decide) rfl ?_
  rw [Tryz.ntmps116]
  simp [go_sem]
  refine CallVC.of (IndexFuncI_c g p xs hl hg) (by decide) ?_
  simp [go_sem, idxF_any]
theorem IsNumber_c (a : Int) : Con Tryz.prog 45 [.int a] (.bool (decide (0 ≤ a ∧ a ≤ 10006))) := by
  refine con_of_vc Tryz.mixed ⟨3, [], [], []⟩ Tryz.func45 (by decide) rfl (by simp) (by decide) rfl ?_
  rw [Tryz.ntmps45]
  simp [go_sem]
  refine CallVC.of (inRange_c _ _ _) (by decide) ?_
  simp [go_sem]
theorem notNumber_c (a : Int) : Con Tryz.prog 117 [.int a] (.bool (!decide (0 ≤ a ∧ a ≤ 10006))) := by
  refine con_of_vc Tryz.mixed ⟨3, [], [], []⟩ Tryz.func117 (by decide) rfl (by simp) (by decide) rfl ?_
  rw [Tryz.ntmps117]
  simp [go_sem]
  refine CallVC.of (IsNumber_c _) (by decide) ?_
  simp [go_sem]
def numsB (xs : List Int) : Bool := xs.all fun a => decide (0 ≤ a ∧ a ≤ 10006)
theorem areNumbers_c (xs : List Int) (hl : xs.length ≤ 9223372036854775807) : Con Tryz.prog 44 [.sl xs.length (avs xs)] (.bool (numsB xs)) := by
  refine con_of_vc Tryz.mixed ⟨3, [], [], []⟩ Tryz.func44 (by decide) rfl (by simp) (by decide) rfl ?_
  rw [Tryz.ntmps44]
  simp [go_sem]
  refine CallVC.of (ContainsFuncI_c _ _ xs hl (fun x _ => notNumber_c x)) (by decide) ?_
  simp [go_sem, numsB, List.not_any_eq_all_not]
end Go.Proofs.YtnokgijakdaehaaGreatDoor


namespace Go.Proofs.YtnokgijakdaehaaGreatDoor
open Go.Abs
set_option linter.unusedSectionVars false
set_option linter.unusedVariables false
set_option linter.unusedSimpArgs false
set_option maxHeartbeats 1000000
def mat (xss : List (List Int)) : List AV := xss.map fun r => .sl r.length (avs r)
@[simp] theorem mat_len (xss : List (List Int)) : (mat xss).length = xss.length := by simp [mat]
theorem mat_drop {xss : List (List Int)} {k : Nat} (h : k < xss.length) : (mat xss).drop k = .sl (xss[k]?.getD []).length (avs (xss[k]?.getD [])) :: mat (xss.drop (k + 1)) := by
  rw [mat, ← List.map_drop, List.drop_eq_getElem_cons h, List.map_cons]; simp [h, mat]
@[simp] theorem mat_ne {xss : List (List Int)} : (mat xss = []) = (xss = []) := by cases xss <;> simp [mat]
theorem IndexFuncM_c (g : FuncId) (s : Int) (p : List Int → Bool) (xss : List (List Int)) (hl : xss.length ≤ 9223372036854775807) (hg : ∀ x ∈ xss, Con Tryz.prog g [.sl x.length (avs x), .fptr [.int s]] (.bool (p x))) :
    Con Tryz.prog 169 [.sl xss.length (mat xss), .fn g [.fptr [.int s]]] (.int (idxF p xss)) := by
  refine con_of_vc Tryz.mixed ⟨6, [], [], []⟩ Tryz.func169 (by decide) rfl (by simp) (by decide) rfl ?_
  rw [Tryz.ntmps169]
  simp [go_sem]
  refine loop_inv (5 :: List.range' 8 20) (fun i : Nat => [(8, .int i)]) (fun i => i ≤ xss.length ∧ ∀ x ∈ xss.take i, p x = false) (fun i => xss.length - i) 0 (by simp) (by simp [go_sem]) (by simp [go_sem]) ?_
  rintro i ⟨hi, hf⟩
  simp [go_sem]
  have sk := idxF_skip p xss i hf hi
  refine ⟨fun h => ?_, fun h => ?_⟩ <;> simp at h
  · have hx : xss[i]?.getD [] ∈ xss := by simp [h]
    have hd : xss.drop i = xss[i]?.getD [] :: xss.drop (i + 1) := by rw [List.drop_eq_getElem_cons h]; simp [h]
    simp [go_sem, mat_drop h]
    refine ⟨⟨h, by rintro rfl; simp at h⟩, CallVC.of (hg _ hx) (by decide) ?_⟩
    simp [go_sem]
    refine ⟨fun h2 => ?_, fun h2 => ?_⟩ <;> simp [go_sem]
    · rw [sk, hd]; simp [idxF, h2]
    · refine ⟨by omega, i + 1, ⟨by omega, ?_⟩, by omega, Off_reset _ _ _ (by simp), by omega⟩
      intro x hx2
      rw [List.take_add_one, List.getElem?_eq_getElem h, Option.toList_some, List.mem_append, List.mem_singleton] at hx2
      rcases hx2 with hx2 | hx2
      · exact hf x hx2
      · rw [hx2]; simpa [h] using h2
  · simp [go_sem]
    rw [sk, List.drop_eq_nil_of_le h]; simp [idxF]
theorem ContainsFuncM_c (g : FuncId) (s : Int) (p : List Int → Bool) (xss : List (List Int)) (hl : xss.length ≤ 9223372036854775807) (hg : ∀ x ∈ xss, Con Tryz.prog g [.sl x.length (avs x), .fptr [.int s]] (.bool (p x))) :
    Con Tryz.prog 113 [.sl xss.length (mat xss), .fn g [.fptr [.int s]]] (.bool (xss.any p)) := by
  refine con_of_vc Tryz.mixed ⟨5, [], [], []⟩ Tryz.func113 (by decide) rfl (by simp) (by decide) rfl ?_
  rw [Tryz.ntmps113]
  simp [go_sem]
  refine CallVC.of (IndexFuncM_c g s p xss hl hg) (by decide) ?_
  simp [go_sem, idxF_any]
theorem badRow_c (x : List Int) (s : Int) (hl : x.length ≤ 9223372036854775807) : Con Tryz.prog 114 [.sl x.length (avs x), .fptr [.int s]] (.bool (!(decide ((x.length : Int) = s) && numsB x))) := by
  refine con_of_vc Tryz.mixed ⟨4, [], [], []⟩ Tryz.func114 (by decide) rfl (by simp) (by decide) rfl ?_
  rw [Tryz.ntmps114]
  simp [go_sem]
  by_cases h : (x.length : Int) = s
  · simp [go_sem, h]
    refine CallVC.of (areNumbers_c x hl) (by decide) ?_
    simp [go_sem, h]
  · simp [go_sem, h]
theorem length_c (n : Nat) (cs : List AV) (hn : n ≤ 9223372036854775807) : Con Tryz.prog 112 [.sl n cs] (.int n) := by
  refine con_of_vc Tryz.mixed ⟨3, [], [], []⟩ Tryz.func112 (by decide) rfl (by simp) (by decide) rfl ?_
  rw [Tryz.ntmps112]
  simp [go_sem]
  try omega
theorem tab_c (a b : List AV) (n m : Nat) : Con Tryz.prog 68 [.agg [.sl n a, .sl m b]] (.int m) := by
  refine con_of_vc Tryz.mixed ⟨3, [], [], []⟩ Tryz.func68 (by decide) rfl (by simp) (by decide) rfl ?_
  rw [Tryz.ntmps68]
  simp [go_sem]
def tabB (A : List (List Int)) (B : List Int) : Bool := decide (1 ≤ B.length ∧ B.length ≤ 8 ∧ A.length = B.length) && numsB B && A.all fun r => decide (r.length = B.length) && numsB r
theorem IsTableau_c (A : List (List Int)) (B : List Int) (hA : A.length ≤ 9223372036854775807) (hB : B.length ≤ 9223372036854775807) (hr : ∀ r ∈ A, r.length ≤ 9223372036854775807) :
    Con Tryz.prog 42 [.agg [.sl A.length (mat A), .sl B.length (avs B)]] (.bool (tabB A B)) := by
  refine con_of_vc Tryz.mixed ⟨4, [], [], []⟩ Tryz.func42 (by decide) rfl (by simp) (by decide) rfl ?_
  rw [Tryz.ntmps42]
  simp [go_sem]
  refine CallVC.of (length_c _ _ hB) (by decide) ?_
  simp [go_sem]
  have cR := inRange_c B.length 1 8
  by_cases h1 : 1 ≤ B.length ∧ B.length ≤ 8
  · have e1 : (decide ((1 : Int) ≤ B.length) && decide ((B.length : Int) ≤ 8)) = true := by simp; omega
    rw [e1] at cR
    refine CallVC.of cR (by decide) ?_
    by_cases h2 : A.length = B.length
    · have h2' : (A.length : Int) = B.length := by omega
      simp [go_sem, h2, h2']
      refine CallVC.of (areNumbers_c B hB) (by decide) ?_
      by_cases h3 : numsB B = true
      · simp [go_sem, h3]
        have cM := ContainsFuncM_c 114 B.length (fun x => !(decide ((x.length : Int) = B.length) && numsB x)) A hA (fun x hx => badRow_c x B.length (hr x hx))
        rw [h2] at cM
        refine CallVC.of cM (by decide) ?_
        simp [go_sem, tabB, h1, h2, h3]
        rw [List.any_eq_not_all_not]
        congr 2
        funext r
        simp [show ((r.length : Int) = B.length) = (r.length = B.length) from propext ⟨fun e => by omega, fun e => by omega⟩]
      · simp at h3
        simp [go_sem, h3, tabB]
    · have h2' : ¬ (A.length : Int) = B.length := by omega
      simp [go_sem, h2, h2', tabB]
  · have e1 : (decide ((1 : Int) ≤ B.length) && decide ((B.length : Int) ≤ 8)) = false := by simp; omega
    rw [e1] at cR
    refine CallVC.of cR (by decide) ?_
    have e3 : tabB A B = false := by
      unfold tabB
      have : decide (1 ≤ B.length ∧ B.length ≤ 8 ∧ A.length = B.length) = false := by simp; omega
      rw [this]; simp
    rw [e3]
    simp [go_sem]
end Go.Proofs.YtnokgijakdaehaaGreatDoor


namespace Go.Proofs.YtnokgijakdaehaaGreatDoor
open Go.Abs
set_option linter.unusedSectionVars false
set_option linter.unusedVariables false
set_option linter.unusedSimpArgs false
set_option maxHeartbeats 1000000
end Go.Proofs.YtnokgijakdaehaaGreatDoor


namespace Go.Proofs.YtnokgijakdaehaaGreatDoor
open Go.Abs
set_option linter.unusedSectionVars false
set_option linter.unusedVariables false
set_option linter.unusedSimpArgs false
set_option maxHeartbeats 1000000
def omat (A : List (List Int)) : List AV := A.map fun r => .own 2 r.length (avs r)
@[simp] theorem omat_len (A : List (List Int)) : (omat A).length = A.length := by simp [omat]
@[simp] theorem omat_frz (A : List (List Int)) : frzL (omat A) = mat A := by
  induction A with
  | nil => rfl
  | cons r A ih => simp only [omat, mat, List.map_cons, frzL] at ih ⊢; rw [ih]; simp [frz]
@[simp] theorem omat_fresh (A : List (List Int)) : freshL (omat A) = true := by
  induction A with
  | nil => rfl
  | cons r A ih => simp only [omat, List.map_cons, freshL] at ih ⊢; rw [ih]; simp [freshOK]
end Go.Proofs.YtnokgijakdaehaaGreatDoor


namespace Go.Proofs.YtnokgijakdaehaaGreatDoor
open Go.Abs
set_option linter.unusedSectionVars false
set_option linter.unusedVariables false
set_option linter.unusedSimpArgs false
set_option maxHeartbeats 1000000
end Go.Proofs.YtnokgijakdaehaaGreatDoor


namespace Go.Proofs.YtnokgijakdaehaaGreatDoor
open Go.Abs
set_option linter.unusedSectionVars false
set_option linter.unusedVariables false
set_option linter.unusedSimpArgs false
set_option maxHeartbeats 1000000
def pw (a k : Int) : Int := a ^ k.toNat % 10007
theorem num_c (n : Int) (h0 : -9223372036854775808 ≤ n) (h1 : n ≤ 9223372036854775807) : Con Tryz.prog 63 [.int n] (.int (n % 10007)) := by
  have e := num_law n
  have b := num_low n
  refine con_of_vc Tryz.mixed ⟨3, [], [], []⟩ Tryz.func63 (by decide) rfl (by simp) (by decide) rfl ?_
  rw [Tryz.ntmps63]
  simp [go_sem, e]
  omega
theorem l01Mod_c (n : Int) (h0 : -9223372036854775808 ≤ n) (h1 : n ≤ 9223372036854775807) : Con Tryz.prog 154 [.int n] (.int (n % 10007)) := by
  have e := num_law n
  have b := num_low n
  refine con_of_vc Tryz.mixed ⟨3, [], [], []⟩ Tryz.func154 (by decide) rfl (by simp) (by decide) rfl ?_
  rw [Tryz.ntmps154]
  simp [go_sem, e]
  omega
def fits (n : Int) : Prop := -9223372036854775808 ≤ n ∧ n ≤ 9223372036854775807
theorem l01Mul_c (a b : Int) (h : fits (a * b)) : Con Tryz.prog 84 [.int a, .int b] (.int (a * b % 10007)) := by
  refine con_of_vc Tryz.mixed ⟨5, [], [], []⟩ Tryz.func84 (by decide) rfl (by simp) (by decide) rfl ?_
  rw [Tryz.ntmps84]
  simp [go_sem]
  refine ⟨h, CallVC.of (l01Mod_c _ h.1 h.2) (by decide) ?_⟩
  simp [go_sem]
theorem l01Sub_c (a b : Int) (h : fits (a - b)) : Con Tryz.prog 159 [.int a, .int b] (.int ((a - b) % 10007)) := by
  refine con_of_vc Tryz.mixed ⟨5, [], [], []⟩ Tryz.func159 (by decide) rfl (by simp) (by decide) rfl ?_
  rw [Tryz.ntmps159]
  simp [go_sem]
  refine ⟨h, CallVC.of (l01Mod_c _ h.1 h.2) (by decide) ?_⟩
  simp [go_sem]
theorem l01Add_c (a b : Int) (h : fits (a + b)) : Con Tryz.prog 88 [.int a, .int b] (.int ((a + b) % 10007)) := by
  refine con_of_vc Tryz.mixed ⟨5, [], [], []⟩ Tryz.func88 (by decide) rfl (by simp) (by decide) rfl ?_
  rw [Tryz.ntmps88]
  simp [go_sem]
  refine ⟨h, CallVC.of (l01Mod_c _ h.1 h.2) (by decide) ?_⟩
  simp [go_sem]
def isN (a : Int) : Prop := 0 ≤ a ∧ a < 10007
theorem isN_mod (n : Int) : isN (n % 10007) := ⟨Int.emod_nonneg _ (by omega), Int.emod_lt_of_pos _ (by omega)⟩
theorem mul_bound {a b : Int} (ha : isN a) (hb : isN b) : 0 ≤ a * b ∧ a * b ≤ 100120036 := by
  obtain ⟨a0, a1⟩ := ha
  obtain ⟨b0, b1⟩ := hb
  exact ⟨Int.mul_nonneg a0 b0, Int.le_trans (Int.mul_le_mul_of_nonneg_right (show a ≤ 10006 by omega) b0) (by omega)⟩
theorem mul_fits {a b : Int} (ha : isN a) (hb : isN b) : fits (a * b) := by
  have := mul_bound ha hb
  exact ⟨by omega, by omega⟩
theorem add_fits {a b : Int} (ha : isN a) (hb : isN b) : fits (a + b) := by
  obtain ⟨a0, a1⟩ := ha
  obtain ⟨b0, b1⟩ := hb
  exact ⟨by omega, by omega⟩
theorem sub_fits {a b : Int} (ha : isN a) (hb : isN b) : fits (a - b) := by
  obtain ⟨a0, a1⟩ := ha
  obtain ⟨b0, b1⟩ := hb
  exact ⟨by omega, by omega⟩
theorem pow_mod (a : Int) (k : Nat) : (a % 10007) ^ k % 10007 = a ^ k % 10007 := by
  induction k with
  | zero => simp
  | succ k ih => rw [Int.pow_succ, Int.pow_succ, Int.mul_emod, ih, Int.emod_emod, ← Int.mul_emod]
theorem sq_pow (a : Int) (q : Nat) : (a * a) ^ q = a ^ (2 * q) := by
  induction q with
  | zero => simp
  | succ q ih => rw [Int.pow_succ, ih, show 2 * (q + 1) = 2 * q + 1 + 1 by omega, Int.pow_succ, Int.pow_succ, Int.mul_assoc]
theorem mod_mul_r (o x : Int) : o * (x % 10007) % 10007 = o * x % 10007 := by
  rw [Int.mul_emod, Int.emod_emod, ← Int.mul_emod]
theorem mod_mul_l (o x : Int) : (x % 10007) * o % 10007 = x * o % 10007 := by
  rw [Int.mul_emod, Int.emod_emod, ← Int.mul_emod]
theorem pw_even (o a : Int) (q : Nat) : o * (a * a % 10007) ^ q % 10007 = o * a ^ (2 * q) % 10007 := by
  rw [← mod_mul_r, pow_mod, mod_mul_r, sq_pow]
theorem pw_odd (o a : Int) (q : Nat) : (o * a % 10007) * (a * a % 10007) ^ q % 10007 = o * a ^ (2 * q + 1) % 10007 := by
  rw [pw_even, mod_mul_l, Int.pow_succ, Int.mul_assoc, Int.mul_comm (a ^ (2 * q)) a]
theorem half_cast (j : Nat) : (j : Int).tdiv 2 = ((j / 2 : Nat) : Int) := by rw [tdiv_up (by omega)]; omega
theorem bit_cast (j : Nat) : (j : Int).tmod 2 = ((j % 2 : Nat) : Int) := by rw [tmod_up (by omega)]; omega
theorem pow_c (a k : Int) (ha : isN a) (hk : 0 ≤ k) (hk2 : k ≤ 9223372036854775807) : Con Tryz.prog 134 [.int a, .int k] (.int (pw a k)) := by
  refine con_of_vc Tryz.mixed ⟨6, [], [], []⟩ Tryz.func134 (by decide) rfl (by simp) (by decide) rfl ?_
  rw [Tryz.ntmps134]
  simp [go_sem]
  refine loop_inv (0 :: 1 :: List.range' 4 30) (fun x : Int × Nat × Int => [(0, .int x.1), (1, .int x.2.1), (5, .int x.2.2)])
    (fun x => isN x.1 ∧ (x.2.1 : Int) ≤ 9223372036854775807 ∧ isN x.2.2 ∧ x.2.2 * x.1 ^ x.2.1 % 10007 = a ^ k.toNat % 10007) (fun x => x.2.1) (a, k.toNat, 1) ⟨ha, by simp; omega, ⟨by simp, by simp⟩, by simp⟩ (by simp [go_sem]; omega) (by simp [go_sem]) ?_
  rintro ⟨b, j, o⟩ ⟨hb, hj, ho, he⟩
  simp only at hb hj ho he
  have f1 := mul_fits hb hb
  have f2 := mul_fits ho hb
  simp [go_sem]
  refine ⟨fun h => ?_, fun h => ?_⟩ <;> simp at h
  · simp [go_sem, half_cast, bit_cast]
    refine ⟨fun h2 => ?_, fun h2 => ?_⟩ <;> simp at h2 <;> simp [go_sem]
    · refine ⟨f2, CallVC.of (num_c _ f2.1 f2.2) (by decide) ?_⟩
      simp [go_sem]
      refine ⟨f1, CallVC.of (num_c _ f1.1 f1.2) (by decide) ?_⟩
      simp [go_sem, half_cast, bit_cast]
      refine ⟨by omega, b * b % 10007, j / 2, o * b % 10007, ⟨isN_mod _, by omega, isN_mod _, ?_⟩, by omega, Off_reset _ _ _ (by simp), rfl, by omega, rfl⟩
      rw [pw_odd, show 2 * (j / 2) + 1 = j by omega, he]
    · refine ⟨f1, CallVC.of (num_c _ f1.1 f1.2) (by decide) ?_⟩
      simp [go_sem, half_cast, bit_cast]
      refine ⟨by omega, b * b % 10007, j / 2, o, ⟨isN_mod _, by omega, ho, ?_⟩, by omega, Off_reset _ _ _ (by simp), rfl, by omega, rfl⟩
      rw [pw_even, show 2 * (j / 2) = j by omega, he]
  · simp [go_sem]
    subst h
    unfold pw
    rw [← he]
    simp
    rw [Int.emod_eq_of_lt ho.1 ho.2]
theorem l01Pow_c (a k : Int) (ha : isN a) (hk : 0 ≤ k) (hk2 : k ≤ 9223372036854775807) : Con Tryz.prog 153 [.int a, .int k] (.int (pw a k)) := by
  refine con_of_vc Tryz.mixed ⟨6, [], [], []⟩ Tryz.func153 (by decide) rfl (by simp) (by decide) rfl ?_
  rw [Tryz.ntmps153]
  simp [go_sem]
  refine loop_inv (0 :: 1 :: List.range' 4 30) (fun x : Int × Nat × Int => [(0, .int x.1), (1, .int x.2.1), (5, .int x.2.2)])
    (fun x => isN x.1 ∧ (x.2.1 : Int) ≤ 9223372036854775807 ∧ isN x.2.2 ∧ x.2.2 * x.1 ^ x.2.1 % 10007 = a ^ k.toNat % 10007) (fun x => x.2.1) (a, k.toNat, 1) ⟨ha, by simp; omega, ⟨by simp, by simp⟩, by simp⟩ (by simp [go_sem]; omega) (by simp [go_sem]) ?_
  rintro ⟨b, j, o⟩ ⟨hb, hj, ho, he⟩
  simp only at hb hj ho he
  have f1 := mul_fits hb hb
  have f2 := mul_fits ho hb
  simp [go_sem]
  refine ⟨fun h => ?_, fun h => ?_⟩ <;> simp at h
  · simp [go_sem, half_cast, bit_cast]
    refine ⟨fun h2 => ?_, fun h2 => ?_⟩ <;> simp at h2 <;> simp [go_sem]
    · refine CallVC.of (l01Mul_c _ _ f2) (by decide) ?_
      simp [go_sem]
      refine CallVC.of (l01Mul_c _ _ f1) (by decide) ?_
      simp [go_sem, half_cast, bit_cast]
      refine ⟨by omega, b * b % 10007, j / 2, o * b % 10007, ⟨isN_mod _, by omega, isN_mod _, ?_⟩, by omega, Off_reset _ _ _ (by simp), rfl, by omega, rfl⟩
      rw [pw_odd, show 2 * (j / 2) + 1 = j by omega, he]
    · refine CallVC.of (l01Mul_c _ _ f1) (by decide) ?_
      simp [go_sem, half_cast, bit_cast]
      refine ⟨by omega, b * b % 10007, j / 2, o, ⟨isN_mod _, by omega, ho, ?_⟩, by omega, Off_reset _ _ _ (by simp), rfl, by omega, rfl⟩
      rw [pw_even, show 2 * (j / 2) = j by omega, he]
  · simp [go_sem]
    subst h
    unfold pw
    rw [← he]
    simp
    rw [Int.emod_eq_of_lt ho.1 ho.2]
theorem inv_c (a : Int) (ha : isN a) : Con Tryz.prog 64 [.int a] (.int (pw a 10005)) := by
  refine con_of_vc Tryz.mixed ⟨3, [], [], []⟩ Tryz.func64 (by decide) rfl (by simp) (by decide) rfl ?_
  rw [Tryz.ntmps64]
  simp [go_sem]
  refine CallVC.of (pow_c _ _ ha (by omega) (by omega)) (by decide) ?_
  simp [go_sem]
theorem l01Inv_c (a : Int) (ha : isN a) : Con Tryz.prog 82 [.int a] (.int (pw a 10005)) := by
  refine con_of_vc Tryz.mixed ⟨3, [], [], []⟩ Tryz.func82 (by decide) rfl (by simp) (by decide) rfl ?_
  rw [Tryz.ntmps82]
  simp [go_sem]
  refine CallVC.of (l01Pow_c _ _ ha (by omega) (by omega)) (by decide) ?_
  simp [go_sem]
end Go.Proofs.YtnokgijakdaehaaGreatDoor


namespace Go.Proofs.YtnokgijakdaehaaGreatDoor
open Go.Abs
set_option linter.unusedSectionVars false
set_option linter.unusedVariables false
set_option linter.unusedSimpArgs false
set_option maxHeartbeats 1000000
end Go.Proofs.YtnokgijakdaehaaGreatDoor


namespace Go.Proofs.YtnokgijakdaehaaGreatDoor
open Go.Abs
set_option linter.unusedSectionVars false
set_option linter.unusedVariables false
set_option linter.unusedSimpArgs false
set_option maxHeartbeats 1000000
def dotI : List Int → List Int → Int
  | x :: xs, y :: ys => x * y + dotI xs ys
  | _, _ => 0
theorem dotI_take : ∀ {xs ys : List Int} {k : Nat}, k < xs.length → k < ys.length → dotI (xs.take (k + 1)) (ys.take (k + 1)) = dotI (xs.take k) (ys.take k) + xs[k]?.getD 0 * ys[k]?.getD 0
  | x :: xs, y :: ys, 0, _, _ => by simp [dotI]
  | x :: xs, y :: ys, k + 1, h, h2 => by
    have := dotI_take (xs := xs) (ys := ys) (k := k) (by simpa using h) (by simpa using h2)
    simp only [List.take_succ_cons, dotI, this, List.getElem?_cons_succ]; omega
theorem dotI_short : ∀ {xs ys : List Int}, xs.length ≤ ys.length → dotI xs (ys.take xs.length) = dotI xs ys
  | [], ys, _ => by simp [dotI]
  | x :: xs, [], h => by simp at h
  | x :: xs, y :: ys, h => by simp [dotI, dotI_short (xs := xs) (ys := ys) (by simpa using h)]
def Ns (xs : List Int) : Prop := ∀ x ∈ xs, isN x
theorem Ns.get {xs : List Int} (h : Ns xs) (k : Nat) : isN (xs[k]?.getD 0) := by
  rcases Nat.lt_or_ge k xs.length with hk | hk
  · simp [hk]; exact h _ (List.getElem_mem hk)
  · simp [hk]; exact ⟨by omega, by omega⟩
theorem Ns.take {xs : List Int} (h : Ns xs) (k : Nat) : Ns (xs.take k) := fun x hx => h x (List.mem_of_mem_take hx)
theorem Ns.nil : Ns [] := by intro x hx; simp at hx
theorem dotI_bound : ∀ {xs ys : List Int}, Ns xs → Ns ys → 0 ≤ dotI xs ys ∧ dotI xs ys ≤ xs.length * 100120036
  | [], ys, _, _ => by simp [dotI]
  | x :: xs, [], _, _ => by simp [dotI]; omega
  | x :: xs, y :: ys, hx, hy => by
    have h1 := dotI_bound (xs := xs) (ys := ys) (fun z hz => hx z (by simp [hz])) (fun z hz => hy z (by simp [hz]))
    have h2 := mul_bound (hx x (by simp)) (hy y (by simp))
    simp only [dotI, List.length_cons]; omega
theorem dot_c (xs ys : List Int) (hl : xs.length ≤ ys.length) (h64 : xs.length ≤ 64) (hx : Ns xs) (hy : Ns ys) : Con Tryz.prog 51 [.sl xs.length (avs xs), .sl ys.length (avs ys)] (.int (dotI xs ys % 10007)) := by
  refine con_of_vc Tryz.mixed ⟨8, [], [], []⟩ Tryz.func51 (by decide) rfl (by simp) (by decide) (by simp [freshOK, freshL, go_sem]) ?_
  rw [Tryz.ntmps51]
  simp [go_sem]
  refine loop_inv (5 :: 6 :: 7 :: List.range' 10 14) (fun k : Nat => [(5, .int (dotI (xs.take k) (ys.take k))), (10, .int k)]) (fun k => k ≤ xs.length) (fun k => xs.length - k) 0 (by simp) (by simp [go_sem, dotI]) (by simp [go_sem]) ?_
  intro k hk
  have b1 := dotI_bound (hx.take k) (hy.take k)
  have b2 := mul_bound (hx.get k) (hy.get k)
  simp only [List.length_take] at b1
  simp [go_sem]
  refine ⟨fun h => ?_, fun h => ?_⟩ <;> simp at h
  · have h2 : k < ys.length := by omega
    simp [go_sem, avs_drop h, avs_drop h2]
    refine ⟨⟨h, by rintro rfl; simp at h⟩, ⟨h2, by rintro rfl; simp at h2⟩, by omega, by omega, by omega, k + 1, by omega, by omega, Off_reset _ _ _ (by simp), (dotI_take h h2).symm, by omega⟩
  · have e : k = xs.length := by omega
    subst e
    have := dotI_bound hx hy
    rw [List.take_length, dotI_short hl] at *
    simp [go_sem]
    refine CallVC.of (num_c _ (by omega) (by omega)) (by decide) ?_
    simp [go_sem]
def Mat (n : Nat) (A : List (List Int)) : Prop := ∀ r ∈ A, r.length = n ∧ Ns r
theorem Mat.get {n : Nat} {A : List (List Int)} (h : Mat n A) {k : Nat} (hk : k < A.length) : (A[k]?.getD []).length = n ∧ Ns (A[k]?.getD []) := by
  rw [List.getElem?_eq_getElem hk]; exact h _ (List.getElem_mem hk)
end Go.Proofs.YtnokgijakdaehaaGreatDoor


namespace Go.Proofs.YtnokgijakdaehaaGreatDoor
open Go.Abs
set_option linter.unusedSectionVars false
set_option linter.unusedVariables false
set_option linter.unusedSimpArgs false
set_option maxHeartbeats 1000000
abbrev u64 (n : Int) : AV := .val (.int .u64 n)
end Go.Proofs.YtnokgijakdaehaaGreatDoor


namespace Go.Proofs.YtnokgijakdaehaaGreatDoor
open Go.Abs
set_option linter.unusedSectionVars false
set_option linter.unusedVariables false
set_option linter.unusedSimpArgs false
set_option maxHeartbeats 1000000
theorem specIsNumber_c (a : Int) : Con Tryz.prog 55 [.int a] (.bool (decide (0 ≤ a ∧ a ≤ 10006))) := by
  refine con_of_vc Tryz.mixed ⟨3, [], [], []⟩ Tryz.func55 (by decide) rfl (by simp) (by decide) (by simp [freshOK, freshL, go_sem]) ?_
  rw [Tryz.ntmps55]
  simp [go_sem]
  refine CallVC.of (l01In_c _ _ _) (by decide) ?_
  simp [go_sem]
theorem numsB_bad {xs : List Int} {i : Nat} (h : i < xs.length) (hb : ¬ (0 ≤ xs[i]?.getD 0 ∧ xs[i]?.getD 0 ≤ 10006)) : numsB xs = false := by
  rw [List.getElem?_eq_getElem h] at hb
  simp only [Option.getD_some] at hb
  unfold numsB
  rw [List.all_eq_false]
  exact ⟨xs[i], List.getElem_mem h, by simpa using hb⟩
theorem numsB_ok {xs : List Int} (h : ∀ x ∈ xs, 0 ≤ x ∧ x ≤ 10006) : numsB xs = true := by
  unfold numsB
  rw [List.all_eq_true]
  intro x hx
  simpa using h x hx
theorem numsB_N {xs : List Int} : numsB xs = true ↔ Ns xs := by
  unfold numsB Ns isN
  rw [List.all_eq_true]
  constructor
  · intro h x hx
    have := h x hx
    simp at this; omega
  · intro h x hx
    have := h x hx
    simp; omega
theorem take_all {α : Type} {p : α → Prop} {xs : List α} {i : Nat} (h : i < xs.length) (h1 : ∀ x ∈ xs.take i, p x) (h2 : p xs[i]) : ∀ x ∈ xs.take (i + 1), p x := by
  intro x hx
  rw [List.take_add_one, List.getElem?_eq_getElem h, Option.toList_some, List.mem_append, List.mem_singleton] at hx
  rcases hx with hx | rfl
  · exact h1 x hx
  · exact h2
theorem l01Numbers_c (xs : List Int) (hl : xs.length ≤ 9223372036854775807) : Con Tryz.prog 54 [.sl xs.length (avs xs)] (.bool (numsB xs)) := by
  refine con_of_vc Tryz.mixed ⟨4, [], [], []⟩ Tryz.func54 (by decide) rfl (by simp) (by decide) (by simp [freshOK, freshL, go_sem]) ?_
  rw [Tryz.ntmps54]
  simp [go_sem]
  refine loop_inv (List.range' 2 14) (fun i : Nat => [(3, .int i)]) (fun i => i ≤ xs.length ∧ ∀ x ∈ xs.take i, 0 ≤ x ∧ x ≤ 10006) (fun i => xs.length - i) 0 (by simp) (by simp [go_sem]) (by simp [go_sem]) ?_
  rintro i ⟨hi, hp⟩
  simp [go_sem]
  refine ⟨fun h => ?_, fun h => ?_⟩ <;> simp at h
  · simp [go_sem, avs_drop h]
    refine ⟨⟨h, by rintro rfl; simp at h⟩, ?_⟩
    refine CallVC.of (specIsNumber_c _) (by decide) ?_
    by_cases hb : 0 ≤ xs[i]?.getD 0 ∧ xs[i]?.getD 0 ≤ 10006
    · simp [go_sem, hb]
      refine ⟨by omega, i + 1, ⟨by omega, ?_⟩, by omega, Off_reset _ _ _ (by simp), by omega⟩
      rw [List.getElem?_eq_getElem h, Option.getD_some] at hb
      exact take_all h hp hb
    · have e : decide (0 ≤ xs[i]?.getD 0 ∧ xs[i]?.getD 0 ≤ 10006) = false := by simpa using hb
      rw [e]
      simp [go_sem]
      exact numsB_bad h hb
  · simp [go_sem]
    have e : i = xs.length := by omega
    subst e
    rw [List.take_length] at hp
    exact numsB_ok hp
theorem l09Is_c (A : List (List Int)) (B : List Int) (hA : A.length ≤ 9223372036854775807) (hB : B.length ≤ 9223372036854775807) (hr : ∀ r ∈ A, r.length ≤ 9223372036854775807) :
    Con Tryz.prog 52 [.agg [.sl A.length (mat A), .sl B.length (avs B)]] (.bool (tabB A B)) := by
  have bad : ¬ (1 ≤ B.length ∧ B.length ≤ 8 ∧ A.length = B.length) → tabB A B = false := fun h => by
    unfold tabB
    rw [decide_eq_false h]; rfl
  refine con_of_vc Tryz.mixed ⟨5, [], [], []⟩ Tryz.func52 (by decide) rfl (by simp) (by decide) (by simp [freshOK, freshL, go_sem]) ?_
  rw [Tryz.ntmps52]
  simp [go_sem]
  by_cases h1 : 1 ≤ B.length
  · by_cases h2 : B.length ≤ 8
    · by_cases h3 : A.length = B.length
      · have i1 : ¬ (B.length : Int) < 1 := by omega
        have i2 : ¬ 8 < (B.length : Int) := by omega
        have i3 : (A.length : Int) = B.length := by omega
        simp [go_sem, i1, i2, i3]
        refine CallVC.of (l01Numbers_c B hB) (by decide) ?_
        cases hB2 : numsB B with
        | false =>
          simp [go_sem]
          unfold tabB; rw [hB2]; simp
        | true =>
          simp [go_sem]
          refine loop_inv (2 :: 4 :: List.range' 27 22) (fun i : Nat => [(4, .int i)]) (fun i => i ≤ B.length ∧ ∀ r ∈ A.take i, r.length = B.length ∧ numsB r = true) (fun i => B.length - i) 0 (by simp) (by simp [go_sem]) (by simp [go_sem]) ?_
          rintro i ⟨hi, hp⟩
          have fine : tabB A B = A.all (fun r => decide (r.length = B.length) && numsB r) := by
            unfold tabB; rw [hB2, decide_eq_true ⟨h1, h2, h3⟩]; simp
          simp [go_sem]
          refine ⟨fun h => ?_, fun h => ?_⟩ <;> simp at h
          · have hA2 : i < A.length := by omega
            have wrong : ¬ ((A[i]?.getD []).length = B.length ∧ numsB (A[i]?.getD []) = true) → tabB A B = false := fun hb => by
              rw [List.getElem?_eq_getElem hA2, Option.getD_some] at hb
              rw [fine, List.all_eq_false]
              exact ⟨A[i], List.getElem_mem hA2, by simpa using hb⟩
            simp [go_sem, mat_drop hA2]
            refine ⟨⟨hA2, by rintro rfl; simp at hA2⟩, ?_⟩
            by_cases g1 : (A[i]?.getD []).length = B.length
            · have g1' : ((A[i]?.getD []).length : Int) = B.length := by omega
              simp [go_sem, g1', mat_drop hA2]
              refine ⟨⟨hA2, by rintro rfl; simp at hA2⟩, ?_⟩
              refine CallVC.of (l01Numbers_c _ (by omega)) (by decide) ?_
              cases g2 : numsB (A[i]?.getD []) with
              | false =>
                simp [go_sem]
                exact wrong (by rw [g2]; simp)
              | true =>
                simp [go_sem]
                refine ⟨by omega, i + 1, ⟨by omega, ?_⟩, by omega, Off_reset _ _ _ (by simp), by omega⟩
                rw [List.getElem?_eq_getElem hA2, Option.getD_some] at g1 g2
                exact take_all hA2 hp ⟨g1, g2⟩
            · have g1' : ¬ ((A[i]?.getD []).length : Int) = B.length := by omega
              simp [go_sem, g1']
              exact wrong (fun h => g1 h.1)
          · simp [go_sem]
            have e : i = A.length := by omega
            subst e
            rw [List.take_length] at hp
            rw [fine, List.all_eq_true]
            intro r hr
            simpa using hp r hr
      · have i1 : ¬ (B.length : Int) < 1 := by omega
        have i2 : ¬ 8 < (B.length : Int) := by omega
        have i3 : ¬ (A.length : Int) = B.length := by omega
        simp [go_sem, i1, i2, i3, bad (fun h => h3 h.2.2)]
    · have i1 : ¬ (B.length : Int) < 1 := by omega
      have i2 : 8 < (B.length : Int) := by omega
      simp [go_sem, i1, i2, bad (fun h => h2 h.2.1)]
  · have i1 : (B.length : Int) < 1 := by omega
    simp [go_sem, i1, bad (fun h => h1 h.1)]
structure Tab (A : List (List Int)) (B : List Int) : Prop where
  pos : 1 ≤ B.length
  le : B.length ≤ 8
  len : A.length = B.length
  b : Ns B
  a : Mat B.length A
theorem tabB_iff {A : List (List Int)} {B : List Int} : tabB A B = true ↔ Tab A B := by
  unfold tabB
  simp only [Bool.and_eq_true, decide_eq_true_eq, List.all_eq_true, numsB_N]
  constructor
  · rintro ⟨⟨⟨h1, h2, h3⟩, h4⟩, h5⟩
    exact ⟨h1, h2, h3, h4, fun r hr => h5 r hr⟩
  · rintro ⟨h1, h2, h3, h4, h5⟩
    exact ⟨⟨⟨h1, h2, h3⟩, h4⟩, fun r hr => h5 r hr⟩
end Go.Proofs.YtnokgijakdaehaaGreatDoor


namespace Go.Proofs.YtnokgijakdaehaaGreatDoor
open Go.Abs
set_option linter.unusedSectionVars false
set_option linter.unusedVariables false
set_option linter.unusedSimpArgs false
set_option maxHeartbeats 1000000
abbrev Mon := Int × List Int
def sumC {α : Type} (c : α → Nat) : List α → Nat
  | [] => 0
  | a :: l => c a + sumC c l
structure SzOk {α : Type} (g : Int → α → Int) (c : α → Nat) : Prop where
  lo : ∀ l a, -1 ≤ g l a
  hi : ∀ l a, 0 ≤ l → g l a ≤ l
  ok : ∀ l a, 0 ≤ l → 0 ≤ g l a → (c a : Int) ≤ l - g l a
def cM (m : Mon) : Nat := m.2.length
def cP (p : List Mon) : Nat := p.length + sumC cM p
def cF (f : List (List Mon)) : Nat := f.length + sumC cP f
end Go.Proofs.YtnokgijakdaehaaGreatDoor


namespace Go.Proofs.YtnokgijakdaehaaGreatDoor
open Go.Abs
set_option linter.unusedSectionVars false
set_option linter.unusedVariables false
set_option linter.unusedSimpArgs false
set_option maxHeartbeats 1000000
end Go.Proofs.YtnokgijakdaehaaGreatDoor


namespace Go.Proofs.YtnokgijakdaehaaGreatDoor
open Go.Abs
set_option linter.unusedSectionVars false
set_option linter.unusedVariables false
set_option linter.unusedSimpArgs false
set_option maxHeartbeats 1000000
def ltL : List Int → List Int → Bool
  | _, [] => false
  | [], _ :: _ => true
  | x :: xs, y :: ys => if x = y then ltL xs ys else decide (x < y)
def degL : List Int → Int → Int
  | [], s => s
  | x :: xs, s => if x < 0 ∨ 100 < x then 1000 else degL xs (s + x)
def monB (z : Int) (m : Mon) : Bool := decide (1 ≤ m.1 ∧ m.1 ≤ 10006) && decide ((m.2.length : Int) = z) && decide (degL m.2 0 ≤ 3)
def atB (z : Int) (p : List Mon) (j : Nat) : Bool := monB z (p[j]?.getD (0, [])) && (decide (j = 0) || ltL (p[j - 1]?.getD (0, [])).2 (p[j]?.getD (0, [])).2)
def partB (z : Int) (p : List Mon) : Bool := (List.range p.length).all (atB z p)
end Go.Proofs.YtnokgijakdaehaaGreatDoor


namespace Go.Proofs.YtnokgijakdaehaaGreatDoor
open Go.Abs
set_option linter.unusedSectionVars false
set_option linter.unusedVariables false
set_option linter.unusedSimpArgs false
set_option maxHeartbeats 1000000
structure MonOk (z : Int) (m : Mon) : Prop where
  lo : 1 ≤ m.1
  hi : m.1 ≤ 10006
  len : (m.2.length : Int) = z
  pw : ∀ x ∈ m.2, 0 ≤ x ∧ x ≤ 3
  deg : m.2.sum ≤ 3
theorem MonOk.get {z : Int} {m : Mon} (h : MonOk z m) (k : Nat) : 0 ≤ m.2[k]?.getD 0 ∧ m.2[k]?.getD 0 ≤ 3 := by
  rcases Nat.lt_or_ge k m.2.length with hk | hk
  · simp [hk]; exact h.pw _ (List.getElem_mem hk)
  · simp [hk]
structure FieldOk (z : Int) (f : List (List Mon)) : Prop where
  lo : 1 ≤ z
  hi : z ≤ 3
  len : (f.length : Int) = z
  part : ∀ p ∈ f, partB z p = true
end Go.Proofs.YtnokgijakdaehaaGreatDoor


namespace Go.Proofs.YtnokgijakdaehaaGreatDoor
open Go.Abs
set_option linter.unusedSectionVars false
set_option linter.unusedVariables false
set_option linter.unusedSimpArgs false
set_option maxHeartbeats 1000000
end Go.Proofs.YtnokgijakdaehaaGreatDoor


namespace Go.Proofs.YtnokgijakdaehaaGreatDoor
open Go.Abs
set_option linter.unusedSectionVars false
set_option linter.unusedVariables false
set_option linter.unusedSimpArgs false
set_option maxHeartbeats 1000000
end Go.Proofs.YtnokgijakdaehaaGreatDoor


namespace Go.Proofs.YtnokgijakdaehaaGreatDoor
open Go.Abs
set_option linter.unusedSectionVars false
set_option linter.unusedVariables false
set_option linter.unusedSimpArgs false
set_option maxHeartbeats 1000000
end Go.Proofs.YtnokgijakdaehaaGreatDoor


namespace Go.Proofs.YtnokgijakdaehaaGreatDoor
open Go.Abs
set_option linter.unusedSectionVars false
set_option linter.unusedVariables false
set_option linter.unusedSimpArgs false
set_option maxHeartbeats 1000000
def yat (y : List Int) (i : Nat) : Int := y[i]?.getD 0
end Go.Proofs.YtnokgijakdaehaaGreatDoor


namespace Go.Proofs.YtnokgijakdaehaaGreatDoor
open Go.Abs
set_option linter.unusedSectionVars false
set_option linter.unusedVariables false
set_option linter.unusedSimpArgs false
set_option maxHeartbeats 1000000
structure VOk (n : Nat) (m : Mon) : Prop where
  num : isN m.1
  len : m.2.length = n
  pw : ∀ x ∈ m.2, 0 ≤ x ∧ x ≤ 3
end Go.Proofs.YtnokgijakdaehaaGreatDoor


namespace Go.Proofs.YtnokgijakdaehaaGreatDoor
open Go.Abs
set_option linter.unusedSectionVars false
set_option linter.unusedVariables false
set_option linter.unusedSimpArgs false
set_option maxHeartbeats 1000000
end Go.Proofs.YtnokgijakdaehaaGreatDoor


namespace Go.Proofs.YtnokgijakdaehaaGreatDoor
open Go.Abs
set_option linter.unusedSectionVars false
set_option linter.unusedVariables false
set_option linter.unusedSimpArgs false
set_option maxHeartbeats 1000000
end Go.Proofs.YtnokgijakdaehaaGreatDoor


namespace Go.Proofs.YtnokgijakdaehaaGreatDoor
open Go.Abs
set_option linter.unusedSectionVars false
set_option linter.unusedVariables false
set_option linter.unusedSimpArgs false
set_option maxHeartbeats 1000000
theorem VOk.low {n i : Nat} {m : Mon} (h : VOk n m) (hi : i < n) (hp : 0 < m.2[i]?.getD 0) : VOk n (m.1 * m.2[i]?.getD 0 % 10007, m.2.set i (m.2[i]?.getD 0 - 1)) := by
  have hl := h.len
  refine ⟨isN_mod _, by simpa using hl, fun x hx => ?_⟩
  rcases List.mem_or_eq_of_mem_set hx with hx | rfl
  · exact h.pw x hx
  · have hm : m.2[i]?.getD 0 ∈ m.2 := by
      rw [List.getElem?_eq_getElem (by omega), Option.getD_some]; exact List.getElem_mem _
    have := h.pw _ hm
    omega
end Go.Proofs.YtnokgijakdaehaaGreatDoor


namespace Go.Proofs.YtnokgijakdaehaaGreatDoor
open Go.Abs
set_option linter.unusedSectionVars false
set_option linter.unusedVariables false
set_option linter.unusedSimpArgs false
set_option maxHeartbeats 1000000
def NN (k : Key) : Prop := 0 ≤ k.1 ∧ 0 ≤ k.2.1 ∧ 0 ≤ k.2.2
def Eqv (C D : Key → Int) : Prop := ∀ k, NN k → C k % 10007 = D k % 10007
theorem NN.box {k : Key} (h : k ∈ box) : NN k := by have := mem_box.1 h; exact ⟨by omega, by omega, by omega⟩
theorem NN.at3 {k : Key} (h : NN k) (i : Nat) : 0 ≤ at3 i k := by
  obtain ⟨a, b, c⟩ := h
  unfold Go.Proofs.YtnokgijakdaehaaGreatDoor.at3
  split
  · omega
  · split <;> omega
theorem NN.inc {k : Key} (h : NN k) (i : Nat) : NN (inc i k) := by
  obtain ⟨a, b, c⟩ := h
  unfold Go.Proofs.YtnokgijakdaehaaGreatDoor.inc NN
  split
  · exact ⟨by simp; omega, b, c⟩
  · split
    · exact ⟨a, by simp; omega, c⟩
    · exact ⟨a, b, by simp; omega⟩
theorem Eqv.refl (C : Key → Int) : Eqv C C := fun _ _ => rfl
theorem Eqv.symm {C D : Key → Int} (h : Eqv C D) : Eqv D C := fun k hk => (h k hk).symm
theorem Eqv.trans {C D E : Key → Int} (h : Eqv C D) (h2 : Eqv D E) : Eqv C E := fun k hk => (h k hk).trans (h2 k hk)
def Dv (n : Nat) : List (List Int) → (Key → Int) → Key → Int
  | [], C => C
  | v :: vs, C => Dv n vs (alo (yat v) C n)
end Go.Proofs.YtnokgijakdaehaaGreatDoor


namespace Go.Proofs.YtnokgijakdaehaaGreatDoor
open Go.Abs
set_option linter.unusedSectionVars false
set_option linter.unusedVariables false
set_option linter.unusedSimpArgs false
set_option maxHeartbeats 1000000
def tb (f : Nat → Int) (k : Nat) : List Int := (List.range k).map f
@[simp] theorem tb_len (f : Nat → Int) (k : Nat) : (tb f k).length = k := by simp [tb]
@[simp] theorem tb_zero (f : Nat → Int) : tb f 0 = [] := rfl
theorem tb_succ (f : Nat → Int) (k : Nat) : tb f (k + 1) = tb f k ++ [f k] := by simp [tb, List.range_succ]
theorem tb_get (f : Nat → Int) {k i : Nat} (h : i < k) : (tb f k)[i]?.getD 0 = f i := by simp [tb, h]
theorem tb_N {f : Nat → Int} {k : Nat} (h : ∀ i, i < k → isN (f i)) : Ns (tb f k) := by
  intro x hx
  simp [tb] at hx
  obtain ⟨i, hi, rfl⟩ := hx
  exact h i hi
theorem avs_at {xs : List Int} {k : Nat} (h : k < xs.length) : (avs xs)[k]? = some (AV.val (.int .i64 (xs[k]?.getD 0))) := by simp [avs, h]
theorem l02Times_c (a : List Int) (k : Int) (ha : Ns a) (hk : isN k) (hl : a.length ≤ 1048576) :
    Con Tryz.prog 56 [.sl a.length (avs a), .int k] (.own 2 a.length (avs (tb (fun i => a[i]?.getD 0 * k % 10007) a.length))) := by
  refine con_of_vc Tryz.mixed ⟨7, [], [], []⟩ Tryz.func56 (by decide) rfl (by simp) (by decide) (by simp [freshOK, freshL, go_sem]) ?_
  rw [Tryz.ntmps56]
  simp [go_sem]
  refine loop_inv (5 :: 6 :: List.range' 8 15) (fun i : Nat => [(5, .own 2 i (avs (tb (fun i => a[i]?.getD 0 * k % 10007) i))), (6, .int i)]) (fun i => i ≤ a.length) (fun i => a.length - i) 0 (by simp) (by simp [go_sem]) (by simp [go_sem]) ?_
  intro i hi
  simp [go_sem]
  refine ⟨fun h => ?_, fun h => ?_⟩ <;> simp at h
  · simp [go_sem, avs_drop h]
    refine ⟨⟨h, by rintro rfl; simp at h⟩, ?_⟩
    refine CallVC.of (l01Mul_c _ _ (mul_fits (ha.get i) hk)) (by decide) ?_
    simp [go_sem]
    refine ⟨⟨by omega, by omega⟩, by omega, i + 1, by omega, by omega, Off_reset _ _ _ (by simp), ?_, by omega⟩
    simp [tb_succ, avs_snoc]
  · have e : i = a.length := by omega
    subst e
    simp [go_sem]
theorem l02Add_c (a b : List Int) (ha : Ns a) (hb : Ns b) (hl : a.length ≤ 1048576) (hab : a.length ≤ b.length) :
    Con Tryz.prog 129 [.sl a.length (avs a), .sl b.length (avs b)] (.own 2 a.length (avs (tb (fun i => (a[i]?.getD 0 + b[i]?.getD 0) % 10007) a.length))) := by
  refine con_of_vc Tryz.mixed ⟨7, [], [], []⟩ Tryz.func129 (by decide) rfl (by simp) (by decide) (by simp [freshOK, freshL, go_sem]) ?_
  rw [Tryz.ntmps129]
  simp [go_sem]
  refine loop_inv (5 :: 6 :: List.range' 8 18) (fun i : Nat => [(5, .own 2 i (avs (tb (fun i => (a[i]?.getD 0 + b[i]?.getD 0) % 10007) i))), (6, .int i)]) (fun i => i ≤ a.length) (fun i => a.length - i) 0 (by simp) (by simp [go_sem]) (by simp [go_sem]) ?_
  intro i hi
  simp [go_sem]
  refine ⟨fun h => ?_, fun h => ?_⟩ <;> simp at h
  · have h2 : i < b.length := by omega
    simp [go_sem, avs_drop h, avs_drop h2]
    refine ⟨by kernel_rfl, ⟨h, by rintro rfl; simp at h⟩, ⟨h2, by rintro rfl; simp at h2⟩, ?_⟩
    refine CallD.of (l01Add_c _ _ (add_fits (ha.get i) (hb.get i))) (by simp [roots, rootsL]) (by decide) ?_
    simp [go_sem]
    refine ⟨by omega, ?_⟩
    refine ⟨by kernel_rfl, ?_⟩
    simp [go_sem]
    refine ⟨by omega, i + 1, by omega, by omega, Off_reset _ _ _ (by simp), ?_, by omega⟩
    simp [tb_succ, avs_snoc]
  · have e : i = a.length := by omega
    subst e
    simp [go_sem]
def cv (a b : List Int) (n : Nat) : Nat → Int
  | 0 => 0
  | m + 1 => cv a b n m + a[m]?.getD 0 * b[n - m]?.getD 0
def mulS (a b : List Int) : List Int := tb (fun n => cv a b n (n + 1) % 10007) a.length
@[simp] theorem mulS_len (a b : List Int) : (mulS a b).length = a.length := by simp [mulS]
end Go.Proofs.YtnokgijakdaehaaGreatDoor


namespace Go.Proofs.YtnokgijakdaehaaGreatDoor
open Go.Abs
set_option linter.unusedSectionVars false
set_option linter.unusedVariables false
set_option linter.unusedSimpArgs false
set_option maxHeartbeats 1000000
end Go.Proofs.YtnokgijakdaehaaGreatDoor


namespace Go.Proofs.YtnokgijakdaehaaGreatDoor
open Go.Abs
set_option linter.unusedSectionVars false
set_option linter.unusedVariables false
set_option linter.unusedSimpArgs false
set_option maxHeartbeats 1000000
theorem l01Own_c (xs : List Int) (hl : xs.length ≤ 17592186044416) : Con Tryz.prog 109 [.sl xs.length (avs xs)] (.own 2 xs.length (avs xs)) := by
  refine con_of_vc Tryz.mixed ⟨3, [], [], []⟩ Tryz.func109 (by decide) rfl (by simp) (by decide) (by simp [freshOK, freshL, go_sem]) ?_
  rw [Tryz.ntmps109]
  simp [go_sem]
  try omega
end Go.Proofs.YtnokgijakdaehaaGreatDoor


namespace Go.Proofs.YtnokgijakdaehaaGreatDoor
set_option linter.unusedSectionVars false
set_option linter.unusedVariables false
set_option linter.unusedSimpArgs false
class CR (α : Type) extends Add α, Mul α where
  ofI : Int → α
  addC : ∀ a b : α, a + b = b + a
  addA : ∀ a b c : α, a + b + c = a + (b + c)
  add0 : ∀ a : α, a + ofI 0 = a
  mulC : ∀ a b : α, a * b = b * a
  mulA : ∀ a b c : α, a * b * c = a * (b * c)
  mul1 : ∀ a : α, a * ofI 1 = a
  mulD : ∀ a b c : α, a * (b + c) = a * b + a * c
  mul0 : ∀ a : α, a * ofI 0 = ofI 0
  ofAdd : ∀ a b : Int, ofI (a + b) = ofI a + ofI b
  ofMul : ∀ a b : Int, ofI (a * b) = ofI a * ofI b
namespace CR
section
variable {α : Type} [CR α]
instance : Std.Associative (α := α) (· + ·) := ⟨addA⟩
instance : Std.Commutative (α := α) (· + ·) := ⟨addC⟩
instance : Std.Associative (α := α) (· * ·) := ⟨mulA⟩
instance : Std.Commutative (α := α) (· * ·) := ⟨mulC⟩
theorem zadd (a : α) : ofI 0 + a = a := by rw [addC, add0]
theorem omul (a : α) : ofI 1 * a = a := by rw [mulC, mul1]
theorem zmul (a : α) : ofI 0 * a = ofI 0 := by rw [mulC, mul0]
theorem Dmul (a b c : α) : (a + b) * c = a * c + b * c := by rw [mulC, mulD, mulC c, mulC c]
end
end CR
open CR
instance : CR Int where
  ofI := id
  addC := Int.add_comm
  addA := Int.add_assoc
  add0 := Int.add_zero
  mulC := Int.mul_comm
  mulA := Int.mul_assoc
  mul1 := Int.mul_one
  mulD := Int.mul_add
  mul0 := Int.mul_zero
  ofAdd := fun _ _ => rfl
  ofMul := fun _ _ => rfl
abbrev Ser (α : Type) := Nat → α
def sh {α : Type} (a : Ser α) : Ser α := fun n => a (n + 1)
def cmul {α : Type} [CR α] : Nat → Ser α → Ser α → α
  | 0, a, b => a 0 * b 0
  | n + 1, a, b => a 0 * b (n + 1) + cmul n (sh a) b
section
variable {α : Type} [CR α]
theorem cmul_add (n : Nat) : ∀ (a b c : Ser α), cmul n a (fun i => b i + c i) = cmul n a b + cmul n a c := by
  induction n with
  | zero => intro a b c; exact mulD _ _ _
  | succ n ih => intro a b c; simp only [cmul, ih, mulD]; ac_rfl
theorem cmul_last (n : Nat) : ∀ (a b : Ser α), cmul (n + 1) a b = cmul n a (sh b) + a (n + 1) * b 0 := by
  induction n with
  | zero => intro a b; rfl
  | succ n ih =>
    intro a b
    rw [cmul, ih, cmul]
    show a 0 * b (n + 1 + 1) + (cmul n (sh a) (sh b) + a (n + 1 + 1) * b 0) = a 0 * b (n + 1 + 1) + cmul n (sh a) (sh b) + a (n + 1 + 1) * b 0
    ac_rfl
theorem cmul_comm (n : Nat) : ∀ (a b : Ser α), cmul n a b = cmul n b a := by
  induction n with
  | zero => intro a b; exact mulC _ _
  | succ n ih => intro a b; rw [cmul, cmul_last, ih, mulC, addC]
theorem cmul_smul (c : α) (n : Nat) : ∀ (a b : Ser α), cmul n (fun i => c * a i) b = c * cmul n a b := by
  induction n with
  | zero => intro a b; exact mulA _ _ _
  | succ n ih =>
    intro a b
    have := ih (sh a) b
    simp only [cmul, mulD]
    rw [← this, mulA]; rfl
theorem cmul_addl (n : Nat) (a b c : Ser α) : cmul n (fun i => a i + b i) c = cmul n a c + cmul n b c := by
  rw [cmul_comm n (fun i => a i + b i) c, cmul_add, cmul_comm n c a, cmul_comm n c b]
theorem cmul_assoc (n : Nat) : ∀ (a b c : Ser α), cmul n (fun i => cmul i a b) c = cmul n a (fun i => cmul i b c) := by
  induction n with
  | zero => intro a b c; exact mulA _ _ _
  | succ n ih =>
    intro a b c
    have e : sh (fun i => cmul i a b) = fun i => a 0 * sh b i + cmul i (sh a) b := rfl
    simp only [cmul]
    rw [e, cmul_addl, cmul_smul, ih, mulD]
    show a 0 * b 0 * c (n + 1) + _ = _
    rw [mulA]; ac_rfl
def sOf (k : Int) : Ser α := fun n => if n = 0 then ofI k else ofI 0
theorem cmul_of (k : Int) : ∀ (n : Nat) (a : Ser α), cmul n a (sOf k) = a n * ofI k := by
  intro n
  induction n with
  | zero => intro a; rfl
  | succ n ih =>
    intro a
    rw [cmul, ih]
    show a 0 * ofI 0 + a (n + 1) * ofI k = _
    rw [mul0, zadd]
instance : CR (Ser α) where
  add := fun a b n => a n + b n
  mul := fun a b n => cmul n a b
  ofI := sOf
  addC := fun a b => funext fun n => addC _ _
  addA := fun a b c => funext fun n => addA _ _ _
  add0 := fun a => funext fun n => by show a n + (if n = 0 then ofI 0 else ofI 0) = a n; rw [ite_self, add0]
  mulC := fun a b => funext fun n => cmul_comm n a b
  mulA := fun a b c => funext fun n => cmul_assoc n a b c
  mul1 := fun a => funext fun n => by show cmul n a (sOf 1) = a n; rw [cmul_of, mul1]
  mulD := fun a b c => funext fun n => cmul_add n a b c
  mul0 := fun a => funext fun n => by show cmul n a (sOf 0) = if n = 0 then ofI 0 else ofI 0; rw [cmul_of, mul0, ite_self]
  ofAdd := fun a b => funext fun n => by
    show (if n = 0 then (ofI (a + b) : α) else ofI 0) = (if n = 0 then ofI a else ofI 0) + (if n = 0 then ofI b else ofI 0)
    split
    · exact ofAdd _ _
    · rw [add0]
  ofMul := fun a b => funext fun n => by
    show (if n = 0 then (ofI (a * b) : α) else ofI 0) = cmul n (sOf a) (sOf b)
    rw [cmul_of]
    show (if n = 0 then (ofI (a * b) : α) else ofI 0) = (if n = 0 then ofI a else ofI 0) * ofI b
    split
    · exact ofMul _ _
    · rw [zmul]
theorem ser_add (a b : Ser α) (n : Nat) : (a + b) n = a n + b n := rfl
theorem ser_mul (a b : Ser α) (n : Nat) : (a * b) n = cmul n a b := rfl
def th (a : Ser α) : Ser α := fun n => ofI (n : Int) * a n
theorem th_mul (a b : Ser α) : th (a * b) = th a * b + a * th b := by
  have gen : ∀ (n : Nat) (a b : Ser α), ofI (n : Int) * cmul n a b = cmul n (th a) b + cmul n a (th b) := by
    intro n
    induction n with
    | zero => intro a b; simp [cmul, th, zmul, mul0, add0]
    | succ n ih =>
      intro a b
      have e1 : sh (th a) = fun i => th (sh a) i + sh a i := funext fun i => by
        show ofI ((i + 1 : Nat) : Int) * a (i + 1) = ofI (i : Int) * a (i + 1) + a (i + 1)
        rw [show ((i + 1 : Nat) : Int) = (i : Int) + 1 by omega, ofAdd, Dmul, omul]
      have e2 : th a 0 = ofI 0 := by show ofI ((0 : Nat) : Int) * a 0 = _; exact zmul _
      have e3 : th b (n + 1) = ofI ((n + 1 : Nat) : Int) * b (n + 1) := rfl
      simp only [cmul]
      rw [e1, e2, e3, zmul, zadd, cmul_addl, mulD, show ((n + 1 : Nat) : Int) = (n : Int) + 1 by omega, ofAdd, Dmul (ofI (n : Int)) (ofI 1) (cmul n (sh a) b), ih, omul]
      have : (ofI (n : Int) + ofI 1) * (a 0 * b (n + 1)) = a 0 * ((ofI (n : Int) + ofI 1) * b (n + 1)) := by ac_rfl
      rw [this]; ac_rfl
  exact funext fun n => gen n a b
theorem th_add (a b : Ser α) : th (a + b) = th a + th b := funext fun n => mulD _ _ _
theorem th_of (k : Int) : th (ofI k : Ser α) = ofI 0 := funext fun n => by
  cases n with
  | zero => exact zmul _
  | succ n => show ofI _ * ofI 0 = ofI 0; exact mul0 _
def pwr (a : α) : Nat → α
  | 0 => ofI 1
  | n + 1 => pwr a n * a
def sL {β : Type} (f : β → α) : List β → α
  | [] => ofI 0
  | b :: l => f b + sL f l
def mon (U : Nat → α) (e : Nat → Nat) : Nat → α
  | 0 => ofI 1
  | d + 1 => mon U e d * pwr (U d) (e d)
abbrev Trm := Int × (Nat → Nat)
def ev (d : Nat) (U : Nat → α) (L : List Trm) : α := sL (fun m => ofI m.1 * mon U m.2 d) L
theorem th_0 (a : Ser α) : th a 0 = ofI 0 := zmul _
end
structure Cg (α : Type) [CR α] where
  r : α → α → Prop
  refl : ∀ a, r a a
  symm : ∀ {a b}, r a b → r b a
  trans : ∀ {a b c}, r a b → r b c → r a c
  add : ∀ {a b c d}, r a b → r c d → r (a + c) (b + d)
  mul : ∀ {a b c d}, r a b → r c d → r (a * c) (b * d)
  of : ∀ {a b : Int}, a % 10007 = b % 10007 → r (ofI a) (ofI b)
def cgI : Cg Int where
  r := fun a b => a % 10007 = b % 10007
  refl := fun _ => rfl
  symm := fun h => h.symm
  trans := fun h k => h.trans k
  add := fun h k => by omega
  mul := fun {a b c d} h k => by rw [Int.mul_emod, h, k, ← Int.mul_emod]
  of := fun h => h
section
variable {α : Type} [CR α]
theorem cmul_cg (c : Cg α) {N : Nat} : ∀ {n : Nat} {a b a' b' : Ser α}, n < N → (∀ i, i < N → c.r (a i) (a' i)) → (∀ i, i < N → c.r (b i) (b' i)) → c.r (cmul n a b) (cmul n a' b')
  | n, a, b, a', b', hn, ha, hb => by
    have gen : ∀ (n : Nat) (a b a' b' : Ser α), (∀ i, i ≤ n → c.r (a i) (a' i)) → (∀ i, i ≤ n → c.r (b i) (b' i)) → c.r (cmul n a b) (cmul n a' b') := by
      intro n
      induction n with
      | zero => intro a b a' b' ha hb; exact c.mul (ha 0 (by omega)) (hb 0 (by omega))
      | succ n ih =>
        intro a b a' b' ha hb
        exact c.add (c.mul (ha 0 (by omega)) (hb (n + 1) (by omega))) (ih _ _ _ _ (fun i hi => ha (i + 1) (by omega)) (fun i hi => hb i (by omega)))
    exact gen n a b a' b' (fun i hi => ha i (by omega)) (fun i hi => hb i (by omega))
def cgS (c : Cg α) (N : Nat) : Cg (Ser α) where
  r := fun a b => ∀ n, n < N → c.r (a n) (b n)
  refl := fun a n _ => c.refl _
  symm := fun h n hn => c.symm (h n hn)
  trans := fun h k n hn => c.trans (h n hn) (k n hn)
  add := fun h k n hn => c.add (h n hn) (k n hn)
  mul := fun h k n hn => cmul_cg c hn h k
  of := fun {a b} h n hn => by
    show c.r (if n = 0 then ofI a else ofI 0) (if n = 0 then ofI b else ofI 0)
    split
    · exact c.of h
    · exact c.refl _
theorem Cg.sL (c : Cg α) {β : Type} {f g : β → α} : ∀ {l : List β}, (∀ b ∈ l, c.r (f b) (g b)) → c.r (sL f l) (sL g l)
  | [], _ => c.refl _
  | b :: l, h => c.add (h b (by simp)) (Cg.sL c (fun x hx => h x (by simp [hx])))
theorem Cg.pwr (c : Cg α) {a b : α} (h : c.r a b) : ∀ n, c.r (pwr a n) (pwr b n)
  | 0 => c.refl _
  | n + 1 => c.mul (Cg.pwr c h n) h
theorem Cg.mon (c : Cg α) {U V : Nat → α} (e : Nat → Nat) : ∀ {d : Nat}, (∀ k, k < d → c.r (U k) (V k)) → c.r (mon U e d) (mon V e d)
  | 0, _ => c.refl _
  | d + 1, h => c.mul (Cg.mon c e (fun k hk => h k (by omega))) (Cg.pwr c (h d (by omega)) _)
theorem Cg.ev (c : Cg α) {d : Nat} {U V : Nat → α} (h : ∀ k, k < d → c.r (U k) (V k)) (L : List Trm) : c.r (ev d U L) (ev d V L) :=
  c.sL (fun m _ => c.mul (c.refl _) (c.mon m.2 h))
end
end Go.Proofs.YtnokgijakdaehaaGreatDoor


namespace Go.Proofs.YtnokgijakdaehaaGreatDoor
open CR
set_option linter.unusedSectionVars false
set_option linter.unusedVariables false
set_option linter.unusedSimpArgs false
set_option maxHeartbeats 1000000
def ex (e : List Int) : Nat → Nat := fun k => (e[k]?.getD 0).toNat
def tr (m : Mon) : Trm := (m.1, ex m.2)
structure WOk (n : Nat) (B : Int) (m : Mon) : Prop where
  num : isN m.1
  len : m.2.length = n
  pw : ∀ x ∈ m.2, 0 ≤ x ∧ x ≤ B
theorem WOk.le {n : Nat} {B C : Int} {m : Mon} (h : WOk n B m) (hBC : B ≤ C) : WOk n C m := ⟨h.num, h.len, fun x hx => ⟨(h.pw x hx).1, Int.le_trans (h.pw x hx).2 hBC⟩⟩
theorem WOk.get {n : Nat} {B : Int} {m : Mon} (h : WOk n B m) (hB : 0 ≤ B) (k : Nat) : 0 ≤ m.2[k]?.getD 0 ∧ m.2[k]?.getD 0 ≤ B := by
  rcases Nat.lt_or_ge k m.2.length with hk | hk
  · simp [hk]; exact h.pw _ (List.getElem_mem hk)
  · simp [hk]; exact hB
section
variable {α : Type} [CR α]
def LOk (n : Nat) (L : List Mon) : Prop := ∀ m ∈ L, m.2.length = n ∧ ∀ x ∈ m.2, 0 ≤ x
theorem LOk.tl {n : Nat} {m : Mon} {L : List Mon} (h : LOk n (m :: L)) : LOk n L := fun a ha => h a (by simp [ha])
theorem LOk.hd {n : Nat} {m : Mon} {L : List Mon} (h : LOk n (m :: L)) : m.2.length = n ∧ ∀ x ∈ m.2, 0 ≤ x := h m (by simp)
end
end Go.Proofs.YtnokgijakdaehaaGreatDoor


namespace Go.Proofs.YtnokgijakdaehaaGreatDoor
open Go.Abs
set_option linter.unusedSectionVars false
set_option linter.unusedVariables false
set_option linter.unusedSimpArgs false
set_option maxHeartbeats 1000000
theorem WOk.low {n i : Nat} {B : Int} {m : Mon} (h : WOk n B m) (hi : i < n) (hp : 0 < m.2[i]?.getD 0) : WOk n B (m.1 * m.2[i]?.getD 0 % 10007, m.2.set i (m.2[i]?.getD 0 - 1)) := by
  have hl := h.len
  refine ⟨isN_mod _, by simpa using hl, fun x hx => ?_⟩
  rcases List.mem_or_eq_of_mem_set hx with hx | rfl
  · exact h.pw x hx
  · have hm : m.2[i]?.getD 0 ∈ m.2 := by
      rw [List.getElem?_eq_getElem (by omega), Option.getD_some]; exact List.getElem_mem _
    have := h.pw _ hm
    omega
end Go.Proofs.YtnokgijakdaehaaGreatDoor


namespace Go.Proofs.YtnokgijakdaehaaGreatDoor
open Go.Abs
set_option linter.unusedSectionVars false
set_option linter.unusedVariables false
set_option linter.unusedSimpArgs false
set_option maxHeartbeats 1000000
theorem omat_app (A C : List (List Int)) : omat (A ++ C) = omat A ++ omat C := by simp [omat]
theorem omat_one (r : List Int) : omat [r] = [.own 2 r.length (avs r)] := rfl
theorem omat_nil : omat [] = [] := rfl
end Go.Proofs.YtnokgijakdaehaaGreatDoor


namespace Go.Proofs.YtnokgijakdaehaaGreatDoor
open Go.Abs
set_option linter.unusedSectionVars false
set_option linter.unusedVariables false
set_option linter.unusedSimpArgs false
set_option maxHeartbeats 1000000
end Go.Proofs.YtnokgijakdaehaaGreatDoor


namespace Go.Proofs.YtnokgijakdaehaaGreatDoor
open Go.Abs
set_option linter.unusedSectionVars false
set_option linter.unusedVariables false
set_option linter.unusedSimpArgs false
set_option maxHeartbeats 4000000
def plusS (a b : List Int) (k : Int) : List Int := tb (fun i => (a[i]?.getD 0 + k % 10007 * b[i]?.getD 0) % 10007) a.length
@[simp] theorem plusS_len (a b : List Int) (k : Int) : (plusS a b k).length = a.length := by simp [plusS]
theorem plusS_N (a b : List Int) (k : Int) : Ns (plusS a b k) := tb_N fun i _ => isN_mod _
def scalS (a : List Int) (k : Int) : List Int := tb (fun i => a[i]?.getD 0 * (k % 10007) % 10007) a.length
@[simp] theorem scalS_len (a : List Int) (k : Int) : (scalS a k).length = a.length := by simp [scalS]
theorem scalS_N (a : List Int) (k : Int) : Ns (scalS a k) := tb_N fun i _ => isN_mod _
theorem plus_c (a b : List Int) (k : Int) (ha : Ns a) (hb : Ns b) (hk : fits k) (hl : a.length ≤ 1048576) (hab : a.length ≤ b.length) :
    Con Tryz.prog 103 [.sl a.length (avs a), .sl b.length (avs b), .int k] (.own 2 a.length (avs (plusS a b k))) := by
  refine con_of_vc Tryz.mixed ⟨10, [], [], []⟩ Tryz.func103 (by decide) rfl (by simp) (by decide) (by simp [freshOK, freshL, go_sem]) ?_
  rw [Tryz.ntmps103]
  simp [go_sem]
  refine loop_inv (7 :: 8 :: 9 :: List.range' 13 19) (fun i : Nat => [(7, .own 2 i (avs (tb (fun i => (a[i]?.getD 0 + k % 10007 * b[i]?.getD 0) % 10007) i))), (13, .int i)]) (fun i => i ≤ a.length) (fun i => a.length - i) 0 (by simp) (by simp [go_sem]) (by simp [go_sem]) ?_
  intro i hi
  simp [go_sem]
  refine ⟨fun h => ?_, fun h => ?_⟩ <;> simp at h
  · have h2 : i < b.length := by omega
    have m1 := mul_bound (isN_mod k) (hb.get i)
    have m2 := ha.get i
    have f1 : fits (k % 10007 * b[i]?.getD 0) := ⟨by omega, by omega⟩
    have f2 : fits (a[i]?.getD 0 + k % 10007 * b[i]?.getD 0) := by obtain ⟨x0, x1⟩ := m2; exact ⟨by omega, by omega⟩
    simp [go_sem, avs_drop h, avs_drop h2]
    refine ⟨⟨h, by rintro rfl; simp at h⟩, by kernel_rfl, ?_⟩
    refine CallD.of (num_c _ hk.1 hk.2) (by simp [roots, rootsL]) (by decide) ?_
    simp [go_sem]
    simp [go_sem, avs_drop h, avs_drop h2]
    refine ⟨⟨h2, by rintro rfl; simp at h2⟩, f1, f2, ?_⟩
    refine CallD.of (num_c _ f2.1 f2.2) (by simp [roots, rootsL]) (by decide) ?_
    simp [go_sem]
    refine ⟨by omega, ?_⟩
    refine ⟨by kernel_rfl, ?_⟩
    simp [go_sem]
    exact ⟨by omega, i + 1, by omega, by omega, Off_reset _ _ _ (by simp), by simp [tb_succ, avs_snoc], by omega⟩
  · have e : i = a.length := by omega
    subst e
    simp [go_sem]
    rfl
theorem scaled_c (a : List Int) (k : Int) (ha : Ns a) (hk : fits k) (hl : a.length ≤ 1048576) :
    Con Tryz.prog 46 [.sl a.length (avs a), .int k] (.own 2 a.length (avs (scalS a k))) := by
  refine con_of_vc Tryz.mixed ⟨8, [], [], []⟩ Tryz.func46 (by decide) rfl (by simp) (by decide) (by simp [freshOK, freshL, go_sem]) ?_
  rw [Tryz.ntmps46]
  simp [go_sem]
  refine loop_inv (5 :: 7 :: List.range' 11 13) (fun i : Nat => [(5, .own 2 i (avs (tb (fun i => a[i]?.getD 0 * (k % 10007) % 10007) i))), (11, .int i)]) (fun i => i ≤ a.length) (fun i => a.length - i) 0 (by simp) (by simp [go_sem]) (by simp [go_sem]) ?_
  intro i hi
  simp [go_sem]
  refine ⟨fun h => ?_, fun h => ?_⟩ <;> simp at h
  · have f1 := mul_fits (ha.get i) (isN_mod k)
    simp [go_sem, avs_drop h]
    refine ⟨⟨h, by rintro rfl; simp at h⟩, ?_⟩
    refine CallVC.of (num_c _ hk.1 hk.2) (by decide) ?_
    simp [go_sem]
    refine ⟨f1, ?_⟩
    refine CallVC.of (num_c _ f1.1 f1.2) (by decide) ?_
    simp [go_sem]
    exact ⟨by omega, by omega, i + 1, by omega, by omega, Off_reset _ _ _ (by simp), by simp [tb_succ, avs_snoc], by omega⟩
  · have e : i = a.length := by omega
    subst e
    simp [go_sem]
    rfl
theorem Clone_c (xs : List Int) (hl : xs.length ≤ 1048576) : Con Tryz.prog 122 [.sl xs.length (avs xs)] (.own 2 xs.length (avs xs)) := by
  refine con_of_vcN Tryz.mixed ⟨3, [], [], []⟩ Tryz.func122 (by decide) rfl (by simp) (by decide) (by simp [freshOK, freshL, go_sem]) ?_
  rw [Tryz.ntmps122]
  simp [go_sem]
  exact ⟨by omega, by omega⟩
def lowB (A : List (List Int)) (d : Nat) : Bool := (List.range A.length).all fun i => (List.range (A[i]?.getD []).length).all fun k => decide (k < i + d) || decide ((A[i]?.getD [])[k]?.getD 0 = 0)
theorem lowB_no {A : List (List Int)} {d i k : Nat} (hi : i < A.length) (hk : k < (A[i]?.getD []).length) (h1 : i + d ≤ k) (h2 : (A[i]?.getD [])[k]?.getD 0 ≠ 0) : lowB A d = false := by
  unfold lowB
  rw [List.all_eq_false]
  refine ⟨i, by simpa using hi, ?_⟩
  rw [Bool.not_eq_true, List.all_eq_false]
  exact ⟨k, by simpa using hk, by simp [h2]; omega⟩
theorem lowB_yes {A : List (List Int)} {d : Nat} (h : ∀ i, i < A.length → ∀ k, k < (A[i]?.getD []).length → i + d ≤ k → (A[i]?.getD [])[k]?.getD 0 = 0) : lowB A d = true := by
  unfold lowB
  rw [List.all_eq_true]
  intro i hi
  rw [List.all_eq_true]
  intro k hk
  by_cases h1 : k < i + d
  · simp [h1]
  · simp [h i (by simpa using hi) k (by simpa using hk) (by omega)]
set_option maxRecDepth 100000 in
theorem l09Lower_c (A : List (List Int)) (B : List Int) (d : Nat) (hd : d ≤ 1048576) (hB : B.length ≤ 1048576) (hA : A.length = B.length) (hr : ∀ r ∈ A, r.length = B.length) :
    Con Tryz.prog 81 [.agg [.sl A.length (mat A), .sl B.length (avs B)], .int d] (.bool (lowB A d)) := by
  refine con_of_vc Tryz.mixed ⟨7, [], [], []⟩ Tryz.func81 (by decide) rfl (by simp) (by decide) (by simp [freshOK, freshL, go_sem]) ?_
  rw [Tryz.ntmps81]
  simp [go_sem]
  refine loop_inv (List.range' 4 29) (fun i : Nat => [(5, .int i)]) (fun i => i ≤ A.length ∧ ∀ j, j < i → ∀ k, k < (A[j]?.getD []).length → j + d ≤ k → (A[j]?.getD [])[k]?.getD 0 = 0) (fun i => A.length - i) 0 (by simp) (by simp [go_sem]) (by simp [go_sem]) ?_
  rintro i ⟨hi, hp⟩
  simp [go_sem]
  refine ⟨fun h => ?_, fun h => ?_⟩ <;> simp at h
  · have hif : i < A.length := by omega
    have hx : A[i]?.getD [] ∈ A := by simp [hif]
    have hrl := hr _ hx
    simp [go_sem]
    refine ⟨by omega, ?_⟩
    refine loop_inv (4 :: 6 :: List.range' 17 16) (fun k : Nat => [(6, .int k)]) (fun k => i + d ≤ k ∧ (k ≤ B.length ∨ k = i + d) ∧ ∀ j, j < k → i + d ≤ j → j < B.length → (A[i]?.getD [])[j]?.getD 0 = 0) (fun k => B.length - k) (i + d) ⟨Nat.le_refl _, .inr rfl, fun j h1 h2 => by omega⟩ (by simp [go_sem]) (by simp [go_sem]) ?_
    rintro k ⟨hk1, hk2, hq⟩
    simp [go_sem]
    refine ⟨fun h => ?_, fun h => ?_⟩ <;> simp at h
    · have hkl : k < (A[i]?.getD []).length := by omega
      simp [go_sem, mat_drop hif, avs_drop hkl]
      refine ⟨⟨hif, by rintro rfl; simp at hif⟩, ⟨hkl, fun e => by rw [e] at hkl; simp at hkl⟩, ?_⟩
      by_cases h0 : (A[i]?.getD [])[k]?.getD 0 = 0
      · simp [go_sem, h0]
        refine ⟨by omega, k + 1, ⟨by omega, by omega, fun j h1 h2 h3 => ?_⟩, by omega, Off_reset _ _ _ (by simp), by omega⟩
        by_cases e : j = k
        · rw [e]; exact h0
        · exact hq j (by omega) h2 h3
      · simp [go_sem, h0]
        rw [lowB_no hif hkl hk1 h0]
    · simp [go_sem]
      refine ⟨by omega, i + 1, ⟨by omega, fun j h1 k2 h2 h3 => ?_⟩, by omega, (Off.reset (by intro x hx; simp at hx ⊢; omega) (by simp) (by simp [go_sem, Off_reset])), by omega⟩
      by_cases e : j = i
      · subst e; exact hq k2 (by omega) h3 (by omega)
      · exact hp j (by omega) k2 h2 h3
  · simp [go_sem]
    rw [lowB_yes (fun j hj => hp j (by omega))]
end Go.Proofs.YtnokgijakdaehaaGreatDoor


namespace Go.Proofs.YtnokgijakdaehaaGreatDoor
open Go.Abs
set_option linter.unusedSectionVars false
set_option linter.unusedVariables false
set_option linter.unusedSimpArgs false
set_option maxHeartbeats 1000000
def mx (m : List (List Int)) : Mx := fun r c => (m[r]?.getD [])[c]?.getD 0
def fndR (m : List (List Int)) (k : Nat) : Nat → Nat → Nat
  | 0, i => i
  | f + 1, i => if mx m i k = 0 then fndR m k f (i + 1) else i
theorem fndR_le (m : List (List Int)) (k : Nat) : ∀ f i, i ≤ fndR m k f i ∧ fndR m k f i ≤ i + f
  | 0, i => by simp [fndR]
  | f + 1, i => by
    rw [fndR]
    split
    · have := fndR_le m k f (i + 1); omega
    · omega
theorem fndR_zero (m : List (List Int)) (k : Nat) : ∀ f i r, i ≤ r → r < fndR m k f i → mx m r k = 0
  | 0, i, r, h1, h2 => by rw [fndR] at h2; omega
  | f + 1, i, r, h1, h2 => by
    rw [fndR] at h2
    split at h2
    · rename_i h
      by_cases e : r = i
      · subst e; exact h
      · exact fndR_zero m k f (i + 1) r (by omega) h2
    · omega
theorem fndR_ne (m : List (List Int)) (k : Nat) : ∀ f i, fndR m k f i < i + f → mx m (fndR m k f i) k ≠ 0
  | 0, i, h => by rw [fndR] at h; omega
  | f + 1, i, h => by
    rw [fndR] at h ⊢
    split
    · rename_i hz
      rw [if_pos hz] at h
      exact fndR_ne m k f (i + 1) (by omega)
    · rename_i hz; exact hz
def swp (m : List (List Int)) (i d : Nat) : List (List Int) := if i = d then m else (m.set i (m[d]?.getD [])).set d (m[i]?.getD [])
def scl (m : List (List Int)) (d k : Nat) : List (List Int) := m.set d (scalS (m[d]?.getD []) (pw (mx m d k) 10005))
def elD (m : List (List Int)) (d k : Nat) : List (List Int) := (List.range m.length).map fun r => if r = d then m[d]?.getD [] else plusS (m[r]?.getD []) (m[d]?.getD []) (- mx m r k)
def Rws (w : Nat) (m : List (List Int)) : Prop := ∀ r ∈ m, r.length = w ∧ Ns r
theorem Rws.at {w : Nat} {m : List (List Int)} (h : Rws w m) {i : Nat} (hi : i < m.length) : (m[i]?.getD []).length = w ∧ Ns (m[i]?.getD []) := h _ (by simp [hi])
theorem Rws.set {w : Nat} {m : List (List Int)} (h : Rws w m) {i : Nat} {r : List Int} (hr : r.length = w ∧ Ns r) : Rws w (m.set i r) := fun x hx => by
  rcases List.mem_or_eq_of_mem_set hx with hx | rfl
  · exact h x hx
  · exact hr
@[simp] theorem swp_len (m : List (List Int)) (i d : Nat) : (swp m i d).length = m.length := by unfold swp; split <;> simp
@[simp] theorem scl_len (m : List (List Int)) (d k : Nat) : (scl m d k).length = m.length := by simp [scl]
@[simp] theorem elD_len (m : List (List Int)) (d k : Nat) : (elD m d k).length = m.length := by simp [elD]
theorem swp_ok {w : Nat} {m : List (List Int)} (h : Rws w m) {i d : Nat} (hi : i < m.length) (hd : d < m.length) : Rws w (swp m i d) := by
  unfold swp
  split
  · exact h
  · exact (h.set (h.at hd)).set (h.at hi)
theorem scl_ok {w : Nat} {m : List (List Int)} (h : Rws w m) {d k : Nat} (hd : d < m.length) : Rws w (scl m d k) := h.set ⟨by rw [scalS_len]; exact (h.at hd).1, scalS_N _ _⟩
theorem elD_ok {w : Nat} {m : List (List Int)} (h : Rws w m) {d k : Nat} (hd : d < m.length) : Rws w (elD m d k) := fun x hx => by
  obtain ⟨r, hr, rfl⟩ := List.mem_map.1 hx
  have hr2 : r < m.length := by simpa using hr
  split
  · exact h.at hd
  · exact ⟨by rw [plusS_len]; exact (h.at hr2).1, plusS_N _ _ _⟩
theorem swp_mx {m : List (List Int)} {i d : Nat} (hi : i < m.length) (hd : d < m.length) : mx (swp m i d) = updR (updR (mx m) i (mx m d)) d (mx m i) := funext fun r => funext fun c => by
  unfold swp
  split
  · rename_i e; subst e; rw [updR_upd, updR_self]
  · rename_i e
    unfold mx updR
    by_cases h1 : r = d
    · subst h1
      rw [List.getElem?_set_self (by simpa using hd), if_pos rfl]; rfl
    · rw [List.getElem?_set_ne (fun x => h1 x.symm), if_neg h1]
      by_cases h2 : r = i
      · subst h2; rw [List.getElem?_set_self hi, if_pos rfl]; rfl
      · rw [List.getElem?_set_ne (fun x => h2 x.symm), if_neg h2]
theorem scl_at {w : Nat} {m : List (List Int)} (h : Rws w m) {d k : Nat} (hd : d < m.length) {r c : Nat} (hc : c < w) : mx (scl m d k) r c = if r = d then mx m d c * (pw (mx m d k) 10005 % 10007) % 10007 else mx m r c := by
  unfold scl
  show ((m.set d (scalS (m[d]?.getD []) (pw (mx m d k) 10005)))[r]?.getD [])[c]?.getD 0 = _
  by_cases e : r = d
  · subst e
    rw [List.getElem?_set_self hd, if_pos rfl]
    exact tb_get (fun i => (m[r]?.getD [])[i]?.getD 0 * (pw (mx m r k) 10005 % 10007) % 10007) (by rw [(h.at hd).1]; exact hc)
  · rw [List.getElem?_set_ne (fun x => e x.symm), if_neg e]; rfl
theorem elD_at {w : Nat} {m : List (List Int)} (h : Rws w m) {d k : Nat} {r c : Nat} (hr : r < m.length) (hc : c < w) : mx (elD m d k) r c = if r = d then mx m d c else (mx m r c + (- mx m r k) % 10007 * mx m d c) % 10007 := by
  have e0 : (elD m d k)[r]?.getD [] = if r = d then m[d]?.getD [] else plusS (m[r]?.getD []) (m[d]?.getD []) (- mx m r k) := by simp [elD, hr]
  show ((elD m d k)[r]?.getD [])[c]?.getD 0 = _
  rw [e0]
  by_cases e : r = d
  · rw [if_pos e, if_pos e]; rfl
  · rw [if_neg e, if_neg e]
    exact tb_get (fun i => ((m[r]?.getD [])[i]?.getD 0 + (- mx m r k) % 10007 * (m[d]?.getD [])[i]?.getD 0) % 10007) (by rw [(h.at hr).1]; exact hc)
end Go.Proofs.YtnokgijakdaehaaGreatDoor


namespace Go.Proofs.YtnokgijakdaehaaGreatDoor
open Go.Abs
set_option linter.unusedSectionVars false
set_option linter.unusedVariables false
set_option linter.unusedSimpArgs false
set_option maxHeartbeats 1000000
theorem pw_N (a k : Int) : isN (pw a k) := isN_mod _
end Go.Proofs.YtnokgijakdaehaaGreatDoor


namespace Go.Proofs.YtnokgijakdaehaaGreatDoor
set_option linter.unusedSectionVars false
set_option linter.unusedVariables false
set_option maxRecDepth 100000
def fp : Nat → Nat → Nat → Nat
  | 0, _, _ => 1
  | f + 1, a, n => Nat.rec (1 % 10007) (fun _ _ => Nat.rec (fp f (Nat.mod (Nat.mul a a) 10007) (Nat.div n 2)) (fun _ _ => Nat.mod (Nat.mul a (fp f (Nat.mod (Nat.mul a a) 10007) (Nat.div n 2))) 10007) (Nat.mod n 2)) n
def chB (g : Nat → Nat) : Nat → Nat → Bool
  | 0, lo => Nat.beq (g lo) 1
  | d + 1, lo => and (chB g d lo) (chB g d (lo + 2 ^ d))
def ivN (a : Nat) : Nat := a * fp 15 a 10005 % 10007
theorem fp_eq : ∀ (f a n : Nat), n < 2 ^ f → fp f a n = a ^ n % 10007
  | 0, a, n, h => by
    have : n = 0 := by simp at h; exact h
    subst this; rfl
  | f + 1, a, 0, _ => by show 1 % 10007 = a ^ 0 % 10007; rw [Nat.pow_zero]
  | f + 1, a, n + 1, h => by
    have hh : (n + 1) / 2 < 2 ^ f := by rw [Nat.pow_succ] at h; omega
    have ih := fp_eq f (a * a % 10007) ((n + 1) / 2) hh
    have sq : (a * a % 10007) ^ ((n + 1) / 2) % 10007 = a ^ (2 * ((n + 1) / 2)) % 10007 := by
      rw [← Nat.pow_mod, Nat.pow_mul, Nat.pow_two]
    rw [sq] at ih
    have e0 : fp (f + 1) a (n + 1) = Nat.rec (fp f (a * a % 10007) ((n + 1) / 2)) (fun _ _ => a * fp f (a * a % 10007) ((n + 1) / 2) % 10007) ((n + 1) % 2) := rfl
    rw [e0, ih]
    rcases Nat.mod_two_eq_zero_or_one (n + 1) with h2 | h2
    · rw [h2]
      show a ^ (2 * ((n + 1) / 2)) % 10007 = a ^ (n + 1) % 10007
      rw [show 2 * ((n + 1) / 2) = n + 1 by omega]
    · rw [h2]
      show a * (a ^ (2 * ((n + 1) / 2)) % 10007) % 10007 = a ^ (n + 1) % 10007
      rw [show n + 1 = 2 * ((n + 1) / 2) + 1 by omega, Nat.pow_succ, Nat.mul_mod, Nat.mod_mod, ← Nat.mul_mod, Nat.mul_comm]
      rw [show (2 * ((n + 1) / 2) + 1) / 2 = (n + 1) / 2 by omega]
theorem chB_ok (g : Nat → Nat) : ∀ (d lo : Nat), chB g d lo = true → ∀ a, lo ≤ a → a < lo + 2 ^ d → g a = 1
  | 0, lo, h, a, h1, h2 => by
    have : a = lo := by simp at h2; omega
    subst this
    rw [chB] at h
    exact Nat.eq_of_beq_eq_true h
  | d + 1, lo, h, a, h1, h2 => by
    rw [chB, Bool.and_eq_true] at h
    rw [Nat.pow_succ] at h2
    by_cases hl : a < lo + 2 ^ d
    · exact chB_ok g d lo h.1 a h1 hl
    · exact chB_ok g d (lo + 2 ^ d) h.2 a (by omega) (by omega)
set_option maxHeartbeats 4000000 in
theorem chB_1 : chB ivN 13 1 = true := by decide +kernel
theorem chB_2 : chB ivN 10 8193 = true := by decide +kernel
theorem chB_3 : chB ivN 9 9217 = true := by decide +kernel
theorem chB_4 : chB ivN 8 9495 = true := by decide +kernel
theorem chB_5 : chB ivN 8 9751 = true := by decide +kernel
theorem inv_nat {a : Nat} (h0 : a ≠ 0) (h : a < 10007) : ivN a = 1 := by
  by_cases h1 : a < 8193
  · exact chB_ok ivN 13 1 chB_1 a (by omega) (by omega)
  by_cases h2 : a < 9217
  · exact chB_ok ivN 10 8193 chB_2 a (by omega) (by omega)
  by_cases h3 : a < 9729
  · exact chB_ok ivN 9 9217 chB_3 a (by omega) (by omega)
  by_cases h4 : a < 9751
  · exact chB_ok ivN 8 9495 chB_4 a (by omega) (by omega)
  · exact chB_ok ivN 8 9751 chB_5 a (by omega) (by omega)
theorem fp_pow (n e : Nat) (he : e < 2 ^ 15) : ((fp 15 n e : Nat) : Int) = pw (n : Int) (e : Int) := by
  rw [fp_eq 15 n e he]
  unfold pw
  rw [Int.toNat_natCast, Int.natCast_emod, Int.natCast_pow]; rfl
theorem fp_pw (n : Nat) : ((fp 15 n 10005 : Nat) : Int) = pw (n : Int) 10005 := fp_pow n 10005 (by decide)
theorem inv_ok {a : Int} (h : isN a) (h0 : a ≠ 0) : a * pw a 10005 % 10007 = 1 := by
  obtain ⟨n, rfl⟩ : ∃ n : Nat, a = n := ⟨a.toNat, by have := h.1; omega⟩
  have hn : n < 10007 := by have := h.2; omega
  have hv := inv_nat (a := n) (by omega) hn
  rw [← fp_pw, ← Int.natCast_mul]
  unfold ivN at hv
  generalize n * fp 15 n 10005 = z at *
  omega
end Go.Proofs.YtnokgijakdaehaaGreatDoor


namespace Go.Proofs.YtnokgijakdaehaaGreatDoor
open Go.Abs
set_option linter.unusedSectionVars false
set_option linter.unusedVariables false
set_option linter.unusedSimpArgs false
set_option maxHeartbeats 1000000
structure GI (n w : Nat) (W0 : Mx) (m : List (List Int)) (done k : Nat) : Prop where
  len : m.length = n
  rws : Rws w m
  eqv : RowEq n w W0 (mx m)
  dle : done ≤ n
  piv : ∃ piv : Nat → Nat, (∀ j, j < done → piv j < k ∧ ∀ r, r < n → mx m r (piv j) = if r = j then 1 else 0) ∧ (∀ j, j + 1 < done → piv j < piv (j + 1)) ∧ (∀ j, j < done → ∀ c, c < piv j → mx m j c = 0)
  low : ∀ r, done ≤ r → r < n → ∀ c, c < k → mx m r c = 0
theorem GI.start {n w : Nat} {m : List (List Int)} (hl : m.length = n) (hr : Rws w m) : GI n w (mx m) m 0 0 :=
  ⟨hl, hr, RowEq.refl n w _, by omega, ⟨fun _ => 0, fun j hj => by omega, fun j hj => by omega, fun j hj => by omega⟩, fun r _ _ c hc => by omega⟩
theorem GI.skip {n w : Nat} {W0 : Mx} {m : List (List Int)} {done k : Nat} (h : GI n w W0 m done k) (hz : ∀ r, done ≤ r → r < n → mx m r k = 0) : GI n w W0 m done (k + 1) := by
  obtain ⟨h1, h2, h3, h4, ⟨p, p1, p2, p3⟩, h6⟩ := h
  refine ⟨h1, h2, h3, h4, ⟨p, fun j hj => ⟨by have := (p1 j hj).1; omega, (p1 j hj).2⟩, p2, p3⟩, fun r hr hn c hc => ?_⟩
  by_cases e : c = k
  · subst e; exact hz r hr hn
  · exact h6 r hr hn c (by omega)
theorem mx_N {w : Nat} {m : List (List Int)} (h : Rws w m) {r : Nat} (hr : r < m.length) (c : Nat) : isN (mx m r c) := (h.at hr).2.get c
theorem GI.step {n w : Nat} {W0 : Mx} {m : List (List Int)} {done k i : Nat} (h : GI n w W0 m done k) (hk : k < w) (hd : done < n) (h1 : done ≤ i) (h2 : i < n) (hne : mx m i k ≠ 0) :
    GI n w W0 (elD (scl (swp m i done) done k) done k) (done + 1) (k + 1) := by
  obtain ⟨hl, hr, he, hdl, ⟨p, p1, p2, p3⟩, hlow⟩ := h
  have il : i < m.length := by omega
  have dl : done < m.length := by omega
  have sm := swp_mx il dl
  have sr := swp_ok hr il dl
  have sl := swp_len m i done
  have se : RowEq n w W0 (mx (swp m i done)) := by
    by_cases e : i = done
    · have : swp m i done = m := by unfold swp; rw [if_pos e]
      rw [this]; exact he
    · rw [sm]; exact he.trans (RowEq.swap _ h2 hd e)
  have sd : ∀ c, mx (swp m i done) done c = mx m i c := fun c => by rw [sm, updR_at]
  have slow : ∀ r, done ≤ r → r < n → ∀ c, c < k → mx (swp m i done) r c = 0 := fun r hr1 hr2 c hc => by
    rw [sm]
    unfold updR
    by_cases a1 : r = done
    · rw [if_pos a1]; exact hlow i h1 h2 c hc
    · rw [if_neg a1]
      by_cases a2 : r = i
      · rw [if_pos a2]; exact hlow done (Nat.le_refl _) hd c hc
      · rw [if_neg a2]; exact hlow r hr1 hr2 c hc
  have sup : ∀ r, r < done → mx (swp m i done) r = mx m r := fun r hr1 => by
    rw [sm, updR_ne _ _ (by omega), updR_ne _ _ (by omega)]
  have snz : mx (swp m i done) done k ≠ 0 := by rw [sd]; exact hne
  generalize swp m i done = a at *
  have al : a.length = n := by omega
  have ad : done < a.length := by omega
  have cr := scl_ok (k := k) sr ad
  have cl := scl_len a done k
  have cat := fun r c (hc : c < w) => scl_at (k := k) sr ad (r := r) hc
  have iv := inv_ok (mx_N sr ad k) snz
  have ce : RowEq n w (mx a) (mx (scl a done k)) := by
    refine (RowEq.scale (mx a) hd (k := pw (mx a done k) 10005) (k' := mx a done k) (by rw [Int.mul_comm]; exact iv)).trans (RowEq.cong fun r c hr1 hc => ?_)
    rw [cat r c hc]
    unfold updR
    by_cases e : r = done
    · subst e
      rw [if_pos rfl, if_pos rfl, mul_mod_r, Int.emod_emod_of_dvd _ (Int.dvd_refl _), Int.mul_comm]
    · rw [if_neg e, if_neg e]
  have ck : mx (scl a done k) done k = 1 := by rw [cat _ _ hk, if_pos rfl, mul_mod_r]; exact iv
  have cz : ∀ c, c < k → mx (scl a done k) done c = 0 := fun c hc => by
    rw [cat _ _ (by omega), if_pos rfl, slow done (Nat.le_refl _) hd c hc]; simp
  have co : ∀ r c, r ≠ done → c < w → mx (scl a done k) r c = mx a r c := fun r c hr1 hc => by rw [cat _ _ hc, if_neg hr1]
  generalize scl a done k = b at *
  have bl : b.length = n := by omega
  have bd : done < b.length := by omega
  have er := elD_ok (k := k) cr bd
  have el := elD_len b done k
  have eat := fun r c (hr1 : r < n) (hc : c < w) => elD_at (d := done) (k := k) cr (r := r) (c := c) (by omega) hc
  have ee : RowEq n w (mx b) (mx (elD b done k)) := by
    refine (RowEq.clr (mx b) hd (fun r => - mx b r k)).trans (RowEq.cong fun r c hr1 hc => ?_)
    rw [eat r c hr1 hc]
    unfold clr
    by_cases e : r = done
    · subst e; rw [if_neg (by omega), if_pos rfl]
    · rw [if_pos ⟨hr1, e⟩, if_neg e, Int.emod_emod_of_dvd _ (Int.dvd_refl _), Int.add_emod, Int.add_emod (mx b r c), mul_mod_l]
  have keep : ∀ r c, r < n → c < w → mx b done c = 0 → mx (elD b done k) r c = mx b r c := fun r c hr1 hc hz => by
    rw [eat r c hr1 hc]
    by_cases e : r = done
    · rw [if_pos e, e]
    · rw [if_neg e, hz, Int.mul_zero, Int.add_zero]
      have := mx_N cr (show r < b.length by omega) c
      exact Int.emod_eq_of_lt this.1 (by have := this.2; omega)
  have fin : ∀ r, r < n → mx (elD b done k) r k = if r = done then 1 else 0 := fun r hr1 => by
    rw [eat r k hr1 hk, ck]
    by_cases e : r = done
    · rw [if_pos e, if_pos e]
    · rw [if_neg e, if_neg e, Int.mul_one]; omega
  refine ⟨by omega, er, (se.trans ce).trans ee, by omega, ⟨fun j => if j = done then k else p j, fun j hj => ?_, fun j hj => ?_, fun j hj c hc => ?_⟩, fun r hr1 hr2 c hc => ?_⟩
  · by_cases e : j = done
    · subst e
      simp only [if_true]
      exact ⟨by omega, fin⟩
    · have hjd : j < done := by omega
      have q := p1 j hjd
      simp only [if_neg e]
      refine ⟨by omega, fun r hr1 => ?_⟩
      rw [keep r (p j) hr1 (by omega) (cz _ q.1)]
      by_cases e2 : r = done
      · subst e2; rw [cz _ q.1, if_neg (by omega)]
      · rw [co r (p j) e2 (by omega)]
        by_cases e3 : r < done
        · rw [sup r e3]; exact q.2 r hr1
        · rw [slow r (by omega) hr1 (p j) q.1, if_neg (by omega)]
  · by_cases e : j + 1 = done
    · have q := p1 j (by omega)
      simp only [if_pos e, if_neg (show ¬ j = done by omega)]
      exact q.1
    · simp only [if_neg e, if_neg (show ¬ j = done by omega)]
      exact p2 j (by omega)
  · by_cases e : j = done
    · subst e
      simp only [if_true] at hc
      rw [keep j c (by omega) (by omega) (cz c hc), cz c hc]
    · have hjd : j < done := by omega
      have q := p1 j hjd
      simp only [if_neg e] at hc
      rw [keep j c (by omega) (by omega) (cz c (by omega)), co j c e (by omega), sup j hjd]
      exact p3 j hjd c hc
  · by_cases e : c = k
    · subst e; rw [fin r hr2, if_neg (by omega)]
    · rw [keep r c hr2 (by omega) (cz c (by omega)), co r c (by omega) (by omega)]
      exact slow r (by omega) hr2 c (by omega)
end Go.Proofs.YtnokgijakdaehaaGreatDoor


namespace Go.Proofs.YtnokgijakdaehaaGreatDoor
open Go.Abs
set_option linter.unusedSectionVars false
set_option linter.unusedVariables false
set_option linter.unusedSimpArgs false
set_option maxHeartbeats 1000000
def stepR (m : List (List Int)) (d : Int) (done k : Nat) : List (List Int) × Int × Nat :=
  if fndR m k (m.length - done) done = m.length then (m, 0, done)
  else (elD (scl (swp m (fndR m k (m.length - done) done) done) done k) done k, (if fndR m k (m.length - done) done = done then d else (- d) % 10007) * mx (swp m (fndR m k (m.length - done) done) done) done k % 10007, done + 1)
def redR : Nat → Nat → List (List Int) × Int × Nat → List (List Int) × Int × Nat
  | 0, _, st => st
  | f + 1, k, st => if st.2.2 < st.1.length then redR f (k + 1) (stepR st.1 st.2.1 st.2.2 k) else st
theorem stepR_GI {n w : Nat} {W0 : Mx} {m : List (List Int)} {d : Int} {done k : Nat} (h : GI n w W0 m done k) (hk : k < w) (hd : done < n) : GI n w W0 (stepR m d done k).1 (stepR m d done k).2.2 (k + 1) := by
  have hl := h.len
  have fl := fndR_le m k (m.length - done) done
  unfold stepR
  by_cases e : fndR m k (m.length - done) done = m.length
  · rw [if_pos e]
    exact h.skip fun r h1 h2 => fndR_zero m k (m.length - done) done r h1 (by omega)
  · rw [if_neg e]
    exact h.step hk hd fl.1 (by omega) (fndR_ne m k (m.length - done) done (by omega))
theorem redR_GI {n w : Nat} {W0 : Mx} : ∀ (f k : Nat) (st : List (List Int) × Int × Nat), k + f = w → GI n w W0 st.1 st.2.2 k →
    ∃ k', k' ≤ w ∧ (k' = w ∨ (redR f k st).2.2 = n) ∧ GI n w W0 (redR f k st).1 (redR f k st).2.2 k'
  | 0, k, st, hk, h => ⟨k, by omega, .inl (by omega), h⟩
  | f + 1, k, st, hk, h => by
    rw [redR]
    have hl := h.len
    have hd := h.dle
    split
    · rename_i hlt
      exact redR_GI f (k + 1) _ (by omega) (stepR_GI h (by omega) (by omega))
    · rename_i hlt
      exact ⟨k, by omega, .inr (by omega), h⟩
def ldF (r : List Int) : Nat → Nat → Nat
  | 0, i => i
  | f + 1, i => if r[i]?.getD 0 = 0 then ldF r f (i + 1) else i
theorem ldF_le (r : List Int) : ∀ f i, i ≤ ldF r f i ∧ ldF r f i ≤ i + f
  | 0, i => by simp [ldF]
  | f + 1, i => by
    rw [ldF]
    split
    · have := ldF_le r f (i + 1); omega
    · omega
theorem ldF_zero (r : List Int) : ∀ f i j, i ≤ j → j < ldF r f i → r[j]?.getD 0 = 0
  | 0, i, j, h1, h2 => by rw [ldF] at h2; omega
  | f + 1, i, j, h1, h2 => by
    rw [ldF] at h2
    split at h2
    · rename_i h
      by_cases e : j = i
      · subst e; exact h
      · exact ldF_zero r f (i + 1) j (by omega) h2
    · omega
theorem ldF_ne (r : List Int) : ∀ f i, ldF r f i < i + f → r[ldF r f i]?.getD 0 ≠ 0
  | 0, i, h => by rw [ldF] at h; omega
  | f + 1, i, h => by
    rw [ldF] at h ⊢
    split
    · rename_i hz
      rw [if_pos hz] at h
      exact ldF_ne r f (i + 1) (by omega)
    · rename_i hz; exact hz
def leadL (r : List Int) : Nat := ldF r r.length 0
def oneB (n : Nat) (m : List (List Int)) (done : Nat) : Bool := decide (done = n) && decide (leadL (m[n - 1]?.getD []) = n - 1)
theorem piv_ge {p : Nat → Nat} {n : Nat} (h : ∀ j, j + 1 < n → p j < p (j + 1)) : ∀ j, j < n → j ≤ p j
  | 0, _ => by omega
  | j + 1, hj => by have := piv_ge h j (by omega); have := h j hj; omega
theorem piv_le {p : Nat → Nat} {n : Nat} (h : ∀ j, j + 1 < n → p j < p (j + 1)) : ∀ t j, j + t + 1 = n → p j + t ≤ p (n - 1)
  | 0, j, hj => by rw [show n - 1 = j by omega]; omega
  | t + 1, j, hj => by have := piv_le h t (j + 1) (by omega); have := h j (by omega); omega
theorem GI.one {n : Nat} {W0 : Mx} {m : List (List Int)} {done k : Nat} (h : GI n (n + 1) W0 m done k) (hn : 0 < n) (hk : k ≤ n + 1) (ho : oneB n m done = true) : ∀ r c, r < n → c < n → mx m r c = idM r c := by
  unfold oneB at ho
  simp only [Bool.and_eq_true, decide_eq_true_eq] at ho
  obtain ⟨hd, hl⟩ := ho
  subst hd
  obtain ⟨p, p1, p2, p3⟩ := h.piv
  have rl := (h.rws.at (i := done - 1) (by rw [h.len]; omega)).1
  have hne := ldF_ne (m[done - 1]?.getD []) (m[done - 1]?.getD []).length 0 (by
    have : ldF (m[done - 1]?.getD []) (m[done - 1]?.getD []).length 0 = done - 1 := hl
    omega)
  have hl2 : ldF (m[done - 1]?.getD []) (m[done - 1]?.getD []).length 0 = done - 1 := hl
  rw [hl2] at hne
  have hp : p (done - 1) ≤ done - 1 := by
    rcases Nat.lt_or_ge (done - 1) (p (done - 1)) with hlt | hge
    · exact (hne (p3 (done - 1) (by omega) (done - 1) hlt)).elim
    · exact hge
  intro r c hr hc
  have g1 := piv_ge p2 c hc
  have g2 := piv_le p2 (done - 1 - c) c (by omega)
  have e : p c = c := by omega
  have := (p1 c hc).2 r hr
  rw [e] at this
  exact this
theorem GI.none {n : Nat} {W0 : Mx} {m : List (List Int)} {done k : Nat} (h : GI n (n + 1) W0 m done k) (hn : 0 < n) (hk : k ≤ n + 1) (hf : k = n + 1 ∨ done = n) (ho : oneB n m done = false) : ∃ i, i < n ∧ ∀ c, c < n → mx m i c = 0 := by
  refine ⟨n - 1, by omega, fun c hc => ?_⟩
  have hdl := h.dle
  by_cases hd : done = n
  · subst hd
    obtain ⟨p, p1, p2, p3⟩ := h.piv
    have rl := (h.rws.at (i := done - 1) (by rw [h.len]; omega)).1
    have g1 := piv_ge p2 (done - 1) (by omega)
    have q := p1 (done - 1) (by omega)
    by_cases e : p (done - 1) = done - 1
    · have e1 : mx m (done - 1) (done - 1) = 1 := by
        have := q.2 (done - 1) (by omega)
        rw [e, if_pos rfl] at this
        exact this
      have l1 := ldF_le (m[done - 1]?.getD []) (m[done - 1]?.getD []).length 0
      have hl : leadL (m[done - 1]?.getD []) = done - 1 := by
        unfold leadL
        rcases Nat.lt_trichotomy (ldF (m[done - 1]?.getD []) (m[done - 1]?.getD []).length 0) (done - 1) with hlt | heq | hgt
        · have := ldF_ne (m[done - 1]?.getD []) (m[done - 1]?.getD []).length 0 (by omega)
          exact (this (p3 (done - 1) (by omega) _ (by omega))).elim
        · exact heq
        · have := ldF_zero (m[done - 1]?.getD []) (m[done - 1]?.getD []).length 0 (done - 1) (by omega) hgt
          have e2 : mx m (done - 1) (done - 1) = 0 := this
          rw [e1] at e2; omega
      unfold oneB at ho
      rw [hl] at ho
      simp at ho
    · exact p3 (done - 1) (by omega) c (by omega)
  · exact h.low (n - 1) (by omega) (by omega) c (by omega)
end Go.Proofs.YtnokgijakdaehaaGreatDoor


namespace Go.Proofs.YtnokgijakdaehaaGreatDoor
open Go.Abs
set_option linter.unusedSectionVars false
set_option linter.unusedVariables false
set_option linter.unusedSimpArgs false
set_option maxHeartbeats 1000000
theorem solve_no {n : Nat} {m : List (List Int)} (hn : 0 < n) (hl : m.length = n) (hr : Rws (n + 1) m) (ho : oneB n (redR (n + 1) 0 (m, 1, 0)).1 (redR (n + 1) 0 (m, 1, 0)).2.2 = false) : det n (mx m) % 10007 = 0 := by
  obtain ⟨k', h1, h2, h3⟩ := redR_GI (n + 1) 0 (m, 1, 0) (by omega) (GI.start hl hr)
  obtain ⟨i, hi, hz⟩ := h3.none hn h1 h2 ho
  exact h3.eqv.sing (by omega) hi (fun c hc => by rw [hz c hc]; rfl)
theorem solve_yes {n : Nat} {m : List (List Int)} (hn : 0 < n) (hl : m.length = n) (hr : Rws (n + 1) m) (ho : oneB n (redR (n + 1) 0 (m, 1, 0)).1 (redR (n + 1) 0 (m, 1, 0)).2.2 = true) :
    det n (mx m) % 10007 ≠ 0 ∧ ∀ k, k < n → mx (redR (n + 1) 0 (m, 1, 0)).1 k n = det n (updC (mx m) k (fun r => mx m r n)) % 10007 * (pw (det n (mx m) % 10007) 10005) % 10007 := by
  obtain ⟨k', h1, h2, h3⟩ := redR_GI (n + 1) 0 (m, 1, 0) (by omega) (GI.start hl hr)
  have hid := h3.one hn h1 ho
  obtain ⟨s, s1, s2⟩ := h3.eqv.full (fun r c hr hc => by rw [hid r c hr hc])
  have hne : det n (mx m) % 10007 ≠ 0 := fun h0 => by
    rw [← mul_mod_l, h0] at s1
    simp at s1
  refine ⟨hne, fun k hk => ?_⟩
  have iv := inv_ok (a := det n (mx m) % 10007) ⟨by omega, by omega⟩ hne
  have hN := mx_N h3.rws (show k < (redR (n + 1) 0 (m, 1, 0)).1.length by rw [h3.len]; exact hk) n
  have hs := s2 k hk
  rw [Int.emod_eq_of_lt hN.1 (by have := hN.2; omega)] at hs
  rw [hs]
  generalize det n (updC (mx m) k (fun r => mx m r n)) = dk
  generalize pw (det n (mx m) % 10007) 10005 = q at *
  generalize det n (mx m) = d at *
  have e1 : s % 10007 = q % 10007 := by
    have a1 : s * (d * q) % 10007 = s % 10007 := by
      rw [← mul_mod_r, ← mul_mod_l d q, iv, Int.mul_one]
    have a2 : s * (d * q) = d * s * q := by ac_rfl
    rw [a2, ← mul_mod_l, s1, Int.one_mul] at a1
    exact a1.symm
  rw [mul_mod_l, ← mul_mod_r dk s, e1, mul_mod_r]
def minL (a : List (List Int)) (k : Nat) : List (List Int) := (List.range (a.length - 1)).map fun r => (a[r + 1]?.getD []).take k ++ (a[r + 1]?.getD []).drop (k + 1)
theorem minL_len (a : List (List Int)) (k : Nat) : (minL a k).length = a.length - 1 := by simp [minL]
theorem minL_ok {n : Nat} {a : List (List Int)} (hl : a.length = n + 1) (hr : Rws (n + 1) a) {k : Nat} (hk : k < n + 1) : Rws n (minL a k) := fun x hx => by
  obtain ⟨r, h, rfl⟩ := List.mem_map.1 hx
  have hr2 : r + 1 < a.length := by have : r < a.length - 1 := by simpa using h
                                    omega
  have q := hr.at hr2
  refine ⟨by simp [q.1]; omega, fun y hy => ?_⟩
  rcases List.mem_append.1 hy with h | h
  · exact q.2 y (List.mem_of_mem_take h)
  · exact q.2 y (List.mem_of_mem_drop h)
theorem minL_mx {n : Nat} {a : List (List Int)} (hl : a.length = n + 1) (hr : Rws (n + 1) a) {k : Nat} (hk : k < n + 1) : ∀ r c, r < n → c < n → mx (minL a k) r c = mnc (mx a) k r c := fun r c h1 h2 => by
  have q := (hr.at (i := r + 1) (by omega)).1
  have e : (minL a k)[r]?.getD [] = (a[r + 1]?.getD []).take k ++ (a[r + 1]?.getD []).drop (k + 1) := by simp [minL, show r < a.length - 1 by omega]
  show ((minL a k)[r]?.getD [])[c]?.getD 0 = (a[r + 1]?.getD [])[if c < k then c else c + 1]?.getD 0
  rw [e]
  generalize a[r + 1]?.getD [] = row at *
  by_cases hc : c < k
  · rw [if_pos hc, List.getElem?_append_left (by simp; omega), List.getElem?_take_of_lt hc]
  · rw [if_neg hc, List.getElem?_append_right (by simp; omega), List.getElem?_drop]
    congr 2
    simp; omega
end Go.Proofs.YtnokgijakdaehaaGreatDoor


namespace Go.Proofs.YtnokgijakdaehaaGreatDoor
open Go.Abs
set_option linter.unusedSectionVars false
set_option linter.unusedVariables false
set_option linter.unusedSimpArgs false
set_option maxHeartbeats 1000000
def lsum (t : Nat → Int) : Nat → Int
  | 0 => 0
  | k + 1 => if k % 2 = 0 then (lsum t k + t k) % 10007 else (lsum t k - t k) % 10007
def restL (a : List (List Int)) (i : Nat) (q : Int) : List (List Int) := (List.range (a.length - 1)).map fun r => tb (fun j => (mx a (if r < i then r else r + 1) (j + 1) - mx a (if r < i then r else r + 1) 0 * q % 10007 * mx a i (j + 1) % 10007) % 10007) (a.length - 1)
def ldet : Nat → List (List Int) → Int
  | 0, _ => 1
  | n + 1, a => if n + 1 ≤ 4 then lsum (fun k => mx a 0 k * ldet n (minL a k) % 10007) (n + 1)
    else if fndR a 0 (n + 1) 0 = n + 1 then 0
    else if fndR a 0 (n + 1) 0 % 2 = 1 then (0 - mx a (fndR a 0 (n + 1) 0) 0 * ldet n (restL a (fndR a 0 (n + 1) 0) (pw (mx a (fndR a 0 (n + 1) 0) 0) 10005)) % 10007) % 10007
    else mx a (fndR a 0 (n + 1) 0) 0 * ldet n (restL a (fndR a 0 (n + 1) 0) (pw (mx a (fndR a 0 (n + 1) 0) 0) 10005)) % 10007
theorem lsum_is {t : Nat → Int} {u : Nat → Int} : ∀ n, (∀ k, k < n → t k % 10007 = u k % 10007) → lsum t n % 10007 = dsum (fun k => sgd k * u k) n % 10007
  | 0, _ => rfl
  | n + 1, h => by
    have ih := lsum_is n (fun k hk => h k (by omega))
    have hn := h n (by omega)
    rw [lsum, dsum]
    generalize dsum (fun k => sgd k * u k) n = z at *
    unfold sgd
    by_cases e : n % 2 = 0
    · rw [if_pos e, if_pos e]; omega
    · rw [if_neg e, if_neg e]; omega
theorem restL_ok {n : Nat} {a : List (List Int)} (hl : a.length = n + 1) (i : Nat) (q : Int) : (restL a i q).length = n ∧ Rws n (restL a i q) := by
  refine ⟨by simp [restL, hl], fun x hx => ?_⟩
  obtain ⟨r, _, rfl⟩ := List.mem_map.1 hx
  exact ⟨by simp [tb, hl], tb_N fun j _ => isN_mod _⟩
theorem restL_mx {n : Nat} {a : List (List Int)} (hl : a.length = n + 1) {i : Nat} (q : Int) : ∀ r c, r < n → c < n → mx (restL a i q) r c % 10007 = (mx a (if r < i then r else r + 1) (c + 1) + (- (mx a (if r < i then r else r + 1) 0 * q)) * mx a i (c + 1)) % 10007 := fun r c h1 h2 => by
  have e : (restL a i q)[r]?.getD [] = tb (fun j => (mx a (if r < i then r else r + 1) (j + 1) - mx a (if r < i then r else r + 1) 0 * q % 10007 * mx a i (j + 1) % 10007) % 10007) n := by simp [restL, hl, h1]
  have e2 : mx (restL a i q) r c = (mx a (if r < i then r else r + 1) (c + 1) - mx a (if r < i then r else r + 1) 0 * q % 10007 * mx a i (c + 1) % 10007) % 10007 := by
    show ((restL a i q)[r]?.getD [])[c]?.getD 0 = _
    rw [e]
    exact tb_get (fun j => (mx a (if r < i then r else r + 1) (j + 1) - mx a (if r < i then r else r + 1) 0 * q % 10007 * mx a i (j + 1) % 10007) % 10007) h2
  rw [e2, mul_mod_l, Int.neg_mul]
  generalize mx a (if r < i then r else r + 1) 0 * q * mx a i (c + 1) = z
  omega
theorem ldet_is : ∀ (n : Nat) (a : List (List Int)), a.length = n → Rws n a → ldet n a = det n (mx a) % 10007
  | 0, a, hl, hr => rfl
  | n + 1, a, hl, hr => by
    rw [ldet]
    split
    · have h1 := lsum_is (t := fun k => mx a 0 k * ldet n (minL a k) % 10007) (u := fun k => mx a 0 k * det n (mnc (mx a) k)) (n + 1) (fun k hk => by
        have q := ldet_is n (minL a k) (by rw [minL_len]; omega) (minL_ok hl hr hk)
        rw [det_congr (minL_mx hl hr hk)] at q
        show mx a 0 k * ldet n (minL a k) % 10007 % 10007 = _
        rw [q, mul_mod_r, Int.emod_emod_of_dvd _ (Int.dvd_refl _)])
      have h2 : lsum (fun k => mx a 0 k * ldet n (minL a k) % 10007) (n + 1) % 10007 = lsum (fun k => mx a 0 k * ldet n (minL a k) % 10007) (n + 1) := by
        rw [lsum]; split <;> exact Int.emod_emod_of_dvd _ (Int.dvd_refl _)
      rw [← h2, h1, det_row]
      congr 1
      exact dsum_congr fun k hk => by rw [Int.mul_assoc]
    · have fl := fndR_le a 0 (n + 1) 0
      split
      · rename_i hf
        rw [det, dsum_zero (fun i hi => by rw [fndR_zero a 0 (n + 1) 0 i (by omega) (by omega)]; simp)]
        rfl
      · rename_i hf
        have hne := fndR_ne a 0 (n + 1) 0 (by omega)
        generalize fndR a 0 (n + 1) 0 = i at *
        have hi : i < n + 1 := by omega
        have iv := inv_ok (mx_N hr (show i < a.length by omega) 0) hne
        have hp := det_pivot (p := 10007) (mx a) hi (q := pw (mx a i 0) 10005) (by rw [iv]; rfl)
        have ro := restL_ok hl i (pw (mx a i 0) 10005)
        have q := ldet_is n (restL a i (pw (mx a i 0) 10005)) ro.1 ro.2
        rw [det_cong (restL_mx hl (i := i) (pw (mx a i 0) 10005))] at q
        rw [hp]
        generalize det n (fun r c => mx a (if r < i then r else r + 1) (c + 1) + -(mx a (if r < i then r else r + 1) 0 * pw (mx a i 0) 10005) * mx a i (c + 1)) = d at *
        rw [q]
        generalize mx a i 0 = x at *
        unfold sgd
        split
        · rename_i h2
          rw [if_neg (by omega), mul_mod_r]
          have : -1 * x * d = - (x * d) := by rw [Int.neg_mul, Int.neg_mul, Int.one_mul]
          rw [this]
          generalize x * d = z
          omega
        · rename_i h2
          rw [if_pos (by omega), mul_mod_r, Int.one_mul]
end Go.Proofs.YtnokgijakdaehaaGreatDoor


namespace Go.Proofs.YtnokgijakdaehaaGreatDoor
open Go.Abs
set_option linter.unusedSectionVars false
set_option linter.unusedVariables false
set_option linter.unusedSimpArgs false
set_option maxHeartbeats 1000000
def widL (a : List (List Int)) (b : List Int) : List (List Int) := (List.range a.length).map fun i => a[i]?.getD [] ++ [b[i]?.getD 0]
def repL (a : List (List Int)) (k : Nat) (b : List Int) : List (List Int) := (List.range a.length).map fun i => (a[i]?.getD []).set k (b[i]?.getD 0)
theorem widL_ok {n : Nat} {a : List (List Int)} {b : List Int} (hl : a.length = n) (hr : Rws n a) (hb : Ns b) : (widL a b).length = n ∧ Rws (n + 1) (widL a b) := by
  refine ⟨by simp [widL, hl], fun x hx => ?_⟩
  obtain ⟨i, h, rfl⟩ := List.mem_map.1 hx
  have q := hr.at (show i < a.length by simpa using h)
  refine ⟨by simp [q.1], fun y hy => ?_⟩
  rcases List.mem_append.1 hy with h | h
  · exact q.2 y h
  · simp at h; subst h; exact hb.get i
theorem widL_mx {n : Nat} {a : List (List Int)} {b : List Int} (hl : a.length = n) (hr : Rws n a) : ∀ r, r < n → (∀ c, c < n → mx (widL a b) r c = mx a r c) ∧ mx (widL a b) r n = b[r]?.getD 0 := fun r h => by
  have q := (hr.at (i := r) (by omega)).1
  have e : (widL a b)[r]?.getD [] = a[r]?.getD [] ++ [b[r]?.getD 0] := by simp [widL, show r < a.length by omega]
  refine ⟨fun c hc => ?_, ?_⟩
  · show ((widL a b)[r]?.getD [])[c]?.getD 0 = (a[r]?.getD [])[c]?.getD 0
    rw [e, List.getElem?_append_left (by omega)]
  · show ((widL a b)[r]?.getD [])[n]?.getD 0 = _
    rw [e, List.getElem?_append_right (by omega), q, Nat.sub_self]; rfl
theorem repL_ok {n : Nat} {a : List (List Int)} {b : List Int} (hl : a.length = n) (hr : Rws n a) (hb : Ns b) (k : Nat) : (repL a k b).length = n ∧ Rws n (repL a k b) := by
  refine ⟨by simp [repL, hl], fun x hx => ?_⟩
  obtain ⟨i, h, rfl⟩ := List.mem_map.1 hx
  have q := hr.at (show i < a.length by simpa using h)
  refine ⟨by rw [List.length_set]; exact q.1, fun y hy => ?_⟩
  rcases List.mem_or_eq_of_mem_set hy with h | h
  · exact q.2 y h
  · subst h; exact hb.get i
theorem repL_mx {n : Nat} {a : List (List Int)} {b : List Int} (hl : a.length = n) (hr : Rws n a) {k : Nat} (hk : k < n) : ∀ r c, r < n → c < n → mx (repL a k b) r c = updC (mx a) k (fun r => b[r]?.getD 0) r c := fun r c h1 h2 => by
  have q := (hr.at (i := r) (by omega)).1
  have e : (repL a k b)[r]?.getD [] = (a[r]?.getD []).set k (b[r]?.getD 0) := by simp [repL, show r < a.length by omega]
  show ((repL a k b)[r]?.getD [])[c]?.getD 0 = _
  rw [e]
  unfold updC
  by_cases hc : c = k
  · subst hc; rw [if_pos rfl, List.getElem?_set_self (by omega)]; rfl
  · rw [if_neg hc, List.getElem?_set_ne (fun x => hc x.symm)]; rfl
theorem solve_is {n : Nat} {a : List (List Int)} {b : List Int} (hn : 0 < n) (hl : a.length = n) (hr : Rws n a) (hb : Ns b) :
    oneB n (redR (n + 1) 0 (widL a b, 1, 0)).1 (redR (n + 1) 0 (widL a b, 1, 0)).2.2 = decide (ldet n a ≠ 0) ∧
    (ldet n a ≠ 0 → ∀ k, k < n → mx (redR (n + 1) 0 (widL a b, 1, 0)).1 k n = ldet n (repL a k b) * pw (ldet n a) 10005 % 10007) := by
  have wo := widL_ok hl hr hb
  have wm := widL_mx (b := b) hl hr
  have d1 : det n (mx (widL a b)) = det n (mx a) := det_congr fun r c h1 h2 => (wm r h1).1 c h2
  have d2 : ∀ k, k < n → det n (updC (mx (widL a b)) k (fun r => mx (widL a b) r n)) = det n (mx (repL a k b)) := fun k hk => det_congr fun r c h1 h2 => by
    rw [repL_mx hl hr hk r c h1 h2]
    unfold updC
    by_cases hc : c = k
    · rw [if_pos hc, if_pos hc]; exact (wm r h1).2
    · rw [if_neg hc, if_neg hc]; exact (wm r h1).1 c h2
  have dl := ldet_is n a hl hr
  cases ho : oneB n (redR (n + 1) 0 (widL a b, 1, 0)).1 (redR (n + 1) 0 (widL a b, 1, 0)).2.2 with
  | false =>
    have := solve_no hn wo.1 wo.2 ho
    rw [d1, ← dl] at this
    exact ⟨by simp [this], fun h => (h this).elim⟩
  | true =>
    have := solve_yes hn wo.1 wo.2 ho
    rw [d1, ← dl] at this
    refine ⟨by simp [this.1], fun _ k hk => ?_⟩
    rw [this.2 k hk, d2 k hk, ldet_is n (repL a k b) (repL_ok hl hr hb k).1 (repL_ok hl hr hb k).2]
end Go.Proofs.YtnokgijakdaehaaGreatDoor


namespace Go.Proofs.YtnokgijakdaehaaGreatDoor
open Go.Abs CR
set_option linter.unusedSectionVars false
set_option linter.unusedVariables false
set_option linter.unusedSimpArgs false
set_option maxHeartbeats 1000000
section
variable {α : Type}
def mnR (M : Nat → Nat → α) (i : Nat) : Nat → Nat → α := fun r c => M (if r < i then r else r + 1) (c + 1)
def upR (M : Nat → Nat → α) (i : Nat) (w : Nat → α) : Nat → Nat → α := fun r => if r = i then w else M r
theorem upR_self (M : Nat → Nat → α) (i : Nat) : upR M i (M i) = M := funext fun r => by
  unfold upR; split
  · rename_i h; rw [h]
  · rfl
theorem upR_at (M : Nat → Nat → α) (i : Nat) (w : Nat → α) : upR M i w i = w := by simp [upR]
theorem upR_ne (M : Nat → Nat → α) {i r : Nat} (w : Nat → α) (h : r ≠ i) : upR M i w r = M r := by simp [upR, h]
theorem upR_comm (M : Nat → Nat → α) {i j : Nat} (h : i ≠ j) (v w : Nat → α) : upR (upR M i v) j w = upR (upR M j w) i v := funext fun r => by
  unfold upR
  by_cases h1 : r = i
  · subst h1; rw [if_neg h, if_pos rfl, if_pos rfl]
  · rw [if_neg h1, if_neg h1]
theorem mnR_self (M : Nat → Nat → α) (i : Nat) (w : Nat → α) : mnR (upR M i w) i = mnR M i := funext fun r => funext fun c => by
  unfold mnR upR
  rw [if_neg (by split <;> omega)]
theorem mnR_ne (M : Nat → Nat → α) {i j : Nat} (w : Nat → α) (h : j ≠ i) : mnR (upR M i w) j = upR (mnR M j) (if i < j then i else i - 1) (fun c => w (c + 1)) := funext fun r => funext fun c => by
  unfold mnR upR
  by_cases h1 : (if r < j then r else r + 1) = i
  · have h2 : r = if i < j then i else i - 1 := by
      split at h1 <;> split <;> omega
    rw [if_pos h1, if_pos h2]
  · have h2 : ¬ r = if i < j then i else i - 1 := by
      split at h1 <;> split <;> omega
    rw [if_neg h1, if_neg h2]
end
section
variable {α : Type} [CR α]
def dR (f : Nat → α) : Nat → α
  | 0 => ofI 0
  | n + 1 => dR f n + f n
theorem dR_congr {f g : Nat → α} : ∀ {n : Nat}, (∀ i, i < n → f i = g i) → dR f n = dR g n
  | 0, _ => rfl
  | n + 1, h => by rw [dR, dR, dR_congr (fun i hi => h i (by omega)), h n (by omega)]
theorem dR_lin (f g : Nat → α) (k : α) : ∀ n : Nat, dR (fun i => f i + k * g i) n = dR f n + k * dR g n
  | 0 => by simp only [dR]; rw [mul0, add0]
  | n + 1 => by simp only [dR]; rw [dR_lin f g k n, mulD]; ac_rfl
theorem dR_zero {f : Nat → α} : ∀ {n : Nat}, (∀ i, i < n → f i = ofI 0) → dR f n = ofI 0
  | 0, _ => rfl
  | n + 1, h => by rw [dR, dR_zero (fun i hi => h i (by omega)), h n (by omega), add0]
theorem dR_one {f : Nat → α} {k : Nat} : ∀ {n : Nat}, k < n → (∀ i, i < n → i ≠ k → f i = ofI 0) → dR f n = f k
  | 0, h, _ => by omega
  | n + 1, h, hz => by
    rw [dR]
    by_cases e : k = n
    · subst e
      rw [dR_zero (fun i hi => hz i (by omega) (by omega)), zadd]
    · rw [dR_one (n := n) (by omega) (fun i hi hne => hz i (by omega) hne), hz n (by omega) (by omega), add0]
theorem dR_two {f : Nat → α} {k : Nat} : ∀ {n : Nat}, k + 1 < n → (∀ i, i < n → i ≠ k → i ≠ k + 1 → f i = ofI 0) → dR f n = f k + f (k + 1)
  | 0, h, _ => by omega
  | n + 1, h, hz => by
    rw [dR]
    by_cases e : k + 1 = n
    · subst e
      rw [dR_one (k := k) (by omega) (fun i hi hne => hz i (by omega) hne (by omega))]
    · rw [dR_two (n := n) (by omega) (fun i hi h1 h2 => hz i (by omega) h1 h2), hz n (by omega) (by omega) (by omega), add0]
def dtR : Nat → (Nat → Nat → α) → α
  | 0, _ => ofI 1
  | n + 1, M => dR (fun i => ofI (sgd i) * M i 0 * dtR n (mnR M i)) (n + 1)
theorem dtR_congr : ∀ {n : Nat} {M N : Nat → Nat → α}, (∀ r c, r < n → c < n → M r c = N r c) → dtR n M = dtR n N
  | 0, _, _, _ => rfl
  | n + 1, M, N, h => by
    rw [dtR, dtR]
    refine dR_congr fun i hi => ?_
    rw [h i 0 hi (by omega)]
    rw [dtR_congr (n := n) (M := mnR M i) (N := mnR N i) (fun r c hr hc => h _ _ (by split <;> omega) (by omega))]
theorem dtR_lin : ∀ {n : Nat} (M : Nat → Nat → α) {i : Nat} (u v : Nat → α) (k : α), i < n → dtR n (upR M i (fun c => u c + k * v c)) = dtR n (upR M i u) + k * dtR n (upR M i v)
  | 0, _, _, _, _, _, h => by omega
  | n + 1, M, i, u, v, k, h => by
    rw [dtR, dtR, dtR, ← dR_lin]
    refine dR_congr fun j hj => ?_
    by_cases e : j = i
    · subst e
      simp only [mnR_self, upR_at]
      generalize dtR n (mnR M j) = d
      rw [mulD, Dmul]
      congr 1
      ac_rfl
    · simp only [mnR_ne M _ e, upR_ne M _ e]
      rw [dtR_lin (n := n) (mnR M j) (fun c => u (c + 1)) (fun c => v (c + 1)) k (by split <;> omega), mulD]
      congr 1
      ac_rfl
theorem dtR_adj : ∀ {n : Nat} (M : Nat → Nat → α) {i : Nat}, i + 1 < n → M i = M (i + 1) → dtR n M = ofI 0
  | 0, _, _, h, _ => by omega
  | n + 1, M, i, h, he => by
    rw [dtR, dR_two (k := i) h]
    · have hm : mnR M (i + 1) = mnR M i := funext fun r => funext fun c => by
        unfold mnR
        by_cases h1 : r < i
        · rw [if_pos (by omega), if_pos h1]
        · by_cases h2 : r = i
          · subst h2; rw [if_pos (by omega), if_neg (by omega), he]
          · rw [if_neg (by omega), if_neg (by omega)]
      rw [hm, ← he, mulA, mulA, ← Dmul, ← ofAdd, sgd_succ, show sgd i + - sgd i = 0 by omega, zmul]
    · intro j hj h1 h2
      have hz : dtR n (mnR M j) = ofI 0 := by
        by_cases hlt : i < j
        · refine dtR_adj (mnR M j) (i := i) (by omega) (funext fun c => ?_)
          unfold mnR
          rw [if_pos hlt, if_pos (by omega), he]
        · obtain ⟨i', rfl⟩ : ∃ i', i = i' + 1 := ⟨i - 1, by omega⟩
          refine dtR_adj (mnR M j) (i := i') (by omega) (funext fun c => ?_)
          unfold mnR
          rw [if_neg (by omega), if_neg (by omega), he]
      rw [hz, mul0]
end
end Go.Proofs.YtnokgijakdaehaaGreatDoor


namespace Go.Proofs.YtnokgijakdaehaaGreatDoor
open Go.Abs CR
set_option linter.unusedSectionVars false
set_option linter.unusedVariables false
set_option linter.unusedSimpArgs false
set_option maxHeartbeats 1000000
section
variable {α : Type} [CR α]
theorem dtR_nil {n : Nat} (M : Nat → Nat → α) {i : Nat} (hi : i < n) : dtR n (upR M i (fun _ => ofI 0)) = ofI 0 := by
  have := dtR_lin M (fun _ => ofI 0) (fun _ => ofI 0) (ofI (-1)) hi
  have e : (fun _ : Nat => (ofI 0 : α) + ofI (-1) * ofI 0) = fun _ => ofI 0 := funext fun _ => by rw [mul0, add0]
  rw [e] at this
  generalize dtR n (upR M i (fun _ => ofI 0)) = d at *
  have z : d + ofI (-1) * d = ofI 0 := by
    have h1 : d + ofI (-1) * d = ofI 1 * d + ofI (-1) * d := by rw [omul]
    rw [h1, ← Dmul, ← ofAdd]
    exact zmul d
  rw [this]; exact z
def uvR (c : Nat) : Nat → α := fun k => if k = c then ofI 1 else ofI 0
theorem dtR_exp {n : Nat} (M : Nat → Nat → α) {i : Nat} (hi : i < n) (w : Nat → α) : dtR n (upR M i w) = dR (fun c => w c * dtR n (upR M i (uvR c))) n := by
  have gen : ∀ t : Nat, dtR n (upR M i (fun c => if c < t then w c else ofI 0)) = dR (fun c => w c * dtR n (upR M i (uvR c))) t := by
    intro t
    induction t with
    | zero =>
      have e : (fun c => if c < 0 then w c else (ofI 0 : α)) = fun _ => ofI 0 := funext fun c => if_neg (by omega)
      rw [e]; exact dtR_nil M hi
    | succ t ih =>
      have e : (fun c => if c < t + 1 then w c else (ofI 0 : α)) = fun c => (if c < t then w c else ofI 0) + w t * uvR t c := funext fun c => by
        unfold uvR
        by_cases h1 : c < t
        · rw [if_pos (by omega), if_pos h1, if_neg (by omega), mul0, add0]
        · by_cases h2 : c = t
          · subst h2; rw [if_pos (by omega), if_neg h1, if_pos rfl, mul1, zadd]
          · rw [if_neg (by omega), if_neg h1, if_neg h2, mul0, add0]
      rw [e, dtR_lin M _ _ _ hi, ih]; rfl
  rw [← gen n]
  refine dtR_congr fun r c hr hc => ?_
  unfold upR
  by_cases h : r = i
  · rw [if_pos h, if_pos h, if_pos hc]
  · rw [if_neg h, if_neg h]
theorem neg_of {a b : α} (h : a + b = ofI 0) : a = ofI (-1) * b := by
  have e : b + ofI (-1) * b = ofI 0 := by
    have h1 : b + ofI (-1) * b = ofI 1 * b + ofI (-1) * b := by rw [omul]
    rw [h1, ← Dmul, ← ofAdd]
    exact zmul b
  have h2 : a = a + (b + ofI (-1) * b) := by rw [e, add0]
  rw [← addA, h, zadd] at h2
  exact h2
theorem dtR_swap1 {n : Nat} (M : Nat → Nat → α) {i : Nat} (h : i + 1 < n) (u v : Nat → α) : dtR n (upR (upR M i u) (i + 1) v) = ofI (-1) * dtR n (upR (upR M i v) (i + 1) u) := by
  have hne : i ≠ i + 1 := by omega
  have z := fun w : Nat → α => dtR_adj (n := n) (upR (upR M i w) (i + 1) w) h (by rw [upR_at, upR_ne _ _ hne, upR_at])
  have s := z (fun c => u c + ofI 1 * v c)
  rw [dtR_lin _ u v _ (show i + 1 < n from h), upR_comm _ hne, upR_comm _ hne, dtR_lin _ u v _ (by omega), dtR_lin _ u v _ (by omega)] at s
  have zu := z u
  have zv := z v
  rw [upR_comm _ hne] at zu zv
  rw [zu, zv, omul, omul, omul, zadd, add0] at s
  rw [upR_comm _ hne u v, upR_comm _ hne v u]
  refine neg_of ?_
  rw [addC]; exact s
theorem dtR_eq : ∀ {n : Nat} (k : Nat) (M : Nat → Nat → α) {i : Nat}, i + k + 1 < n → M i = M (i + k + 1) → dtR n M = ofI 0
  | n, 0, M, i, h, he => dtR_adj M h he
  | n, k + 1, M, i, h, he => by
    have hne : i + k + 1 ≠ i + (k + 1) + 1 := by omega
    have e0 : M = upR (upR M (i + k + 1) (M (i + k + 1))) (i + k + 1 + 1) (M (i + k + 1 + 1)) := by rw [upR_self, upR_self]
    rw [e0, dtR_swap1 M (i := i + k + 1) (by omega)]
    have := dtR_eq k (upR (upR M (i + k + 1) (M (i + k + 1 + 1))) (i + k + 1 + 1) (M (i + k + 1))) (i := i) (n := n) (by omega) (by
      rw [upR_ne _ _ (show i ≠ i + k + 1 + 1 by omega), upR_ne _ _ (show i ≠ i + k + 1 by omega), upR_ne _ _ (show i + k + 1 ≠ i + k + 1 + 1 by omega), upR_at]
      exact he)
    rw [this, mul0]
theorem dtR_same {n : Nat} (M : Nat → Nat → α) {i j : Nat} (hi : i < n) (hj : j < n) (hne : i ≠ j) (he : M i = M j) : dtR n M = ofI 0 := by
  by_cases h : i < j
  · have e : j = i + (j - i - 1) + 1 := by omega
    rw [e] at he
    exact dtR_eq (j - i - 1) M (by omega) he
  · have e : i = j + (i - j - 1) + 1 := by omega
    rw [e] at he
    exact dtR_eq (i - j - 1) M (by omega) he.symm
theorem dtR_cof {n : Nat} (M : Nat → Nat → α) {i j : Nat} (hi : i < n) (hj : j < n) : dR (fun c => M j c * dtR n (upR M i (uvR c))) n = if i = j then dtR n M else ofI 0 := by
  rw [← dtR_exp M hi (M j)]
  by_cases h : i = j
  · subst h; rw [if_pos rfl, upR_self]
  · rw [if_neg h]
    exact dtR_same _ hi hj h (by rw [upR_at, upR_ne _ _ (fun e => h e.symm)])
end
end Go.Proofs.YtnokgijakdaehaaGreatDoor


namespace Go.Proofs.YtnokgijakdaehaaGreatDoor
open Go.Abs CR
set_option linter.unusedSectionVars false
set_option linter.unusedVariables false
set_option linter.unusedSimpArgs false
set_option maxHeartbeats 1000000
section
variable {α : Type} [CR α]
theorem dR_skip (F : Nat → α) (z : α) : ∀ {n j : Nat}, j ≤ n → dR (fun i => if i = j then z else F (if i < j then i else i - 1)) (n + 1) = z + dR F n
  | 0, j, h => by
    have : j = 0 := by omega
    subst this
    show (ofI 0 : α) + (if 0 = 0 then z else _) = z + ofI 0
    rw [if_pos rfl, zadd, add0]
  | n + 1, j, h => by
    rw [dR]
    by_cases e : j = n + 1
    · subst e
      rw [if_pos rfl, dR_congr (g := F) (fun i hi => by rw [if_neg (by omega), if_pos hi]), addC]
    · rw [dR_skip F z (show j ≤ n by omega), if_neg (by omega), if_neg (by omega), addA]; rfl
theorem dR_plus (f g : Nat → α) : ∀ n, dR (fun i => f i + g i) n = dR f n + dR g n
  | 0 => by simp only [dR]; rw [add0]
  | n + 1 => by simp only [dR]; rw [dR_plus f g n]; ac_rfl
theorem dR_mul (k : α) (f : Nat → α) : ∀ n, k * dR f n = dR (fun i => k * f i) n
  | 0 => by simp only [dR]; rw [mul0]
  | n + 1 => by simp only [dR]; rw [mulD, dR_mul k f n]
theorem dR_swap (F : Nat → Nat → α) (m : Nat) : ∀ n, dR (fun i => dR (fun k => F i k) m) n = dR (fun k => dR (fun i => F i k) n) m
  | 0 => (dR_zero (f := fun k => dR (fun i => F i k) 0) (fun i hi => rfl)).symm
  | n + 1 => by
    rw [dR, dR_swap F m n, ← dR_plus]
    exact dR_congr fun k hk => rfl
theorem dtR_der {T : α → α} (ta : ∀ a b, T (a + b) = T a + T b) (tm : ∀ a b, T (a * b) = T a * b + a * T b) (to : ∀ k, T (ofI k) = ofI 0) :
    ∀ (n : Nat) (M : Nat → Nat → α), T (dtR n M) = dR (fun i => dtR n (upR M i (fun c => T (M i c)))) n
  | 0, M => to 1
  | n + 1, M => by
    have ts : ∀ (f : Nat → α) (m : Nat), T (dR f m) = dR (fun i => T (f i)) m := fun f m => by
      induction m with
      | zero => exact to 0
      | succ m ih => rw [dR, ta, ih]; rfl
    have l1 : T (dtR (n + 1) M) = dR (fun j => ofI (sgd j) * T (M j 0) * dtR n (mnR M j) + ofI (sgd j) * M j 0 * dR (fun i => dtR n (upR (mnR M j) i (fun c => T (mnR M j i c)))) n) (n + 1) := by
      rw [dtR, ts]
      refine dR_congr fun j hj => ?_
      rw [tm, tm, to, zmul, zadd, dtR_der ta tm to n (mnR M j)]
    have l2 : ∀ i, i < n + 1 → dtR (n + 1) (upR M i (fun c => T (M i c))) = dR (fun j => if i = j then ofI (sgd j) * T (M j 0) * dtR n (mnR M j) else ofI (sgd j) * M j 0 * dtR n (upR (mnR M j) (if i < j then i else i - 1) (fun c => T (mnR M j (if i < j then i else i - 1) c)))) (n + 1) := fun i hi => by
      rw [dtR]
      refine dR_congr fun j hj => ?_
      by_cases e : i = j
      · subst e
        rw [if_pos rfl, upR_at, mnR_self]
      · rw [if_neg e, upR_ne _ _ (fun x => e x.symm), mnR_ne M _ (fun x => e x.symm)]
        have hrow : (fun c => T (M i (c + 1))) = fun c => T (mnR M j (if i < j then i else i - 1) c) := funext fun c => by
          unfold mnR
          by_cases h : i < j
          · rw [if_pos h, if_pos h]
          · rw [if_neg h, if_neg (by omega), show i - 1 + 1 = i by omega]
        rw [hrow]
    rw [l1, dR_congr l2, dR_swap]
    refine dR_congr fun j hj => ?_
    rw [dR_mul, ← dR_skip (fun i => ofI (sgd j) * M j 0 * dtR n (upR (mnR M j) i (fun c => T (mnR M j i c)))) (ofI (sgd j) * T (M j 0) * dtR n (mnR M j)) (show j ≤ n by omega)]
end
end Go.Proofs.YtnokgijakdaehaaGreatDoor


namespace Go.Proofs.YtnokgijakdaehaaGreatDoor
open Go.Abs CR
set_option linter.unusedSectionVars false
set_option linter.unusedVariables false
set_option linter.unusedSimpArgs false
set_option maxHeartbeats 1000000
def ulS (M : Mx) : Nat → Nat → Ser Int := fun r c k => if k = 0 then idM r c else if k = 1 then - M r c else 0
def chS (n : Nat) (M : Mx) : Ser Int := dtR n (ulS M)
def adS (n : Nat) (M : Mx) (c i : Nat) : Ser Int := dtR n (upR (ulS M) i (uvR c))
theorem cmul_nil (b : Ser Int) : ∀ (k : Nat) (a : Ser Int), (∀ i, a i = 0) → cmul k a b = 0
  | 0, a, h => by show a 0 * b 0 = 0; rw [h 0, Int.zero_mul]
  | k + 1, a, h => by
    show a 0 * b (k + 1) + cmul k (sh a) b = 0
    rw [h 0, cmul_nil b k (sh a) (fun i => h (i + 1)), Int.zero_mul]; rfl
theorem cmul_lin {a : Ser Int} (h : ∀ i, a (i + 2) = 0) (b : Ser Int) (k : Nat) : cmul (k + 1) a b = a 0 * b (k + 1) + a 1 * b k := by
  show a 0 * b (k + 1) + cmul k (sh a) b = _
  congr 1
  cases k with
  | zero => rfl
  | succ k =>
    show sh a 0 * b (k + 1) + cmul k (sh (sh a)) b = _
    rw [cmul_nil b k (sh (sh a)) (fun i => h i), Int.add_zero]; rfl
theorem dR_at (f : Nat → Ser Int) (k : Nat) : ∀ n, dR f n k = dsum (fun i => f i k) n
  | 0 => by show (ofI 0 : Ser Int) k = 0; cases k <;> rfl
  | n + 1 => by
    have : dR f (n + 1) k = dR f n k + f n k := rfl
    rw [this, dR_at f k n]; rfl
theorem ulS_lin (M : Mx) (r c : Nat) : ∀ i, ulS M r c (i + 2) = 0 := fun i => by unfold ulS; rw [if_neg (by omega), if_neg (by omega)]
theorem ulS_1 (M : Mx) (r c : Nat) : ulS M r c 1 = - M r c := rfl
theorem ul_mul (M : Mx) (r c : Nat) (b : Ser Int) (k : Nat) : (ulS M r c * b) (k + 1) = idM r c * b (k + 1) + - M r c * b k := cmul_lin (ulS_lin M r c) b k
theorem ul_mul0 (M : Mx) (r c : Nat) (b : Ser Int) : (ulS M r c * b) 0 = idM r c * b 0 := rfl
theorem dsum_id {n j : Nat} (hj : j < n) (f : Nat → Int) : dsum (fun c => idM j c * f c) n = f j := by
  rw [dsum_one hj (fun i hi hne => by unfold idM; rw [if_neg (fun e => hne e.symm), Int.zero_mul])]
  unfold idM; rw [if_pos rfl, Int.one_mul]
theorem ad_step (n : Nat) (M : Mx) {j i : Nat} (hj : j < n) (hi : i < n) (k : Nat) : adS n M j i (k + 1) = dsum (fun c => M j c * adS n M c i k) n + (if i = j then chS n M (k + 1) else 0) := by
  have h := congrFun (dtR_cof (ulS M) hi hj) (k + 1)
  rw [dR_at] at h
  have e : dsum (fun c => (ulS M j c * dtR n (upR (ulS M) i (uvR c))) (k + 1)) n = dsum (fun c => idM j c * adS n M c i (k + 1)) n + (-1) * dsum (fun c => M j c * adS n M c i k) n := by
    rw [← dsum_lin]
    refine dsum_congr fun c hc => ?_
    rw [ul_mul, Int.neg_mul, Int.neg_mul, Int.one_mul]; rfl
  rw [e, dsum_id hj] at h
  by_cases hij : i = j
  · rw [if_pos hij] at h ⊢
    have e2 : dtR n (ulS M) (k + 1) = chS n M (k + 1) := rfl
    rw [e2] at h; omega
  · rw [if_neg hij] at h ⊢
    have e2 : (ofI 0 : Ser Int) (k + 1) = 0 := rfl
    rw [e2] at h; omega
theorem dtR_at0 : ∀ (n : Nat) (A : Nat → Nat → Ser Int), dtR n A 0 = det n (fun r c => A r c 0)
  | 0, A => rfl
  | n + 1, A => by
    rw [dtR, dR_at, det]
    refine dsum_congr fun i hi => ?_
    have : (ofI (sgd i) * A i 0 * dtR n (mnR A i)) 0 = sgd i * A i 0 0 * dtR n (mnR A i) 0 := rfl
    rw [this, dtR_at0 n (mnR A i)]; rfl
theorem ch_0 (n : Nat) (M : Mx) : chS n M 0 = 1 := by
  unfold chS
  rw [dtR_at0]
  exact det_one n
theorem ad_0 (n : Nat) (M : Mx) {j i : Nat} (hj : j < n) (hi : i < n) : adS n M j i 0 = idM j i := by
  have h := congrFun (dtR_cof (ulS M) hi hj) 0
  rw [dR_at] at h
  have e : dsum (fun c => (ulS M j c * dtR n (upR (ulS M) i (uvR c))) 0) n = dsum (fun c => idM j c * adS n M c i 0) n := dsum_congr fun c hc => by rw [ul_mul0]; rfl
  rw [e, dsum_id hj] at h
  rw [h]
  unfold idM
  by_cases hij : i = j
  · rw [if_pos hij, if_pos hij.symm]; exact ch_0 n M
  · rw [if_neg hij, if_neg (fun x => hij x.symm)]; rfl
theorem ch_step (n : Nat) (M : Mx) (k : Nat) : ((k : Int) + 1) * chS n M (k + 1) = - dsum (fun i => dsum (fun c => M i c * adS n M c i k) n) n := by
  have h := congrFun (dtR_der (T := th) th_add th_mul th_of n (ulS M)) (k + 1)
  rw [dR_at] at h
  have e1 : th (dtR n (ulS M)) (k + 1) = ((k : Int) + 1) * chS n M (k + 1) := by
    show ((k + 1 : Nat) : Int) * _ = _
    rw [Int.natCast_add]; rfl
  rw [e1] at h
  rw [h]
  have e2 : ∀ z : Int, - z = -1 * z := fun z => by omega
  rw [e2, dsum_mul]
  refine dsum_congr fun i hi => ?_
  rw [dtR_exp _ hi, dR_at, dsum_mul]
  refine dsum_congr fun c hc => ?_
  have e3 : (th (ulS M i c) * dtR n (upR (ulS M) i (uvR c))) (k + 1) = th (ulS M i c) 0 * adS n M c i (k + 1) + th (ulS M i c) 1 * adS n M c i k :=
    cmul_lin (fun t => by show ((t + 2 : Nat) : Int) * ulS M i c (t + 2) = 0; rw [ulS_lin, Int.mul_zero]) _ k
  have e4 : th (ulS M i c) 0 = 0 := th_0 _
  have e5 : th (ulS M i c) 1 = - M i c := by show ((1 : Nat) : Int) * ulS M i c 1 = _; rw [ulS_1]; omega
  rw [e3, e4, e5, Int.zero_mul, Int.neg_mul, Int.neg_mul, Int.one_mul, Int.zero_add]
def Ev (z : Int) (d : Nat) (f : Ser Int) (v : Int) : Prop := (∀ k, d < k → f k = 0) ∧ dsum (fun k => f k * z ^ k) (d + 1) = v
theorem Ev.zero (z : Int) (d : Nat) : Ev z d (ofI 0) 0 := by
  have h0 : ∀ k, (ofI 0 : Ser Int) k = 0 := fun k => by cases k <;> rfl
  exact ⟨fun k _ => h0 k, dsum_zero fun k _ => by rw [h0, Int.zero_mul]⟩
theorem Ev.add {z : Int} {d : Nat} {f g : Ser Int} {v w : Int} (h : Ev z d f v) (k : Ev z d g w) : Ev z d (f + g) (v + w) := by
  refine ⟨fun i hi => by rw [ser_add, h.1 i hi, k.1 i hi]; rfl, ?_⟩
  rw [← h.2, ← k.2, ← dsum_plus]
  exact dsum_congr fun i hi => by rw [ser_add, Int.add_mul]
theorem Ev.lin {z : Int} {d : Nat} {f g : Ser Int} {w : Int} (hf : ∀ i, f (i + 2) = 0) (k : Ev z d g w) : Ev z (d + 1) (f * g) ((f 0 + f 1 * z) * w) := by
  have at1 : ∀ i, (f * g) (i + 1) = f 0 * g (i + 1) + f 1 * g i := fun i => cmul_lin hf g i
  have at0 : (f * g) 0 = f 0 * g 0 := rfl
  refine ⟨fun i hi => ?_, ?_⟩
  · obtain ⟨j, rfl⟩ : ∃ j, i = j + 1 := ⟨i - 1, by omega⟩
    rw [at1, k.1 (j + 1) (by omega), k.1 j (by omega)]; omega
  · have e1 : dsum (fun i => (f * g) (i + 1) * z ^ (i + 1)) (d + 1) = dsum (fun i => f 0 * (g (i + 1) * z ^ (i + 1)) + (f 1 * z) * (g i * z ^ i)) (d + 1) :=
      dsum_congr fun i hi => by
        rw [at1, Int.add_mul, Int.pow_succ]
        congr 1
        · rw [Int.mul_assoc]
        · rw [Int.mul_assoc, Int.mul_assoc]
          congr 1
          rw [← Int.mul_assoc, Int.mul_comm]
    have e2 : dsum (fun i => g i * z ^ i) (d + 1 + 1) = w := by
      show dsum (fun i => g i * z ^ i) (d + 1) + g (d + 1) * z ^ (d + 1) = w
      rw [k.2, k.1 (d + 1) (by omega), Int.zero_mul, Int.add_zero]
    rw [dsum_shift] at e2
    rw [dsum_shift, e1, dsum_lin, at0, ← dsum_mul, k.2, Int.add_mul]
    have e3 : f 0 * w = f 0 * (g 0 * z ^ 0) + f 0 * dsum (fun i => g (i + 1) * z ^ (i + 1)) (d + 1) := by rw [← Int.mul_add, e2]
    rw [e3, Int.mul_assoc (f 0) (g 0), Int.add_assoc]
theorem Ev.dR {z : Int} {d : Nat} {f : Nat → Ser Int} {v : Nat → Int} : ∀ {n : Nat}, (∀ i, i < n → Ev z d (f i) (v i)) → Ev z d (dR f n) (dsum v n)
  | 0, _ => Ev.zero z d
  | n + 1, h => Ev.add (Ev.dR (n := n) (fun i hi => h i (by omega))) (h n (by omega))
theorem Ev.det {z : Int} : ∀ (n : Nat) (A : Nat → Nat → Ser Int), (∀ r c i, A r c (i + 2) = 0) → Ev z n (dtR n A) (det n (fun r c => A r c 0 + A r c 1 * z))
  | 0, A, _ => by
    refine ⟨fun k hk => ?_, ?_⟩
    · obtain ⟨j, rfl⟩ : ∃ j, k = j + 1 := ⟨k - 1, by omega⟩
      rfl
    · show (0 : Int) + 1 * z ^ 0 = 1
      rw [Int.pow_zero]; rfl
  | n + 1, A, h => by
    rw [dtR, Go.Proofs.YtnokgijakdaehaaGreatDoor.det]
    refine Ev.dR fun i hi => ?_
    have q := Ev.lin (f := ofI (sgd i) * A i 0) (fun t => by
      show cmul (t + 2) (sOf (sgd i)) (A i 0) = 0
      rw [cmul_comm, cmul_of, h, Int.zero_mul]) (Ev.det (z := z) n (mnR A i) (fun r c t => h _ _ _))
    have e : ∀ t, (ofI (sgd i) * A i 0) t = sgd i * A i 0 t := fun t => by
      show cmul t (sOf (sgd i)) (A i 0) = _
      rw [cmul_comm, cmul_of]; exact Int.mul_comm _ _
    rw [e, e, Int.mul_assoc, ← Int.mul_add] at q
    exact q
theorem ch_val (n : Nat) (M : Mx) (z : Int) : dsum (fun k => chS n M k * z ^ k) (n + 1) = det n (fun r c => idM r c + - M r c * z) := (Ev.det (z := z) n (ulS M) (ulS_lin M)).2
end Go.Proofs.YtnokgijakdaehaaGreatDoor


namespace Go.Proofs.YtnokgijakdaehaaGreatDoor
open Go.Abs
set_option linter.unusedSectionVars false
set_option linter.unusedVariables false
set_option linter.unusedSimpArgs false
set_option maxHeartbeats 1000000
def Nul (n w : Nat) (m : List (List Int)) (x : Nat → Int) : Prop := ∀ r, r < n → dsum (fun c => mx m r c * x c) w % 10007 = 0
theorem Nul.swp {n w : Nat} {m : List (List Int)} {x : Nat → Int} (h : Nul n w m x) (hl : m.length = n) {i d : Nat} (hi : i < n) (hd : d < n) : Nul n w (swp m i d) x := by
  intro r hr
  rw [swp_mx (by omega) (by omega)]
  by_cases e1 : r = d
  · subst e1; rw [updR_at]; exact h i hi
  · rw [updR_ne _ _ e1]
    by_cases e2 : r = i
    · subst e2; rw [updR_at]; exact h d hd
    · rw [updR_ne _ _ e2]; exact h r hr
theorem Nul.scl {n w : Nat} {m : List (List Int)} {x : Nat → Int} (h : Nul n w m x) (hl : m.length = n) (hr : Rws w m) {d k : Nat} (hd : d < n) : Nul n w (scl m d k) x := by
  intro r hrn
  by_cases e : r = d
  · subst e
    have e1 : dsum (fun c => mx (Go.Proofs.YtnokgijakdaehaaGreatDoor.scl m r k) r c * x c) w % 10007 = dsum (fun c => (pw (mx m r k) 10005 % 10007) * (mx m r c * x c)) w % 10007 := dsum_cong fun c hc => by
      rw [scl_at hr (by omega) hc, if_pos rfl, mul_mod_l]
      congr 1
      rw [Int.mul_comm (mx m r c), Int.mul_assoc]
    rw [e1, ← dsum_mul, ← mul_mod_r, h r hrn]; simp
  · have e1 : dsum (fun c => mx (Go.Proofs.YtnokgijakdaehaaGreatDoor.scl m d k) r c * x c) w % 10007 = dsum (fun c => mx m r c * x c) w % 10007 := dsum_cong fun c hc => by
      rw [scl_at hr (by omega) hc, if_neg e]
    rw [e1]; exact h r hrn
theorem Nul.elD {n w : Nat} {m : List (List Int)} {x : Nat → Int} (h : Nul n w m x) (hl : m.length = n) (hr : Rws w m) {d k : Nat} (hd : d < n) : Nul n w (elD m d k) x := by
  intro r hrn
  by_cases e : r = d
  · have e1 : dsum (fun c => mx (Go.Proofs.YtnokgijakdaehaaGreatDoor.elD m d k) r c * x c) w % 10007 = dsum (fun c => mx m d c * x c) w % 10007 := dsum_cong fun c hc => by
      rw [elD_at hr (by omega) hc, if_pos e]
    rw [e1]; exact h d hd
  · have e1 : dsum (fun c => mx (Go.Proofs.YtnokgijakdaehaaGreatDoor.elD m d k) r c * x c) w % 10007 = dsum (fun c => mx m r c * x c + ((- mx m r k) % 10007) * (mx m d c * x c)) w % 10007 := dsum_cong fun c hc => by
      rw [elD_at hr (by omega) hc, if_neg e, mul_mod_l, Int.add_mul, Int.mul_assoc]
    rw [e1, dsum_lin, Int.add_emod, h r hrn, ← mul_mod_r, h d hd]; simp
theorem stepR_Nul {n w : Nat} {W0 : Mx} {m : List (List Int)} {d : Int} {done k : Nat} {x : Nat → Int} (g : GI n w W0 m done k) (hk : k < w) (hd : done < n) (h : Nul n w m x) : Nul n w (stepR m d done k).1 x := by
  have hl := g.len
  have fl := fndR_le m k (m.length - done) done
  unfold stepR
  by_cases e : fndR m k (m.length - done) done = m.length
  · rw [if_pos e]; exact h
  · rw [if_neg e]
    have s1 := swp_ok g.rws (i := fndR m k (m.length - done) done) (d := done) (by omega) (by omega)
    have s2 := h.swp hl (i := fndR m k (m.length - done) done) (d := done) (by omega) hd
    have l1 := swp_len m (fndR m k (m.length - done) done) done
    have t1 := scl_ok s1 (d := done) (k := k) (by omega)
    have t2 := s2.scl (by omega) s1 (k := k) hd
    exact t2.elD (by rw [scl_len, l1]; exact hl) t1 hd
theorem redR_Nul {n w : Nat} {W0 : Mx} {x : Nat → Int} : ∀ (f k : Nat) (st : List (List Int) × Int × Nat), k + f = w → GI n w W0 st.1 st.2.2 k → Nul n w st.1 x → Nul n w (redR f k st).1 x
  | 0, k, st, hk, g, h => h
  | f + 1, k, st, hk, g, h => by
    rw [redR]
    have hl := g.len
    split
    · rename_i hlt
      exact redR_Nul f (k + 1) _ (by omega) (stepR_GI g (by omega) (by omega)) (stepR_Nul g (by omega) (by omega) h)
    · exact h
theorem solve_uniq {n : Nat} {a : List (List Int)} {b : List Int} {e : Nat → Int} (hn : 0 < n) (hl : a.length = n) (hr : Rws n a) (hb : Ns b) (h0 : ldet n a ≠ 0)
    (he : ∀ r, r < n → dsum (fun c => mx a r c * e c) n % 10007 = b[r]?.getD 0 % 10007) :
    ∀ k, k < n → ldet n (repL a k b) * pw (ldet n a) 10005 % 10007 = e k % 10007 := by
  intro k hk
  have sv := solve_is hn hl hr hb
  have wo := widL_ok hl hr hb
  have wm := widL_mx (b := b) hl hr
  rw [← sv.2 h0 k hk]
  have ho := sv.1
  rw [decide_eq_true h0] at ho
  obtain ⟨k', h1, h2, h3⟩ := redR_GI (n + 1) 0 (widL a b, 1, 0) (by omega) (GI.start wo.1 wo.2)
  have hid := h3.one hn h1 ho
  have hN := mx_N h3.rws (show k < (redR (n + 1) 0 (widL a b, 1, 0)).1.length by rw [h3.len]; exact hk) n
  have nu : Nul n (n + 1) (widL a b) (fun c => if c < n then e c else -1) := fun r hrn => by
    have e1 : dsum (fun c => mx (widL a b) r c * (fun c => if c < n then e c else -1) c) (n + 1) = dsum (fun c => mx a r c * e c) n + b[r]?.getD 0 * (-1) := by
      rw [dsum]
      congr 1
      · exact dsum_congr fun c hc => by simp only [if_pos hc]; rw [(wm r hrn).1 c hc]
      · simp only [if_neg (show ¬ n < n by omega)]; rw [(wm r hrn).2]
    rw [e1]
    have := he r hrn
    omega
  have nr := redR_Nul (n + 1) 0 (widL a b, 1, 0) (by omega) (GI.start wo.1 wo.2) nu k hk
  have e2 : dsum (fun c => mx (redR (n + 1) 0 (widL a b, 1, 0)).1 k c * (fun c => if c < n then e c else -1) c) (n + 1) = e k + mx (redR (n + 1) 0 (widL a b, 1, 0)).1 k n * (-1) := by
    rw [dsum]
    congr 1
    · have : dsum (fun c => mx (redR (n + 1) 0 (widL a b, 1, 0)).1 k c * (fun c => if c < n then e c else -1) c) n = dsum (fun c => idM k c * e c) n := dsum_congr fun c hc => by
        simp only [if_pos hc]; rw [hid k c hk hc]
      rw [this, dsum_id hk]
    · simp only [if_neg (show ¬ n < n by omega)]
  rw [e2] at nr
  obtain ⟨n0, n1⟩ := hN
  generalize mx (redR (n + 1) 0 (widL a b, 1, 0)).1 k n = y at *
  omega
def ldetQ (q : Int → Int) : Nat → List (List Int) → Int
  | 0, _ => 1
  | n + 1, a => if n + 1 ≤ 4 then lsum (fun k => mx a 0 k * ldetQ q n (minL a k) % 10007) (n + 1)
    else if fndR a 0 (n + 1) 0 = n + 1 then 0
    else if fndR a 0 (n + 1) 0 % 2 = 1 then (0 - mx a (fndR a 0 (n + 1) 0) 0 * ldetQ q n (restL a (fndR a 0 (n + 1) 0) (q (mx a (fndR a 0 (n + 1) 0) 0))) % 10007) % 10007
    else mx a (fndR a 0 (n + 1) 0) 0 * ldetQ q n (restL a (fndR a 0 (n + 1) 0) (q (mx a (fndR a 0 (n + 1) 0) 0))) % 10007
theorem ldetQ_is : ∀ (n : Nat) (a : List (List Int)), ldetQ (fun x => pw x 10005) n a = ldet n a
  | 0, _ => rfl
  | n + 1, a => by rw [ldetQ, ldet]; simp only [ldetQ_is n]
def fq (x : Int) : Int := if 0 ≤ x then ((fp 15 x.toNat 10005 : Nat) : Int) else pw x 10005
theorem fq_is : fq = fun x => pw x 10005 := funext fun x => by
  unfold fq
  split
  · rename_i h
    obtain ⟨n, rfl⟩ : ∃ n : Nat, x = n := ⟨x.toNat, by omega⟩
    rw [Int.toNat_natCast, fp_pw]
  · rfl
def vanL (n : Nat) : List (List Int) := (List.range (n + 1)).map fun (z : Nat) => tb (fun k => pw (z : Int) (k : Int)) (n + 1)
theorem vanL_len (n : Nat) : (vanL n).length = n + 1 := by simp [vanL]
theorem vanL_ok (n : Nat) : Rws (n + 1) (vanL n) := fun x hx => by
  obtain ⟨z, _, rfl⟩ := List.mem_map.1 hx
  exact ⟨by simp [tb], tb_N fun k _ => isN_mod _⟩
theorem vanL_mx {n z k : Nat} (hz : z < n + 1) (hk : k < n + 1) : mx (vanL n) z k = pw (z : Int) (k : Int) := by
  have e : (vanL n)[z]?.getD [] = tb (fun k => pw (z : Int) (k : Int)) (n + 1) := by simp [vanL, hz]
  show ((vanL n)[z]?.getD [])[k]?.getD 0 = _
  rw [e]
  exact tb_get (fun k => pw (z : Int) (k : Int)) hk
theorem van_ne {n : Nat} (h : n ≤ 8) : ldet (n + 1) (vanL n) ≠ 0 := by
  rw [← ldetQ_is, ← fq_is]
  have : ∀ m, m ≤ 8 → decide (ldetQ fq (m + 1) (vanL m) ≠ 0) = true := by decide +kernel
  exact of_decide_eq_true (this n h)
end Go.Proofs.YtnokgijakdaehaaGreatDoor


namespace Go.Proofs.YtnokgijakdaehaaGreatDoor
open Go.Abs
set_option linter.unusedSectionVars false
set_option linter.unusedVariables false
set_option linter.unusedSimpArgs false
set_option maxHeartbeats 1000000
def chL (n : Nat) (a : List (List Int)) : List Int := tb (fun k => chS n (mx a) k % 10007) (n + 1)
@[simp] theorem chL_len (n : Nat) (a : List (List Int)) : (chL n a).length = n + 1 := by simp [chL]
theorem chL_N (n : Nat) (a : List (List Int)) : Ns (chL n a) := tb_N fun k _ => isN_mod _
def unlR (n : Nat) (a : List (List Int)) (z i : Nat) : List Int := tb (fun c => ((if c = i then 1 else 0) + (a[i]?.getD [])[c]?.getD 0 * ((0 - (z : Int)) % 10007) % 10007) % 10007) n
def unlL (n : Nat) (a : List (List Int)) (z : Nat) : List (List Int) := (List.range n).map (unlR n a z)
theorem unlL_ok (n : Nat) (a : List (List Int)) (z : Nat) : (unlL n a z).length = n ∧ Rws n (unlL n a z) := by
  refine ⟨by simp [unlL], fun x hx => ?_⟩
  obtain ⟨i, _, rfl⟩ := List.mem_map.1 hx
  exact ⟨by simp [unlR], tb_N fun c _ => isN_mod _⟩
theorem unlL_mx {n : Nat} {a : List (List Int)} {z r c : Nat} (hr : r < n) (hc : c < n) : mx (unlL n a z) r c % 10007 = (idM r c + - mx a r c * (z : Int)) % 10007 := by
  have e : (unlL n a z)[r]?.getD [] = unlR n a z r := by simp [unlL, hr]
  have e2 : mx (unlL n a z) r c = ((if c = r then 1 else 0) + (a[r]?.getD [])[c]?.getD 0 * ((0 - (z : Int)) % 10007) % 10007) % 10007 := by
    show ((unlL n a z)[r]?.getD [])[c]?.getD 0 = _
    rw [e]
    exact tb_get (fun c => ((if c = r then 1 else 0) + (a[r]?.getD [])[c]?.getD 0 * ((0 - (z : Int)) % 10007) % 10007) % 10007) hc
  have e3 : (a[r]?.getD [])[c]?.getD 0 = mx a r c := rfl
  have e4 : idM r c = if c = r then 1 else 0 := by unfold idM; by_cases h : r = c <;> simp [h]; intro h2; exact (h h2.symm).elim
  have e5 : mx a r c * (0 - (z : Int)) = - mx a r c * (z : Int) := by rw [Int.zero_sub, Int.mul_neg, Int.neg_mul]
  rw [e2, e3, e4, mul_mod_r, Int.emod_emod_of_dvd _ (Int.dvd_refl _), e5]
  generalize - mx a r c * (z : Int) = y
  omega
def valL (n : Nat) (a : List (List Int)) : List Int := tb (fun z => ldet n (unlL n a z)) (n + 1)
theorem ldet_N (n : Nat) (a : List (List Int)) (hl : a.length = n) (hr : Rws n a) : isN (ldet n a) := by rw [ldet_is n a hl hr]; exact isN_mod _
theorem valL_N (n : Nat) (a : List (List Int)) : Ns (valL n a) := tb_N fun z _ => ldet_N _ _ (unlL_ok n a z).1 (unlL_ok n a z).2
theorem val_is (n : Nat) (a : List (List Int)) (z : Nat) : ldet n (unlL n a z) = dsum (fun k => chS n (mx a) k * (z : Int) ^ k) (n + 1) % 10007 := by
  have o := unlL_ok n a z
  rw [ldet_is n _ o.1 o.2, ch_val]
  exact det_cong fun r c hr hc => unlL_mx hr hc
theorem interp_is {n : Nat} (h8 : n ≤ 8) (a : List (List Int)) (k : Nat) (hk : k < n + 1) : ldet (n + 1) (repL (vanL n) k (valL n a)) * pw (ldet (n + 1) (vanL n)) 10005 % 10007 = (chL n a)[k]?.getD 0 := by
  have e0 : (chL n a)[k]?.getD 0 = chS n (mx a) k % 10007 := tb_get (fun k => chS n (mx a) k % 10007) hk
  rw [e0]
  refine solve_uniq (by omega) (vanL_len n) (vanL_ok n) (valL_N n a) (van_ne h8) (fun r hr => ?_) k hk
  have e1 : (valL n a)[r]?.getD 0 = ldet n (unlL n a r) := tb_get (fun z => ldet n (unlL n a z)) hr
  rw [e1, val_is, Int.emod_emod_of_dvd _ (Int.dvd_refl _)]
  refine dsum_cong fun c hc => ?_
  rw [vanL_mx hr hc]
  show ((r : Int) ^ (c : Int).toNat % 10007) * _ % 10007 = _
  rw [mul_mod_l, Int.toNat_natCast, Int.mul_comm]
end Go.Proofs.YtnokgijakdaehaaGreatDoor


namespace Go.Proofs.YtnokgijakdaehaaGreatDoor
open Go.Abs
set_option linter.unusedSectionVars false
set_option linter.unusedVariables false
set_option linter.unusedSimpArgs false
set_option maxHeartbeats 1000000
@[go_sem] theorem klW_bor (W : List Nat) (s : Nat) (p : List Nat) : kl W (.bor s p) = if W.contains s then .any else .bor s p := by rw [kl]
@[go_sem] theorem klW_ptr (W : List Nat) (s : Nat) (p : List Nat) (o : Nat) : kl W (.ptr s p o) = if W.contains s then .any else .ptr s p o := by rw [kl]
theorem omat_get {A : List (List Int)} {k : Nat} (h : k < A.length) : (omat A)[k]? = some (.own 2 (A[k]?.getD []).length (avs (A[k]?.getD []))) := by simp [omat, h]
end Go.Proofs.YtnokgijakdaehaaGreatDoor


namespace Go.Proofs.YtnokgijakdaehaaGreatDoor
open Go.Abs
set_option linter.unusedSectionVars false
set_option linter.unusedVariables false
set_option linter.unusedSimpArgs false
set_option maxHeartbeats 1000000
end Go.Proofs.YtnokgijakdaehaaGreatDoor


namespace Go.Proofs.YtnokgijakdaehaaGreatDoor
open Go.Abs
set_option linter.unusedSectionVars false
set_option linter.unusedVariables false
set_option linter.unusedSimpArgs false
set_option maxHeartbeats 1000000
end Go.Proofs.YtnokgijakdaehaaGreatDoor


namespace Go.Proofs.YtnokgijakdaehaaGreatDoor
open Go.Abs
set_option linter.unusedSectionVars false
set_option linter.unusedVariables false
set_option linter.unusedSimpArgs false
set_option maxHeartbeats 1000000
end Go.Proofs.YtnokgijakdaehaaGreatDoor


namespace Go.Proofs.YtnokgijakdaehaaGreatDoor
open Go.Abs
set_option linter.unusedSectionVars false
set_option linter.unusedVariables false
set_option linter.unusedSimpArgs false
set_option maxHeartbeats 1000000
end Go.Proofs.YtnokgijakdaehaaGreatDoor


namespace Go.Proofs.YtnokgijakdaehaaGreatDoor
open Go.Abs
set_option linter.unusedSectionVars false
set_option linter.unusedVariables false
set_option linter.unusedSimpArgs false
set_option maxHeartbeats 1000000
def sum3 (k : Key) : Int := k.1 + k.2.1 + k.2.2
def DegLe (C : Key → Int) (D : Int) : Prop := ∀ k, NN k → D < sum3 k → C k = 0
theorem sum3_inc (i : Nat) (k : Key) : sum3 (inc i k) = sum3 k + 1 := by
  obtain ⟨a, b, c⟩ := k
  unfold inc sum3
  split
  · simp; omega
  · split <;> (simp; omega)
theorem DegLe.der {C : Key → Int} {D : Int} (h : DegLe C D) (i : Nat) : DegLe (der i C) (D - 1) := by
  intro k hk hd
  unfold Go.Proofs.YtnokgijakdaehaaGreatDoor.der
  rw [h (inc i k) (hk.inc i) (by rw [sum3_inc]; omega), Int.mul_zero]
theorem DegLe.alo {C : Key → Int} {D : Int} (h : DegLe C D) (v : Nat → Int) : ∀ n, DegLe (alo v C n) (D - 1)
  | 0 => fun _ _ _ => rfl
  | n + 1 => fun k hk hd => by
    show Go.Proofs.YtnokgijakdaehaaGreatDoor.alo v C n k + v n * Go.Proofs.YtnokgijakdaehaaGreatDoor.der n C k = 0
    rw [DegLe.alo h v n k hk hd, h.der n k hk hd]; simp
theorem DegLe.dv {n : Nat} : ∀ (vs : List (List Int)) {C : Key → Int} {D : Int}, DegLe C D → DegLe (Dv n vs C) (D - vs.length)
  | [], C, D, h => by simpa [Dv] using h
  | v :: vs, C, D, h => by
    have := DegLe.dv (n := n) vs (h.alo (yat v) n)
    rw [Dv]
    intro k hk hd
    exact this k hk (by simp at hd; omega)
@[simp] theorem mat_frz (A : List (List Int)) : frzL (mat A) = mat A := by
  induction A with
  | nil => rfl
  | cons r A ih => simp only [mat, List.map_cons, frzL] at ih ⊢; rw [ih]; rfl
end Go.Proofs.YtnokgijakdaehaaGreatDoor


namespace Go.Proofs.YtnokgijakdaehaaGreatDoor
open Go.Abs
set_option linter.unusedSectionVars false
set_option linter.unusedVariables false
set_option linter.unusedSimpArgs false
set_option maxHeartbeats 4000000
end Go.Proofs.YtnokgijakdaehaaGreatDoor


namespace Go.Proofs.YtnokgijakdaehaaGreatDoor
set_option linter.unusedSectionVars false
set_option linter.unusedVariables false
set_option linter.unusedSimpArgs false
def Lv (t : List Int) : Prop := 0 < t.length ∧ t[0]?.getD 0 = 0 ∧ ∀ j, 0 < j → j < t.length → 1 ≤ t[j]?.getD 0 ∧ t[j]?.getD 0 ≤ t[j - 1]?.getD 0 + 1
theorem Lv.le {t : List Int} (h : Lv t) : ∀ j, j < t.length → 0 ≤ t[j]?.getD 0 ∧ t[j]?.getD 0 ≤ j
  | 0, _ => by rw [h.2.1]; omega
  | j + 1, hj => by
    have h1 := h.le j (by omega)
    have h2 := h.2.2 (j + 1) (by omega) hj
    rw [Nat.add_sub_cancel] at h2
    omega
end Go.Proofs.YtnokgijakdaehaaGreatDoor


namespace Go.Proofs.YtnokgijakdaehaaGreatDoor
open Go.Abs
set_option linter.unusedSectionVars false
set_option linter.unusedVariables false
set_option linter.unusedSimpArgs false
set_option maxHeartbeats 4000000
end Go.Proofs.YtnokgijakdaehaaGreatDoor


namespace Go.Proofs.YtnokgijakdaehaaGreatDoor
open Go.Abs
set_option linter.unusedSectionVars false
set_option linter.unusedVariables false
set_option linter.unusedSimpArgs false
set_option maxHeartbeats 4000000
theorem omat_set (A : List (List Int)) (k : Nat) (l : List Int) : (omat A).set k (.own 2 l.length (avs l)) = omat (A.set k l) := by
  simp [omat, List.map_set]
end Go.Proofs.YtnokgijakdaehaaGreatDoor


namespace Go.Proofs.YtnokgijakdaehaaGreatDoor
open Go.Abs
set_option linter.unusedSectionVars false
set_option linter.unusedVariables false
set_option linter.unusedSimpArgs false
set_option maxHeartbeats 4000000
theorem omat_take (A : List (List Int)) (i : Nat) (h : i < A.length) : omat (A.take (i + 1)) = omat (A.take i) ++ [.own 2 (A[i]?.getD []).length (avs (A[i]?.getD []))] := by
  rw [List.take_add_one, omat_app]; simp [h, omat]
end Go.Proofs.YtnokgijakdaehaaGreatDoor


namespace Go.Proofs.YtnokgijakdaehaaGreatDoor
open Go.Abs
set_option linter.unusedSectionVars false
set_option linter.unusedVariables false
set_option linter.unusedSimpArgs false
set_option maxHeartbeats 1000000
def colS (a : List (List Int)) (k : Nat) : List Int := tb (fun i => (a[i]?.getD [])[k]?.getD 0) a.length
@[simp] theorem colS_len (a : List (List Int)) (k : Nat) : (colS a k).length = a.length := by simp [colS]
theorem column_c (a : List (List Int)) (k : Nat) (hl : a.length ≤ 1048576) (hr : ∀ r ∈ a, k < r.length) (hk : k ≤ 1048576) :
    Con Tryz.prog 94 [.sl a.length (mat a), .int k] (.own 2 a.length (avs (colS a k))) := by
  refine con_of_vc Tryz.mixed ⟨8, [], [], []⟩ Tryz.func94 (by decide) rfl (by simp) (by decide) (by simp [freshOK, freshL, go_sem]) ?_
  rw [Tryz.ntmps94]
  simp [go_sem]
  refine loop_inv (5 :: 7 :: List.range' 11 12) (fun i : Nat => [(5, .own 2 i (avs (tb (fun i => (a[i]?.getD [])[k]?.getD 0) i))), (11, .int i)]) (fun i => i ≤ a.length) (fun i => a.length - i) 0 (by simp) (by simp [go_sem]) (by simp [go_sem]) ?_
  intro i hi
  simp [go_sem]
  refine ⟨fun h => ?_, fun h => ?_⟩ <;> simp at h
  · have hx : k < (a[i]?.getD []).length := hr _ (by simp [h])
    simp [go_sem, mat_drop h, avs_drop hx]
    refine ⟨⟨h, by rintro rfl; simp at h⟩, ⟨hx, by intro e; simp [e] at hx⟩, ?_⟩
    exact ⟨⟨by omega, by omega⟩, by omega, i + 1, by omega, by omega, Off_reset _ _ _ (by simp), by simp [tb_succ, avs_snoc], by omega⟩
  · have e : i = a.length := by omega
    subst e
    simp [go_sem]
    rfl
theorem omat_range_succ (g : Nat → List Int) (i : Nat) : omat ((List.range (i + 1)).map g) = omat ((List.range i).map g) ++ [.own 2 (g i).length (avs (g i))] := by
  rw [List.range_succ, List.map_append, omat_app]; rfl
theorem cloneRows_c (a : List (List Int)) (hl : a.length ≤ 1048576) (hr : ∀ r ∈ a, r.length ≤ 1048576) :
    Con Tryz.prog 172 [.sl a.length (mat a)] (.own 25 a.length (omat a)) := by
  refine con_of_vc Tryz.mixed ⟨6, [], [], []⟩ Tryz.func172 (by decide) rfl (by simp) (by decide) (by simp [freshOK, freshL, go_sem]) ?_
  rw [Tryz.ntmps172]
  simp [go_sem]
  refine loop_inv (3 :: 5 :: List.range' 9 10) (fun i : Nat => [(3, .own 25 i (omat (a.take i))), (9, .int i)]) (fun i => i ≤ a.length) (fun i => a.length - i) 0 (by simp) (by simp [go_sem, omat_nil]) (by simp [go_sem]) ?_
  intro i hi
  simp [go_sem]
  refine ⟨fun h => ?_, fun h => ?_⟩ <;> simp at h
  · simp [go_sem, mat_drop h]
    refine ⟨⟨h, by rintro rfl; simp at h⟩, ?_⟩
    refine CallVC.of (Clone_c (a[i]?.getD []) (hr _ (by simp [h]))) (by decide) ?_
    simp [go_sem]
    have ht := omat_take a i h
    refine ⟨⟨by omega, by omega, by omega⟩, by omega, i + 1, by omega, by omega, Off_reset _ _ _ (by simp), by rw [ht]; exact ⟨rfl, rfl⟩, by omega⟩
  · have e : i = a.length := by omega
    subst e
    simp [go_sem]
theorem l01Own2_c (a : List (List Int)) (hl : a.length ≤ 1048576) (hr : ∀ r ∈ a, r.length ≤ 1048576) :
    Con Tryz.prog 132 [.sl a.length (mat a)] (.own 25 a.length (omat a)) := by
  refine con_of_vc Tryz.mixed ⟨5, [], [], []⟩ Tryz.func132 (by decide) rfl (by simp) (by decide) (by simp [freshOK, freshL, go_sem]) ?_
  rw [Tryz.ntmps132]
  simp [go_sem]
  refine loop_inv (3 :: 4 :: List.range' 6 14) (fun i : Nat => [(3, .own 25 i (omat (a.take i))), (4, .int i)]) (fun i => i ≤ a.length) (fun i => a.length - i) 0 (by simp) (by simp [go_sem, omat_nil]) (by simp [go_sem]) ?_
  intro i hi
  simp [go_sem]
  refine ⟨fun h => ?_, fun h => ?_⟩ <;> simp at h
  · simp [go_sem, mat_drop h]
    refine ⟨⟨h, by rintro rfl; simp at h⟩, ?_⟩
    refine CallVC.of (l01Own_c (a[i]?.getD []) (by have := hr _ (show a[i]?.getD [] ∈ a by simp [h]); omega)) (by decide) ?_
    simp [go_sem]
    have ht := omat_take a i h
    refine ⟨⟨by omega, by omega, by omega⟩, by omega, i + 1, by omega, by omega, Off_reset _ _ _ (by simp), by rw [ht]; exact ⟨rfl, rfl⟩, by omega⟩
  · have e : i = a.length := by omega
    subst e
    simp [go_sem]
end Go.Proofs.YtnokgijakdaehaaGreatDoor


namespace Go.Proofs.YtnokgijakdaehaaGreatDoor
open Go.Abs
set_option linter.unusedSectionVars false
set_option linter.unusedVariables false
set_option linter.unusedSimpArgs false
set_option maxHeartbeats 1000000
theorem dotI_dsum : ∀ (xs ys : List Int) (n : Nat), xs.length = n → ys.length = n → dotI xs ys = dsum (fun c => xs[c]?.getD 0 * ys[c]?.getD 0) n
  | [], ys, n, h, h2 => by simp at h; subst h; rfl
  | x :: xs, [], n, h, h2 => by simp at h h2; omega
  | x :: xs, y :: ys, n, h, h2 => by
    obtain ⟨m, rfl⟩ : ∃ m, n = m + 1 := ⟨n - 1, by simp at h; omega⟩
    rw [dsum_shift, dotI, dotI_dsum xs ys m (by simpa using h) (by simpa using h2)]
    rfl
def tmM (a b : List (List Int)) : List (List Int) := (List.range a.length).map fun i => tb (fun k => dotI (a[i]?.getD []) (colS b k) % 10007) (b[0]?.getD []).length
@[simp] theorem tmM_len (a b : List (List Int)) : (tmM a b).length = a.length := by simp [tmM]
theorem tmM_ok (a b : List (List Int)) : Rws (b[0]?.getD []).length (tmM a b) := fun x hx => by
  obtain ⟨i, _, rfl⟩ := List.mem_map.1 hx
  exact ⟨by simp, tb_N fun k _ => isN_mod _⟩
theorem tmM_mx {n : Nat} {a b : List (List Int)} (hl : a.length = n) (hr : Rws n a) (hl2 : b.length = n) (hr2 : Rws n b) {r c : Nat} (h1 : r < n) (h2 : c < n) :
    mx (tmM a b) r c = dsum (fun k => mx a r k * mx b k c) n % 10007 := by
  have q0 := hr2.at (show 0 < b.length by omega)
  have e : (tmM a b)[r]?.getD [] = tb (fun k => dotI (a[r]?.getD []) (colS b k) % 10007) n := by simp [tmM, hl, h1, q0.1]
  show ((tmM a b)[r]?.getD [])[c]?.getD 0 = _
  rw [e, tb_get _ h2, dotI_dsum _ _ n ((hr.at (by omega)).1) (by simp [hl2])]
  congr 1
  refine dsum_congr fun k hk => ?_
  congr 1
  exact tb_get (fun i => (b[i]?.getD [])[c]?.getD 0) (by omega)
def adU (a : List (List Int)) (k : Int) : List (List Int) := (List.range a.length).map fun i => (a[i]?.getD []).set i (((a[i]?.getD [])[i]?.getD 0 + k) % 10007)
@[simp] theorem adU_len (a : List (List Int)) (k : Int) : (adU a k).length = a.length := by simp [adU]
theorem adU_row {a : List (List Int)} {k : Int} {i : Nat} (h : i < a.length) : (adU a k)[i]?.getD [] = (a[i]?.getD []).set i (((a[i]?.getD [])[i]?.getD 0 + k) % 10007) := by simp [adU, h]
theorem adU_ok {n : Nat} {a : List (List Int)} (hr : Rws n a) (k : Int) : Rws n (adU a k) := fun x hx => by
  obtain ⟨i, h, rfl⟩ := List.mem_map.1 hx
  have q := hr.at (show i < a.length by simpa using h)
  refine ⟨by rw [List.length_set]; exact q.1, fun y hy => ?_⟩
  rcases List.mem_or_eq_of_mem_set hy with h | h
  · exact q.2 y h
  · subst h; exact isN_mod _
theorem adU_mx {n : Nat} {a : List (List Int)} (hl : a.length = n) (hr : Rws n a) (k : Int) {r c : Nat} (h1 : r < n) (h2 : c < n) : mx (adU a k) r c = if r = c then (mx a r c + k) % 10007 else mx a r c := by
  have q := (hr.at (i := r) (by omega)).1
  show ((adU a k)[r]?.getD [])[c]?.getD 0 = _
  rw [adU_row (by omega)]
  by_cases h : r = c
  · subst h; rw [if_pos rfl, List.getElem?_set_self (by omega)]; rfl
  · rw [if_neg h, List.getElem?_set_ne h]; rfl
def zeM (n : Nat) : List (List Int) := (List.range n).map fun _ => List.replicate n 0
theorem zeM_ok (n : Nat) : (zeM n).length = n ∧ Rws n (zeM n) := by
  refine ⟨by simp [zeM], fun x hx => ?_⟩
  obtain ⟨i, _, rfl⟩ := List.mem_map.1 hx
  refine ⟨by simp, fun y hy => ?_⟩
  rw [List.eq_of_mem_replicate hy]
  exact ⟨by omega, by omega⟩
theorem zeM_mx (n r c : Nat) : mx (zeM n) r c = 0 := by
  unfold mx zeM
  by_cases hr : r < n
  · simp [hr]
    by_cases hc : c < n <;> simp [hc]
  · simp [hr]
theorem rows_ext {n : Nat} {a b : List (List Int)} (ha : a.length = n) (hb : b.length = n) (hra : Rws n a) (hrb : Rws n b) (h : ∀ r c, r < n → c < n → mx a r c = mx b r c) : a = b := by
  refine List.ext_getElem? fun r => ?_
  by_cases hr : r < n
  · have h1 := (hra.at (i := r) (by omega)).1
    have h2 := (hrb.at (i := r) (by omega)).1
    have e : a[r]?.getD [] = b[r]?.getD [] := by
      refine List.ext_getElem? fun c => ?_
      by_cases hc : c < n
      · have := h r c hr hc
        unfold mx at this
        generalize a[r]?.getD [] = x at *
        generalize b[r]?.getD [] = y at *
        rw [List.getElem?_eq_getElem (show c < x.length by omega), List.getElem?_eq_getElem (show c < y.length by omega)] at this ⊢
        simpa using this
      · rw [List.getElem?_eq_none (by omega), List.getElem?_eq_none (by omega)]
    rw [List.getElem?_eq_getElem (by omega), List.getElem?_eq_getElem (by omega)] at e ⊢
    simpa using e
  · rw [List.getElem?_eq_none (by omega), List.getElem?_eq_none (by omega)]
def adM (n : Nat) (M : Mx) (k : Nat) : List (List Int) := (List.range n).map fun j => tb (fun i => adS n M j i k % 10007) n
theorem adM_ok (n : Nat) (M : Mx) (k : Nat) : (adM n M k).length = n ∧ Rws n (adM n M k) := by
  refine ⟨by simp [adM], fun x hx => ?_⟩
  obtain ⟨i, _, rfl⟩ := List.mem_map.1 hx
  exact ⟨by simp, tb_N fun k _ => isN_mod _⟩
theorem adM_mx {n : Nat} (M : Mx) (k : Nat) {r c : Nat} (h1 : r < n) (h2 : c < n) : mx (adM n M k) r c = adS n M r c k % 10007 := by
  have e : (adM n M k)[r]?.getD [] = tb (fun i => adS n M r i k % 10007) n := by simp [adM, h1]
  show ((adM n M k)[r]?.getD [])[c]?.getD 0 = _
  rw [e]; exact tb_get _ h2
theorem fl_start (n : Nat) (M : Mx) : adU (zeM n) 1 = adM n M 0 := by
  have z := zeM_ok n
  refine rows_ext (by rw [adU_len]; exact z.1) (adM_ok n M 0).1 (adU_ok z.2 1) (adM_ok n M 0).2 fun r c h1 h2 => ?_
  rw [adU_mx z.1 z.2 1 h1 h2, adM_mx M 0 h1 h2, ad_0 n M h1 h2, zeM_mx]
  unfold idM
  split <;> rfl
theorem fl_times {n : Nat} {a : List (List Int)} (hl : a.length = n) (hr : Rws n a) (k : Nat) {r c : Nat} (h1 : r < n) (h2 : c < n) :
    mx (tmM a (adM n (mx a) k)) r c = dsum (fun j => mx a r j * adS n (mx a) j c k) n % 10007 := by
  have o := adM_ok n (mx a) k
  rw [tmM_mx hl hr o.1 o.2 h1 h2]
  refine dsum_cong fun j hj => ?_
  rw [adM_mx (mx a) k hj h2, mul_mod_r]
theorem fl_next {n : Nat} {a : List (List Int)} (h0 : 0 < n) (hl : a.length = n) (hr : Rws n a) (k : Nat) : adU (tmM a (adM n (mx a) k)) (chS n (mx a) (k + 1) % 10007) = adM n (mx a) (k + 1) := by
  have o := adM_ok n (mx a) k
  have q0 := o.2.at (show 0 < (adM n (mx a) k).length by omega)
  have tr := tmM_ok a (adM n (mx a) k)
  rw [q0.1] at tr
  have tl : (tmM a (adM n (mx a) k)).length = n := by rw [tmM_len]; exact hl
  refine rows_ext (by rw [adU_len]; exact tl) (adM_ok n _ _).1 (adU_ok tr _) (adM_ok n _ _).2 fun r c h1 h2 => ?_
  rw [adU_mx tl tr _ h1 h2, adM_mx _ _ h1 h2, ad_step n (mx a) h1 h2, fl_times hl hr k h1 h2]
  generalize dsum (fun j => mx a r j * adS n (mx a) j c k) n = z
  by_cases h : r = c
  · rw [if_pos h, if_pos h.symm]; omega
  · rw [if_neg h, if_neg (fun e => h e.symm), Int.add_zero]
def trU (m : List (List Int)) : Nat → Int
  | 0 => 0
  | i + 1 => trU m i + mx m i i
theorem trU_is (m : List (List Int)) : ∀ n, trU m n = dsum (fun i => mx m i i) n
  | 0 => rfl
  | n + 1 => by rw [trU, trU_is m n]; rfl
theorem trU_bound {n : Nat} {m : List (List Int)} (hl : m.length = n) (hr : Rws n m) : ∀ i : Nat, i ≤ n → 0 ≤ trU m i ∧ trU m i ≤ i * 10006
  | 0, _ => by simp [trU]
  | i + 1, h => by
    have h1 := trU_bound hl hr i (by omega)
    have h2 := mx_N hr (show i < m.length by omega) i
    obtain ⟨h3, h4⟩ := h2
    rw [trU]; omega
theorem fl_coef {n : Nat} {a : List (List Int)} (h8 : n ≤ 8) (hl : a.length = n) (hr : Rws n a) (k : Nat) (hk : k < n) :
    -(trU (tmM a (adM n (mx a) k)) n % 10007) * pw ((k : Int) + 1) 10005 % 10007 = chS n (mx a) (k + 1) % 10007 := by
  have iv := inv_ok (a := (k : Int) + 1) ⟨by omega, by omega⟩ (by omega)
  have st := ch_step n (mx a) k
  have e1 : trU (tmM a (adM n (mx a) k)) n % 10007 = dsum (fun i => dsum (fun c => mx a i c * adS n (mx a) c i k) n) n % 10007 := by
    rw [trU_is]
    refine dsum_cong fun i hi => ?_
    rw [fl_times hl hr k hi hi, Int.emod_emod_of_dvd _ (Int.dvd_refl _)]
  rw [e1]
  generalize dsum (fun i => dsum (fun c => mx a i c * adS n (mx a) c i k) n) n = T at *
  generalize pw ((k : Int) + 1) 10005 = q at *
  generalize chS n (mx a) (k + 1) = e at *
  have e2 : -(T % 10007) * q % 10007 = (((k : Int) + 1) * e) * q % 10007 := by
    rw [st, Int.neg_mul, Int.neg_mul]
    have h1 : T % 10007 * q % 10007 = T * q % 10007 := mul_mod_l T q
    omega
  rw [e2, show ((k : Int) + 1) * e * q = e * (((k : Int) + 1) * q) by ac_rfl, ← mul_mod_r, iv, Int.mul_one]
end Go.Proofs.YtnokgijakdaehaaGreatDoor


namespace Go.Proofs.YtnokgijakdaehaaGreatDoor
open Go.Abs
set_option linter.unusedSectionVars false
set_option linter.unusedVariables false
set_option linter.unusedSimpArgs false
set_option maxHeartbeats 4000000
def mxR {α : Type} (A C : List α) (i : Nat) : List α := C.take i ++ A.drop i
theorem mxR_zero {α : Type} (A C : List α) : mxR A C 0 = A := by simp [mxR]
theorem mxR_all {α : Type} {A C : List α} (h : C.length = A.length) : mxR A C A.length = C := by simp [mxR, ← h]
theorem mxR_len {α : Type} {A C : List α} (h : C.length = A.length) {i : Nat} (hi : i ≤ A.length) : (mxR A C i).length = A.length := by simp [mxR]; omega
theorem mxR_get {α : Type} {A C : List α} (h : C.length = A.length) {i j : Nat} (hi : i ≤ A.length) (d : α) : (mxR A C i)[j]?.getD d = if j < i then C[j]?.getD d else A[j]?.getD d := by
  unfold mxR
  split
  · rename_i hj
    rw [List.getElem?_append_left (by simp; omega), List.getElem?_take_of_lt hj]
  · rename_i hj
    rw [List.getElem?_append_right (by simp; omega), List.getElem?_drop]
    congr 2
    simp; omega
theorem mxR_set {α : Type} {A C : List α} (h : C.length = A.length) {i : Nat} (hi : i < A.length) (d : α) : (mxR A C i).set i (C[i]?.getD d) = mxR A C (i + 1) := by
  unfold mxR
  have hc : i < C.length := by omega
  rw [List.set_append_right _ _ (by simp; omega)]
  have e1 : (C.take i).length = i := by simp; omega
  have e2 : C.take (i + 1) = C.take i ++ [C[i]] := by rw [List.take_add_one, List.getElem?_eq_getElem hc]; rfl
  rw [e1, Nat.sub_self, List.drop_eq_getElem_cons hi, List.set_cons_zero, e2, List.getElem?_eq_getElem hc, List.append_assoc]
  rfl
end Go.Proofs.YtnokgijakdaehaaGreatDoor


namespace Go.Proofs.YtnokgijakdaehaaGreatDoor
open Go.Abs
set_option linter.unusedSectionVars false
set_option linter.unusedVariables false
set_option linter.unusedSimpArgs false
set_option maxHeartbeats 4000000
theorem memR {α : Type} {l : List α} {i : Nat} (d : α) (h : i < l.length) : l[i]?.getD d ∈ l := by simp [h]
theorem avs_tk (xs : List Int) (k : Nat) : (avs xs).take k = avs (xs.take k) := by simp [avs, List.map_take]
theorem avs_dp (xs : List Int) (k : Nat) : (avs xs).drop k = avs (xs.drop k) := by simp [avs, List.map_drop]
def outL (r : List Int) (k : Nat) : List Int := r.take k ++ r.drop (k + 1)
theorem outL_len {r : List Int} {k : Nat} (h : k < r.length) : (outL r k).length = r.length - 1 := by simp [outL]; omega
theorem minL_succ {a : List (List Int)} {k i : Nat} (h : i + 1 < a.length) : ((List.range (i + 1)).map fun r => outL (a[r + 1]?.getD []) k) = ((List.range i).map fun r => outL (a[r + 1]?.getD []) k) ++ [outL (a[i + 1]?.getD []) k] := by
  rw [List.range_succ, List.map_append]; rfl
set_option maxRecDepth 100000 in
theorem l01Minor_c (a : List (List Int)) (k : Nat) (h0 : 0 < a.length) (hl : a.length ≤ 1000) (hr : ∀ r ∈ a, r.length = a.length) (hk : k < a.length) :
    Con Tryz.prog 175 [.sl a.length (mat a), .int k] (.own 25 (a.length - 1) (omat (minL a k))) := by
  have hm : minL a k = (List.range (a.length - 1)).map fun r => outL (a[r + 1]?.getD []) k := rfl
  rw [hm]
  refine con_of_vc Tryz.mixed ⟨8, [], [], []⟩ Tryz.func175 (by decide) rfl (by simp) (by decide) (by simp [freshOK, freshL, go_sem]) ?_
  rw [Tryz.ntmps175]
  simp [go_sem]
  refine loop_inv (5 :: 6 :: 7 :: List.range' 9 25) (fun i : Nat => [(5, .own 25 i (omat ((List.range i).map fun r => outL (a[r + 1]?.getD []) k))), (6, .int (i + 1))]) (fun i => i + 1 ≤ a.length) (fun i => a.length - i) 0 (by simp; omega) (by simp [go_sem, omat]) (by simp [go_sem]) ?_
  intro i hi
  simp [go_sem]
  refine ⟨fun h => ?_, fun h => ?_⟩ <;> simp at h
  · have hif : i + 1 < a.length := by omega
    have hx := hr _ (memR [] hif)
    have ii : ((i : Int) + 1).toNat = i + 1 := by omega
    have ol := outL_len (r := a[i + 1]?.getD []) (k := k) (by omega)
    have hs := minL_succ (k := k) hif
    have hdr := mat_drop hif
    have hoo : outL (a[i + 1]?.getD []) k = (a[i + 1]?.getD []).take k ++ (a[i + 1]?.getD []).drop (k + 1) := rfl
    generalize a[i + 1]?.getD [] = row at *
    have cO := l01Own_c (row.take k) (by simp; omega)
    have tl : (row.take k).length = k := by simp; omega
    rw [tl] at cO
    simp [go_sem, ii, hdr, avs_tk, avs_dp]
    have kk : ((k : Int) + 1).toNat = k + 1 := by omega
    refine ⟨⟨by omega, by omega, by rintro rfl; simp at hif⟩, by omega, ?_⟩
    refine CallVC.of (cO) (by decide) ?_
    simp [go_sem]
    simp [go_sem, ii, hdr, kk, avs_tk, avs_dp]
    have n1 : k + ((row.length : Int) - ((k : Int) + 1)).toNat = (outL row k).length := by omega
    have n2 : avs (row.take k) ++ avs ((row.drop (k + 1)).take ((row.length : Int) - ((k : Int) + 1)).toNat) = avs (outL row k) := by
      have n3 : (row.drop (k + 1)).take ((row.length : Int) - ((k : Int) + 1)).toNat = row.drop (k + 1) := List.take_of_length_le (by simp; omega)
      rw [n3, ← avs_app, hoo]
    refine ⟨⟨by omega, by omega, by rintro rfl; simp at hif⟩, ⟨by omega, by omega⟩, ⟨by omega, by omega⟩, ⟨by omega, by omega, by omega, by omega⟩, ⟨by omega, by omega⟩, ⟨by omega, by omega⟩, i + 1, by omega, by omega, Off_reset _ _ _ (by simp), ⟨rfl, ?_⟩, by omega⟩
    rw [n1, n2, hs]
    simp [omat]
  · have e : i = a.length - 1 := by omega
    subst e
    simp [go_sem]
theorem lsum_N {t : Nat → Int} : ∀ n, isN (lsum t n)
  | 0 => ⟨by simp [lsum], by simp [lsum]⟩
  | n + 1 => by rw [lsum]; split <;> exact isN_mod _
theorem ldet_isN (n : Nat) (a : List (List Int)) (hl : a.length = n) (hr : Rws n a) : isN (ldet n a) := by
  cases n with
  | zero => exact ⟨by simp [ldet], by simp [ldet]⟩
  | succ n => rw [ldet_is _ a hl hr]; exact isN_mod _
def clrE (a : List (List Int)) (i : Nat) (q : Int) (k j : Nat) : Int := (mx a k (j + 1) - mx a k 0 * q % 10007 * mx a i (j + 1) % 10007) % 10007
theorem clrE_is (a : List (List Int)) (i : Nat) (q : Int) (k j : Nat) : (mx a k (j + 1) - mx a k 0 * q % 10007 * mx a i (j + 1)) % 10007 = clrE a i q k j := by unfold clrE; simp
def rowR (a : List (List Int)) (i : Nat) (q : Int) (k : Nat) : List Int := tb (clrE a i q k) (a.length - 1)
def skp (i r : Nat) : Nat := if r < i then r else r + 1
def cnt (i k : Nat) : Nat := if k ≤ i then k else k - 1
theorem restL_eq (a : List (List Int)) (i : Nat) (q : Int) : restL a i q = (List.range (a.length - 1)).map fun r => rowR a i q (skp i r) := rfl
theorem cnt_same {i k : Nat} (h : k = i) : cnt i (k + 1) = cnt i k := by unfold cnt; rw [if_neg (by omega), if_pos (by omega)]; omega
theorem cnt_next {i k : Nat} (h : k ≠ i) : cnt i (k + 1) = cnt i k + 1 ∧ skp i (cnt i k) = k := by
  unfold cnt skp
  by_cases h1 : k < i
  · rw [if_pos (by omega), if_pos (by omega), if_pos h1]; exact ⟨rfl, rfl⟩
  · rw [if_neg (by omega), if_neg (show ¬ k ≤ i by omega), if_neg (by omega)]; exact ⟨by omega, by omega⟩
set_option maxRecDepth 100000 in
theorem l01Det_c : ∀ (n : Nat) (a : List (List Int)), a.length = n → n ≤ 100 → Rws n a → Con Tryz.prog 131 [.sl a.length (mat a)] (.int (ldet n a))
  | 0, a, hl, hn, hr => by
    have h0 : a = [] := List.length_eq_zero_iff.1 hl
    subst h0
    refine con_of_vc Tryz.mixed ⟨13, [], [], []⟩ Tryz.func131 (by decide) rfl (by simp) (by decide) (by simp [freshOK, freshL, go_sem]) ?_
    rw [Tryz.ntmps131]
    simp [go_sem]
    rfl
  | n + 1, a, hl, hn, hr => by
    have ih := fun b hb hbr => l01Det_c n b hb (by omega) hbr
    have h0 : ¬ a.length = 0 := by omega
    have ne : ¬ a = [] := by rintro rfl; simp at hl
    have rl : ∀ r ∈ a, r.length = a.length := fun r h => by rw [(hr r h).1, hl]
    have m0 := mat_drop (xss := a) (k := 0) (by omega)
    simp only [List.drop_zero] at m0
    have m1 : AV.sl (a[0]?.getD []).length (avs (a[0]?.getD [])) :: mat a.tail = mat a := by cases a with | nil => simp at hl | cons x l => simp [mat]
    have r0 := hr.at (show 0 < a.length by omega)
    by_cases h4 : n + 1 ≤ 4
    · have h4' : (a.length : Int) ≤ 4 := by omega
      have e0 : ldet (n + 1) a = lsum (fun k => mx a 0 k * ldet n (minL a k) % 10007) (n + 1) := by rw [ldet, if_pos h4]
      rw [e0]
      refine con_of_vc Tryz.mixed ⟨13, [], [], []⟩ Tryz.func131 (by decide) rfl (by simp) (by decide) (by simp [freshOK, freshL, go_sem]) ?_
      rw [Tryz.ntmps131]
      simp [go_sem]
      simp [go_sem, h0, h4', ne]
      refine loop_inv (3 :: 4 :: 5 :: List.range' 19 26) (fun k : Nat => [(3, .int (lsum (fun k => mx a 0 k * ldet n (minL a k) % 10007) k)), (4, .int k)]) (fun k => k ≤ n + 1) (fun k => n + 1 - k) 0 (by simp) (by simp [go_sem, lsum]) (by simp [go_sem]) ?_
      intro k hk
      by_cases hkn : k < n + 1
      · have hki : (k : Int) < a.length := by omega
        have kr : k < (a[0]?.getD []).length := by omega
        have mm : (a[0]?.getD [])[k]?.getD 0 = mx a 0 k := rfl
        have cM := l01Minor_c a k (by omega) (by omega) rl (by omega)
        have ml := minL_len a k
        have mr := minL_ok hl hr hkn
        have cD := ih (minL a k) (by omega) mr
        rw [ml] at cD
        have dN := ldet_isN n (minL a k) (by omega) mr
        have f1 := mul_fits (r0.2.get k) dN
        have ls : lsum (fun k => mx a 0 k * ldet n (minL a k) % 10007) (k + 1) = if k % 2 = 0 then (lsum (fun k => mx a 0 k * ldet n (minL a k) % 10007) k + mx a 0 k * ldet n (minL a k) % 10007) % 10007 else (lsum (fun k => mx a 0 k * ldet n (minL a k) % 10007) k - mx a 0 k * ldet n (minL a k) % 10007) % 10007 := rfl
        have lN := lsum_N (t := fun k => mx a 0 k * ldet n (minL a k) % 10007) k
        have pN := isN_mod (mx a 0 k * ldet n (minL a k))
        simp [go_sem, hki, m0, avs_drop kr, mm]
        simp only [m1]
        have krn : ¬ a[0]?.getD [] = [] := fun e => by rw [e] at kr; simp at kr
        rw [mm] at f1
        refine ⟨by kernel_rfl, by omega, ⟨kr, krn⟩, ?_⟩
        refine CallD.of (cM) (by simp [roots, rootsL]) (by decide) ?_
        simp [go_sem]
        refine CallD.of (cD) (by simp [roots, rootsL]) (by decide) ?_
        simp [go_sem]
        refine CallD.of (l01Mul_c _ _ f1) (by simp [roots, rootsL]) (by decide) ?_
        simp [go_sem]
        refine ⟨by kernel_rfl, ?_⟩
        simp [go_sem]
        have kt : ((k : Nat) : Int).tmod 2 = ((k % 2 : Nat) : Int) := bit_cast k
        simp [go_sem, kt]
        generalize lsum (fun k => mx a 0 k * ldet n (minL a k) % 10007) k = L at *
        generalize mx a 0 k * ldet n (minL a k) % 10007 = p at *
        have fa := add_fits lN pN
        have fs := sub_fits lN pN
        refine ⟨fun h => ?_, fun h => ?_⟩ <;> simp at h
        · have h2 : k % 2 = 0 := by omega
          rw [if_pos h2] at ls
          simp [go_sem]
          refine CallVC.of (l01Add_c _ _ fa) (by decide) ?_
          simp [go_sem]
          exact ⟨by omega, k + 1, by omega, by omega, Off_reset _ _ _ (by simp), by rw [ls], by omega⟩
        · have h2 : ¬ k % 2 = 0 := by omega
          rw [if_neg h2] at ls
          simp [go_sem]
          refine CallVC.of (l01Sub_c _ _ fs) (by decide) ?_
          simp [go_sem]
          exact ⟨by omega, k + 1, by omega, by omega, Off_reset _ _ _ (by simp), by rw [ls], by omega⟩
      · have : k = n + 1 := by omega
        subst this
        have hki : ¬ (n : Int) + 1 < a.length := by omega
        simp [go_sem, hki]
    · have h4' : ¬ (a.length : Int) ≤ 4 := by omega
      have fl := fndR_le a 0 (n + 1) 0
      refine con_of_vc Tryz.mixed ⟨13, [], [], []⟩ Tryz.func131 (by decide) rfl (by simp) (by decide) (by simp [freshOK, freshL, go_sem]) ?_
      rw [Tryz.ntmps131]
      simp [go_sem]
      simp [go_sem, h0, h4', ne]
      refine loop_inv ([2] ++ List.range' 6 7 ++ List.range' 46 83) (fun i : Nat => [(6, .int i)]) (fun i => i ≤ n + 1 ∧ fndR a 0 (n + 1 - i) i = fndR a 0 (n + 1) 0) (fun i => n + 1 - i) 0 (by simp) (by simp [go_sem]) (by simp [go_sem]) ?_
      rintro i ⟨hi, hi2⟩
      by_cases hin : i < n + 1
      · have hii : (i : Int) < a.length := by omega
        have hia : i < a.length := by omega
        have ri := hr.at hia
        have k0 : 0 < (a[i]?.getD []).length := by omega
        have mm : (a[i]?.getD [])[0]?.getD 0 = mx a i 0 := rfl
        have di := avs_drop k0
        simp only [List.drop_zero] at di
        have hfi : fndR a 0 (n + 1 - i) i = if mx a i 0 = 0 then fndR a 0 (n + 1 - (i + 1)) (i + 1) else i := by
          rw [show n + 1 - i = (n + 1 - (i + 1)) + 1 by omega, fndR]
        have kne : ¬ a[i]?.getD [] = [] := fun e => by rw [e] at k0; simp at k0
        simp [go_sem, hii, mat_drop hia, di, mm]
        refine ⟨ne, k0, ?_⟩
        by_cases hz : mx a i 0 = 0
        · rw [if_pos hz] at hfi
          simp [go_sem, hz]
          exact ⟨by omega, i + 1, ⟨by omega, by rw [← hi2, hfi]⟩, by omega, Off_reset _ _ _ (by simp), by omega⟩
        · rw [if_neg hz, hi2] at hfi
          have xN := mx_N hr hia 0
          have e0 : ldet (n + 1) a = if i % 2 = 1 then (0 - mx a i 0 * ldet n (restL a i (pw (mx a i 0) 10005)) % 10007) % 10007 else mx a i 0 * ldet n (restL a i (pw (mx a i 0) 10005)) % 10007 := by
            rw [ldet, if_neg h4, hfi, if_neg (by omega)]
          rw [e0]
          clear e0 hi2
          have qN : isN (pw (mx a i 0) 10005) := isN_mod _
          simp [go_sem, hz, mat_drop hia, di, mm]
          refine ⟨⟨hia, ne⟩, k0, ?_⟩
          refine CallVC.of (l01Inv_c _ xN) (by decide) ?_
          simp [go_sem]
          generalize pw (mx a i 0) 10005 = q at *
          refine loop_inv ([7, 9, 10, 11] ++ List.range' 67 47) (fun k : Nat => [(7, .own 25 (cnt i k) (omat ((List.range (cnt i k)).map fun r => rowR a i q (skp i r)))), (9, .int k)]) (fun k => k ≤ n + 1) (fun k => n + 1 - k) 0 (by simp) (by simp [go_sem, cnt, omat]) (by simp [go_sem]) ?_
          intro k hk
          by_cases hkn : k < n + 1
          · have hkl : (k : Int) < a.length := by omega
            have hka : k < a.length := by omega
            by_cases hki : k = i
            · have hkii : (k : Int) = i := by omega
              have cs := cnt_same hki
              simp [go_sem, hkl, hkii, hii]
              exact ⟨by omega, k + 1, by omega, by omega, Off_reset _ _ _ (by simp), by rw [cs]; exact ⟨rfl, rfl⟩, by omega⟩
            · have hkii : ¬ (k : Int) = i := by omega
              have cs := cnt_next hki
              have rk := hr.at hka
              have kk0 : 0 < (a[k]?.getD []).length := by omega
              simp [go_sem, hkl, hkii]
              refine loop_inv ([10, 11] ++ List.range' 77 33) (fun j : Nat => [(10, .own 2 j (avs (tb (clrE a i q k) j))), (11, .int (j + 1))]) (fun j => j ≤ n) (fun j => n - j) 0 (by simp) (by simp [go_sem]) (by simp [go_sem]) ?_
              intro j hj
              by_cases hjn : j < n
              · have hjl : (j : Int) + 1 < a.length := by omega
                have jj : ((j : Int) + 1).toNat = j + 1 := by omega
                have dk0 : avs (a[k]?.getD []) = .val (.int .i64 (mx a k 0)) :: avs (a[k]?.getD []).tail := by
                  have := avs_drop kk0
                  rw [List.drop_zero, List.drop_one] at this
                  rw [this]; rfl
                have dk1 : (avs (a[k]?.getD []).tail).drop j = .val (.int .i64 (mx a k (j + 1))) :: avs ((a[k]?.getD []).drop (j + 2)) := by
                  rw [← List.drop_one, avs_drop (by simp; omega)]
                  congr 1
                  · simp [mx, Nat.add_comm]
                  · rw [List.drop_drop]; congr 2; omega
                have di1 : (avs (a[i]?.getD [])).drop (j + 1) = .val (.int .i64 (mx a i (j + 1))) :: avs ((a[i]?.getD []).drop (j + 2)) := by
                  rw [avs_drop (by omega)]; rfl
                have n1 := mx_N hr hka (j + 1)
                have n2 := mx_N hr hka 0
                have n3 := mx_N hr hia (j + 1)
                have f1 := mul_fits n2 qN
                have f2 := mul_fits (isN_mod (mx a k 0 * q)) n3
                have f3 := sub_fits n1 (isN_mod (mx a k 0 * q % 10007 * mx a i (j + 1)))
                have ts := tb_succ (clrE a i q k) j
                simp [go_sem, hjl, jj, mat_drop hka, mat_drop hia, dk0, dk1, di1]
                refine ⟨by kernel_rfl, ⟨hka, ne⟩, ⟨by omega, by omega⟩, ⟨hka, ne⟩, kk0, ?_⟩
                refine CallD.of (l01Mul_c _ _ f1) (by simp [roots, rootsL]) (by decide) ?_
                simp [go_sem]
                simp [go_sem, jj, mat_drop hia, di1]
                refine ⟨⟨hia, ne⟩, ⟨by omega, by omega, kne⟩, ?_⟩
                refine CallD.of (l01Mul_c _ _ f2) (by simp [roots, rootsL]) (by decide) ?_
                simp [go_sem]
                refine CallD.of (l01Sub_c _ _ f3) (by simp [roots, rootsL]) (by decide) ?_
                simp [go_sem]
                refine ⟨by omega, ?_⟩
                refine ⟨by kernel_rfl, ?_⟩
                simp [go_sem]
                exact ⟨⟨by omega, by omega⟩, j + 1, by omega, by omega, Off_reset _ _ _ (by simp), by rw [ts, avs_snoc, clrE_is]; exact ⟨rfl, rfl⟩, by omega⟩
              · have e2 : j = n := by omega
                subst e2
                have hjl : ¬ (j : Int) + 1 < a.length := by omega
                have e4 : tb (clrE a i q k) j = rowR a i q k := by unfold rowR; rw [hl, Nat.add_sub_cancel]
                have e5 : omat ((List.range (cnt i k + 1)).map fun r => rowR a i q (skp i r)) = omat ((List.range (cnt i k)).map fun r => rowR a i q (skp i r)) ++ [.own 2 j (avs (rowR a i q k))] := by
                  have rl2 : (rowR a i q k).length = j := by unfold rowR; simp; omega
                  rw [omat_range_succ, cs.2, rl2]
                have cb : cnt i k ≤ k := by unfold cnt; split <;> omega
                simp [go_sem, hjl]
                exact ⟨by omega, by omega, k + 1, by omega, by omega, (Off.reset (by intro x hx; simp at hx ⊢; omega) (by simp) (by simp [go_sem, Off_reset])), by rw [cs.1, e5, e4]; exact ⟨rfl, rfl⟩, by omega⟩
          · have e1 : k = n + 1 := by omega
            subst e1
            have hki : ¬ (n : Int) + 1 < a.length := by omega
            have ec : cnt i (n + 1) = n := by unfold cnt; split <;> omega
            have er := restL_eq a i q
            rw [hl, Nat.add_sub_cancel] at er
            have ro := restL_ok hl i q
            have cD := ih (restL a i q) ro.1 ro.2
            rw [ro.1] at cD
            have dN := ldet_isN n (restL a i q) ro.1 ro.2
            rw [ec, ← er]
            have f1 := mul_fits xN dN
            have f2 := sub_fits (show isN 0 from ⟨by omega, by omega⟩) (isN_mod (mx a i 0 * ldet n (restL a i q)))
            simp [go_sem, hki, mat_drop hia, di, mm]
            refine ⟨by kernel_rfl, ⟨hia, ne⟩, k0, ?_⟩
            refine CallD.of (cD) (by simp [roots, rootsL]) (by decide) ?_
            simp [go_sem]
            refine CallD.of (l01Mul_c _ _ f1) (by simp [roots, rootsL]) (by decide) ?_
            simp [go_sem]
            refine ⟨by kernel_rfl, ?_⟩
            simp [go_sem]
            refine ⟨fun h => ?_, fun h => ?_⟩ <;> simp at h
            · have h2 : i % 2 = 1 := by have := bit_cast i; omega
              rw [if_pos h2]
              simp [go_sem]
              refine CallVC.of (l01Sub_c _ _ f2) (by decide) ?_
              simp [go_sem]
            · have h2 : ¬ i % 2 = 1 := by have := bit_cast i; omega
              rw [if_neg h2]
              simp [go_sem]
      · have : i = n + 1 := by omega
        subst this
        have hki : ¬ (n : Int) + 1 < a.length := by omega
        rw [Nat.sub_self, fndR] at hi2
        have e0 : ldet (n + 1) a = 0 := by rw [ldet, if_neg h4, if_pos hi2.symm]
        rw [e0]
        simp [go_sem, hki]
end Go.Proofs.YtnokgijakdaehaaGreatDoor


namespace Go.Proofs.YtnokgijakdaehaaGreatDoor
open Go.Abs
set_option linter.unusedSectionVars false
set_option linter.unusedVariables false
set_option linter.unusedSimpArgs false
set_option maxHeartbeats 4000000
theorem omat_kl (W : List Nat) (A : List (List Int)) : klL W (omat A) = omat A := by
  induction A with
  | nil => rfl
  | cons r A ih => simp only [omat, List.map_cons] at ih ⊢; rw [klL, ih]; rfl
def sysF (n : Nat) (a : List (List Int)) (b : List Int) (k : Nat) : Int := ldet n (repL a k b) * pw (ldet n a) 10005 % 10007
def solX (n : Nat) (a : List (List Int)) (b : List Int) : List Int := if ldet n a = 0 then [] else tb (sysF n a b) n
def solR (n : Nat) (a : List (List Int)) (b : List Int) : AV := .tup [.own 2 (solX n a b).length (avs (solX n a b)), .bool (decide (ldet n a ≠ 0))]
theorem repL_row {a : List (List Int)} {k i : Nat} {b : List Int} (hi : i < a.length) : (repL a k b)[i]?.getD [] = (a[i]?.getD []).set k (b[i]?.getD 0) := by simp [repL, hi]
set_option maxRecDepth 100000 in
theorem l01Solve_c {n : Nat} (a : List (List Int)) (b : List Int) (hl : a.length = n) (hn : n ≤ 100) (hr : Rws n a) (hb : Ns b) (hbl : n ≤ b.length) :
    Con Tryz.prog 60 [.sl a.length (mat a), .sl b.length (avs b)] (solR n a b) := by
  have cD := l01Det_c n a hl hn hr
  have dN := ldet_isN n a hl hr
  unfold solR solX
  by_cases h0 : ldet n a = 0
  · rw [if_pos h0]
    simp only [h0, ne_eq, not_true_eq_false, decide_false]
    refine Con.n1 _ ?_
    rw [h0] at cD
    refine con_of_vc Tryz.mixed ⟨11, [], [], []⟩ Tryz.func60 (by decide) rfl (by simp) (by decide) (by simp [freshOK, freshL, go_sem]) ?_
    rw [Tryz.ntmps60]
    simp [go_sem]
    refine CallVC.of (cD) (by decide) ?_
    simp [go_sem]
  · rw [if_neg h0]
    simp only [h0, ne_eq, not_false_eq_true, decide_true, tb_len]
    have sF : ∀ k, sysF n a b k = ldet n (repL a k b) * pw (ldet n a) 10005 % 10007 := fun k => rfl
    generalize ldet n a = d at *
    refine con_of_vc Tryz.mixed ⟨11, [], [], []⟩ Tryz.func60 (by decide) rfl (by simp) (by decide) (by simp [freshOK, freshL, go_sem]) ?_
    rw [Tryz.ntmps60]
    simp [go_sem]
    refine CallVC.of (cD) (by decide) ?_
    simp [go_sem]
    simp [go_sem, h0]
    refine loop_inv ([7, 8, 9, 10] ++ List.range' 16 32) (fun k : Nat => [(7, .own 2 k (avs (tb (sysF n a b) k))), (8, .int k)]) (fun k => k ≤ n) (fun k => n - k) 0 (by simp) (by simp [go_sem]) (by simp [go_sem]) ?_
    intro k hk
    by_cases hkn : k < n
    · have hki : (k : Int) < a.length := by omega
      have rl : ∀ r ∈ a, r.length ≤ 1048576 := fun r h => by have := (hr r h).1; omega
      have cO := l01Own2_c a (by omega) rl
      have ro := repL_ok (b := b) hl hr hb k
      have rw' : ∀ i, i < a.length → (repL a k b)[i]?.getD [] = (a[i]?.getD []).set k (b[i]?.getD 0) := fun i hi => repL_row hi
      have cR := l01Det_c n (repL a k b) ro.1 hn ro.2
      have cR : Con Tryz.prog 131 [.sl a.length (mat (repL a k b))] (.int (ldet n (repL a k b))) := by rw [ro.1] at cR; rw [hl]; exact cR
      have rN := ldet_isN n (repL a k b) ro.1 ro.2
      have hsf := sF k
      generalize repL a k b = B at *
      simp [go_sem, hki]
      refine CallVC.of (cO) (by decide) ?_
      simp [go_sem]
      refine loop_inv ([10] ++ List.range' 24 16 ++ [9]) (fun i : Nat => [(9, .own 25 a.length (omat (mxR a B i))), (10, .int i)]) (fun i => i ≤ n) (fun i => n - i) 0 (by simp) (by simp [go_sem, mxR_zero]) (by simp [go_sem, omat_kl]) ?_
      intro i hi
      by_cases hin : i < n
      · have hii : (i : Int) < a.length := by omega
        have hia : i < a.length := by omega
        have Ml := mxR_len (A := a) (C := B) (by omega) (show i ≤ a.length by omega)
        have hg := omat_get (A := mxR a B i) (k := i) (by omega)
        have hgi : (mxR a B i)[i]?.getD [] = a[i]?.getD [] := by rw [mxR_get (by omega) (by omega), if_neg (by omega)]
        rw [hgi] at hg
        have hset := omat_set (mxR a B i) i (B[i]?.getD [])
        rw [mxR_set (by omega) hia] at hset
        have hnew := rw' i hia
        have ri := hr.at hia
        have hkr : k < (a[i]?.getD []).length := by omega
        have hib : i < b.length := by omega
        generalize mxR a B i = M at *
        generalize B[i]?.getD [] = new at *
        generalize a[i]?.getD [] = old at *
        have bne : ¬ b = [] := by rintro rfl; simp at hib
        simp [go_sem, hii, hg, avs_drop hib]
        refine ⟨by kernel_rfl, ⟨hib, bne⟩, hkr, ?_⟩
        refine ⟨by kernel_rfl, ?_⟩
        simp [go_sem]
        exact ⟨by omega, i + 1, by omega, by omega, Off_reset _ _ _ (by simp), by rw [← hset, hnew, List.length_set, avs_set], by omega⟩
      · have e : i = n := by omega
        subst e
        have hii : ¬ (i : Int) < a.length := by omega
        have hall := mxR_all (A := a) (C := B) (by omega)
        rw [hl] at hall
        rw [hall]
        have ts := tb_succ (sysF i a b) k
        have f1 : fits (ldet i B * pw d 10005) := mul_fits rN (isN_mod _)
        simp [go_sem, hii]
        refine CallVC.of (cR) (by decide) ?_
        simp [go_sem]
        refine CallVC.of (l01Inv_c _ dN) (by decide) ?_
        simp [go_sem]
        refine CallVC.of (l01Mul_c _ _ f1) (by decide) ?_
        simp [go_sem]
        rw [← hsf]
        exact ⟨by omega, by omega, k + 1, by omega, by omega, (Off.reset (by intro x hx; simp at hx ⊢; omega) (by simp) (by simp [go_sem, Off_reset])), by rw [ts, avs_snoc]; exact ⟨rfl, rfl⟩, by omega⟩
    · have e : k = n := by omega
      subst e
      have hki : ¬ (k : Int) < a.length := by omega
      simp [go_sem, hki]
end Go.Proofs.YtnokgijakdaehaaGreatDoor


namespace Go.Proofs.YtnokgijakdaehaaGreatDoor
open Go.Abs
set_option linter.unusedSectionVars false
set_option linter.unusedVariables false
set_option linter.unusedSimpArgs false
set_option maxHeartbeats 4000000
theorem colS_is {n : Nat} {b : List (List Int)} (hr : Rws n b) (k : Nat) : Ns (colS b k) := tb_N fun i hi => (hr.at hi).2.get k
set_option maxRecDepth 100000 in
theorem timesMatrix_c {n : Nat} (a b : List (List Int)) (ha : a.length ≤ 64) (hn : n ≤ 64) (hr : Rws n a) (h0 : 0 < b.length) (hb : b.length = n) {w : Nat} (hw : w ≤ 64) (hrb : Rws w b) :
    Con Tryz.prog 50 [.sl a.length (mat a), .sl b.length (mat b)] (.own 25 a.length (omat (tmM a b))) := by
  have q0 := (hrb.at h0).1
  have m0 := mat_drop (xss := b) (k := 0) h0
  simp only [List.drop_zero] at m0
  have m1 : AV.sl (b[0]?.getD []).length (avs (b[0]?.getD [])) :: mat b.tail = mat b := by cases b with | nil => simp at h0 | cons x l => simp [mat]
  have hd : tmM a b = (List.range a.length).map fun i => tb (fun k => dotI (a[i]?.getD []) (colS b k) % 10007) w := by unfold tmM; rw [q0]
  have bne : ¬ b = [] := by rintro rfl; simp at h0
  rw [hd]
  refine con_of_vc Tryz.mixed ⟨10, [], [], []⟩ Tryz.func50 (by decide) rfl (by simp) (by decide) (by simp [freshOK, freshL, go_sem]) ?_
  rw [Tryz.ntmps50]
  simp [go_sem]
  refine loop_inv ([5, 7, 8, 9] ++ List.range' 13 26) (fun i : Nat => [(5, .own 25 i (omat ((List.range i).map fun i => tb (fun k => dotI (a[i]?.getD []) (colS b k) % 10007) w))), (13, .int i)]) (fun i => i ≤ a.length) (fun i => a.length - i) 0 (by simp) (by simp [go_sem, omat]) (by simp [go_sem]) ?_
  intro i hi
  by_cases hin : i < a.length
  · have hii : (i : Int) < a.length := by omega
    have ri := hr.at hin
    have os := omat_range_succ (fun i => tb (fun k => dotI (a[i]?.getD []) (colS b k) % 10007) w) i
    have ane : ¬ a = [] := by rintro rfl; simp at hin
    rw [tb_len] at os
    generalize hrow : a[i]?.getD [] = row at *
    simp [go_sem, hii, mat_drop hin, hrow, m0]
    simp only [m1]
    refine ⟨ane, h0, ?_⟩
    have ex : ∀ k, tb (fun k => dotI row (colS b k) % 10007) (k + 1) = tb (fun k => dotI row (colS b k) % 10007) k ++ [dotI row (colS b k) % 10007] := fun k => tb_succ _ k
    refine loop_inv ([8, 9] ++ List.range' 22 12) (fun k : Nat => [(8, .own 2 k (avs (tb (fun k => dotI row (colS b k) % 10007) k))), (22, .int k)]) (fun k => k ≤ w) (fun k => w - k) 0 (by simp) (by simp [go_sem]) (by simp [go_sem]) ?_
    intro k hk
    by_cases hkw : k < w
    · have hki : (k : Int) < (b[0]?.getD []).length := by omega
      have cC := column_c b k (by omega) (fun r h => by have := (hrb r h).1; omega) (by omega)
      have cD := dot_c row (colS b k) (by rw [colS_len]; omega) (by omega) ri.2 (colS_is hrb k)
      rw [colS_len] at cD
      simp [go_sem, hki]
      refine CallVC.of (cC) (by decide) ?_
      simp [go_sem]
      refine CallVC.of (cD) (by decide) ?_
      simp [go_sem]
      exact ⟨⟨by omega, by omega⟩, by omega, k + 1, by omega, by omega, Off_reset _ _ _ (by simp), by rw [ex, avs_snoc]; exact ⟨rfl, rfl⟩, by omega⟩
    · have e : k = w := by omega
      subst e
      have hki : ¬ (k : Int) < (b[0]?.getD []).length := by omega
      simp [go_sem, hki]
      exact ⟨⟨by omega, by omega⟩, by omega, i + 1, by omega, by omega, (Off.reset (by intro x hx; simp at hx ⊢; omega) (by simp) (by simp [go_sem, Off_reset])), by rw [os]; exact ⟨rfl, rfl⟩, by omega⟩
  · have e : i = a.length := by omega
    subst e
    simp [go_sem]
theorem zeroMatrix_c (n : Nat) (hn : n ≤ 64) : Con Tryz.prog 123 [.int n] (.own 25 n (omat (zeM n))) := by
  have hd : zeM n = (List.range n).map fun _ => List.replicate n 0 := rfl
  rw [hd]
  refine con_of_vc Tryz.mixed ⟨4, [], [], []⟩ Tryz.func123 (by decide) rfl (by simp) (by decide) (by simp [freshOK, freshL, go_sem]) ?_
  rw [Tryz.ntmps123]
  simp [go_sem]
  refine loop_inv ([3] ++ List.range' 6 8) (fun i : Nat => [(3, .own 25 i (omat ((List.range i).map fun _ => List.replicate n 0))), (6, .int i)]) (fun i => i ≤ n) (fun i => n - i) 0 (by simp) (by simp [go_sem, omat]) (by simp [go_sem]) ?_
  intro i hi
  by_cases hin : i < n
  · have hii : (i : Int) < n := by omega
    have os := omat_range_succ (fun _ => List.replicate n 0) i
    have rp := avs_repl n 0
    rw [List.length_replicate] at os
    simp [go_sem, hii, hin]
    exact ⟨⟨by omega, by omega⟩, ⟨by omega, by omega⟩, ⟨by omega, by omega⟩, i + 1, by omega, by omega, Off_reset _ _ _ (by simp), by rw [os, rp]; exact ⟨rfl, rfl⟩, by omega⟩
  · have e : i = n := by omega
    subst e
    simp [go_sem]
set_option maxRecDepth 100000 in
theorem addUnit_c {n : Nat} (a : List (List Int)) (k : Int) (hl : a.length = n) (hn : n ≤ 64) (hr : Rws n a) (hk : isN k) : Con Tryz.prog 125 [.sl a.length (mat a), .int k] (.own 25 a.length (omat (adU a k))) := by
  have cC := cloneRows_c a (by omega) (fun r h => by have := (hr r h).1; omega)
  have al := adU_len a k
  refine con_of_vc Tryz.mixed ⟨7, [], [], []⟩ Tryz.func125 (by decide) rfl (by simp) (by decide) (by simp [freshOK, freshL, go_sem]) ?_
  rw [Tryz.ntmps125]
  simp [go_sem]
  refine CallVC.of (cC) (by decide) ?_
  simp [go_sem]
  refine loop_inv ([5, 6] ++ List.range' 11 20) (fun i : Nat => [(5, .own 25 a.length (omat (mxR a (adU a k) i))), (11, .int i)]) (fun i => i ≤ a.length) (fun i => a.length - i) 0 (by simp) (by simp [go_sem, mxR_zero]) (by simp [go_sem, omat_kl]) ?_
  intro i hi
  by_cases hin : i < a.length
  · have hii : (i : Int) < a.length := by omega
    have hg := omat_get (A := mxR a (adU a k) i) (k := i) (by rw [mxR_len al hi]; exact hin)
    have hgi : (mxR a (adU a k) i)[i]?.getD [] = a[i]?.getD [] := by rw [mxR_get al hi, if_neg (by omega)]
    rw [hgi] at hg
    have hset := omat_set (mxR a (adU a k) i) i ((adU a k)[i]?.getD [])
    rw [mxR_set al hin] at hset
    have hnew := adU_row (k := k) hin
    have ri := hr.at hin
    have hkr : i < (a[i]?.getD []).length := by omega
    have nN := ri.2.get i
    have f1 := add_fits nN hk
    generalize mxR a (adU a k) i = M at *
    generalize (adU a k)[i]?.getD [] = new at *
    generalize a[i]?.getD [] = old at *
    simp [go_sem, hii, hg, avs_at hkr, avs_drop hkr]
    refine ⟨by kernel_rfl, hkr, f1, ?_⟩
    refine CallD.of (num_c _ f1.1 f1.2) (by simp [roots, rootsL]) (by decide) ?_
    simp [go_sem]
    simp [go_sem, hg]
    refine ⟨hkr, ?_⟩
    refine ⟨by kernel_rfl, ?_⟩
    simp [go_sem]
    exact ⟨by omega, i + 1, by omega, by omega, Off_reset _ _ _ (by simp), by rw [← hset, hnew, List.length_set, avs_set], by omega⟩
  · have e : i = a.length := by omega
    subst e
    rw [mxR_all al]
    simp [go_sem]
theorem lengthM_c (n : Nat) (cs : List AV) (hn : n ≤ 9223372036854775807) : Con Tryz.prog 115 [.sl n cs] (.int n) := by
  refine con_of_vc Tryz.mixed ⟨3, [], [], []⟩ Tryz.func115 (by decide) rfl (by simp) (by decide) (by simp [freshOK, freshL, go_sem]) ?_
  rw [Tryz.ntmps115]
  simp [go_sem]
set_option maxRecDepth 100000 in
theorem unitLess_c {n : Nat} (a : List (List Int)) (h0 : 0 < n) (h8 : n ≤ 8) (hl : a.length = n) (hr : Rws n a) : Con Tryz.prog 118 [.sl a.length (mat a)] (.own 2 (n + 1) (avs (chL n a))) := by
  have cZ := zeroMatrix_c n (by omega)
  have z := zeM_ok n
  have cU := addUnit_c (n := n) (zeM n) 1 z.1 (by omega) z.2 ⟨by omega, by omega⟩
  rw [z.1, fl_start n (mx a)] at cU
  have ad := adM_ok n (mx a)
  have cd : chL n a = tb (fun k => chS n (mx a) k % 10007) (n + 1) := rfl
  have c0 : tb (fun k => chS n (mx a) k % 10007) (0 + 1) = [1] := by rw [tb_succ]; simp [ch_0]
  have tl : ∀ k, (tmM a (adM n (mx a) k)).length = n := fun k => by rw [tmM_len]; exact hl
  have tr : ∀ k, Rws n (tmM a (adM n (mx a) k)) := fun k => by
    have := tmM_ok a (adM n (mx a) k)
    rwa [((ad k).2.at (show 0 < (adM n (mx a) k).length by rw [(ad k).1]; exact h0)).1] at this
  rw [cd]
  refine con_of_vc Tryz.mixed ⟨9, [], [], []⟩ Tryz.func118 (by decide) rfl (by simp) (by decide) (by simp [freshOK, freshL, go_sem]) ?_
  rw [Tryz.ntmps118]
  simp [go_sem]
  simp [go_sem, hl]
  refine CallVC.of (cZ) (by decide) ?_
  simp [go_sem]
  refine CallVC.of (cU) (by decide) ?_
  simp [go_sem]
  refine loop_inv ([3, 4, 5, 6, 7, 8] ++ List.range' 14 38) (fun k : Nat => [(3, .own 2 (k + 1) (avs (tb (fun k => chS n (mx a) k % 10007) (k + 1)))), (4, .own 25 n (omat (adM n (mx a) k))), (5, .int (k + 1))]) (fun k => k ≤ n) (fun k => n - k) 0 (by simp) (by simp [go_sem, c0]; rfl) (by simp [go_sem, omat_kl]) ?_
  intro k hk
  have cL := lengthM_c a.length (mat a) (by omega)
  simp [go_sem, hl]
  rw [hl] at cL
  refine CallVC.of (cL) (by decide) ?_
  simp [go_sem]
  by_cases hkn : k < n
  · have hki : (k : Int) + 1 ≤ n := by omega
    have cT := timesMatrix_c a (adM n (mx a) k) (by omega) (show n ≤ 64 by omega) hr (by rw [(ad k).1]; exact h0) (ad k).1 (show n ≤ 64 by omega) (ad k).2
    rw [(ad k).1, hl] at cT
    have tb' := trU_bound (tl k) (tr k) n (Nat.le_refl _)
    have fc := fl_coef h8 hl hr k hkn
    have fn := fl_next h0 hl hr k
    have cA := addUnit_c (n := n) (tmM a (adM n (mx a) k)) (chS n (mx a) (k + 1) % 10007) (tl k) (by omega) (tr k) (isN_mod _)
    rw [fn, tl k] at cA
    have ts := tb_succ (fun k => chS n (mx a) k % 10007) (k + 1)
    have trN := fun i hi => trU_bound (tl k) (tr k) i hi
    have mN := fun i (hi : i < n) => mx_N (tr k) (show i < (tmM a (adM n (mx a) k)).length by rw [tl k]; exact hi) i
    have tlk := tl k
    have trk := tr k
    generalize tmM a (adM n (mx a) k) = T at *
    have cI := inv_c ((k : Int) + 1) ⟨by omega, by omega⟩
    simp [go_sem, hki]
    refine CallVC.of (cT) (by decide) ?_
    simp [go_sem]
    refine loop_inv ([6, 7] ++ List.range' 25 13) (fun i : Nat => [(6, .int (trU T i)), (25, .int i)]) (fun i => i ≤ n) (fun i => n - i) 0 (by simp) (by simp [go_sem, trU]) (by simp [go_sem]) ?_
    intro i hi
    by_cases hin : i < n
    · have hii : (i : Int) < n := by omega
      have ri := trk.at (show i < T.length by omega)
      have hkr : i < (T[i]?.getD []).length := by omega
      have hg := omat_get (A := T) (k := i) (by omega)
      have mm : (T[i]?.getD [])[i]?.getD 0 = mx T i i := rfl
      have b1 := trN i hi
      have b2 := mN i hin
      obtain ⟨b3, b4⟩ := b2
      have ps : trU T (i + 1) = trU T i + mx T i i := rfl
      simp [go_sem, hii, hg, avs_at hkr, avs_drop hkr, mm]
      exact ⟨hkr, ⟨by omega, by omega⟩, ⟨by omega, by omega⟩, i + 1, by omega, by omega, Off_reset _ _ _ (by simp), by rw [ps], by omega⟩
    · have e : i = n := by omega
      subst e
      have hii : ¬ (i : Int) < i := by omega
      have hb := mul_bound (isN_mod (trU T i)) (show isN (pw ((k : Int) + 1) 10005) from isN_mod _)
      have f1 : fits (-(trU T i % 10007) * pw ((k : Int) + 1) 10005) := by
        rw [Int.neg_mul]
        exact ⟨by omega, by omega⟩
      have tn := isN_mod (trU T i)
      simp [go_sem, hii]
      refine CallVC.of (num_c _ (by omega) (by omega)) (by decide) ?_
      simp [go_sem]
      refine ⟨⟨by have := tn.2; omega, by have := tn.1; omega⟩, ?_⟩
      refine CallVC.of (cI) (by decide) ?_
      simp [go_sem]
      refine ⟨f1, ?_⟩
      refine CallVC.of (num_c _ f1.1 f1.2) (by decide) ?_
      simp [go_sem]
      rw [fc]
      refine ⟨⟨by omega, by omega⟩, ?_⟩
      refine CallVC.of (cA) (by decide) ?_
      simp [go_sem]
      exact ⟨⟨by omega, by omega⟩, k + 1, by omega, by omega, (Off.reset (by intro x hx; simp at hx ⊢; omega) (by simp) (by simp [go_sem, Off_reset])), by rw [ts, avs_snoc]; exact ⟨rfl, rfl⟩, rfl, by omega⟩
  · have e : k = n := by omega
    subst e
    have hki : ¬ (k : Int) + 1 ≤ k := by omega
    simp [go_sem, hki]
end Go.Proofs.YtnokgijakdaehaaGreatDoor


namespace Go.Proofs.YtnokgijakdaehaaGreatDoor
open Go.Abs
set_option linter.unusedSectionVars false
set_option linter.unusedVariables false
set_option linter.unusedSimpArgs false
set_option maxHeartbeats 4000000
def unR (n i : Nat) : List Int := tb (fun c => if c = i then 1 else 0) n
def unM (n : Nat) : List (List Int) := (List.range n).map (unR n)
theorem unR_set {n i : Nat} (h : i < n) : (List.replicate n (0 : Int)).set i 1 = unR n i := by
  refine List.ext_getElem (by simp [unR]) fun c h1 h2 => ?_
  rw [List.getElem_set]
  simp only [unR, tb, List.getElem_map, List.getElem_range]
  by_cases e : i = c
  · subst e; simp
  · rw [if_neg e, if_neg (fun x => e x.symm)]; simp
theorem unM_ok (n : Nat) : (unM n).length = n ∧ Rws n (unM n) := by
  refine ⟨by simp [unM], fun x hx => ?_⟩
  obtain ⟨i, _, rfl⟩ := List.mem_map.1 hx
  exact ⟨by simp [unR], tb_N fun k _ => by split <;> exact ⟨by omega, by omega⟩⟩
theorem unM_row {n i : Nat} (h : i < n) : (unM n)[i]?.getD [] = unR n i := by simp [unM, h]
theorem l19Unit_c (n : Nat) (hn : n ≤ 64) : Con Tryz.prog 58 [.int n] (.own 25 n (omat (unM n))) := by
  have hd : unM n = (List.range n).map (unR n) := rfl
  rw [hd]
  refine con_of_vc Tryz.mixed ⟨6, [], [], []⟩ Tryz.func58 (by decide) rfl (by simp) (by decide) (by simp [freshOK, freshL, go_sem]) ?_
  rw [Tryz.ntmps58]
  simp [go_sem]
  refine loop_inv ([3, 4, 5] ++ List.range' 7 14) (fun i : Nat => [(3, .own 25 i (omat ((List.range i).map (unR n)))), (4, .int i)]) (fun i => i ≤ n) (fun i => n - i) 0 (by simp) (by simp [go_sem, omat]) (by simp [go_sem]) ?_
  intro i hi
  by_cases hin : i < n
  · have hii : (i : Int) < n := by omega
    have os := omat_range_succ (unR n) i
    have rp := avs_repl n 0
    have rs := unR_set hin
    have ul : (unR n i).length = n := by simp [unR]
    rw [ul] at os
    simp [go_sem, hii, hin, rp]
    exact ⟨⟨by omega, by omega⟩, ⟨by omega, by omega⟩, ⟨by omega, by omega⟩, i + 1, by omega, by omega, Off_reset _ _ _ (by simp), by rw [os, avs_set, rs]; exact ⟨rfl, rfl⟩, by omega⟩
  · have e : i = n := by omega
    subst e
    simp [go_sem]
theorem unlR_is {n : Nat} {a : List (List Int)} {i : Nat} (ha : (a[i]?.getD []).length = n) (z : Nat) :
    tb (fun c => ((unR n i)[c]?.getD 0 + (tb (fun c => (a[i]?.getD [])[c]?.getD 0 * ((0 - (z : Int)) % 10007) % 10007) n)[c]?.getD 0) % 10007) n = unlR n a z i := by
  unfold unlR tb
  refine List.map_congr_left fun c hc => ?_
  have hc : c < n := by simpa using hc
  have e1 : (unR n i)[c]?.getD 0 = if c = i then 1 else 0 := tb_get (fun c => if c = i then 1 else 0) hc
  have e2 := tb_get (fun c => (a[i]?.getD [])[c]?.getD 0 * ((0 - (z : Int)) % 10007) % 10007) hc
  unfold tb at e2
  rw [e1, e2]
theorem unlL_row {n : Nat} {a : List (List Int)} {z i : Nat} (h : i < n) : (unlL n a z)[i]?.getD [] = unlR n a z i := by simp [unlL, h]
theorem interp_X {n : Nat} (h8 : n ≤ 8) (a : List (List Int)) : solX (n + 1) (vanL n) (valL n a) = chL n a := by
  unfold solX
  rw [if_neg (van_ne h8)]
  refine List.ext_getElem (by simp) fun k h1 h2 => ?_
  have hk : k < n + 1 := by simpa using h2
  have e := interp_is h8 a k hk
  simp only [tb, List.getElem_map, List.getElem_range]
  show sysF (n + 1) (vanL n) (valL n a) k = _
  unfold sysF
  rw [e, List.getElem?_eq_getElem h2]; rfl
set_option maxRecDepth 100000 in
theorem l19Det_c {n : Nat} (a : List (List Int)) (h8 : n ≤ 8) (hl : a.length = n) (hr : Rws n a) : Con Tryz.prog 127 [.sl a.length (mat a)] (.own 2 (n + 1) (avs (chL n a))) := by
  have cU := l19Unit_c n (by omega)
  have cS := l01Solve_c (n := n + 1) (vanL n) (valL n a) (vanL_len n) (by omega) (vanL_ok n) (valL_N n a) (by simp [valL])
  have vl : (valL n a).length = n + 1 := by simp [valL]
  have ie := interp_X h8 a
  unfold solR at cS
  rw [ie, vanL_len, vl, chL_len] at cS
  have hv : vanL n = (List.range (n + 1)).map fun (z : Nat) => tb (fun k => pw (z : Int) (k : Int)) (n + 1) := rfl
  have hw : valL n a = tb (fun z => ldet n (unlL n a z)) (n + 1) := rfl
  refine con_of_vc Tryz.mixed ⟨13, [], [], []⟩ Tryz.func127 (by decide) rfl (by simp) (by decide) (by simp [freshOK, freshL, go_sem]) ?_
  rw [Tryz.ntmps127]
  simp [go_sem]
  simp [go_sem, hl]
  refine loop_inv ([4, 5, 6, 7, 8, 9, 10] ++ List.range' 17 48) (fun z : Nat => [(4, .own 25 z (omat ((List.range z).map fun (z : Nat) => tb (fun k => pw (z : Int) (k : Int)) (n + 1)))), (5, .own 2 z (avs (tb (fun z => ldet n (unlL n a z)) z))), (6, .int z)]) (fun z => z ≤ n + 1) (fun z => n + 1 - z) 0 (by simp) (by simp [go_sem, omat]) (by simp [go_sem]) ?_
  intro z hz
  by_cases hzn : z ≤ n
  · have hzi : (z : Int) ≤ n := by omega
    have uo := unlL_ok n a z
    have cD := l01Det_c n (unlL n a z) uo.1 (by omega) uo.2
    rw [uo.1] at cD
    have dN := ldet_isN n (unlL n a z) uo.1 uo.2
    have ts := tb_succ (fun z => ldet n (unlL n a z)) z
    have os := omat_range_succ (fun (z : Nat) => tb (fun k => pw (z : Int) (k : Int)) (n + 1)) z
    rw [tb_len] at os
    have uM := unM_ok n
    have ur := fun i (h : i < n) => unlL_row (a := a) (z := z) h
    generalize hU : unlL n a z = U at *
    simp [go_sem, hzi, hzn]
    refine CallVC.of (cU) (by decide) ?_
    simp [go_sem]
    refine loop_inv ([8] ++ List.range' 24 20 ++ [7]) (fun i : Nat => [(7, .own 25 n (omat (mxR (unM n) U i))), (8, .int i)]) (fun i => i ≤ n) (fun i => n - i) 0 (by simp) (by simp [go_sem, mxR_zero]) (by simp [go_sem, omat_kl]) ?_
    intro i hi
    by_cases hin : i < n
    · have hii : (i : Int) < n := by omega
      have hia : i < a.length := by omega
      have ane : ¬ a = [] := by rintro rfl; simp at hia
      have hg := omat_get (A := mxR (unM n) U i) (k := i) (by rw [mxR_len (by omega) (by omega)]; omega)
      have Ml := mxR_len (A := unM n) (C := U) (by omega) (show i ≤ (unM n).length by omega)
      have hgi : (mxR (unM n) U i)[i]?.getD [] = unR n i := by rw [mxR_get (by omega) (by omega), if_neg (by omega), unM_row hin]
      rw [hgi] at hg
      have hset := omat_set (mxR (unM n) U i) i (U[i]?.getD [])
      rw [mxR_set (by omega) (by omega), ur i hin] at hset
      have ul : (unR n i).length = n := by simp [unR]
      have rl : (unlR n a z i).length = n := by simp [unlR]
      have ri := hr.at hia
      have uN : Ns (unR n i) := by rw [← unM_row hin]; exact (uM.2.at (by omega)).2
      have hRi := unlR_is ri.1 z
      have cT := l02Times_c (a[i]?.getD []) ((0 - (z : Int)) % 10007) ri.2 (isN_mod _) (by omega)
      have cA := l02Add_c (unR n i) (tb (fun c => (a[i]?.getD [])[c]?.getD 0 * ((0 - (z : Int)) % 10007) % 10007) n) uN (tb_N fun k _ => isN_mod _) (by omega) (by rw [ul, tb_len]; omega)
      rw [ri.1] at cT
      rw [ul, tb_len, hRi] at cA
      rw [rl] at hset
      generalize tb (fun c => (a[i]?.getD [])[c]?.getD 0 * ((0 - (z : Int)) % 10007) % 10007) n = tt at *
      generalize mxR (unM n) U i = M at *
      generalize unlR n a z i = new at *
      generalize unR n i = old at *
      have f1 := sub_fits (show isN 0 from ⟨by omega, by omega⟩) (show isN (z : Int) from ⟨by omega, by omega⟩)
      rw [ul] at hg
      rw [Int.zero_sub] at cT
      rw [← ri.1] at cT
      simp [go_sem, hii, hg, mat_drop hia]
      refine ⟨by kernel_rfl, ane, ?_⟩
      have cA2 : Con Tryz.prog 129 [.sl n (avs old), .sl (a[i]?.getD []).length (avs tt)] (.own 2 n (avs new)) := by rw [ri.1]; exact cA
      refine CallD.of (l01Sub_c _ _ f1) (by simp [roots, rootsL]) (by decide) ?_
      simp [go_sem]
      refine CallD.of (cT) (by simp [roots, rootsL]) (by decide) ?_
      simp [go_sem]
      simp [go_sem, hg]
      refine CallD.of (cA2) (by simp [roots, rootsL]) (by decide) ?_
      simp [go_sem]
      refine ⟨by omega, by omega, ?_⟩
      refine ⟨by kernel_rfl, ?_⟩
      simp [go_sem]
      exact ⟨by omega, i + 1, by omega, by omega, Off_reset _ _ _ (by simp), by rw [← hset], by omega⟩
    · have e : n = i := by omega
      subst e
      have hii : ¬ (n : Int) < n := by omega
      have hall := mxR_all (A := unM n) (C := U) (by omega)
      rw [uM.1] at hall
      rw [hall]
      simp [go_sem, hii]
      refine CallVC.of (cD) (by decide) ?_
      simp [go_sem]
      refine ⟨⟨by omega, by omega⟩, ?_⟩
      have zN : isN (z : Int) := ⟨by omega, by omega⟩
      refine loop_inv ([9, 10] ++ List.range' 50 11) (fun k : Nat => [(9, .own 2 k (avs (tb (fun k => pw (z : Int) (k : Int)) k))), (10, .int k)]) (fun k => k ≤ n + 1) (fun k => n + 1 - k) 0 (by simp) (by simp [go_sem]) (by simp [go_sem]) ?_
      intro k hk
      by_cases hkn : k ≤ n
      · have hki : (k : Int) ≤ n := by omega
        have ps := tb_succ (fun k => pw (z : Int) (k : Int)) k
        simp [go_sem, hki, hkn]
        refine CallVC.of (l01Pow_c _ _ zN (by omega) (by omega)) (by decide) ?_
        simp [go_sem]
        exact ⟨⟨by omega, by omega⟩, ⟨by omega, by omega⟩, k + 1, by omega, by omega, Off_reset _ _ _ (by simp), by rw [ps, avs_snoc]; exact ⟨rfl, rfl⟩, by omega⟩
      · have e : k = n + 1 := by omega
        subst e
        have hki : ¬ ((n : Int) + 1) ≤ n := by omega
        simp [go_sem, hki]
        exact ⟨⟨by omega, by omega⟩, ⟨by omega, by omega⟩, z + 1, by omega, by omega, (by repeat (first | exact Off_reset _ _ _ (by simp) | (refine Off.reset (by intro x hx; simp at hx ⊢; omega) (by simp) ?_; simp -failIfUnchanged [go_sem, Off_reset]))), by rw [os]; exact ⟨rfl, rfl⟩, by rw [ts, avs_snoc]; exact ⟨rfl, rfl⟩, by omega⟩
  · have e : z = n + 1 := by omega
    subst e
    have hzi : ¬ ((n : Int) + 1) ≤ n := by omega
    rw [← hv, ← hw]
    simp [go_sem, hzi]
    refine CallVC.of (cS) (by decide) ?_
    simp [go_sem]
end Go.Proofs.YtnokgijakdaehaaGreatDoor


namespace Go.Proofs.YtnokgijakdaehaaGreatDoor
open Go.Abs
set_option linter.unusedSectionVars false
set_option linter.unusedVariables false
set_option linter.unusedSimpArgs false
set_option maxHeartbeats 4000000
def lesM (A : List (List Int)) (B : List Int) : List (List Int) := (List.range A.length).map fun i => plusS (A[i]?.getD []) B (-1)
theorem Tab.rws {A : List (List Int)} {B : List Int} (h : Tab A B) : Rws B.length A := h.a
theorem lesM_ok {A : List (List Int)} {B : List Int} (h : Tab A B) : (lesM A B).length = B.length ∧ Rws B.length (lesM A B) := by
  refine ⟨by simp [lesM, h.len], fun x hx => ?_⟩
  obtain ⟨i, hi, rfl⟩ := List.mem_map.1 hx
  exact ⟨by rw [plusS_len]; exact (h.rws.at (show i < A.length by simpa using hi)).1, plusS_N _ _ _⟩
theorem les_row {a b : List Int} (hl : a.length = b.length) : tb (fun i => (a[i]?.getD 0 + (tb (fun i => b[i]?.getD 0 * 10006 % 10007) b.length)[i]?.getD 0) % 10007) a.length = plusS a b (-1) := by
  unfold plusS
  rw [show (-1 : Int) % 10007 = 10006 by decide]
  have : ∀ i, i < a.length → (a[i]?.getD 0 + (tb (fun i => b[i]?.getD 0 * 10006 % 10007) b.length)[i]?.getD 0) % 10007 = (a[i]?.getD 0 + 10006 * b[i]?.getD 0) % 10007 := fun i hi => by
    rw [tb_get _ (show i < b.length by omega), Int.mul_comm 10006]
    omega
  unfold tb at this ⊢
  exact List.map_congr_left fun i hi => this i (by simpa using hi)
set_option maxRecDepth 100000 in
theorem fraction_c (A : List (List Int)) (B : List Int) (h : Tab A B) : Con Tryz.prog 47 [.agg [.sl A.length (mat A), .sl B.length (avs B)]]
    (.tup [.own 2 (B.length + 1) (avs (chL B.length (lesM A B))), .own 2 (B.length + 1) (avs (chL B.length A))]) := by
  have b1 := h.pos
  have b8 := h.le
  have ab := h.len
  have rw1 := h.rws
  have lo := lesM_ok h
  have c1 := unitLess_c (n := B.length) (lesM A B) (by omega) b8 lo.1 lo.2
  have c2 := unitLess_c (n := B.length) A (by omega) b8 ab rw1
  have c1 : Con Tryz.prog 118 [.sl A.length (mat (lesM A B))] (.own 2 (B.length + 1) (avs (chL B.length (lesM A B)))) := by rw [lo.1] at c1; rw [ab]; exact c1
  have hd : lesM A B = (List.range A.length).map fun i => plusS (A[i]?.getD []) B (-1) := rfl
  have bN := h.b
  refine con_of_vc Tryz.mixed ⟨7, [], [], []⟩ Tryz.func47 (by decide) rfl (by simp) (by decide) (by simp [freshOK, freshL, go_sem]) ?_
  rw [Tryz.ntmps47]
  simp [go_sem]
  refine loop_inv ([4, 6] ++ List.range' 11 12) (fun i : Nat => [(4, .own 25 i (omat ((List.range i).map fun i => plusS (A[i]?.getD []) B (-1)))), (11, .int i)]) (fun i => i ≤ A.length) (fun i => A.length - i) 0 (by simp) (by simp [go_sem, omat]) (by simp [go_sem]) ?_
  intro i hi
  by_cases hin : i < A.length
  · have hii : (i : Int) < A.length := by omega
    have ri := rw1.at hin
    have ane : ¬ A = [] := by rintro rfl; simp at hin
    have cP := plus_c (A[i]?.getD []) B (-1) ri.2 bN ⟨by omega, by omega⟩ (by omega) (by omega)
    have os := omat_range_succ (fun i => plusS (A[i]?.getD []) B (-1)) i
    rw [plusS_len] at os
    simp [go_sem, hii, mat_drop hin]
    refine ⟨ane, ?_⟩
    refine CallVC.of (cP) (by decide) ?_
    simp [go_sem]
    exact ⟨⟨by omega, by omega⟩, by omega, i + 1, by omega, by omega, Off_reset _ _ _ (by simp), by rw [os]; exact ⟨rfl, rfl⟩, by omega⟩
  · have e : i = A.length := by omega
    subst e
    rw [← hd]
    simp [go_sem]
    refine ⟨by kernel_rfl, ?_⟩
    refine CallD.of (c1) (by simp [roots, rootsL]) (by decide) ?_
    simp [go_sem]
    refine CallD.of (c2) (by simp [roots, rootsL]) (by decide) ?_
    simp [go_sem]
    refine ⟨by kernel_rfl, ?_⟩
    simp [go_sem]
set_option maxRecDepth 100000 in
theorem l10Inverse_c (A : List (List Int)) (B : List Int) (h : Tab A B) : Con Tryz.prog 128 [.agg [.sl A.length (mat A), .sl B.length (avs B)]]
    (.agg [.own 25 B.length (omat (lesM A B)), .own 2 B.length (avs (tb (fun i => B[i]?.getD 0 * 10006 % 10007) B.length))]) := by
  have b1 := h.pos
  have b8 := h.le
  have ab := h.len
  have rw1 := h.rws
  have hd : lesM A B = (List.range A.length).map fun i => plusS (A[i]?.getD []) B (-1) := rfl
  have bN := h.b
  have cT := l02Times_c B 10006 bN ⟨by omega, by omega⟩ (by omega)
  have les := fun (a : List Int) (hl : a.length = B.length) => les_row (a := a) (b := B) hl
  have zN : Ns (tb (fun i => B[i]?.getD 0 * 10006 % 10007) B.length) := tb_N fun k _ => isN_mod _
  have zl : (tb (fun i => B[i]?.getD 0 * 10006 % 10007) B.length).length = B.length := by simp
  generalize tb (fun i => B[i]?.getD 0 * 10006 % 10007) B.length = Z at *
  refine con_of_vc Tryz.mixed ⟨5, [], [], []⟩ Tryz.func128 (by decide) rfl (by simp) (by decide) (by simp [freshOK, freshL, go_sem]) ?_
  rw [Tryz.ntmps128]
  simp [go_sem]
  refine CallVC.of (cT) (by decide) ?_
  simp [go_sem]
  refine loop_inv ([3, 4] ++ List.range' 9 20) (fun i : Nat => [(3, .box 27 [if i = 0 then .val (.slice none 0 0) else .own 25 i (omat ((List.range i).map fun i => plusS (A[i]?.getD []) B (-1))), .own 2 B.length (avs Z)]), (4, .int i)]) (fun i => i ≤ A.length) (fun i => A.length - i) 0 (by simp) (by simp [go_sem]) (by simp [go_sem]) ?_
  intro i hi
  by_cases hin : i < A.length
  · have hii : (i : Int) < A.length := by omega
    have ri := rw1.at hin
    have ane : ¬ A = [] := by rintro rfl; simp at hin
    have cA := l02Add_c (A[i]?.getD []) Z ri.2 zN (by omega) (by omega)
    rw [les _ ri.1, zl] at cA
    have os := omat_range_succ (fun i => plusS (A[i]?.getD []) B (-1)) i
    rw [plusS_len] at os
    by_cases h0 : i = 0
    · have ox : omat ((List.range (i + 1)).map fun i => plusS (A[i]?.getD []) B (-1)) = [.own 2 (A[i]?.getD []).length (avs (plusS (A[i]?.getD []) B (-1)))] := by rw [os, h0]; simp [omat]
      rw [if_pos h0]
      simp [go_sem, hii, mat_drop hin]
      refine ⟨by kernel_rfl, ane, ?_⟩
      refine CallD.of (cA) (by simp [roots, rootsL]) (by decide) ?_
      simp [go_sem]
      refine ⟨by kernel_rfl, ?_⟩
      simp [go_sem]
      exact ⟨by omega, i + 1, by omega, by omega, Off_reset _ _ _ (by simp), by rw [if_neg (by omega), ox, h0], by omega⟩
    · rw [if_neg h0]
      simp [go_sem, hii, mat_drop hin]
      refine ⟨by kernel_rfl, ane, ?_⟩
      refine CallD.of (cA) (by simp [roots, rootsL]) (by decide) ?_
      simp [go_sem]
      refine ⟨⟨by omega, by omega⟩, ?_⟩
      refine ⟨by kernel_rfl, ?_⟩
      simp [go_sem]
      exact ⟨by omega, i + 1, by omega, by omega, Off_reset _ _ _ (by simp), by rw [if_neg (by omega), os], by omega⟩
  · have e : i = A.length := by omega
    subst e
    rw [← hd, if_neg (show ¬ A.length = 0 by omega)]
    simp [go_sem]
    exact ab
set_option maxRecDepth 100000 in
theorem l19Fraction_c (A : List (List Int)) (B : List Int) (h : Tab A B) : Con Tryz.prog 57 [.agg [.sl A.length (mat A), .sl B.length (avs B)]]
    (.tup [.own 2 (B.length + 1) (avs (chL B.length (lesM A B))), .own 2 (B.length + 1) (avs (chL B.length A))]) := by
  have lo := lesM_ok h
  have c0 := l10Inverse_c A B h
  have c1 := l19Det_c (n := B.length) (lesM A B) h.le lo.1 lo.2
  have c2 := l19Det_c (n := B.length) A h.le h.len h.rws
  rw [lo.1] at c1
  generalize tb (fun i => B[i]?.getD 0 * 10006 % 10007) B.length = Z at *
  refine con_of_vc Tryz.mixed ⟨4, [], [], []⟩ Tryz.func57 (by decide) rfl (by simp) (by decide) (by simp [freshOK, freshL, go_sem]) ?_
  rw [Tryz.ntmps57]
  simp [go_sem]
  refine ⟨by kernel_rfl, ?_⟩
  refine CallD.of (c0) (by simp [roots, rootsL]) (by decide) ?_
  simp [go_sem]
  refine CallD.of (c1) (by simp [roots, rootsL]) (by decide) ?_
  simp [go_sem]
  refine CallD.of (c2) (by simp [roots, rootsL]) (by decide) ?_
  simp [go_sem]
  refine ⟨by kernel_rfl, ?_⟩
  simp [go_sem]
end Go.Proofs.YtnokgijakdaehaaGreatDoor


namespace Go.Proofs.YtnokgijakdaehaaGreatDoor
open Go.Abs
set_option linter.unusedSectionVars false
set_option linter.unusedVariables false
set_option linter.unusedSimpArgs false
set_option maxHeartbeats 1000000
end Go.Proofs.YtnokgijakdaehaaGreatDoor


namespace Go.Proofs.YtnokgijakdaehaaGreatDoor
open Go.Abs
set_option linter.unusedSectionVars false
set_option linter.unusedVariables false
set_option linter.unusedSimpArgs false
set_option maxHeartbeats 4000000
def tlL (k : Nat) : List Int := tb (fun i => (i : Int)) k
@[simp] theorem tlL_len (k : Nat) : (tlL k).length = k := by simp [tlL]
end Go.Proofs.YtnokgijakdaehaaGreatDoor

