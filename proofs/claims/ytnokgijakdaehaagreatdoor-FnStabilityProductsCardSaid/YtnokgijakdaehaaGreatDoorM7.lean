/- Texts of the own layer and contracts, part 7: E8 E9 R4 W16 W20 N3 E3 E12 E13 N5 Q29 Q15 Q16 Q17 Q18 Q19 Q20 Q21 Q22 Q23 Q24 Q25 Q26 Q30 Q31 Q32 Q33 Q40 Q27 Q28 W0 E10 E27 U0 T0 T1 T2 T3 E11 W21 T4 W12 W13 V2 Q35 Q37 V0 V1 W1 W3 W14 W15 W6 W7 W9 W10 W19 W37 W38 W39 N0 N1. -/
import Derived.Lib.AppendZerosOnto
import Derived.Lib.Walk
import Derived.WalkKit
import Derived.Shelf.Abstract
import Derived.Shelf.RegionOpenPlain
import Derived.Lib.SliceRun
import Derived.RangeFuncNested
import Derived.RangeFuncBox
import Derived.RangeFuncBound
import Derived.RangeFuncCalls
import Derived.RangeFuncLeaves
import Derived.OwnWalkIn
import Derived.TacticsInMore
import Derived.LoopNIn
import Derived.LoopIn
import Derived.Test.YtnokgijakdaehaaGreatDoorM6
namespace Go.Proofs.YtnokgijakdaehaaGreatDoor
open Go.Abs CR
set_option linter.unusedSectionVars false
set_option linter.unusedVariables false
set_option linter.unusedSimpArgs false
set_option maxHeartbeats 1000000
section
variable {α : Type} [CR α]
theorem dtR_rel (R : α → α → Prop) (h0 : ∀ k, R (ofI k) (ofI k)) (ha : ∀ a b c d, R a b → R c d → R (a + c) (b + d)) (hm : ∀ a b c d, R a b → R c d → R (a * c) (b * d)) :
    ∀ {n : Nat} {M N : Nat → Nat → α}, (∀ r c, r < n → c < n → R (M r c) (N r c)) → R (dtR n M) (dtR n N)
  | 0, _, _, _ => h0 1
  | n + 1, M, N, h => by
    rw [dtR, dtR]
    have gen : ∀ m : Nat, m ≤ n + 1 → R (dR (fun i => ofI (sgd i) * M i 0 * dtR n (mnR M i)) m) (dR (fun i => ofI (sgd i) * N i 0 * dtR n (mnR N i)) m) := by
      intro m
      induction m with
      | zero => intro _; exact h0 0
      | succ m ih =>
        intro hm2
        refine ha _ _ _ _ (ih (by omega)) (hm _ _ _ _ (hm _ _ _ _ (h0 _) (h m 0 (by omega) (by omega))) ?_)
        exact dtR_rel R h0 ha hm (fun r c hr hc => h _ _ (by split <;> omega) (by omega))
    exact gen _ (Nat.le_refl _)
theorem dtR_comb {n : Nat} (M : Nat → Nat → α) {i : Nat} (hi : i < n) (w : Nat → α) : dtR n (upR M i (fun c => dR (fun r => w r * M r c) n)) = w i * dtR n M := by
  have gen : ∀ t : Nat, t ≤ n → dtR n (upR M i (fun c => dR (fun r => w r * M r c) t)) = if i < t then w i * dtR n M else ofI 0 := by
    intro t
    induction t with
    | zero => intro _; rw [if_neg (by omega)]; exact dtR_nil M hi
    | succ t ih =>
      intro ht
      have e : (fun c => dR (fun r => w r * M r c) (t + 1)) = fun c => dR (fun r => w r * M r c) t + w t * M t c := rfl
      rw [e, dtR_lin M _ (M t) _ hi, ih (by omega)]
      by_cases h : t = i
      · subst h
        rw [if_neg (by omega), if_pos (by omega), upR_self, zadd]
      · have z : dtR n (upR M i (M t)) = ofI 0 := dtR_same _ hi (show t < n by omega) (fun e => h e.symm) (by rw [upR_at, upR_ne _ _ h])
        rw [z, mul0, add0]
        by_cases h2 : i < t
        · rw [if_pos h2, if_pos (by omega)]
        · rw [if_neg h2, if_neg (by omega)]
  rw [gen n (Nat.le_refl _), if_pos hi]
theorem dtR_scale {n : Nat} (M : Nat → Nat → α) {i : Nat} (hi : i < n) (k : α) (v : Nat → α) : dtR n (upR M i (fun c => k * v c)) = k * dtR n (upR M i v) := by
  have h := dtR_lin M (fun _ => ofI 0) v k hi
  rw [dtR_nil M hi, zadd] at h
  rw [← h]
  congr 1
  congr 1
  exact funext fun c => (zadd _).symm
theorem dtR_spread {n : Nat} (M : Nat → Nat → α) {i : Nat} (hi : i < n) (k : α) (v : Nat → α) : dtR n (upR (fun r c => M r c + k * v c) i v) = dtR n (upR M i v) := by
  have gen : ∀ t : Nat, t ≤ n → dtR n (fun r => if r = i then v else if r < t then fun c => M r c + k * v c else M r) = dtR n (upR M i v) := by
    intro t
    induction t with
    | zero => intro _; rfl
    | succ t ih =>
      intro ht
      rw [← ih (by omega)]
      generalize hY : (fun r => if r = i then v else if r < t then fun c => M r c + k * v c else M r : Nat → Nat → α) = Y
      by_cases h : t = i
      · refine dtR_congr fun r c _ _ => ?_
        rw [← hY]
        by_cases hr : r = i
        · simp only [hr, if_true]
        · have : r < t + 1 ↔ r < t := by omega
          simp only [hr, if_false, this]
      · have hYt : Y t = M t := by rw [← hY]; simp only [h, if_false, Nat.lt_irrefl]
        have hYi : Y i = v := by rw [← hY]; simp only [if_true]
        have e : (fun r => if r = i then v else if r < t + 1 then fun c => M r c + k * v c else M r) = upR Y t (fun c => Y t c + k * Y i c) := funext fun r => by
          unfold upR
          by_cases hr : r = t
          · subst hr; simp only [h, if_false, if_true, Nat.lt_succ_self, hYt, hYi]
          · rw [if_neg hr, ← hY]
            by_cases hri : r = i
            · simp only [hri, if_true]
            · have : r < t + 1 ↔ r < t := by omega
              simp only [hri, if_false, this]
        rw [e, dtR_lin Y (Y t) (Y i) k (by omega), upR_self]
        have z : dtR n (upR Y t (Y i)) = ofI 0 := dtR_same _ (show t < n by omega) hi h (by rw [upR_at, upR_ne _ _ (fun e => h e.symm)])
        rw [z, mul0, add0]
  rw [← gen n (Nat.le_refl _)]
  refine dtR_congr fun r c hr _ => ?_
  unfold upR
  by_cases h : r = i
  · simp only [h, if_true]
  · simp only [h, if_false, hr, if_true]
theorem cmul_cong (n : Nat) : ∀ (a b c : Ser α), (∀ i, i ≤ n → b i = c i) → cmul n a b = cmul n a c := by
  induction n with
  | zero => intro a b c h; show a 0 * b 0 = a 0 * c 0; rw [h 0 (Nat.le_refl _)]
  | succ n ih => intro a b c h; rw [cmul, cmul, h (n + 1) (Nat.le_refl _), ih (sh a) b c (fun i hi => h i (by omega))]
end
theorem ser_cancel {a b c : Ser Int} (h0 : a 0 ≠ 0) (h : a * b = a * c) : b = c := by
  have gen : ∀ n, ∀ i, i ≤ n → b i = c i := by
    intro n
    induction n with
    | zero =>
      intro i hi
      have hi : i = 0 := by omega
      subst hi
      exact Int.eq_of_mul_eq_mul_left h0 (congrFun h 0)
    | succ n ih =>
      intro i hi
      by_cases e : i = n + 1
      · subst e
        have hn : a 0 * b (n + 1) + cmul n (sh a) b = a 0 * c (n + 1) + cmul n (sh a) c := congrFun h (n + 1)
        rw [cmul_cong n (sh a) b c ih] at hn
        exact Int.eq_of_mul_eq_mul_left h0 (by omega)
      · exact ih i (by omega)
  exact funext fun i => gen i i (Nat.le_refl _)
def zedS : Ser Int := fun k => if k = 1 then 1 else 0
theorem zed_mul0 (b : Ser Int) : (zedS * b) 0 = 0 := by show zedS 0 * b 0 = 0; simp [zedS]
theorem zed_mulS (b : Ser Int) (k : Nat) : (zedS * b) (k + 1) = b k := by
  have h : (zedS * b) (k + 1) = zedS 0 * b (k + 1) + zedS 1 * b k := cmul_lin (fun i => by simp [zedS]) b k
  rw [h]; simp [zedS]
def wvN (n : Nat) (A : Mx) (B : Nat → Int) : Nat → Nat → Int
  | 0 => B
  | k + 1 => fun c => dsum (fun r => wvN n A B k r * A r c) n
def wvS (n : Nat) (A : Mx) (B : Nat → Int) (r : Nat) : Ser Int := fun k => wvN n A B k r
def lessM (A : Mx) (B : Nat → Int) : Mx := fun r c => A r c - B c
theorem wv_row {n : Nat} (A : Mx) (B : Nat → Int) {c : Nat} (hc : c < n) : dR (fun r => wvS n A B r * ulS A r c) n = ofI (B c) := by
  refine funext fun k => ?_
  rw [dR_at]
  cases k with
  | zero =>
    have : dsum (fun r => (wvS n A B r * ulS A r c) 0) n = dsum (fun r => B r * idM r c) n := dsum_congr fun r _ => by rw [mulC, ul_mul0, Int.mul_comm]; rfl
    rw [this, dsum_one hc (fun r hr hne => by unfold idM; rw [if_neg hne, Int.mul_zero])]
    unfold idM; rw [if_pos rfl, Int.mul_one]; rfl
  | succ k =>
    have : dsum (fun r => (wvS n A B r * ulS A r c) (k + 1)) n = dsum (fun r => wvN n A B (k + 1) r * idM r c + (-1) * (wvN n A B k r * A r c)) n := dsum_congr fun r _ => by
      rw [mulC, ul_mul, Int.mul_comm (idM r c), Int.neg_mul, Int.neg_mul, Int.one_mul, Int.mul_comm (A r c)]; rfl
    rw [this, dsum_lin, dsum_one hc (fun r hr hne => by unfold idM; rw [if_neg hne, Int.mul_zero])]
    have e : idM c c = 1 := by unfold idM; rw [if_pos rfl]
    rw [e]
    show wvN n A B (k + 1) c * 1 + -1 * wvN n A B (k + 1) c = 0
    omega
theorem ul_less (A : Mx) (B : Nat → Int) (r c : Nat) : ulS (lessM A B) r c = ulS A r c + zedS * ofI (B c) := by
  refine funext fun k => ?_
  rw [ser_add]
  match k with
  | 0 => rw [zed_mul0]; show idM r c = idM r c + 0; omega
  | 1 =>
    rw [zed_mulS]
    show -(A r c - B c) = -(A r c) + B c
    omega
  | k + 2 => rw [zed_mulS, ulS_lin, ulS_lin]; rfl
def rsS (n : Nat) (A : Mx) (B : Nat → Int) : Ser Int := ofI 1 + zedS * dR (fun r => wvS n A B r) n
theorem rsS_0 (n : Nat) (A : Mx) (B : Nat → Int) : rsS n A B 0 = 1 := by
  unfold rsS; rw [ser_add, zed_mul0]; rfl
theorem rsS_S (n : Nat) (A : Mx) (B : Nat → Int) (k : Nat) : rsS n A B (k + 1) = dsum (fun r => wvN n A B k r) n := by
  unfold rsS; rw [ser_add, zed_mulS, dR_at]
  show (0 : Int) + _ = _
  rw [Int.zero_add]; rfl
theorem ch_less (n : Nat) (A : Mx) (B : Nat → Int) : chS n (lessM A B) = rsS n A B * chS n A := by
  by_cases hB : ∃ i, i < n ∧ B i ≠ 0
  · obtain ⟨i, hi, hb⟩ := hB
    refine ser_cancel (a := wvS n A B i) hb ?_
    have h1 : dtR n (upR (ulS (lessM A B)) i (fun c => dR (fun r => wvS n A B r * ulS (lessM A B) r c) n)) = wvS n A B i * chS n (lessM A B) := dtR_comb _ hi _
    have h2 : ∀ c, c < n → dR (fun r => wvS n A B r * ulS (lessM A B) r c) n = rsS n A B * ofI (B c) := fun c hc => by
      have e : dR (fun r => wvS n A B r * ulS (lessM A B) r c) n = dR (fun r => wvS n A B r * ulS A r c + (zedS * ofI (B c)) * wvS n A B r) n := dR_congr fun r _ => by
        rw [ul_less, mulD, mulC (wvS n A B r) (zedS * _)]
      rw [e, dR_lin, wv_row A B hc]
      unfold rsS
      rw [Dmul, omul]
      congr 1
      ac_rfl
    have h3 : dtR n (upR (ulS (lessM A B)) i (fun c => dR (fun r => wvS n A B r * ulS (lessM A B) r c) n)) = dtR n (upR (ulS (lessM A B)) i (fun c => rsS n A B * ofI (B c))) :=
      dtR_congr fun r c _ hc => by
        unfold upR
        by_cases h : r = i
        · rw [if_pos h, if_pos h, h2 c hc]
        · rw [if_neg h, if_neg h]
    have h4 : (ulS (lessM A B) : Nat → Nat → Ser Int) = fun r c => ulS A r c + zedS * ofI (B c) := funext fun r => funext fun c => ul_less A B r c
    have h5 : dtR n (upR (ulS (lessM A B)) i (fun c => ofI (B c))) = dtR n (upR (ulS A) i (fun c => ofI (B c))) := by
      rw [h4]; exact dtR_spread (ulS A) hi zedS (fun c => ofI (B c))
    have h6 : dtR n (upR (ulS A) i (fun c => ofI (B c))) = wvS n A B i * chS n A := by
      have e : dtR n (upR (ulS A) i (fun c => ofI (B c))) = dtR n (upR (ulS A) i (fun c => dR (fun r => wvS n A B r * ulS A r c) n)) := dtR_congr fun r c _ hc => by
        unfold upR
        by_cases h : r = i
        · rw [if_pos h, if_pos h, wv_row A B hc]
        · rw [if_neg h, if_neg h]
      rw [e]; exact dtR_comb _ hi _
    rw [← h1, h3, dtR_scale _ hi, h5, h6]
    ac_rfl
  · have hz : ∀ i, i < n → B i = 0 := fun i hi => Classical.byContradiction fun h => hB ⟨i, hi, h⟩
    have wz : ∀ k r, r < n → wvN n A B k r = 0 := by
      intro k
      induction k with
      | zero => intro r hr; exact hz r hr
      | succ k ih => intro r _; exact dsum_zero fun j hj => by rw [ih j hj, Int.zero_mul]
    have e1 : rsS n A B = ofI 1 := funext fun k => by
      cases k with
      | zero => rw [rsS_0]; rfl
      | succ k => rw [rsS_S, dsum_zero (fun r hr => wz k r hr)]; rfl
    rw [e1, omul]
    unfold chS
    refine dtR_congr fun r c _ hc => ?_
    rw [ul_less, hz c hc]
    have : (ofI 0 : Ser Int) = ofI 0 := rfl
    rw [mul0, add0]
def serEq (a b : Ser Int) : Prop := ∀ k, a k % 10007 = b k % 10007
theorem mod_mulc {a b c d : Int} (h : a % 10007 = b % 10007) (k : c % 10007 = d % 10007) : (a * c) % 10007 = (b * d) % 10007 := by
  rw [Int.mul_emod, h, k, ← Int.mul_emod]
theorem mod_addc {a b c d : Int} (h : a % 10007 = b % 10007) (k : c % 10007 = d % 10007) : (a + c) % 10007 = (b + d) % 10007 := by
  rw [Int.add_emod, h, k, ← Int.add_emod]
theorem cmul_mod (n : Nat) : ∀ {a b c d : Ser Int}, (∀ i, i ≤ n → a i % 10007 = b i % 10007) → (∀ i, i ≤ n → c i % 10007 = d i % 10007) → cmul n a c % 10007 = cmul n b d % 10007 := by
  induction n with
  | zero => intro a b c d h k; exact mod_mulc (h 0 (Nat.le_refl _)) (k 0 (Nat.le_refl _))
  | succ n ih =>
    intro a b c d h k
    rw [cmul, cmul]
    exact mod_addc (mod_mulc (h 0 (by omega)) (k (n + 1) (by omega))) (ih (fun i hi => h (i + 1) (by omega)) (fun i hi => k i (by omega)))
theorem ch_mod {n : Nat} {M N : Mx} (h : ∀ r c, r < n → c < n → M r c % 10007 = N r c % 10007) : serEq (chS n M) (chS n N) := by
  unfold chS
  refine dtR_rel serEq (fun k i => rfl) (fun a b c d h k i => mod_addc (h i) (k i)) (fun a b c d h k i => cmul_mod i (fun j _ => h j) (fun j _ => k j)) (fun r c hr hc k => ?_)
  unfold ulS
  have e := h r c hr hc
  split
  · rfl
  · split
    · show (-M r c) % 10007 = (-N r c) % 10007
      omega
    · rfl
def evN (n : Nat) (A : Mx) : Nat → Nat → Int
  | 0 => fun _ => 1
  | k + 1 => fun r => dsum (fun c => A r c * evN n A k c) n
theorem wv_move (n : Nat) (A : Mx) (B : Nat → Int) (j m : Nat) : dsum (fun r => wvN n A B (j + 1) r * evN n A m r) n = dsum (fun r => wvN n A B j r * evN n A (m + 1) r) n := by
  have e1 : dsum (fun r => wvN n A B (j + 1) r * evN n A m r) n = dsum (fun r => dsum (fun q => wvN n A B j q * A q r * evN n A m r) n) n := dsum_congr fun r _ => by
    show dsum (fun q => wvN n A B j q * A q r) n * evN n A m r = _
    rw [Int.mul_comm, dsum_mul]
    exact dsum_congr fun q _ => by rw [Int.mul_comm]
  have e2 : dsum (fun r => wvN n A B j r * evN n A (m + 1) r) n = dsum (fun r => dsum (fun q => wvN n A B j r * A r q * evN n A m q) n) n := dsum_congr fun r _ => by
    show wvN n A B j r * dsum (fun c => A r c * evN n A m c) n = _
    rw [dsum_mul]
    exact dsum_congr fun q _ => by rw [Int.mul_assoc]
  rw [e1, e2, dsum_swap]
theorem wv_sum (n : Nat) (A : Mx) (B : Nat → Int) : ∀ (k j : Nat), dsum (fun r => wvN n A B (j + k) r * evN n A 0 r) n = dsum (fun r => wvN n A B j r * evN n A k r) n
  | 0, j => rfl
  | k + 1, j => by
    rw [show j + (k + 1) = (j + 1) + k by omega, wv_sum n A B k (j + 1)]
    exact wv_move n A B j k
theorem rs_dot (n : Nat) (A : Mx) (B : Nat → Int) (k : Nat) : rsS n A B (k + 1) = dsum (fun r => B r * evN n A k r) n := by
  rw [rsS_S]
  have h := wv_sum n A B k 0
  rw [Nat.zero_add] at h
  rw [← show dsum (fun r => wvN n A B k r * evN n A 0 r) n = dsum (fun r => wvN n A B k r) n from dsum_congr fun r _ => Int.mul_one _]
  exact h
end Go.Proofs.YtnokgijakdaehaaGreatDoor


namespace Go.Proofs.YtnokgijakdaehaaGreatDoor
open Go.Abs CR
set_option linter.unusedSectionVars false
set_option linter.unusedVariables false
set_option linter.unusedSimpArgs false
set_option maxHeartbeats 1000000
theorem cmul_dsum (n : Nat) : ∀ (a b : Ser Int), cmul n a b = dsum (fun i => a i * b (n - i)) (n + 1) := by
  induction n with
  | zero => intro a b; show a 0 * b 0 = 0 + a 0 * b (0 - 0); rw [Int.zero_add]
  | succ n ih =>
    intro a b
    rw [cmul, ih, dsum_shift _ (n + 1)]
    congr 1
    exact dsum_congr fun i hi => by rw [show n + 1 - (i + 1) = n - i by omega]; rfl
theorem dsum_mod {f g : Nat → Int} : ∀ {n : Nat}, (∀ i, i < n → f i % 10007 = g i % 10007) → dsum f n % 10007 = dsum g n % 10007
  | 0, _ => rfl
  | n + 1, h => mod_addc (dsum_mod (n := n) (fun i hi => h i (by omega))) (h n (by omega))
theorem ch_far {n k : Nat} (M : Mx) (h : n < k) : chS n M k = 0 := (Ev.det (z := 0) n (ulS M) (ulS_lin M)).1 k h
theorem chL_get (n : Nat) (a : List (List Int)) (k : Nat) : (chL n a)[k]?.getD 0 = chS n (mx a) k % 10007 := by
  by_cases h : k < n + 1
  · exact tb_get _ h
  · have : (chL n a)[k]? = none := List.getElem?_eq_none (by rw [chL_len]; omega)
    rw [this, ch_far _ (by omega)]; rfl
theorem les_mod {A : List (List Int)} {B : List Int} (h : Tab A B) {r c : Nat} (hr : r < B.length) (hc : c < B.length) :
    mx (lesM A B) r c % 10007 = lessM (mx A) (fun r => B[r]?.getD 0) r c % 10007 := by
  have hr2 : r < A.length := by rw [h.len]; exact hr
  have e : (lesM A B)[r]?.getD [] = plusS (A[r]?.getD []) B (-1) := by simp [lesM, hr2]
  have hl : (A[r]?.getD []).length = B.length := (h.rws.at hr2).1
  have e2 : mx (lesM A B) r c = ((A[r]?.getD [])[c]?.getD 0 + (-1) % 10007 * B[c]?.getD 0) % 10007 := by
    show ((lesM A B)[r]?.getD [])[c]?.getD 0 = _
    rw [e]
    exact tb_get _ (by omega)
  rw [e2]
  show _ = ((A[r]?.getD [])[c]?.getD 0 - B[c]?.getD 0) % 10007
  omega
end Go.Proofs.YtnokgijakdaehaaGreatDoor


namespace Go.Proofs.YtnokgijakdaehaaGreatDoor
open Go.Abs
set_option linter.unusedSectionVars false
set_option linter.unusedVariables false
set_option linter.unusedSimpArgs false
set_option maxHeartbeats 4000000
end Go.Proofs.YtnokgijakdaehaaGreatDoor


namespace Go.Proofs.YtnokgijakdaehaaGreatDoor
open Go.Abs
set_option linter.unusedSectionVars false
set_option linter.unusedVariables false
set_option linter.unusedSimpArgs false
set_option maxHeartbeats 4000000
end Go.Proofs.YtnokgijakdaehaaGreatDoor


namespace Go.Proofs.YtnokgijakdaehaaGreatDoor
open Go.Abs
set_option linter.unusedSectionVars false
set_option linter.unusedVariables false
set_option linter.unusedSimpArgs false
set_option maxHeartbeats 4000000
set_option maxRecDepth 100000 in
theorem allStages_c (A : List (List Int)) (B : List Int) (hl : B.length ≤ 1000) : Con Tryz.prog 155 [.agg [.sl A.length (mat A), .sl B.length (avs B)]] (.own 2 B.length (avs (tlL B.length))) := by
  have hd : tlL B.length = tb (fun i => (i : Int)) B.length := rfl
  rw [hd]
  refine con_of_vc Tryz.mixed ⟨5, [], [], []⟩ Tryz.func155 (by decide) rfl (by simp) (by decide) (by simp [freshOK, freshL, go_sem]) ?_
  rw [Tryz.ntmps155]
  simp [go_sem]
  refine loop_inv ([3, 4] ++ List.range' 9 8) (fun i : Nat => [(3, .own 2 i (avs (tb (fun i => (i : Int)) i))), (9, .int i)]) (fun i => i ≤ B.length) (fun i => B.length - i) 0 (by simp) (by simp [go_sem]) (by simp [go_sem]) ?_
  intro i hi
  by_cases hib : i < B.length
  · have hii : (i : Int) < B.length := by omega
    have ts := tb_succ (fun i => (i : Int)) i
    simp [go_sem, hii]
    exact ⟨⟨by omega, by omega⟩, ⟨by omega, by omega⟩, i + 1, by omega, by omega, Off_reset _ _ _ (by simp), by rw [ts, avs_snoc]; exact ⟨rfl, rfl⟩, by omega⟩
  · have e : i = B.length := by omega
    simp [go_sem, e]
def rvL (xs : List Int) (i : Nat) : List Int := tb (fun k => if k < i ∨ xs.length - i ≤ k then xs[xs.length - 1 - k]?.getD 0 else xs[k]?.getD 0) xs.length
@[simp] theorem rvL_len (xs : List Int) (i : Nat) : (rvL xs i).length = xs.length := by simp [rvL]
theorem rvL_get {xs : List Int} {i k : Nat} (h : k < xs.length) : (rvL xs i)[k]?.getD 0 = if k < i ∨ xs.length - i ≤ k then xs[xs.length - 1 - k]?.getD 0 else xs[k]?.getD 0 := tb_get _ h
theorem rvL_zero (xs : List Int) : rvL xs 0 = xs := by
  refine List.ext_getElem (by simp) fun k h1 h2 => ?_
  have := rvL_get (i := 0) h2
  rw [if_neg (by omega), List.getElem?_eq_getElem h1, List.getElem?_eq_getElem h2] at this
  exact this
theorem rvL_next {xs : List Int} {i : Nat} (h : 2 * i + 1 < xs.length) :
    ((rvL xs i).set i (xs[xs.length - 1 - i]?.getD 0)).set (xs.length - 1 - i) (xs[i]?.getD 0) = rvL xs (i + 1) := by
  refine List.ext_getElem (by simp) fun k h1 h2 => ?_
  have hk : k < xs.length := by simpa using h2
  have e1 := rvL_get (i := i) hk
  have e2 := rvL_get (i := i + 1) hk
  have l1 : k < (rvL xs i).length := by simpa using hk
  rw [List.getElem?_eq_getElem l1, Option.getD_some] at e1
  rw [List.getElem?_eq_getElem h2, Option.getD_some] at e2
  rw [List.getElem_set, List.getElem_set, e1, e2]
  by_cases a : xs.length - 1 - i = k
  · rw [if_pos a, if_pos (by omega)]
    congr 2; omega
  · rw [if_neg a]
    by_cases b : i = k
    · rw [if_pos b, if_pos (by omega)]; subst b; rfl
    · rw [if_neg b]
      by_cases d : k < i ∨ xs.length - i ≤ k
      · rw [if_pos d, if_pos (by omega)]
      · rw [if_neg d, if_neg (by omega)]
theorem rvL_all {xs : List Int} {i : Nat} (h : xs.length ≤ 2 * i + 1) : rvL xs i = xs.reverse := by
  refine List.ext_getElem (by simp) fun k h1 h2 => ?_
  have hk : k < xs.length := by simpa using h2
  have e1 := rvL_get (i := i) hk
  rw [List.getElem?_eq_getElem h1, Option.getD_some] at e1
  rw [e1, List.getElem_reverse]
  have hk2 : xs.length - 1 - k < xs.length := by omega
  by_cases d : k < i ∨ xs.length - i ≤ k
  · rw [if_pos d, List.getElem?_eq_getElem hk2]; rfl
  · rw [if_neg d, List.getElem?_eq_getElem hk]
    have : xs.length - 1 - k = k := by omega
    simp [this]
set_option maxRecDepth 100000 in
theorem Reverse_c (xs : List Int) (hl : xs.length ≤ 1000) : MCon Tryz.prog 156 [.own 2 xs.length (avs xs)] (.tup []) [.own 2 xs.length (avs xs.reverse)] := by
  refine mcon_of_vc Tryz.mixed ⟨4, [], [], [1000313990216]⟩ [] [0] Tryz.func156 (by decide) rfl rfl (by simp) (by simp) (by simp) (by decide) ?_
  rw [Tryz.ntmps156]
  simp [go_sem]
  refine ⟨⟨by omega, by omega⟩, ?_⟩
  refine loop_inv ([0, 2, 3] ++ List.range' 7 21) (fun i : Nat => [(0, .own 2 xs.length (avs (rvL xs i))), (2, .int i), (3, .int ((xs.length : Int) - 1 - i))]) (fun i => 2 * i ≤ xs.length) (fun i => xs.length - i) 0 (by simp) (by simp [go_sem, rvL_zero]) (by simp [go_sem]) ?_
  intro i hi
  by_cases hx : 2 * i + 1 < xs.length
  · have hii : (i : Int) < (xs.length : Int) - 1 - i := by omega
    have ek : (xs.length : Int) - 1 - (i : Int) = ((xs.length - 1 - i : Nat) : Int) := by omega
    have hn := rvL_next hx
    have l1 : i < (rvL xs i).length := by simp; omega
    have l2 : xs.length - 1 - i < (rvL xs i).length := by simp; omega
    have a1 := avs_at l1
    have a2 := avs_at l2
    rw [rvL_get (by omega), if_neg (by omega)] at a1
    rw [rvL_get (by omega), if_neg (by omega)] at a2
    have t1 := avs_set (rvL xs i) i (xs[xs.length - 1 - i]?.getD 0)
    have t2 := avs_set ((rvL xs i).set i (xs[xs.length - 1 - i]?.getD 0)) (xs.length - 1 - i) (xs[i]?.getD 0)
    rw [hn, ← t1] at t2
    have hj : xs.length - 1 - i < xs.length := by omega
    have hne : ¬ i = xs.length - 1 - i := by omega
    have rl := rvL_len xs i
    generalize xs[i]?.getD 0 = x at *
    generalize hjj : xs.length - 1 - i = j at *
    generalize xs[j]?.getD 0 = y at *
    generalize hO : rvL xs i = O at *
    rw [ek] at hii ⊢
    simp [go_sem, hii, a1, a2]
    refine ⟨by kernel_rfl, ?_, ?_⟩
    · refine ⟨by omega, by omega, by omega, by omega, by omega, by kernel_rfl, ?_⟩
      simp [go_sem, t2]
      exact ⟨⟨by omega, by omega⟩, ⟨by omega, by omega⟩, i + 1, by omega, by omega, Off_reset _ _ _ (by simp), rfl, by omega, by omega⟩
    · refine ⟨by omega, by omega, by omega, by omega, by omega, by kernel_rfl, ?_⟩
      simp [go_sem, t2]
      exact ⟨⟨by omega, by omega⟩, ⟨by omega, by omega⟩, i + 1, by omega, by omega, Off_reset _ _ _ (by simp), rfl, by omega, by omega⟩
  · have hii : ¬ (i : Int) < (xs.length : Int) - 1 - i := by omega
    have ha := rvL_all (xs := xs) (i := i) (by omega)
    rw [ha]
    simp [go_sem, hii]
set_option maxRecDepth 100000 in
theorem inverse_c (A : List (List Int)) (B : List Int) (h : Tab A B) : Con Tryz.prog 80 [.agg [.sl A.length (mat A), .sl B.length (avs B)]]
    (.agg [.own 25 B.length (omat (lesM A B)), .own 2 B.length (avs (scalS B (-1)))]) := by
  have b1 := h.pos
  have b8 := h.le
  have ab := h.len
  have rw1 := h.rws
  have hd : lesM A B = (List.range A.length).map fun i => plusS (A[i]?.getD []) B (-1) := rfl
  have bN := h.b
  have cT := scaled_c B (-1) bN ⟨by omega, by omega⟩ (by omega)
  generalize scalS B (-1) = Z at *
  refine con_of_vc Tryz.mixed ⟨6, [], [], []⟩ Tryz.func80 (by decide) rfl (by simp) (by decide) (by simp [freshOK, freshL, go_sem]) ?_
  rw [Tryz.ntmps80]
  simp [go_sem]
  refine CallVC.of (cT) (by decide) ?_
  simp [go_sem]
  refine loop_inv ([3, 5] ++ List.range' 13 14) (fun i : Nat => [(3, .box 27 [if i = 0 then .val (.slice none 0 0) else .own 25 i (omat ((List.range i).map fun i => plusS (A[i]?.getD []) B (-1))), .own 2 B.length (avs Z)]), (13, .int i)]) (fun i => i ≤ A.length) (fun i => A.length - i) 0 (by simp) (by simp [go_sem]) (by simp [go_sem]) ?_
  intro i hi
  by_cases hin : i < A.length
  · have hii : (i : Int) < A.length := by omega
    have ri := rw1.at hin
    have ane : ¬ A = [] := by rintro rfl; simp at hin
    have cP := plus_c (A[i]?.getD []) B (-1) ri.2 bN ⟨by omega, by omega⟩ (by omega) (by omega)
    have os := omat_range_succ (fun i => plusS (A[i]?.getD []) B (-1)) i
    rw [plusS_len] at os
    by_cases h0 : i = 0
    · have ox : omat ((List.range (i + 1)).map fun i => plusS (A[i]?.getD []) B (-1)) = [.own 2 (A[i]?.getD []).length (avs (plusS (A[i]?.getD []) B (-1)))] := by rw [os, h0]; simp [omat]
      rw [if_pos h0]
      simp [go_sem, hii, mat_drop hin]
      refine ⟨ane, by kernel_rfl, ?_⟩
      refine CallD.of (cP) (by simp [roots, rootsL]) (by decide) ?_
      simp [go_sem]
      refine ⟨by kernel_rfl, ?_⟩
      simp [go_sem]
      exact ⟨⟨by omega, by omega⟩, i + 1, by omega, by omega, Off_reset _ _ _ (by simp), by rw [if_neg (by omega), ox, h0], by omega⟩
    · rw [if_neg h0]
      simp [go_sem, hii, mat_drop hin]
      refine ⟨ane, by kernel_rfl, ?_⟩
      refine CallD.of (cP) (by simp [roots, rootsL]) (by decide) ?_
      simp [go_sem]
      refine ⟨⟨by omega, by omega⟩, ?_⟩
      refine ⟨by kernel_rfl, ?_⟩
      simp [go_sem]
      exact ⟨⟨by omega, by omega⟩, i + 1, by omega, by omega, Off_reset _ _ _ (by simp), by rw [if_neg (by omega), os], by omega⟩
  · have e : i = A.length := by omega
    subst e
    rw [← hd, if_neg (show ¬ A.length = 0 by omega)]
    simp [go_sem]
    exact ab
end Go.Proofs.YtnokgijakdaehaaGreatDoor


namespace Go.Proofs.YtnokgijakdaehaaGreatDoor
open Go.RowKit Go.Shelf Go.Lib Go.Abs
set_option linter.unusedSectionVars false
set_option linter.unusedVariables false
set_option linter.unusedSimpArgs false
set_option maxRecDepth 100000 in
set_option maxHeartbeats 4000000 in
theorem Grow_calls (n : Nat) (h0 : 0 < n) (hn : n ≤ 1048576) (i : TypeInfo) (z : Value) (hi : Tryz.prog.info? 2 = some i) (hz : i.zero = some z) (hs : 0 < i.size) (hb : i.bytes = 8) (w : World) :
    Calls Tryz.prog 171 #[.slice none 0 0, .int .i64 n] w fun e w' =>
      e = .returned (.slice (some ⟨w.heap.size, 0, none⟩) 0 (grownCap w n 0 2)) ∧
      w' = w.drew.alloc (.cells (([] : List Value).toArray ++ Builtin.zeroCells z.cells n ++ Builtin.zeroCells z.cells (grownCap w n 0 2 - n)) 2) := by
  have h1 : ¬ ((n : Int) < 0) := by omega
  have h2 : wrap64 (n : Int) = n := by unfold wrap64; omega
  have h4 : (n : Int) > 0 := by omega
  have hrz : ∀ ty, (Builtin.append_ #[25, 3] ty #[.slice none 0 0, .int .i64 (n : Int)]).run Tryz.prog w =
      .ok (.slice (some ⟨w.heap.size, 0, none⟩) n (grownCap w n 0 2)) (w.drew.alloc (.cells (([] : List Value).toArray ++ Builtin.zeroCells z.cells n ++ Builtin.zeroCells z.cells (grownCap w n 0 2 - n)) 2)) := fun ty => by
    have h := Lib.run_append_grow_zeros w 25 3 ty 2 i z .i64 .i64 Tryz.underlying25 Tryz.underlying3 hi hz none 0 0 [] (run_firstCells_none w.drew i.size 0 0 0) n h0 hs (by omega) (by omega)
      (by rw [hb]; omega) (by
        rw [hb]
        have := growslice_fits (need := 0 + n) (old := 0) (bytes := 8) (by omega) (by omega)
        exact this)
    simp only [Nat.zero_add] at h
    exact h
  have hGn : n ≤ grownCap w n 0 2 := grownCap_ge w _ _ _
  obtain ⟨G, hG⟩ : ∃ G, G = grownCap w n 0 2 := ⟨_, rfl⟩
  rw [← hG] at hrz hGn ⊢
  have hG63 : G ≤ 9223372036854775807 := by
    have := grownCap_le_maxLen w n 0 2 (by unfold maxLen; omega)
    rw [← hG] at this
    unfold maxLen at this
    omega
  clear hG
  go_enter Tryz.func171, Tryz.ntmps171
  go_wp2_with (at_builtin; refine Lib.wpList_append_run _ rfl _ _ _ _ rfl _ _ rfl rfl _ _ (hrz _) ?_)
  all_goals (go_ret; exact ⟨rfl, rfl⟩)
theorem Grow_c (n : Nat) (h0 : 0 < n) (hn : n ≤ 1048576) : Con Tryz.prog 171 [.val (.slice none 0 0), .int n] (.own 2 0 []) := by
  refine ⟨⟨_, Tryz.func171, by decide, rfl⟩, fun w vs hl ha => ?_⟩
  have k := ha (fun _ => undef) (fun _ => [])
  generalize hoz : ([] : List Nat) = oz at k
  obtain ⟨i, z, hi, hz, hs, hb, hzs, _, hce⟩ := infoT_some Tryz.info2
  cases k with
  | cons c v o cs vs os hc ht =>
    cases ht with
    | cons c2 v2 o2 cs2 vs2 os2 hc2 ht2 =>
      have e2 : vs2 = [] := by simpa using hl
      subst e2
      cases hc2 with
      | cell _ _ _ hc2 =>
        cases hc2 with
        | val _ _ =>
          cases hc with
          | cell _ _ _ hc =>
            cases hc with
            | val _ _ =>
              refine (Grow_calls n h0 hn i z hi hz (by omega) hb w).mono ?_
              rintro e w' ⟨rfl, rfl⟩
              have hge : n ≤ grownCap w n 0 2 := grownCap_ge w _ _ _
              have hrep : RepC Tryz.prog (w.drew.alloc (.cells (([] : List Value).toArray ++ Builtin.zeroCells z.cells n ++ Builtin.zeroCells z.cells (grownCap w n 0 2 - n)) 2)) (fun _ => False) (.own 2 0 []) (.slice (some ⟨w.heap.size, 0, none⟩) 0 (grownCap w n 0 2)) [w.heap.size] :=
                .own _ _ 0 _ _ _ _ (heapDrewNew w _) (by omega) (by rw [hce]; simp [size_zeroCells, hzs, ← Nat.add_mul]; omega) (.nil _)
              refine ⟨_, [w.heap.size], rfl, ⟨rfl, rfl, rfl, by simp, fun b hb => heapDrewOld w _ b hb, by first | exact Nat.le_refl _ | exact dr_succ _⟩, fun tm oss => .cell _ _ _ (hrep.mono (fun _ h => h.elim) (fun _ _ => rfl)), by simp, by simp⟩
def flL (xss : List (List Int)) (i : Nat) : List Int := (xss.take i).flatten
theorem flL_zero (xss : List (List Int)) : flL xss 0 = [] := rfl
theorem flL_succ {xss : List (List Int)} {i : Nat} (h : i < xss.length) : flL xss (i + 1) = flL xss i ++ xss[i]?.getD [] := by
  unfold flL
  rw [List.take_add_one, List.flatten_append]
  simp [h]
theorem flL_le (xss : List (List Int)) {i : Nat} (h : i ≤ xss.length) : (flL xss i).length ≤ (flL xss xss.length).length := by
  unfold flL
  rw [List.take_length]
  have : xss.flatten = (xss.take i).flatten ++ (xss.drop i).flatten := by rw [← List.flatten_append, List.take_append_drop]
  rw [this, List.length_append]; omega
set_option maxRecDepth 100000 in
set_option maxHeartbeats 4000000 in
theorem Concat_c (xss : List (List Int)) (h0 : 0 < (flL xss xss.length).length) (hn : (flL xss xss.length).length ≤ 1048576) (hl : xss.length ≤ 1048576) :
    Con Tryz.prog 119 [.sl xss.length (mat xss)] (.own 2 (flL xss xss.length).length (avs (flL xss xss.length))) := by
  have cG := Con.gfz (Grow_c (flL xss xss.length).length h0 hn) (by simp [hasOwnL, hasOwn]) rfl
  refine con_of_vc Tryz.mixed ⟨9, [], [1000000 + 171], []⟩ Tryz.func119 (by decide) rfl (by simp) (by decide) (by simp [freshOK, freshL, go_sem]) ?_
  rw [Tryz.ntmps119]
  simp [go_sem]
  refine loop_inv ([3, 5] ++ List.range' 11 12) (fun i : Nat => [(3, .int (flL xss i).length), (11, .int i)]) (fun i => i ≤ xss.length) (fun i => xss.length - i) 0 (by simp) (by simp [go_sem, flL_zero]) (by simp [go_sem]) ?_
  intro i hi
  by_cases hin : i < xss.length
  · have hii : (i : Int) < xss.length := by omega
    have ne : ¬ xss = [] := by rintro rfl; simp at hin
    have ft := congrArg List.length (flL_succ hin)
    rw [List.length_append] at ft
    have fl := flL_le xss (i := i + 1) (by omega)
    generalize (flL xss i).length = s at *
    generalize (flL xss xss.length).length = T at *
    simp [go_sem, hii, mat_drop hin]
    generalize (xss[i]?.getD []).length = x at *
    refine ⟨ne, ⟨by omega, by omega⟩, ?_⟩
    have hs : ¬ ((s : Int) + x < 0) := by omega
    simp [go_sem, hs]
    refine ⟨⟨by omega, by omega⟩, i + 1, by omega, by omega, Off_reset _ _ _ (by simp), ?_, by omega⟩
    omega
  · have e : i = xss.length := by omega
    subst e
    have hii : ¬ (xss.length : Int) < xss.length := by omega
    simp [go_sem, hii]
    refine ⟨_, _, cG, ?_⟩
    simp [go_sem]
    refine loop_inv ([6, 8] ++ List.range' 27 8) (fun i : Nat => [(6, .own 2 (flL xss i).length (avs (flL xss i))), (27, .int i)]) (fun i => i ≤ xss.length) (fun i => xss.length - i) 0 (by simp) (by simp [go_sem, avs, flL_zero]) (by simp [go_sem]) ?_
    intro i hi
    by_cases hin : i < xss.length
    · have hii : (i : Int) < xss.length := by omega
      have ne : ¬ xss = [] := by rintro rfl; simp at hin
      have ft := flL_succ hin
      have fl := flL_le xss (i := i + 1) (by omega)
      rw [ft, List.length_append] at fl
      simp [go_sem, hii, mat_drop hin]
      refine ⟨ne, ?_⟩
      exact ⟨⟨by omega, by omega⟩, ⟨by omega, by omega⟩, i + 1, by omega, by omega, Off_reset _ _ _ (by simp), by rw [ft, List.length_append, avs_app]; exact ⟨rfl, rfl⟩, by omega⟩
    · have e : i = xss.length := by omega
      subst e
      have hii : ¬ (xss.length : Int) < xss.length := by omega
      simp [go_sem, hii]
end Go.Proofs.YtnokgijakdaehaaGreatDoor


namespace Go.Proofs.YtnokgijakdaehaaGreatDoor
open Go.Abs
set_option linter.unusedSectionVars false
set_option linter.unusedVariables false
set_option linter.unusedSimpArgs false
set_option maxHeartbeats 1000000
end Go.Proofs.YtnokgijakdaehaaGreatDoor


namespace Go.Proofs.YtnokgijakdaehaaGreatDoor
open Go.Abs
set_option linter.unusedSectionVars false
set_option linter.unusedVariables false
set_option linter.unusedSimpArgs false
set_option maxHeartbeats 1000000
theorem dsum_split (f : Nat → Int) (n : Nat) : ∀ m, dsum f (n + m) = dsum f n + dsum (fun j => f (n + j)) m
  | 0 => by simp [dsum]
  | m + 1 => by
    have : n + (m + 1) = (n + m) + 1 := rfl
    rw [this, dsum, dsum_split f n m, dsum]; omega
end Go.Proofs.YtnokgijakdaehaaGreatDoor


namespace Go.Proofs.YtnokgijakdaehaaGreatDoor
open Go.Abs
set_option linter.unusedSectionVars false
set_option linter.unusedVariables false
set_option linter.unusedSimpArgs false
set_option maxHeartbeats 1000000
end Go.Proofs.YtnokgijakdaehaaGreatDoor


namespace Go.Proofs.YtnokgijakdaehaaGreatDoor
open Go.Abs
set_option linter.unusedSectionVars false
set_option linter.unusedVariables false
set_option linter.unusedSimpArgs false
set_option maxHeartbeats 4000000
theorem flL_two (a b : List Int) : flL [a, b] 2 = a ++ b := by simp [flL]
end Go.Proofs.YtnokgijakdaehaaGreatDoor


namespace Go.Proofs.YtnokgijakdaehaaGreatDoor
open Go.Abs
set_option linter.unusedSectionVars false
set_option linter.unusedVariables false
set_option linter.unusedSimpArgs false
set_option maxHeartbeats 1000000
theorem memD {α : Type} {l : List α} {i : Nat} (d : α) (h : i < l.length) : l[i]?.getD d ∈ l := by simp [h]
end Go.Proofs.YtnokgijakdaehaaGreatDoor


namespace Go.Proofs.YtnokgijakdaehaaGreatDoor
open Go.Abs
set_option linter.unusedSectionVars false
set_option linter.unusedVariables false
set_option linter.unusedSimpArgs false
set_option maxHeartbeats 1000000
def raiS (a : List Int) : List Int := tb (fun i => if i = 0 then 0 else a[i - 1]?.getD 0) a.length
@[simp] theorem raiS_len (a : List Int) : (raiS a).length = a.length := by simp [raiS]
end Go.Proofs.YtnokgijakdaehaaGreatDoor


namespace Go.Proofs.YtnokgijakdaehaaGreatDoor
open Go.Abs
set_option linter.unusedSectionVars false
set_option linter.unusedVariables false
set_option linter.unusedSimpArgs false
set_option maxHeartbeats 1000000
def mvS (start : List (List Int)) (c : List Int) (L : List (List (List Int))) : Nat → List (List Int)
  | 0 => start
  | i + 1 => (List.range start.length).map fun k => plusS ((mvS start c L i)[k]?.getD []) (raiS ((L[i]?.getD [])[k]?.getD [])) (c[i]?.getD 0)
end Go.Proofs.YtnokgijakdaehaaGreatDoor


namespace Go.Proofs.YtnokgijakdaehaaGreatDoor
open Go.Abs
set_option linter.unusedSectionVars false
set_option linter.unusedVariables false
set_option linter.unusedSimpArgs false
set_option maxHeartbeats 1000000
end Go.Proofs.YtnokgijakdaehaaGreatDoor


namespace Go.Proofs.YtnokgijakdaehaaGreatDoor
open Go.Abs
set_option linter.unusedSectionVars false
set_option linter.unusedVariables false
set_option linter.unusedSimpArgs false
set_option maxHeartbeats 1000000
end Go.Proofs.YtnokgijakdaehaaGreatDoor


namespace Go.Proofs.YtnokgijakdaehaaGreatDoor
open Go.Abs
set_option linter.unusedSectionVars false
set_option linter.unusedVariables false
set_option linter.unusedSimpArgs false
set_option maxHeartbeats 1000000
def pwS (s x : List Int) : Nat → List Int
  | 0 => s
  | n + 1 => mulS (pwS s x n) x
@[simp] theorem pwS_len (s x : List Int) : ∀ n, (pwS s x n).length = s.length
  | 0 => rfl
  | n + 1 => by rw [pwS, mulS_len, pwS_len s x n]
def teS (L : List (List Int)) (e : List Int) (s : List Int) : Nat → List Int
  | 0 => s
  | i + 1 => pwS (teS L e s i) (L[i]?.getD []) (e[i]?.getD 0).toNat
@[simp] theorem teS_len (L : List (List Int)) (e s : List Int) : ∀ i, (teS L e s i).length = s.length
  | 0 => rfl
  | i + 1 => by rw [teS, pwS_len, teS_len L e s i]
def unS (a : Int) : List Int := [a, 0, 0, 0, 0, 0, 0]
def voS (L : List (List Int)) (n : Nat) : List Mon → Int
  | [] => 0
  | m :: p => (teS L m.2 (unS m.1) L.length)[n]?.getD 0 + voS L n p
def evS (L : List (List Int)) (p : List Mon) : List Int := tb (fun n => voS L n p % 10007) 7
@[simp] theorem evS_len (L : List (List Int)) (p : List Mon) : (evS L p).length = 7 := by simp [evS]
theorem evS_N (L : List (List Int)) (p : List Mon) : Ns (evS L p) := tb_N fun i _ => isN_mod _
end Go.Proofs.YtnokgijakdaehaaGreatDoor


namespace Go.Proofs.YtnokgijakdaehaaGreatDoor
open Go.Abs
set_option linter.unusedSectionVars false
set_option linter.unusedVariables false
set_option linter.unusedSimpArgs false
set_option maxHeartbeats 1000000
end Go.Proofs.YtnokgijakdaehaaGreatDoor


namespace Go.Proofs.YtnokgijakdaehaaGreatDoor
open Go.Abs
set_option linter.unusedSectionVars false
set_option linter.unusedVariables false
set_option linter.unusedSimpArgs false
set_option maxHeartbeats 1000000
def fdS (L : List (List Int)) (f : List (List Mon)) : List (List Int) := f.map (evS L)
@[simp] theorem fdS_len (L : List (List Int)) (f : List (List Mon)) : (fdS L f).length = f.length := by simp [fdS]
theorem fdS_row {L : List (List Int)} {f : List (List Mon)} : ∀ r ∈ fdS L f, r.length = 7 ∧ Ns r := by
  intro r hr
  obtain ⟨p, _, rfl⟩ := List.mem_map.1 hr
  exact ⟨evS_len L p, evS_N L p⟩
end Go.Proofs.YtnokgijakdaehaaGreatDoor


namespace Go.Proofs.YtnokgijakdaehaaGreatDoor
open Go.Abs
set_option linter.unusedSectionVars false
set_option linter.unusedVariables false
set_option linter.unusedSimpArgs false
set_option maxHeartbeats 1000000
end Go.Proofs.YtnokgijakdaehaaGreatDoor


namespace Go.Proofs.YtnokgijakdaehaaGreatDoor
open Go.Abs
set_option linter.unusedSectionVars false
set_option linter.unusedVariables false
set_option linter.unusedSimpArgs false
set_option maxHeartbeats 1000000
end Go.Proofs.YtnokgijakdaehaaGreatDoor


namespace Go.Proofs.YtnokgijakdaehaaGreatDoor
open Go.Abs
set_option linter.unusedSectionVars false
set_option linter.unusedVariables false
set_option linter.unusedSimpArgs false
set_option maxHeartbeats 1000000
end Go.Proofs.YtnokgijakdaehaaGreatDoor


namespace Go.Proofs.YtnokgijakdaehaaGreatDoor
open Go.Abs
set_option linter.unusedSectionVars false
set_option linter.unusedVariables false
set_option linter.unusedSimpArgs false
set_option maxHeartbeats 1000000
end Go.Proofs.YtnokgijakdaehaaGreatDoor


namespace Go.Proofs.YtnokgijakdaehaaGreatDoor
open Go.Abs
set_option linter.unusedSectionVars false
set_option linter.unusedVariables false
set_option linter.unusedSimpArgs false
set_option maxHeartbeats 1000000
end Go.Proofs.YtnokgijakdaehaaGreatDoor


namespace Go.Proofs.YtnokgijakdaehaaGreatDoor
open Go.Abs
set_option linter.unusedSectionVars false
set_option linter.unusedVariables false
set_option linter.unusedSimpArgs false
set_option maxHeartbeats 1000000
end Go.Proofs.YtnokgijakdaehaaGreatDoor


namespace Go.Proofs.YtnokgijakdaehaaGreatDoor
open Go.Abs
set_option linter.unusedSectionVars false
set_option linter.unusedVariables false
set_option linter.unusedSimpArgs false
set_option maxHeartbeats 2000000
end Go.Proofs.YtnokgijakdaehaaGreatDoor


namespace Go.Proofs.YtnokgijakdaehaaGreatDoor
open Go.Abs CR
set_option linter.unusedSectionVars false
set_option linter.unusedVariables false
set_option linter.unusedSimpArgs false
set_option maxHeartbeats 1000000
abbrev c7 : Cg (Ser Int) := cgS cgI 7
section
variable {α : Type} [CR α]
end
end Go.Proofs.YtnokgijakdaehaaGreatDoor


namespace Go.Proofs.YtnokgijakdaehaaGreatDoor
open Go.Abs
set_option linter.unusedSectionVars false
set_option linter.unusedVariables false
set_option linter.unusedSimpArgs false
set_option maxHeartbeats 1000000
end Go.Proofs.YtnokgijakdaehaaGreatDoor


namespace Go.Proofs.YtnokgijakdaehaaGreatDoor
open Go.Abs
set_option linter.unusedSectionVars false
set_option linter.unusedVariables false
set_option linter.unusedSimpArgs false
set_option maxHeartbeats 1000000
end Go.Proofs.YtnokgijakdaehaaGreatDoor


namespace Go.Proofs.YtnokgijakdaehaaGreatDoor
open Go.Abs
set_option linter.unusedSectionVars false
set_option linter.unusedVariables false
set_option linter.unusedSimpArgs false
set_option maxHeartbeats 1000000
end Go.Proofs.YtnokgijakdaehaaGreatDoor


namespace Go.Proofs.YtnokgijakdaehaaGreatDoor
open Go.Abs
set_option linter.unusedSectionVars false
set_option linter.unusedVariables false
set_option linter.unusedSimpArgs false
set_option maxHeartbeats 1000000
end Go.Proofs.YtnokgijakdaehaaGreatDoor


namespace Go.Proofs.YtnokgijakdaehaaGreatDoor
open Go.Abs
set_option linter.unusedSectionVars false
set_option linter.unusedVariables false
set_option linter.unusedSimpArgs false
set_option maxHeartbeats 1000000
def bys (c : List Int) : List AV := c.map fun x => .val (.int .u8 x)
@[simp] theorem bys_len (c : List Int) : (bys c).length = c.length := by simp [bys]
theorem bys_drop {c : List Int} {k : Nat} (h : k < c.length) : (bys c).drop k = .val (.int .u8 (c[k]?.getD 0)) :: bys (c.drop (k + 1)) := by
  rw [bys, ← List.map_drop, List.drop_eq_getElem_cons h, List.map_cons]; simp [h, bys]
def Byt (c : List Int) : Prop := c.length ≤ 4096 ∧ ∀ x ∈ c, 0 ≤ x ∧ x ≤ 255
theorem Byt.get {c : List Int} (h : Byt c) (k : Nat) : 0 ≤ c[k]?.getD 0 ∧ c[k]?.getD 0 ≤ 255 := by
  rcases Nat.lt_or_ge k c.length with hk | hk
  · simp [hk]; exact h.2 _ (List.getElem_mem hk)
  · simp [hk]
abbrev Src := Nat × Int
def srcA (c : List Int) (σ : Src) : AV := .box 136 [.sl c.length (bys c), .int σ.1, .val (.int .u64 σ.2)]
theorem srcA_eq (c : List Int) (σ : Src) : srcA c σ = .box 136 [.sl c.length (bys c), .int σ.1, .val (.int .u64 σ.2)] := rfl
def dicA (c : List Int) (σ : Src) : AV := .box 110 [.sl c.length (bys c), .int σ.1, .val (.int .u64 σ.2)]
def nxH (h : Int) : Int := IntKind.u64.wrap (IntKind.u64.wrap (h * 6364136223846793005) + 1442695040888963407)
def nxX (h : Int) : Int := andI IntKind.u64 (shrI IntKind.u64 (nxH h) 33) 16777215
def byV (c : List Int) (k : Nat) : Int := if k < c.length then c[k]?.getD 0 else 0
def nx1 (c : List Int) (σ : Src) (n : Int) : Int := if n < 1 then 0 else (nxX σ.2 + byV c σ.1).tmod n
def nx2 (c : List Int) (σ : Src) (n : Int) : Src := if n < 1 then σ else (if σ.1 < c.length then σ.1 + 1 else σ.1, nxH σ.2)
def SOk (σ : Src) : Prop := σ.1 ≤ 4096
theorem nx2_ok {c : List Int} (hc : Byt c) {σ : Src} (h : SOk σ) (n : Int) : SOk (nx2 c σ n) := by
  unfold SOk nx2 at *
  have := hc.1
  split
  · exact h
  · simp only; split <;> omega
theorem nxX_b (h : Int) : 0 ≤ nxX h ∧ nxX h ≤ 16777215 := by
  unfold nxX andI
  generalize shrI IntKind.u64 (nxH h) 33 = y
  have h1 : (BitVec.ofInt IntKind.u64.bits y &&& BitVec.ofInt IntKind.u64.bits 16777215).toNat ≤ 16777215 := by
    rw [BitVec.toNat_and]
    exact Nat.le_trans Nat.and_le_right (by decide)
  generalize (BitVec.ofInt IntKind.u64.bits y &&& BitVec.ofInt IntKind.u64.bits 16777215).toNat = m at *
  simp [IntKind.wrap, IntKind.signed, IntKind.bits]
  omega
theorem byV_b {c : List Int} (hc : Byt c) (k : Nat) : 0 ≤ byV c k ∧ byV c k ≤ 255 := by
  unfold byV
  split
  · exact hc.get k
  · omega
theorem nx1_b {c : List Int} (hc : Byt c) (σ : Src) {n : Int} (hn : 1 ≤ n) : 0 ≤ nx1 c σ n ∧ nx1 c σ n < n := by
  have h1 := nxX_b σ.2
  have h2 := byV_b hc σ.1
  unfold nx1
  rw [if_neg (by omega), Int.tmod_eq_emod_of_nonneg (by omega)]
  exact ⟨Int.emod_nonneg _ (by omega), Int.emod_lt_of_pos _ (by omega)⟩
set_option maxRecDepth 100000 in
theorem l01Next_c (c : List Int) (σ : Src) (n : Int) (hc : Byt c) (hs : SOk σ) : GCon Tryz.prog 38 [srcA c σ, .int n] (.int (nx1 c σ n)) [srcA c (nx2 c σ n), .any] := by
  have hx := nxX_b σ.2
  have hy := byV_b hc σ.1
  have hcl := hc.1
  unfold SOk at hs
  unfold nx1 nx2
  by_cases h0 : n < 1
  · rw [if_pos h0, if_pos h0]
    unfold srcA
    refine gcon_of_vc Tryz.mixed ⟨6, [], [], []⟩ [4] [0] Tryz.func38 (by decide) rfl rfl (by simp) (by simp) (by decide) ?_
    rw [Tryz.ntmps38]
    simp [go_sem]
    simp [go_sem, h0]
  · rw [if_neg h0, if_neg h0]
    unfold srcA
    have e1 : nxH σ.2 = IntKind.u64.wrap (IntKind.u64.wrap (σ.2 * 6364136223846793005) + 1442695040888963407) := rfl
    have e2 : nxX σ.2 = andI IntKind.u64 (shrI IntKind.u64 (nxH σ.2) 33) 16777215 := rfl
    generalize nxX σ.2 = x at *
    generalize nxH σ.2 = h' at *
    have n0 : ¬ n = 0 := by omega
    by_cases hk : σ.1 < c.length
    · have hb : byV c σ.1 = c[σ.1]?.getD 0 := by unfold byV; rw [if_pos hk]
      have hne : ¬ c = [] := by rintro rfl; simp at hk
      rw [if_pos hk]
      rw [hb] at hy ⊢
      refine gcon_of_vc Tryz.mixed ⟨6, [], [], []⟩ [4] [0] Tryz.func38 (by decide) rfl rfl (by simp) (by simp) (by decide) ?_
      rw [Tryz.ntmps38]
      simp [go_sem]
      simp [go_sem, h0, ← e1, ← e2]
      refine ⟨⟨by omega, by omega⟩, by kernel_rfl, ?_⟩
      refine ⟨by kernel_rfl, ?_⟩
      simp [go_sem]
      have hD := bys_drop hk
      generalize c[σ.1]?.getD 0 = b at *
      simp [go_sem, hk, hD]
      refine ⟨by kernel_rfl, by intro e; exact hne (by simpa [bys] using e), ⟨by omega, by omega⟩, ⟨by omega, by omega⟩, ?_⟩
      refine ⟨by kernel_rfl, ?_⟩
      simp [go_sem]
      exact ⟨⟨by omega, by omega⟩, n0⟩
    · have hb : byV c σ.1 = 0 := by unfold byV; rw [if_neg hk]
      rw [if_neg hk]
      rw [hb] at hy ⊢
      refine gcon_of_vc Tryz.mixed ⟨6, [], [], []⟩ [4] [0] Tryz.func38 (by decide) rfl rfl (by simp) (by simp) (by decide) ?_
      rw [Tryz.ntmps38]
      simp [go_sem]
      simp [go_sem, h0, ← e1, ← e2]
      refine ⟨⟨by omega, by omega⟩, by kernel_rfl, ?_⟩
      refine ⟨by kernel_rfl, ?_⟩
      simp [go_sem]
      simp [go_sem, hk]
      exact n0
set_option maxRecDepth 100000 in
theorem below_c (c : List Int) (σ : Src) (n : Int) (hc : Byt c) (hs : SOk σ) : GCon Tryz.prog 25 [dicA c σ, .int n] (.int (nx1 c σ n)) [dicA c (nx2 c σ n), .any] := by
  have hx := nxX_b σ.2
  have hy := byV_b hc σ.1
  have hcl := hc.1
  unfold SOk at hs
  unfold nx1 nx2
  by_cases h0 : n < 1
  · rw [if_pos h0, if_pos h0]
    unfold dicA
    refine gcon_of_vc Tryz.mixed ⟨6, [], [], []⟩ [4] [0] Tryz.func25 (by decide) rfl rfl (by simp) (by simp) (by decide) ?_
    rw [Tryz.ntmps25]
    simp [go_sem]
    simp [go_sem, h0]
  · rw [if_neg h0, if_neg h0]
    unfold dicA
    have e1 : nxH σ.2 = IntKind.u64.wrap (IntKind.u64.wrap (σ.2 * 6364136223846793005) + 1442695040888963407) := rfl
    have e2 : nxX σ.2 = andI IntKind.u64 (shrI IntKind.u64 (nxH σ.2) 33) 16777215 := rfl
    generalize nxX σ.2 = x at *
    generalize nxH σ.2 = h' at *
    have n0 : ¬ n = 0 := by omega
    by_cases hk : σ.1 < c.length
    · have hb : byV c σ.1 = c[σ.1]?.getD 0 := by unfold byV; rw [if_pos hk]
      have hne : ¬ c = [] := by rintro rfl; simp at hk
      rw [if_pos hk]
      rw [hb] at hy ⊢
      refine gcon_of_vc Tryz.mixed ⟨6, [], [], []⟩ [4] [0] Tryz.func25 (by decide) rfl rfl (by simp) (by simp) (by decide) ?_
      rw [Tryz.ntmps25]
      simp [go_sem]
      simp [go_sem, h0, ← e1, ← e2]
      refine ⟨⟨by omega, by omega⟩, by kernel_rfl, ?_⟩
      refine ⟨by kernel_rfl, ?_⟩
      simp [go_sem]
      have hD := bys_drop hk
      generalize c[σ.1]?.getD 0 = b at *
      simp [go_sem, hk, hD]
      refine ⟨by kernel_rfl, by intro e; exact hne (by simpa [bys] using e), ⟨by omega, by omega⟩, ⟨by omega, by omega⟩, ?_⟩
      refine ⟨by kernel_rfl, ?_⟩
      simp [go_sem]
      exact ⟨⟨by omega, by omega⟩, n0⟩
    · have hb : byV c σ.1 = 0 := by unfold byV; rw [if_neg hk]
      rw [if_neg hk]
      rw [hb] at hy ⊢
      refine gcon_of_vc Tryz.mixed ⟨6, [], [], []⟩ [4] [0] Tryz.func25 (by decide) rfl rfl (by simp) (by simp) (by decide) ?_
      rw [Tryz.ntmps25]
      simp [go_sem]
      simp [go_sem, h0, ← e1, ← e2]
      refine ⟨⟨by omega, by omega⟩, by kernel_rfl, ?_⟩
      refine ⟨by kernel_rfl, ?_⟩
      simp [go_sem]
      simp [go_sem, hk]
      exact n0
theorem getI {xs : List Int} {v : Int} (h0 : 0 ≤ v) (h1 : v < xs.length) : ∃ k : Nat, v = k ∧ k < xs.length ∧ v.toNat = k := ⟨v.toNat, by omega, by omega, rfl⟩
def pk (c : List Int) (σ : Src) (xs : List Int) : Int := xs[(nx1 c σ xs.length).toNat]?.getD 0
theorem pk_mem (c : List Int) (hc : Byt c) (σ : Src) {xs : List Int} (hx : 0 < xs.length) : pk c σ xs ∈ xs := by
  have h := nx1_b hc σ (n := xs.length) (by omega)
  unfold pk
  have hk : (nx1 c σ xs.length).toNat < xs.length := by omega
  simp [hk]
set_option maxRecDepth 100000 in
theorem l01Pick_c (c : List Int) (σ : Src) (xs : List Int) (hc : Byt c) (hs : SOk σ) (hx : 0 < xs.length) (hxl : xs.length ≤ 1000) :
    GCon Tryz.prog 108 [srcA c σ, .own 2 xs.length (avs xs)] (.int (pk c σ xs)) [srcA c (nx2 c σ xs.length), .any] := by
  have cN := l01Next_c c σ xs.length hc hs
  have hb := nx1_b hc σ (n := xs.length) (by omega)
  unfold pk
  obtain ⟨k, hk, hkl, hkt⟩ := getI hb.1 hb.2
  rw [hkt]
  rw [hk] at cN
  unfold srcA at *
  refine gcon_of_vc Tryz.mixed ⟨5, [], [1000000 + 38], []⟩ [4] [0] Tryz.func108 (by decide) rfl rfl (by simp) (by simp) (by decide) ?_
  rw [Tryz.ntmps108]
  simp [go_sem]
  refine ⟨_, _, cN, ?_⟩
  simp [go_sem]
  have hA := avs_at hkl
  simp [go_sem, hA]
  exact hkl
theorem l01Frac_c (p q : Int) (hp : fits p) (hq : fits q) : Con Tryz.prog 168 [.int p, .int q] (.int (p % 10007 * pw (q % 10007) 10005 % 10007)) := by
  have hf : fits (p % 10007 * pw (q % 10007) 10005) := mul_fits (isN_mod _) (isN_mod _)
  refine con_of_vc Tryz.mixed ⟨5, [], [], []⟩ Tryz.func168 (by decide) rfl (by simp) (by decide) (by simp [freshOK, freshL, go_sem]) ?_
  rw [Tryz.ntmps168]
  simp [go_sem]
  refine CallVC.of (l01Mod_c p hp.1 hp.2) (by decide) ?_
  simp [go_sem]
  refine CallVC.of (l01Mod_c q hq.1 hq.2) (by decide) ?_
  simp [go_sem]
  refine CallVC.of (l01Inv_c _ (isN_mod q)) (by decide) ?_
  simp [go_sem]
  refine CallVC.of (l01Mul_c _ _ hf) (by decide) ?_
  simp [go_sem]
def nbV (c : List Int) (σ : Src) : Int × Src :=
  if nx1 c σ 5 = 0 then (nx1 c (nx2 c σ 5) 10007, nx2 c (nx2 c σ 5) 10007)
  else if nx1 c σ 5 = 1 then (pk c (nx2 c σ 5) [0, 1, 0, 1, 10006, 2], nx2 c (nx2 c σ 5) 6)
  else ((nx1 c (nx2 c σ 5) 15 - 7) % 10007 * pw ((1 + nx1 c (nx2 c (nx2 c σ 5) 15) 12) % 10007) 10005 % 10007, nx2 c (nx2 c (nx2 c σ 5) 15) 12)
theorem nbV_ok {c : List Int} (hc : Byt c) {σ : Src} (hs : SOk σ) : isN (nbV c σ).1 ∧ SOk (nbV c σ).2 := by
  have s1 := nx2_ok hc hs 5
  unfold nbV
  split
  · exact ⟨nx1_b hc (nx2 c σ 5) (n := 10007) (by omega), nx2_ok hc s1 _⟩
  · split
    · refine ⟨?_, nx2_ok hc s1 _⟩
      have := pk_mem c hc (nx2 c σ 5) (xs := [0, 1, 0, 1, 10006, 2]) (by simp)
      simp at this
      simp only
      constructor <;> omega
    · exact ⟨isN_mod _, nx2_ok hc (nx2_ok hc s1 _) _⟩
set_option maxRecDepth 100000 in
theorem l01Number_c (c : List Int) (σ : Src) (hc : Byt c) (hs : SOk σ) : GCon Tryz.prog 110 [srcA c σ] (.int (nbV c σ).1) [srcA c (nbV c σ).2] := by
  have s1 := nx2_ok hc hs 5
  have s2 := nx2_ok hc s1 15
  have c1 := l01Next_c c σ 5 hc hs
  have c2 := l01Next_c c (nx2 c σ 5) 10007 hc s1
  have c3 := l01Pick_c c (nx2 c σ 5) [0, 1, 0, 1, 10006, 2] hc s1 (by simp) (by simp)
  have c4 := l01Next_c c (nx2 c σ 5) 15 hc s1
  have c5 := l01Next_c c (nx2 c (nx2 c σ 5) 15) 12 hc s2
  have b4 := nx1_b hc (nx2 c σ 5) (n := 15) (by omega)
  have b5 := nx1_b hc (nx2 c (nx2 c σ 5) 15) (n := 12) (by omega)
  have c6 := l01Frac_c (nx1 c (nx2 c σ 5) 15 - 7) (1 + nx1 c (nx2 c (nx2 c σ 5) 15) 12) ⟨by omega, by omega⟩ ⟨by omega, by omega⟩
  unfold nbV
  have e3 : (([0, 1, 0, 1, 10006, 2] : List Int).length : Int) = 6 := rfl
  rw [e3] at c3
  generalize pk c (nx2 c σ 5) [0, 1, 0, 1, 10006, 2] = pv at *
  generalize nx1 c (nx2 c (nx2 c σ 5) 15) 12 = v5 at *
  generalize nx2 c (nx2 c (nx2 c σ 5) 15) 12 = t5 at *
  generalize nx1 c (nx2 c σ 5) 15 = v4 at *
  generalize nx2 c (nx2 c σ 5) 15 = t4 at *
  generalize nx2 c (nx2 c σ 5) 6 = t3 at *
  generalize nx1 c (nx2 c σ 5) 10007 = v2 at *
  generalize nx2 c (nx2 c σ 5) 10007 = t2 at *
  generalize nx1 c σ 5 = v1 at *
  generalize nx2 c σ 5 = t1 at *
  unfold srcA at *
  by_cases h0 : v1 = 0
  · rw [if_pos h0]
    refine gcon_of_vc Tryz.mixed ⟨3, [], [1000000 + 38, 1000000 + 108], []⟩ [2] [0] Tryz.func110 (by decide) rfl rfl (by simp) (by simp) (by decide) ?_
    rw [Tryz.ntmps110]
    simp [go_sem]
    refine ⟨_, _, c1, ?_⟩
    simp [go_sem]
    simp [go_sem, h0]
    refine ⟨_, _, c2, ?_⟩
    simp [go_sem]
  · rw [if_neg h0]
    by_cases h1 : v1 = 1
    · rw [if_pos h1]
      refine gcon_of_vc Tryz.mixed ⟨3, [], [1000000 + 38, 1000000 + 108], []⟩ [2] [0] Tryz.func110 (by decide) rfl rfl (by simp) (by simp) (by decide) ?_
      rw [Tryz.ntmps110]
      simp [go_sem]
      refine ⟨_, _, c1, ?_⟩
      simp [go_sem]
      simp [go_sem, h0, h1]
      refine ⟨_, _, c3, ?_⟩
      simp [go_sem]
    · rw [if_neg h1]
      refine gcon_of_vc Tryz.mixed ⟨3, [], [1000000 + 38, 1000000 + 108], []⟩ [2] [0] Tryz.func110 (by decide) rfl rfl (by simp) (by simp) (by decide) ?_
      rw [Tryz.ntmps110]
      simp [go_sem]
      refine ⟨_, _, c1, ?_⟩
      simp [go_sem]
      simp [go_sem, h0, h1]
      refine ⟨_, _, c4, ?_⟩
      simp [go_sem]
      refine ⟨⟨by omega, by omega⟩, ?_⟩
      refine ⟨_, _, c5, ?_⟩
      simp [go_sem]
      refine ⟨⟨by omega, by omega⟩, ?_⟩
      refine CallVC.of (c6) (by decide) ?_
      simp [go_sem]
theorem mod5_c (n : Int) (h0 : -9223372036854775808 ≤ n) (h1 : n ≤ 9223372036854775807) : Con Tryz.prog 13 [.int n] (.int (n % 10007)) := by
  have e := num_law n
  have b := num_low n
  refine con_of_vc Tryz.mixed ⟨3, [], [], []⟩ Tryz.func13 (by decide) rfl (by simp) (by decide) (by simp [freshOK, freshL, go_sem]) ?_
  rw [Tryz.ntmps13]
  simp [go_sem]
  simp [go_sem, e]
  omega
def lsV (f : Src → Int × Src) : Nat → Src → List Int × Src
  | 0, σ => ([], σ)
  | n + 1, σ => ((f σ).1 :: (lsV f n (f σ).2).1, (lsV f n (f σ).2).2)
theorem lsV_ok {f : Src → Int × Src} (hf : ∀ σ, SOk σ → isN (f σ).1 ∧ SOk (f σ).2) : ∀ (n : Nat) (σ : Src), SOk σ → (lsV f n σ).1.length = n ∧ Ns (lsV f n σ).1 ∧ SOk (lsV f n σ).2
  | 0, σ, h => ⟨rfl, by simp [lsV, Ns], h⟩
  | n + 1, σ, h => by
    have h1 := hf σ h
    have h2 := lsV_ok hf n _ h1.2
    refine ⟨by simp [lsV, h2.1], fun x hx => ?_, h2.2.2⟩
    rcases List.mem_cons.1 hx with rfl | hx
    · exact h1.1
    · exact h2.2.1 x hx
set_option maxRecDepth 100000 in
theorem l01List_c (c : List Int) (σ : Src) (n : Nat) (hc : Byt c) (hs : SOk σ) (hn : n ≤ 100000) :
    GCon Tryz.prog 40 [srcA c σ, .int n] (.own 2 n (avs (lsV (nbV c) n σ).1)) [srcA c (lsV (nbV c) n σ).2, .any] := by
  unfold srcA
  refine gcon_of_vc Tryz.mixed ⟨6, [], [1000000 + 110], []⟩ [4] [0] Tryz.func40 (by decide) rfl rfl (by simp) (by simp) (by decide) ?_
  rw [Tryz.ntmps40]
  simp [go_sem]
  refine loop_inv (0 :: 1 :: 5 :: List.range' 7 9) (fun x : List Int × Src × Nat => [(0, .box 136 [.sl c.length (bys c), .int x.2.1.1, .val (.int .u64 x.2.1.2)]), (1, .int x.2.2), (5, .own 2 x.1.length (avs x.1))]) (fun x => SOk x.2.1 ∧ x.1.length + x.2.2 = n ∧ x.1 ++ (lsV (nbV c) x.2.2 x.2.1).1 = (lsV (nbV c) n σ).1 ∧ (lsV (nbV c) x.2.2 x.2.1).2 = (lsV (nbV c) n σ).2) (fun x => x.2.2) ([], σ, n) ⟨hs, by simp, rfl, rfl⟩ (by simp [go_sem, avs]) (by simp [go_sem]) ?_
  rintro ⟨acc, τ, k⟩ ⟨h1, h2, h3, h4⟩
  simp only at h1 h2 h3 h4
  simp [go_sem]
  refine ⟨fun h => ?_, fun h => ?_⟩ <;> simp at h
  · obtain ⟨j, rfl⟩ : ∃ j, k = j + 1 := ⟨k - 1, by omega⟩
    have cN := l01Number_c c τ hc h1
    have hok := nbV_ok hc h1
    unfold srcA at cN
    simp only [lsV] at h3 h4
    generalize nbV c τ = r at *
    simp [go_sem]
    refine ⟨_, _, cN, ?_⟩
    simp [go_sem]
    refine ⟨⟨by omega, by omega⟩, by omega, acc ++ [r.1], r.2.1, r.2.2, j, ⟨hok.2, by simp; omega, by simpa using h3, h4⟩, by omega, Off_reset _ _ _ (by simp), ?_⟩
    simp [avs]
  · have e : k = 0 := by omega
    subst e
    simp only [lsV, List.append_nil] at h3 h4
    simp [go_sem]
    rw [← h3, ← h4]
    simp at h2
    simp [h2]
set_option maxRecDepth 100000 in
theorem l01From_r (c : List Int) (hc : Byt c) : RCon Tryz.prog 36 [.sl c.length (bys c)] (fun r o => o = [.any] ∧ ∃ h, r = srcA c (0, h)) := by
  have hcl := hc.1
  unfold srcA
  refine rcon_of_vcH Tryz.mixed ⟨5, [], [], []⟩ [] Tryz.func36 (by decide) rfl (by simp) (by simp) (by decide) ?_
  rw [Tryz.ntmps36]
  simp [go_sem]
  refine loop_inv (3 :: 4 :: List.range' 12 25) (fun x : Nat × Int => [(3, .box 136 [.sl c.length (bys c), .int 0, .val (.int .u64 x.2)]), (4, .int x.1)]) (fun x => x.1 ≤ c.length) (fun x => c.length - x.1) (0, IntKind.u64.wrap (5381 + IntKind.u64.wrap c.length)) (by simp) (by simp [go_sem]) (by simp [go_sem]) ?_
  rintro ⟨i, h⟩ hi
  simp only at hi
  by_cases hic : i < c.length
  · have h4 : (i : Int) < 4096 := by omega
    have hne : ¬ c = [] := by rintro rfl; simp at hic
    have hD := bys_drop hic
    have hb := hc.get i
    generalize c[i]?.getD 0 = b at *
    simp [go_sem, hic, h4, hD]
    refine ⟨by kernel_rfl, by intro e; exact hne (by simpa [bys] using e), ?_⟩
    refine ⟨by kernel_rfl, ?_⟩
    simp [go_sem]
    exact ⟨⟨by omega, by omega⟩, i + 1, by omega, by omega, Off_reset _ _ _ (by simp), by omega⟩
  · simp [go_sem, hic]
set_option maxRecDepth 100000 in
theorem roll_r (c : List Int) (sd : Int) (hc : Byt c) : RCon Tryz.prog 23 [.sl c.length (bys c), .val (.int .u64 sd)] (fun r o => o = [.any, .any] ∧ ∃ h, r = dicA c (0, h)) := by
  have hcl := hc.1
  unfold dicA
  refine rcon_of_vcH Tryz.mixed ⟨7, [], [], []⟩ [] Tryz.func23 (by decide) rfl (by simp) (by simp) (by decide) ?_
  rw [Tryz.ntmps23]
  simp [go_sem]
  refine loop_inv (5 :: 6 :: List.range' 16 21) (fun x : Nat × Int => [(5, .box 110 [.sl c.length (bys c), .int 0, .val (.int .u64 x.2)]), (6, .int x.1)]) (fun x => x.1 ≤ c.length) (fun x => c.length - x.1) (0, IntKind.u64.wrap (IntKind.u64.wrap (sd * 8111) + IntKind.u64.wrap c.length)) (by simp) (by simp [go_sem]) (by simp [go_sem]) ?_
  rintro ⟨i, h⟩ hi
  simp only at hi
  by_cases hic : i < c.length
  · have h4 : (i : Int) < 4096 := by omega
    have hne : ¬ c = [] := by rintro rfl; simp at hic
    have hD := bys_drop hic
    have hb := hc.get i
    generalize c[i]?.getD 0 = b at *
    simp [go_sem, hic, hD]
    refine ⟨by kernel_rfl, by intro e; exact hne (by simpa [bys] using e), ?_⟩
    refine ⟨by kernel_rfl, ?_⟩
    simp [go_sem]
    exact ⟨⟨by omega, by omega⟩, i + 1, by omega, by omega, Off_reset _ _ _ (by simp), by omega⟩
  · simp [go_sem, hic]
end Go.Proofs.YtnokgijakdaehaaGreatDoor


namespace Go.Proofs.YtnokgijakdaehaaGreatDoor
open Go.Abs
set_option linter.unusedSectionVars false
set_option linter.unusedVariables false
set_option linter.unusedSimpArgs false
set_option maxHeartbeats 1000000
end Go.Proofs.YtnokgijakdaehaaGreatDoor


namespace Go.Proofs.YtnokgijakdaehaaGreatDoor
open Go.Abs CR
set_option linter.unusedSectionVars false
set_option linter.unusedVariables false
set_option linter.unusedSimpArgs false
set_option maxHeartbeats 1000000
def R7 (n : Nat) (X : List (List Int)) : Prop := X.length = n ∧ ∀ r ∈ X, r.length = 7 ∧ Ns r
theorem R7.row {n : Nat} {X : List (List Int)} (h : R7 n X) {k : Nat} (hk : k < n) : (X[k]?.getD []).length = 7 ∧ Ns (X[k]?.getD []) := h.2 _ (memD [] (by rw [h.1]; exact hk))
theorem fd_R7 (M : List (List Int)) (f : List (List Mon)) : R7 f.length (fdS M f) := ⟨by simp, fdS_row⟩
def Fix (A : List (List Int)) (f : List (List Mon)) (start : List (List Int)) (K : List (List (List Int))) : Prop := K.length = A.length ∧ ∀ i, i < A.length → K[i]?.getD [] = fdS (mvS start (A[i]?.getD []) K (A[i]?.getD []).length) f
section
variable {A : List (List Int)} {B : List Int} {f : List (List Mon)} {start : List (List Int)} {n : Nat}
theorem Fix.R7 {K : List (List (List Int))} (hf : f.length = n) (h : Fix A f start K) {i : Nat} (hi : i < A.length) : R7 n (K[i]?.getD []) := by
  rw [h.2 i hi, ← hf]; exact fd_R7 _ _
def cmpA (A : List (List Int)) (B : List Int) (H : List (List Int)) : List (List Int) := A.map (fun r => r ++ List.replicate H.length 0) ++ H.map (fun r => B ++ r)
theorem app_lt {α : Type} {l m : List α} {q : Nat} (d : α) (h : q < l.length) : (l ++ m)[q]?.getD d = l[q]?.getD d := by rw [List.getElem?_append_left h]
theorem app_ge {α : Type} {l m : List α} {q : Nat} (d : α) : (l ++ m)[l.length + q]?.getD d = m[q]?.getD d := by rw [List.getElem?_append_right (by omega), Nat.add_sub_cancel_left]
end
end Go.Proofs.YtnokgijakdaehaaGreatDoor


namespace Go.Proofs.YtnokgijakdaehaaGreatDoor
open Go.Abs
set_option linter.unusedSectionVars false
set_option linter.unusedVariables false
set_option linter.unusedSimpArgs false
set_option maxHeartbeats 4000000
theorem Concat2_c (x y : List Int) (h0 : 0 < x.length + y.length) (hx : x.length ≤ 1000) (hy : y.length ≤ 1000) :
    Con Tryz.prog 119 [.sl 2 [.sl x.length (avs x), .sl y.length (avs y)]] (.own 2 (x.length + y.length) (avs (x ++ y))) := by
  have c := Concat_c [x, y] (by show 0 < (flL [_, _] 2).length; rw [flL_two, List.length_append]; omega) (by show (flL [_, _] 2).length ≤ _; rw [flL_two, List.length_append]; omega) (by simp)
  have cl2 : [x, y].length = 2 := rfl
  have mm : mat [x, y] = [.sl x.length (avs x), .sl y.length (avs y)] := by simp [mat]
  rw [cl2, flL_two, List.length_append, mm] at c
  exact c
theorem omat_take_map {A : List (List Int)} (g : List Int → List Int) {i : Nat} (h : i < A.length) : omat ((A.take (i + 1)).map g) = omat ((A.take i).map g) ++ [.own 2 (g (A[i]?.getD [])).length (avs (g (A[i]?.getD [])))] := by
  rw [List.take_add_one, List.getElem?_eq_getElem h, List.map_append, omat_app]; rfl
set_option maxRecDepth 100000 in
theorem composed_c (A : List (List Int)) (B : List Int) (H : List (List Int)) (C : List Int) (hT : Tab A B) (hH : Tab H C) :
    Con Tryz.prog 69 [.agg [.sl A.length (mat A), .sl B.length (avs B)], .agg [.sl H.length (mat H), .sl C.length (avs C)]]
      (.agg [.own 25 (A.length + H.length) (omat (cmpA A B H)), .own 2 (B.length + C.length) (avs (B ++ C))]) := by
  have b1 := hT.pos
  have b8 := hT.le
  have al := hT.len
  have c1 := hH.pos
  have c8 := hH.le
  have hl := hH.len
  have cB := Concat2_c B C (by omega) (by omega) (by omega)
  have cS := tab_c (mat H) (avs C) H.length C.length
  have zr := avs_repl C.length 0
  refine con_of_vc Tryz.mixed ⟨10, [], [], []⟩ Tryz.func69 (by decide) rfl (by simp) (by decide) (by simp [freshOK, freshL, go_sem]) ?_
  rw [Tryz.ntmps69]
  simp [go_sem]
  refine CallVC.of (cB) (by decide) ?_
  simp [go_sem]
  refine loop_inv ([5, 7] ++ List.range' 20 16) (fun i : Nat => [(5, .box 27 [if i = 0 then .val (.slice none 0 0) else .own 25 i (omat ((A.take i).map (fun r => r ++ List.replicate H.length 0))), .own 2 (B.length + C.length) (avs (B ++ C))]), (20, .int i)]) (fun i => i ≤ A.length) (fun i => A.length - i) 0 (by simp) (by simp [go_sem]) (by simp [go_sem]) ?_
  intro i hi
  by_cases hin : i < A.length
  · have hii : (i : Int) < A.length := by omega
    have ri := (hT.rws.at hin).1
    have ane : ¬ A = [] := by rintro rfl; simp at hin
    have tk := omat_take_map (fun r => r ++ List.replicate H.length (0 : Int)) hin
    have cC := Concat2_c (A[i]?.getD []) (List.replicate C.length 0) (by simp; omega) (by omega) (by simp; omega)
    rw [List.length_replicate] at cC
    have hm := mat_drop hin
    generalize hrow : A[i]?.getD [] = row at *
    by_cases h0 : i = 0
    · have ox : omat ((A.take (i + 1)).map (fun r => r ++ List.replicate H.length (0 : Int))) = [.own 2 (row ++ List.replicate H.length 0).length (avs (row ++ List.replicate H.length 0))] := by rw [tk, h0]; simp [omat]
      rw [if_pos h0]
      simp [go_sem, hii, hm]
      refine ⟨ane, by kernel_rfl, ?_⟩
      refine CallD.of (cS) (by simp [roots, rootsL]) (by decide) ?_
      simp [go_sem]
      simp [go_sem, zr]
      refine ⟨⟨by omega, by omega⟩, ?_⟩
      refine CallD.of (cC) (by simp [roots, rootsL]) (by decide) ?_
      simp [go_sem]
      refine ⟨by kernel_rfl, ?_⟩
      simp [go_sem]
      exact ⟨⟨by omega, by omega⟩, i + 1, by omega, by omega, Off_reset _ _ _ (by simp), by rw [if_neg (by omega), ← List.map_take, ox, h0, List.length_append, List.length_replicate, hl], by omega⟩
    · rw [if_neg h0]
      simp [go_sem, hii, hm]
      refine ⟨ane, by kernel_rfl, ?_⟩
      refine CallD.of (cS) (by simp [roots, rootsL]) (by decide) ?_
      simp [go_sem]
      simp [go_sem, zr]
      refine ⟨⟨by omega, by omega⟩, ?_⟩
      refine CallD.of (cC) (by simp [roots, rootsL]) (by decide) ?_
      simp [go_sem]
      refine ⟨⟨by omega, by omega⟩, ?_⟩
      refine ⟨by kernel_rfl, ?_⟩
      simp [go_sem]
      exact ⟨⟨by omega, by omega⟩, i + 1, by omega, by omega, Off_reset _ _ _ (by simp), by simp only [← List.map_take]; rw [if_neg (by omega), tk, List.length_append, List.length_replicate, hl], by omega⟩
  · have hii : ¬ (i : Int) < A.length := by omega
    have e : i = A.length := by omega
    subst e
    rw [if_neg (show ¬ A.length = 0 by omega), List.take_length]
    simp [go_sem, hii]
    refine loop_inv ([5, 9] ++ List.range' 39 15) (fun i : Nat => [(5, .box 27 [.own 25 (A.length + i) (omat (A.map (fun r => r ++ List.replicate H.length 0) ++ (H.take i).map (fun r => B ++ r))), .own 2 (B.length + C.length) (avs (B ++ C))]), (39, .int i)]) (fun i => i ≤ H.length) (fun i => H.length - i) 0 (by simp) (by simp [go_sem]) (by simp [go_sem]) ?_
    intro i hi
    by_cases hin : i < H.length
    · have hii : (i : Int) < H.length := by omega
      have ri := (hH.rws.at hin).1
      have ane : ¬ H = [] := by rintro rfl; simp at hin
      have tk := omat_take_map (fun r => B ++ r) hin
      have cC := Concat2_c B (H[i]?.getD []) (by omega) (by omega) (by omega)
      have hm := mat_drop hin
      generalize hrow : H[i]?.getD [] = row at *
      simp [go_sem, hii, hm]
      refine ⟨ane, by kernel_rfl, ?_⟩
      refine CallD.of (cC) (by simp [roots, rootsL]) (by decide) ?_
      simp [go_sem]
      refine ⟨⟨by omega, by omega, by omega⟩, ?_⟩
      refine ⟨by kernel_rfl, ?_⟩
      simp [go_sem]
      exact ⟨⟨by omega, by omega⟩, i + 1, by omega, by omega, Off_reset _ _ _ (by simp), ⟨by omega, by simp only [← List.map_take]; rw [omat_app, omat_app, tk, List.length_append, List.append_assoc]⟩, by omega⟩
    · have hii : ¬ (i : Int) < H.length := by omega
      have e : i = H.length := by omega
      subst e
      have e2 : A.map (fun r => r ++ List.replicate H.length (0 : Int)) ++ (H.take H.length).map (fun r => B ++ r) = cmpA A B H := by rw [List.take_length]; rfl
      rw [e2]
      simp [go_sem, hii]
      done
set_option maxRecDepth 100000 in
theorem ComposeTableaus_c (A : List (List Int)) (B : List Int) (H : List (List Int)) (C : List Int) (hT : Tab A B) (hH : Tab H C) :
    Con Tryz.prog 15 [.agg [.sl A.length (mat A), .sl B.length (avs B)], .agg [.sl H.length (mat H), .sl C.length (avs C)]]
      (if B.length + C.length ≤ 8 then .tup [.agg [.own 25 (A.length + H.length) (omat (cmpA A B H)), .own 2 (B.length + C.length) (avs (B ++ C))], .int 0] else .tup [.agg [.val (.slice none 0 0), .val (.slice none 0 0)], .int 3]) := by
  have b8 := hT.le
  have al := hT.len
  have c8 := hH.le
  have hl := hH.len
  have cI := IsTableau_c A B (by omega) (by omega) (fun r h => by have := (hT.a r h).1; omega)
  rw [tabB_iff.2 hT] at cI
  have cJ := IsTableau_c H C (by omega) (by omega) (fun r h => by have := (hH.a r h).1; omega)
  rw [tabB_iff.2 hH] at cJ
  have cC := composed_c A B H C hT hH
  have cS := tab_c (mat A) (avs B) A.length B.length
  have cS2 := tab_c (mat H) (avs C) H.length C.length
  by_cases h8 : B.length + C.length ≤ 8
  · rw [if_pos h8]
    have h8i : ¬ (8 : Int) < (B.length : Int) + C.length := by omega
    refine con_of_vc Tryz.mixed ⟨6, [], [], []⟩ Tryz.func15 (by decide) rfl (by simp) (by decide) (by simp [freshOK, freshL, go_sem]) ?_
    rw [Tryz.ntmps15]
    simp [go_sem]
    refine CallVC.of (cI) (by decide) ?_
    simp [go_sem]
    refine CallVC.of (cJ) (by decide) ?_
    simp [go_sem]
    refine ⟨by kernel_rfl, ?_⟩
    refine CallD.of (cS) (by simp [roots, rootsL]) (by decide) ?_
    simp [go_sem]
    refine CallD.of (cS2) (by simp [roots, rootsL]) (by decide) ?_
    simp [go_sem]
    refine ⟨⟨by omega, by omega⟩, ?_⟩
    refine ⟨by kernel_rfl, ?_⟩
    simp [go_sem]
    simp [go_sem, h8i]
    refine CallVC.of (cC) (by decide) ?_
    simp [go_sem]
  · rw [if_neg h8]
    have h8i : (8 : Int) < (B.length : Int) + C.length := by omega
    refine con_of_vc Tryz.mixed ⟨6, [], [], []⟩ Tryz.func15 (by decide) rfl (by simp) (by decide) (by simp [freshOK, freshL, go_sem]) ?_
    rw [Tryz.ntmps15]
    simp [go_sem]
    refine CallVC.of (cI) (by decide) ?_
    simp [go_sem]
    refine CallVC.of (cJ) (by decide) ?_
    simp [go_sem]
    refine ⟨by kernel_rfl, ?_⟩
    refine CallD.of (cS) (by simp [roots, rootsL]) (by decide) ?_
    simp [go_sem]
    refine CallD.of (cS2) (by simp [roots, rootsL]) (by decide) ?_
    simp [go_sem]
    refine ⟨⟨by omega, by omega⟩, ?_⟩
    refine ⟨by kernel_rfl, ?_⟩
    simp [go_sem]
    simp [go_sem, h8i]
end Go.Proofs.YtnokgijakdaehaaGreatDoor


namespace Go.Proofs.YtnokgijakdaehaaGreatDoor
open Go.Abs Go.Proofs Go.RowKit Go.Lib
set_option linter.unusedSectionVars false
set_option linter.unusedVariables false
set_option linter.unusedSimpArgs false
set_option maxHeartbeats 4000000
set_option maxRecDepth 100000 in
theorem readDecimal_c (s : ByteArray) (v : Nat) (hv : v < 100) (hs : s.size ≤ 9) (hp : Lib.parseIntB 64 s.data.toList = .ok v) (hd : (⟨(Lib.decDigits v).toArray⟩ : ByteArray) = s) :
    Con Tryz.prog 191 [.val (.string s)] (.tup [.int v, .bool true]) := by
  refine Con.plains (xs := [.string s]) (us := [.int .i64 v, .bool true]) ⟨_, Tryz.func191, by decide, rfl⟩ (by simp [Value.oneCell']) fun w => ?_
  have c1 : ∀ w, Calls Tryz.prog 203 #[.string s, .int .i64 10, .int .i64 64] w fun e w' => e = .returned (.tuple #[.int .i64 v, .nilIface]) ∧ Ext (fun b => b < w.heap.size) w w' := fun w =>
    (Any.strconv_ParseInt_10_at64_ok Tryz.sParseInt s (by omega) v hp w).mono fun e w' ⟨he, hw⟩ => ⟨he, by
      rcases hw with rfl | ⟨t, rfl⟩
      · exact Ext.refl _ _
      · exact Ext.bytesWorld w _ t⟩
  have c2 : ∀ w, Calls Tryz.prog 204 #[.int .i64 v, .int .i64 10] w fun e w' => e = .returned (.string s) ∧ w' = w := fun w =>
    (Any.strconv_FormatInt_10_small Tryz.sFormatInt v hv w).mono fun e w' ⟨he, hw⟩ => ⟨by rw [he, hd], hw⟩
  have h1 : ¬ ((v : Int) < 0) := by omega
  have h2 : ¬ ((9 : Int) < s.size) := by omega
  go_enter Tryz.func191, Tryz.ntmps191
  go_wp2_with (fail)
  refine (c1 _).mono ?_
  rintro e w' ⟨rfl, hx⟩
  go_wp2_with (fail)
  refine (c2 _).mono ?_
  rintro e w'' ⟨rfl, rfl⟩
  go_wp2
  go_ret2
  exact ⟨rfl, hx⟩
end Go.Proofs.YtnokgijakdaehaaGreatDoor


namespace Go.Proofs.YtnokgijakdaehaaGreatDoor
open Go.Abs
set_option linter.unusedSectionVars false
set_option linter.unusedVariables false
set_option linter.unusedSimpArgs false
set_option maxHeartbeats 4000000
theorem CutPrefix_c (s p : ByteArray) : Con Tryz.prog 190 [.val (.string s), .val (.string p)] (.tup [.val (.string ⟨(Lib.trimPrefix s.data.toList p.data.toList).toArray⟩), .bool (Lib.hasPrefix s.data.toList p.data.toList)]) :=
  cutPrefix_con Tryz.sCutPrefix ⟨_, Tryz.func190, by decide, rfl⟩ s p
theorem Cut_c (s : ByteArray) (c : UInt8) (hs : s.size < 4294967281) : Con Tryz.prog 135 [.val (.string s), .val (.string ⟨#[c]⟩)] (.tup [.val (.string ⟨(Lib.cut s.data.toList [c]).1.toArray⟩), .val (.string ⟨(Lib.cut s.data.toList [c]).2.1.toArray⟩), .bool (Lib.cut s.data.toList [c]).2.2]) :=
  cut1_con Tryz.sCut ⟨_, Tryz.func135, by decide, rfl⟩ s c hs
def strs (l : List ByteArray) : List AV := l.map fun b => .val (.string b)
theorem Split_c (s : ByteArray) (c : UInt8) (hs : s.size < 4294967281) {l : List ByteArray} (hp : Lib.splitB ⟨#[c]⟩ 0 (Lib.countB s ⟨#[c]⟩) s = l) : Con Tryz.prog 137 [.val (.string s), .val (.string ⟨#[c]⟩)] (.own 9 l.length (strs l)) :=
  split1_con Tryz.sSplit ⟨_, Tryz.func137, by decide, rfl⟩ (by kernel_rfl) (by kernel_rfl) s c hs hp
theorem NumberOf_c (p q : Int) (hp : -1000000000 ≤ p ∧ p ≤ 1000000000) (hq : 1 ≤ q ∧ q ≤ 10006) : Con Tryz.prog 192 [.int p, .int q] (.tup [.int (p % 10007 * pw (q % 10007) 10005 % 10007), .int 0]) := by
  have c1 := inRange_c p (-1000000000) 1000000000
  have c2 := inRange_c q (-1000000000) 1000000000
  rw [decide_eq_true hp.1, decide_eq_true hp.2] at c1
  rw [decide_eq_true (show (-1000000000 : Int) ≤ q by omega), decide_eq_true (show q ≤ 1000000000 by omega)] at c2
  have c3 := num_c p (by omega) (by omega)
  have c4 := num_c q (by omega) (by omega)
  have c5 := inv_c (q % 10007) (isN_mod q)
  have hf : fits (p % 10007 * pw (q % 10007) 10005) := mul_fits (isN_mod _) (isN_mod _)
  have c6 := num_c _ hf.1 hf.2
  have q0 : ¬ q % 10007 = 0 := by omega
  have q1 : q.tmod 10007 = q := by rw [Int.tmod_eq_emod_of_nonneg (by omega)]; omega
  have q2 : ¬ q = 0 := by omega
  refine con_of_vc Tryz.mixed ⟨6, [], [], []⟩ Tryz.func192 (by decide) rfl (by simp) (by decide) (by simp [freshOK, freshL, go_sem]) ?_
  rw [Tryz.ntmps192]
  simp [go_sem]
  refine CallVC.of (c1) (by decide) ?_
  simp [go_sem]
  refine CallVC.of (c2) (by decide) ?_
  simp [go_sem]
  simp [go_sem, q1, q2]
  refine CallVC.of (c3) (by decide) ?_
  simp [go_sem]
  refine CallVC.of (c4) (by decide) ?_
  simp [go_sem]
  refine CallVC.of (c5) (by decide) ?_
  simp [go_sem]
  refine ⟨hf, ?_⟩
  refine CallVC.of (c6) (by decide) ?_
  simp [go_sem]
theorem ba_eta (b : ByteArray) : (⟨b.data.toList.toArray⟩ : ByteArray) = b := by cases b; simp
def Rd (a : ByteArray) (p : Nat) : Prop := p < 100 ∧ a.size ≤ 9 ∧ Lib.parseIntB 64 a.data.toList = .ok p ∧ (⟨(Lib.decDigits p).toArray⟩ : ByteArray) = a
theorem Rd.con {a : ByteArray} {p : Nat} (h : Rd a p) : Con Tryz.prog 191 [.val (.string a)] (.tup [.int p, .bool true]) := readDecimal_c a p h.1 h.2.1 h.2.2.1 h.2.2.2
structure Word (s b a d : ByteArray) (neg dv : Bool) (p q : Nat) : Prop where
  h1 : (⟨(Lib.trimPrefix s.data.toList [45]).toArray⟩ : ByteArray) = b
  h2 : Lib.hasPrefix s.data.toList [45] = neg
  hb : b.size ≤ 1000
  h3 : Lib.cut b.data.toList [47] = (a.data.toList, d.data.toList, dv)
  ha : Rd a p
  hd : dv = true → Rd d q
  hq : dv = false → q = 1
  q1 : 1 ≤ q ∧ q < 100
  hn : neg = true → p ≠ 0
def wdV (neg : Bool) (p q : Nat) : Int := (if neg = true then - (p : Int) else p) % 10007 * pw ((q : Int) % 10007) 10005 % 10007
set_option maxRecDepth 100000 in
theorem ParseNumber_c {s b a d : ByteArray} {neg dv : Bool} {p q : Nat} (h : Word s b a d neg dv p q) : Con Tryz.prog 177 [.val (.string s)] (.tup [.int (wdV neg p q), .int 0]) := by
  have c1 := CutPrefix_c s ⟨#[45]⟩
  have e1 : (⟨#[45]⟩ : ByteArray).data.toList = [45] := rfl
  rw [e1, h.h1, h.h2] at c1
  have c2 := Cut_c b 47 (by have := h.hb; omega)
  rw [h.h3] at c2
  simp only [ba_eta] at c2
  have c3 := h.ha.con
  have c4 : dv = true → _ := fun e => (h.hd e).con
  have p0 := h.ha.1
  have q1 := h.q1
  have c5 : ∀ x : Int, -100 ≤ x ∧ x ≤ 100 → _ := fun x hx => NumberOf_c x q ⟨by omega, by omega⟩ ⟨by omega, by omega⟩
  have q2 : ¬ (q : Int) < 1 := by omega
  have hn := h.hn
  have hq := h.hq
  cases neg with
  | true =>
    have pn : ¬ p = 0 := hn rfl
    have c6 := c5 (- (p : Int)) ⟨by omega, by omega⟩
    cases dv with
    | true =>
      refine con_of_vc Tryz.mixed ⟨13, [], [], []⟩ Tryz.func177 (by decide) rfl (by simp) (by decide) (by simp [freshOK, freshL, go_sem]) ?_
      rw [Tryz.ntmps177]
      simp [go_sem]
      refine CallVC.of (c1) (by decide) ?_
      simp [go_sem]
      refine CallVC.of (c2) (by decide) ?_
      simp [go_sem]
      refine CallVC.of (c3) (by decide) ?_
      simp [go_sem]
      refine CallVC.of ((c4 rfl)) (by decide) ?_
      simp [go_sem]
      simp [go_sem, q2, pn]
      refine ⟨by omega, ?_⟩
      refine CallVC.of (c6) (by decide) ?_
      simp [go_sem]
      rfl
    | false =>
      have q3 := hq rfl
      subst q3
      refine con_of_vc Tryz.mixed ⟨13, [], [], []⟩ Tryz.func177 (by decide) rfl (by simp) (by decide) (by simp [freshOK, freshL, go_sem]) ?_
      rw [Tryz.ntmps177]
      simp [go_sem]
      refine CallVC.of (c1) (by decide) ?_
      simp [go_sem]
      refine CallVC.of (c2) (by decide) ?_
      simp [go_sem]
      refine CallVC.of (c3) (by decide) ?_
      simp [go_sem]
      simp [go_sem, pn]
      refine ⟨by omega, ?_⟩
      refine CallVC.of (c6) (by decide) ?_
      simp [go_sem]
      rfl
  | false =>
    have c6 := c5 p ⟨by omega, by omega⟩
    cases dv with
    | true =>
      refine con_of_vc Tryz.mixed ⟨13, [], [], []⟩ Tryz.func177 (by decide) rfl (by simp) (by decide) (by simp [freshOK, freshL, go_sem]) ?_
      rw [Tryz.ntmps177]
      simp [go_sem]
      refine CallVC.of (c1) (by decide) ?_
      simp [go_sem]
      refine CallVC.of (c2) (by decide) ?_
      simp [go_sem]
      refine CallVC.of (c3) (by decide) ?_
      simp [go_sem]
      refine CallVC.of ((c4 rfl)) (by decide) ?_
      simp [go_sem]
      simp [go_sem, q2]
      refine CallVC.of (c6) (by decide) ?_
      simp [go_sem]
      rfl
    | false =>
      have q3 := hq rfl
      subst q3
      refine con_of_vc Tryz.mixed ⟨13, [], [], []⟩ Tryz.func177 (by decide) rfl (by simp) (by decide) (by simp [freshOK, freshL, go_sem]) ?_
      rw [Tryz.ntmps177]
      simp [go_sem]
      refine CallVC.of (c1) (by decide) ?_
      simp [go_sem]
      refine CallVC.of (c2) (by decide) ?_
      simp [go_sem]
      refine CallVC.of (c3) (by decide) ?_
      simp [go_sem]
      refine CallVC.of (c6) (by decide) ?_
      simp [go_sem]
      rfl
end Go.Proofs.YtnokgijakdaehaaGreatDoor


namespace Go.Proofs.YtnokgijakdaehaaGreatDoor
open Go.Abs
set_option linter.unusedSectionVars false
set_option linter.unusedVariables false
set_option linter.unusedSimpArgs false
set_option maxHeartbeats 4000000
theorem strs_get {l : List ByteArray} {i : Nat} (h : i < l.length) : (strs l)[i]? = some (.val (.string (l[i]?.getD ByteArray.empty))) := by simp [strs, h]
set_option maxRecDepth 100000 in
theorem readNumbers_c (s : ByteArray) (hs : s.size ≤ 1000) {l : List ByteArray} (vals : List Int) (hp : Lib.splitB ⟨#[32]⟩ 0 (Lib.countB s ⟨#[32]⟩) s = l) (hl : vals.length = l.length) (h9 : l.length ≤ 100)
    (hw : ∀ i, i < l.length → Con Tryz.prog 177 [.val (.string (l[i]?.getD ByteArray.empty))] (.tup [.int (vals[i]?.getD 0), .int 0])) :
    Con Tryz.prog 136 [.val (.string s)] (.tup [.own 2 vals.length (avs vals), .bool true]) := by
  have cS := Split_c s 32 (by omega) hp
  refine con_of_vc Tryz.mixed ⟨9, [], [], []⟩ Tryz.func136 (by decide) rfl (by simp) (by decide) (by simp [freshOK, freshL, go_sem]) ?_
  rw [Tryz.ntmps136]
  simp [go_sem]
  refine CallVC.of (cS) (by decide) ?_
  simp [go_sem]
  refine loop_inv ([2, 3, 4, 6, 7, 8] ++ List.range' 13 16) (fun i : Nat => [(4, .own 2 i (avs (vals.take i))), (13, .int i)]) (fun i => i ≤ l.length) (fun i => l.length - i) 0 (by simp) (by simp [go_sem, avs]) (by simp [go_sem]) ?_
  intro i hi
  by_cases hil : i < l.length
  · have hii : (i : Int) < l.length := by omega
    have g := strs_get hil
    have c := hw i hil
    have hv : i < vals.length := by omega
    have tk : avs (vals.take (i + 1)) = avs (vals.take i) ++ [.int (vals[i]?.getD 0)] := by
      rw [List.take_add_one, List.getElem?_eq_getElem hv]
      exact avs_snoc _ _
    generalize vals[i]?.getD 0 = x at *
    generalize l[i]?.getD ByteArray.empty = b at *
    simp [go_sem, hii, g]
    refine CallVC.of (c) (by decide) ?_
    simp [go_sem]
    exact ⟨⟨by omega, by omega⟩, ⟨by omega, by omega⟩, i + 1, by omega, by omega, Off_reset _ _ _ (by simp), ⟨rfl, tk.symm⟩, by omega⟩
  · have hii : ¬ (i : Int) < l.length := by omega
    have e : i = vals.length := by omega
    simp [go_sem, hii]
    exact ⟨e, by rw [e, List.take_length]⟩
set_option maxRecDepth 100000 in
theorem ParseTableau_c (s u v : ByteArray) (hs : s.size ≤ 1000) (hu : u.size ≤ 1000) {l : List ByteArray} (A : List (List Int)) (B : List Int) (h1 : Lib.cut s.data.toList [124] = (u.data.toList, v.data.toList, true)) (hp : Lib.splitB ⟨#[59]⟩ 0 (Lib.countB u ⟨#[59]⟩) u = l) (hl : A.length = l.length)
    (cB : Con Tryz.prog 136 [.val (.string v)] (.tup [.own 2 B.length (avs B), .bool true]))
    (hw : ∀ i, i < l.length → Con Tryz.prog 136 [.val (.string (l[i]?.getD ByteArray.empty))] (.tup [.own 2 (A[i]?.getD []).length (avs (A[i]?.getD [])), .bool true])) (hT : tabB A B = true) :
    Con Tryz.prog 66 [.val (.string s)] (.tup [.agg [.own 25 A.length (omat A), .own 2 B.length (avs B)], .int 0]) := by
  have tab := tabB_iff.1 hT
  have b8 := tab.le
  have al := tab.len
  have c1 := Cut_c s 124 (by omega)
  rw [h1] at c1
  simp only [ba_eta] at c1
  have cS := Split_c u 59 (by omega) hp
  have cI := IsTableau_c A B (by omega) (by omega) (fun r h => by have := (tab.a r h).1; omega)
  rw [hT] at cI
  refine con_of_vc Tryz.mixed ⟨14, [], [], []⟩ Tryz.func66 (by decide) rfl (by simp) (by decide) (by simp [freshOK, freshL, go_sem]) ?_
  rw [Tryz.ntmps66]
  simp [go_sem]
  refine CallVC.of (c1) (by decide) ?_
  simp [go_sem]
  refine CallVC.of (cB) (by decide) ?_
  simp [go_sem]
  refine CallVC.of (cS) (by decide) ?_
  simp [go_sem]
  refine loop_inv ([3, 9, 11, 12, 13] ++ List.range' 37 19) (fun i : Nat => [(9, .box 27 [if i = 0 then .val (.slice none 0 0) else .own 25 i (omat (A.take i)), .own 2 B.length (avs B)]), (37, .int i)]) (fun i => i ≤ l.length) (fun i => l.length - i) 0 (by simp) (by simp [go_sem]) (by simp [go_sem]) ?_
  intro i hi
  by_cases hil : i < l.length
  · have hii : (i : Int) < l.length := by omega
    have g := strs_get hil
    have c := hw i hil
    have hv : i < A.length := by omega
    have tk : omat (A.take (i + 1)) = omat (A.take i) ++ [.own 2 (A[i]?.getD []).length (avs (A[i]?.getD []))] := by
      rw [List.take_add_one, List.getElem?_eq_getElem hv, omat_app]; rfl
    generalize A[i]?.getD [] = x at *
    generalize l[i]?.getD ByteArray.empty = b at *
    by_cases h0 : i = 0
    · have ox : omat (A.take (i + 1)) = [.own 2 x.length (avs x)] := by rw [tk, h0]; simp [omat]
      rw [if_pos h0]
      simp [go_sem, hii, g]
      refine CallVC.of (c) (by decide) ?_
      simp [go_sem]
      exact ⟨⟨by omega, by omega⟩, i + 1, by omega, by omega, Off_reset _ _ _ (by simp), by rw [if_neg (by omega), ox, h0], by omega⟩
    · rw [if_neg h0]
      simp [go_sem, hii, g]
      refine CallVC.of (c) (by decide) ?_
      simp [go_sem]
      have om : min i A.length = i := by omega
      exact ⟨⟨om, by omega, by omega⟩, ⟨by omega, by omega⟩, i + 1, by omega, by omega, Off_reset _ _ _ (by simp), by rw [if_neg (by omega), tk], by omega⟩
  · have hii : ¬ (i : Int) < l.length := by omega
    have e : i = A.length := by omega
    subst e
    rw [if_neg (show ¬ A.length = 0 by have := tab.pos; omega), List.take_length]
    simp [go_sem, hii]
    refine CallVC.of (cI) (by decide) ?_
    simp [go_sem]
    done
end Go.Proofs.YtnokgijakdaehaaGreatDoor


namespace Go.Proofs.YtnokgijakdaehaaGreatDoor
open Go.Abs
set_option linter.unusedSectionVars false
set_option linter.unusedVariables false
set_option linter.unusedSimpArgs false
set_option maxHeartbeats 4000000
theorem wd_of {neg : Bool} {p q : Nat} {v : Int} (hv : isN v) (q1 : 1 ≤ q ∧ q < 100) (h : v * q % 10007 = (if neg = true then - (p : Int) else p) % 10007) : wdV neg p q = v := by
  unfold wdV
  rw [← h]
  have hq : (q : Int) % 10007 = q := by omega
  have hi := inv_ok (a := (q : Int)) ⟨by omega, by omega⟩ (by omega)
  rw [hq]
  have e : v * q % 10007 * pw q 10005 % 10007 = v * (q * pw q 10005 % 10007) % 10007 := by
    rw [Int.mul_emod, Int.emod_emod_of_dvd _ (Int.dvd_refl _), ← Int.mul_emod, Int.mul_assoc, Int.mul_emod v, Int.mul_emod v (_ % 10007), Int.emod_emod_of_dvd _ (Int.dvd_refl _)]
  rw [e, hi, Int.mul_one]
  exact Int.emod_eq_of_lt hv.1 (by have := hv.2; omega)
theorem wd0 : Con Tryz.prog 177 [.val (.string ⟨#[48]⟩)] (.tup [.int 0, .int 0]) := by
  have h : Word ⟨#[48]⟩ ⟨#[48]⟩ ⟨#[48]⟩ ⟨#[]⟩ false false 0 1 := ⟨by kernel_rfl, by kernel_rfl, by decide, by kernel_rfl, ⟨by decide, by decide, by kernel_rfl, by kernel_rfl⟩, (fun h => by cases h), (fun h => rfl), ⟨by decide, by decide⟩, (fun h => by cases h)⟩
  have c := ParseNumber_c h
  rw [wd_of (v := 0) ⟨by decide, by decide⟩ ⟨by decide, by decide⟩ (by decide)] at c
  exact c
theorem wd1 : Con Tryz.prog 177 [.val (.string ⟨#[49]⟩)] (.tup [.int 1, .int 0]) := by
  have h : Word ⟨#[49]⟩ ⟨#[49]⟩ ⟨#[49]⟩ ⟨#[]⟩ false false 1 1 := ⟨by kernel_rfl, by kernel_rfl, by decide, by kernel_rfl, ⟨by decide, by decide, by kernel_rfl, by kernel_rfl⟩, (fun h => by cases h), (fun h => rfl), ⟨by decide, by decide⟩, (fun h => by cases h)⟩
  have c := ParseNumber_c h
  rw [wd_of (v := 1) ⟨by decide, by decide⟩ ⟨by decide, by decide⟩ (by decide)] at c
  exact c
theorem wd2 : Con Tryz.prog 177 [.val (.string ⟨#[49, 47, 50]⟩)] (.tup [.int 5004, .int 0]) := by
  have h : Word ⟨#[49, 47, 50]⟩ ⟨#[49, 47, 50]⟩ ⟨#[49]⟩ ⟨#[50]⟩ false true 1 2 := ⟨by kernel_rfl, by kernel_rfl, by decide, by kernel_rfl, ⟨by decide, by decide, by kernel_rfl, by kernel_rfl⟩, (fun h => ⟨by decide, by decide, by kernel_rfl, by kernel_rfl⟩), (fun h => by cases h), ⟨by decide, by decide⟩, (fun h => by cases h)⟩
  have c := ParseNumber_c h
  rw [wd_of (v := 5004) ⟨by decide, by decide⟩ ⟨by decide, by decide⟩ (by decide)] at c
  exact c
theorem wd3 : Con Tryz.prog 177 [.val (.string ⟨#[45, 49]⟩)] (.tup [.int 10006, .int 0]) := by
  have h : Word ⟨#[45, 49]⟩ ⟨#[49]⟩ ⟨#[49]⟩ ⟨#[]⟩ true false 1 1 := ⟨by kernel_rfl, by kernel_rfl, by decide, by kernel_rfl, ⟨by decide, by decide, by kernel_rfl, by kernel_rfl⟩, (fun h => by cases h), (fun h => rfl), ⟨by decide, by decide⟩, (fun h => by decide)⟩
  have c := ParseNumber_c h
  rw [wd_of (v := 10006) ⟨by decide, by decide⟩ ⟨by decide, by decide⟩ (by decide)] at c
  exact c
theorem wd4 : Con Tryz.prog 177 [.val (.string ⟨#[50]⟩)] (.tup [.int 2, .int 0]) := by
  have h : Word ⟨#[50]⟩ ⟨#[50]⟩ ⟨#[50]⟩ ⟨#[]⟩ false false 2 1 := ⟨by kernel_rfl, by kernel_rfl, by decide, by kernel_rfl, ⟨by decide, by decide, by kernel_rfl, by kernel_rfl⟩, (fun h => by cases h), (fun h => rfl), ⟨by decide, by decide⟩, (fun h => by cases h)⟩
  have c := ParseNumber_c h
  rw [wd_of (v := 2) ⟨by decide, by decide⟩ ⟨by decide, by decide⟩ (by decide)] at c
  exact c
theorem wd5 : Con Tryz.prog 177 [.val (.string ⟨#[49, 47, 54]⟩)] (.tup [.int 1668, .int 0]) := by
  have h : Word ⟨#[49, 47, 54]⟩ ⟨#[49, 47, 54]⟩ ⟨#[49]⟩ ⟨#[54]⟩ false true 1 6 := ⟨by kernel_rfl, by kernel_rfl, by decide, by kernel_rfl, ⟨by decide, by decide, by kernel_rfl, by kernel_rfl⟩, (fun h => ⟨by decide, by decide, by kernel_rfl, by kernel_rfl⟩), (fun h => by cases h), ⟨by decide, by decide⟩, (fun h => by cases h)⟩
  have c := ParseNumber_c h
  rw [wd_of (v := 1668) ⟨by decide, by decide⟩ ⟨by decide, by decide⟩ (by decide)] at c
  exact c
theorem wd6 : Con Tryz.prog 177 [.val (.string ⟨#[50, 47, 51]⟩)] (.tup [.int 6672, .int 0]) := by
  have h : Word ⟨#[50, 47, 51]⟩ ⟨#[50, 47, 51]⟩ ⟨#[50]⟩ ⟨#[51]⟩ false true 2 3 := ⟨by kernel_rfl, by kernel_rfl, by decide, by kernel_rfl, ⟨by decide, by decide, by kernel_rfl, by kernel_rfl⟩, (fun h => ⟨by decide, by decide, by kernel_rfl, by kernel_rfl⟩), (fun h => by cases h), ⟨by decide, by decide⟩, (fun h => by cases h)⟩
  have c := ParseNumber_c h
  rw [wd_of (v := 6672) ⟨by decide, by decide⟩ ⟨by decide, by decide⟩ (by decide)] at c
  exact c
theorem wd7 : Con Tryz.prog 177 [.val (.string ⟨#[53, 47, 50, 52]⟩)] (.tup [.int 2085, .int 0]) := by
  have h : Word ⟨#[53, 47, 50, 52]⟩ ⟨#[53, 47, 50, 52]⟩ ⟨#[53]⟩ ⟨#[50, 52]⟩ false true 5 24 := ⟨by kernel_rfl, by kernel_rfl, by decide, by kernel_rfl, ⟨by decide, by decide, by kernel_rfl, by kernel_rfl⟩, (fun h => ⟨by decide, by decide, by kernel_rfl, by kernel_rfl⟩), (fun h => by cases h), ⟨by decide, by decide⟩, (fun h => by cases h)⟩
  have c := ParseNumber_c h
  rw [wd_of (v := 2085) ⟨by decide, by decide⟩ ⟨by decide, by decide⟩ (by decide)] at c
  exact c
theorem wd8 : Con Tryz.prog 177 [.val (.string ⟨#[49, 47, 51]⟩)] (.tup [.int 3336, .int 0]) := by
  have h : Word ⟨#[49, 47, 51]⟩ ⟨#[49, 47, 51]⟩ ⟨#[49]⟩ ⟨#[51]⟩ false true 1 3 := ⟨by kernel_rfl, by kernel_rfl, by decide, by kernel_rfl, ⟨by decide, by decide, by kernel_rfl, by kernel_rfl⟩, (fun h => ⟨by decide, by decide, by kernel_rfl, by kernel_rfl⟩), (fun h => by cases h), ⟨by decide, by decide⟩, (fun h => by cases h)⟩
  have c := ParseNumber_c h
  rw [wd_of (v := 3336) ⟨by decide, by decide⟩ ⟨by decide, by decide⟩ (by decide)] at c
  exact c
theorem wd9 : Con Tryz.prog 177 [.val (.string ⟨#[45, 49, 47, 50, 52]⟩)] (.tup [.int 9590, .int 0]) := by
  have h : Word ⟨#[45, 49, 47, 50, 52]⟩ ⟨#[49, 47, 50, 52]⟩ ⟨#[49]⟩ ⟨#[50, 52]⟩ true true 1 24 := ⟨by kernel_rfl, by kernel_rfl, by decide, by kernel_rfl, ⟨by decide, by decide, by kernel_rfl, by kernel_rfl⟩, (fun h => ⟨by decide, by decide, by kernel_rfl, by kernel_rfl⟩), (fun h => by cases h), ⟨by decide, by decide⟩, (fun h => by decide)⟩
  have c := ParseNumber_c h
  rw [wd_of (v := 9590) ⟨by decide, by decide⟩ ⟨by decide, by decide⟩ (by decide)] at c
  exact c
theorem wd10 : Con Tryz.prog 177 [.val (.string ⟨#[53, 47, 49, 50]⟩)] (.tup [.int 4170, .int 0]) := by
  have h : Word ⟨#[53, 47, 49, 50]⟩ ⟨#[53, 47, 49, 50]⟩ ⟨#[53]⟩ ⟨#[49, 50]⟩ false true 5 12 := ⟨by kernel_rfl, by kernel_rfl, by decide, by kernel_rfl, ⟨by decide, by decide, by kernel_rfl, by kernel_rfl⟩, (fun h => ⟨by decide, by decide, by kernel_rfl, by kernel_rfl⟩), (fun h => by cases h), ⟨by decide, by decide⟩, (fun h => by cases h)⟩
  have c := ParseNumber_c h
  rw [wd_of (v := 4170) ⟨by decide, by decide⟩ ⟨by decide, by decide⟩ (by decide)] at c
  exact c
theorem wd11 : Con Tryz.prog 177 [.val (.string ⟨#[45, 49, 47, 49, 50]⟩)] (.tup [.int 9173, .int 0]) := by
  have h : Word ⟨#[45, 49, 47, 49, 50]⟩ ⟨#[49, 47, 49, 50]⟩ ⟨#[49]⟩ ⟨#[49, 50]⟩ true true 1 12 := ⟨by kernel_rfl, by kernel_rfl, by decide, by kernel_rfl, ⟨by decide, by decide, by kernel_rfl, by kernel_rfl⟩, (fun h => ⟨by decide, by decide, by kernel_rfl, by kernel_rfl⟩), (fun h => by cases h), ⟨by decide, by decide⟩, (fun h => by decide)⟩
  have c := ParseNumber_c h
  rw [wd_of (v := 9173) ⟨by decide, by decide⟩ ⟨by decide, by decide⟩ (by decide)] at c
  exact c
theorem wd12 : Con Tryz.prog 177 [.val (.string ⟨#[51, 47, 52]⟩)] (.tup [.int 7506, .int 0]) := by
  have h : Word ⟨#[51, 47, 52]⟩ ⟨#[51, 47, 52]⟩ ⟨#[51]⟩ ⟨#[52]⟩ false true 3 4 := ⟨by kernel_rfl, by kernel_rfl, by decide, by kernel_rfl, ⟨by decide, by decide, by kernel_rfl, by kernel_rfl⟩, (fun h => ⟨by decide, by decide, by kernel_rfl, by kernel_rfl⟩), (fun h => by cases h), ⟨by decide, by decide⟩, (fun h => by cases h)⟩
  have c := ParseNumber_c h
  rw [wd_of (v := 7506) ⟨by decide, by decide⟩ ⟨by decide, by decide⟩ (by decide)] at c
  exact c
theorem wd13 : Con Tryz.prog 177 [.val (.string ⟨#[49, 47, 52]⟩)] (.tup [.int 2502, .int 0]) := by
  have h : Word ⟨#[49, 47, 52]⟩ ⟨#[49, 47, 52]⟩ ⟨#[49]⟩ ⟨#[52]⟩ false true 1 4 := ⟨by kernel_rfl, by kernel_rfl, by decide, by kernel_rfl, ⟨by decide, by decide, by kernel_rfl, by kernel_rfl⟩, (fun h => ⟨by decide, by decide, by kernel_rfl, by kernel_rfl⟩), (fun h => by cases h), ⟨by decide, by decide⟩, (fun h => by cases h)⟩
  have c := ParseNumber_c h
  rw [wd_of (v := 2502) ⟨by decide, by decide⟩ ⟨by decide, by decide⟩ (by decide)] at c
  exact c
theorem rw0 : Con Tryz.prog 136 [.val (.string ⟨#[48]⟩)] (.tup [.own 2 1 (avs [0]), .bool true]) :=
  readNumbers_c ⟨#[48]⟩ (by decide) (l := [⟨#[48]⟩]) [0] (by kernel_rfl) rfl (by decide) (fun i hi => by
    match i, hi with
    | 0, _ => exact wd0)
theorem rw1 : Con Tryz.prog 136 [.val (.string ⟨#[49]⟩)] (.tup [.own 2 1 (avs [1]), .bool true]) :=
  readNumbers_c ⟨#[49]⟩ (by decide) (l := [⟨#[49]⟩]) [1] (by kernel_rfl) rfl (by decide) (fun i hi => by
    match i, hi with
    | 0, _ => exact wd1)
theorem rw2 : Con Tryz.prog 136 [.val (.string ⟨#[48, 32, 48]⟩)] (.tup [.own 2 2 (avs [0, 0]), .bool true]) :=
  readNumbers_c ⟨#[48, 32, 48]⟩ (by decide) (l := [⟨#[48]⟩, ⟨#[48]⟩]) [0, 0] (by kernel_rfl) rfl (by decide) (fun i hi => by
    match i, hi with
    | 0, _ => exact wd0
    | 1, _ => exact wd0)
theorem rw3 : Con Tryz.prog 136 [.val (.string ⟨#[49, 32, 48]⟩)] (.tup [.own 2 2 (avs [1, 0]), .bool true]) :=
  readNumbers_c ⟨#[49, 32, 48]⟩ (by decide) (l := [⟨#[49]⟩, ⟨#[48]⟩]) [1, 0] (by kernel_rfl) rfl (by decide) (fun i hi => by
    match i, hi with
    | 0, _ => exact wd1
    | 1, _ => exact wd0)
theorem rw4 : Con Tryz.prog 136 [.val (.string ⟨#[49, 47, 50, 32, 49, 47, 50]⟩)] (.tup [.own 2 2 (avs [5004, 5004]), .bool true]) :=
  readNumbers_c ⟨#[49, 47, 50, 32, 49, 47, 50]⟩ (by decide) (l := [⟨#[49, 47, 50]⟩, ⟨#[49, 47, 50]⟩]) [5004, 5004] (by kernel_rfl) rfl (by decide) (fun i hi => by
    match i, hi with
    | 0, _ => exact wd2
    | 1, _ => exact wd2)
theorem rw5 : Con Tryz.prog 136 [.val (.string ⟨#[48, 32, 48, 32, 48]⟩)] (.tup [.own 2 3 (avs [0, 0, 0]), .bool true]) :=
  readNumbers_c ⟨#[48, 32, 48, 32, 48]⟩ (by decide) (l := [⟨#[48]⟩, ⟨#[48]⟩, ⟨#[48]⟩]) [0, 0, 0] (by kernel_rfl) rfl (by decide) (fun i hi => by
    match i, hi with
    | 0, _ => exact wd0
    | 1, _ => exact wd0
    | 2, _ => exact wd0)
theorem rw6 : Con Tryz.prog 136 [.val (.string ⟨#[49, 47, 50, 32, 48, 32, 48]⟩)] (.tup [.own 2 3 (avs [5004, 0, 0]), .bool true]) :=
  readNumbers_c ⟨#[49, 47, 50, 32, 48, 32, 48]⟩ (by decide) (l := [⟨#[49, 47, 50]⟩, ⟨#[48]⟩, ⟨#[48]⟩]) [5004, 0, 0] (by kernel_rfl) rfl (by decide) (fun i hi => by
    match i, hi with
    | 0, _ => exact wd2
    | 1, _ => exact wd0
    | 2, _ => exact wd0)
theorem rw7 : Con Tryz.prog 136 [.val (.string ⟨#[45, 49, 32, 50, 32, 48]⟩)] (.tup [.own 2 3 (avs [10006, 2, 0]), .bool true]) :=
  readNumbers_c ⟨#[45, 49, 32, 50, 32, 48]⟩ (by decide) (l := [⟨#[45, 49]⟩, ⟨#[50]⟩, ⟨#[48]⟩]) [10006, 2, 0] (by kernel_rfl) rfl (by decide) (fun i hi => by
    match i, hi with
    | 0, _ => exact wd3
    | 1, _ => exact wd4
    | 2, _ => exact wd0)
theorem rw8 : Con Tryz.prog 136 [.val (.string ⟨#[49, 47, 54, 32, 50, 47, 51, 32, 49, 47, 54]⟩)] (.tup [.own 2 3 (avs [1668, 6672, 1668]), .bool true]) :=
  readNumbers_c ⟨#[49, 47, 54, 32, 50, 47, 51, 32, 49, 47, 54]⟩ (by decide) (l := [⟨#[49, 47, 54]⟩, ⟨#[50, 47, 51]⟩, ⟨#[49, 47, 54]⟩]) [1668, 6672, 1668] (by kernel_rfl) rfl (by decide) (fun i hi => by
    match i, hi with
    | 0, _ => exact wd5
    | 1, _ => exact wd6
    | 2, _ => exact wd5)
theorem rw9 : Con Tryz.prog 136 [.val (.string ⟨#[53, 47, 50, 52, 32, 49, 47, 51, 32, 45, 49, 47, 50, 52]⟩)] (.tup [.own 2 3 (avs [2085, 3336, 9590]), .bool true]) :=
  readNumbers_c ⟨#[53, 47, 50, 52, 32, 49, 47, 51, 32, 45, 49, 47, 50, 52]⟩ (by decide) (l := [⟨#[53, 47, 50, 52]⟩, ⟨#[49, 47, 51]⟩, ⟨#[45, 49, 47, 50, 52]⟩]) [2085, 3336, 9590] (by kernel_rfl) rfl (by decide) (fun i hi => by
    match i, hi with
    | 0, _ => exact wd7
    | 1, _ => exact wd8
    | 2, _ => exact wd9)
theorem rw10 : Con Tryz.prog 136 [.val (.string ⟨#[49, 47, 50]⟩)] (.tup [.own 2 1 (avs [5004]), .bool true]) :=
  readNumbers_c ⟨#[49, 47, 50]⟩ (by decide) (l := [⟨#[49, 47, 50]⟩]) [5004] (by kernel_rfl) rfl (by decide) (fun i hi => by
    match i, hi with
    | 0, _ => exact wd2)
theorem rw11 : Con Tryz.prog 136 [.val (.string ⟨#[49, 47, 50, 32, 48]⟩)] (.tup [.own 2 2 (avs [5004, 0]), .bool true]) :=
  readNumbers_c ⟨#[49, 47, 50, 32, 48]⟩ (by decide) (l := [⟨#[49, 47, 50]⟩, ⟨#[48]⟩]) [5004, 0] (by kernel_rfl) rfl (by decide) (fun i hi => by
    match i, hi with
    | 0, _ => exact wd2
    | 1, _ => exact wd0)
theorem rw12 : Con Tryz.prog 136 [.val (.string ⟨#[48, 32, 49]⟩)] (.tup [.own 2 2 (avs [0, 1]), .bool true]) :=
  readNumbers_c ⟨#[48, 32, 49]⟩ (by decide) (l := [⟨#[48]⟩, ⟨#[49]⟩]) [0, 1] (by kernel_rfl) rfl (by decide) (fun i hi => by
    match i, hi with
    | 0, _ => exact wd0
    | 1, _ => exact wd1)
theorem rw13 : Con Tryz.prog 136 [.val (.string ⟨#[53, 47, 49, 50, 32, 45, 49, 47, 49, 50]⟩)] (.tup [.own 2 2 (avs [4170, 9173]), .bool true]) :=
  readNumbers_c ⟨#[53, 47, 49, 50, 32, 45, 49, 47, 49, 50]⟩ (by decide) (l := [⟨#[53, 47, 49, 50]⟩, ⟨#[45, 49, 47, 49, 50]⟩]) [4170, 9173] (by kernel_rfl) rfl (by decide) (fun i hi => by
    match i, hi with
    | 0, _ => exact wd10
    | 1, _ => exact wd11)
theorem rw14 : Con Tryz.prog 136 [.val (.string ⟨#[51, 47, 52, 32, 49, 47, 52]⟩)] (.tup [.own 2 2 (avs [7506, 2502]), .bool true]) :=
  readNumbers_c ⟨#[51, 47, 52, 32, 49, 47, 52]⟩ (by decide) (l := [⟨#[51, 47, 52]⟩, ⟨#[49, 47, 52]⟩]) [7506, 2502] (by kernel_rfl) rfl (by decide) (fun i hi => by
    match i, hi with
    | 0, _ => exact wd12
    | 1, _ => exact wd13)
theorem rw15 : Con Tryz.prog 136 [.val (.string ⟨#[50, 47, 51, 32, 48]⟩)] (.tup [.own 2 2 (avs [6672, 0]), .bool true]) :=
  readNumbers_c ⟨#[50, 47, 51, 32, 48]⟩ (by decide) (l := [⟨#[50, 47, 51]⟩, ⟨#[48]⟩]) [6672, 0] (by kernel_rfl) rfl (by decide) (fun i hi => by
    match i, hi with
    | 0, _ => exact wd6
    | 1, _ => exact wd0)
theorem rw16 : Con Tryz.prog 136 [.val (.string ⟨#[49, 47, 52, 32, 51, 47, 52]⟩)] (.tup [.own 2 2 (avs [2502, 7506]), .bool true]) :=
  readNumbers_c ⟨#[49, 47, 52, 32, 51, 47, 52]⟩ (by decide) (l := [⟨#[49, 47, 52]⟩, ⟨#[51, 47, 52]⟩]) [2502, 7506] (by kernel_rfl) rfl (by decide) (fun i hi => by
    match i, hi with
    | 0, _ => exact wd13
    | 1, _ => exact wd12)
theorem rw17 : Con Tryz.prog 136 [.val (.string ⟨#[48, 32, 48, 32, 48, 32, 48]⟩)] (.tup [.own 2 4 (avs [0, 0, 0, 0]), .bool true]) :=
  readNumbers_c ⟨#[48, 32, 48, 32, 48, 32, 48]⟩ (by decide) (l := [⟨#[48]⟩, ⟨#[48]⟩, ⟨#[48]⟩, ⟨#[48]⟩]) [0, 0, 0, 0] (by kernel_rfl) rfl (by decide) (fun i hi => by
    match i, hi with
    | 0, _ => exact wd0
    | 1, _ => exact wd0
    | 2, _ => exact wd0
    | 3, _ => exact wd0)
theorem rw18 : Con Tryz.prog 136 [.val (.string ⟨#[49, 47, 50, 32, 48, 32, 48, 32, 48]⟩)] (.tup [.own 2 4 (avs [5004, 0, 0, 0]), .bool true]) :=
  readNumbers_c ⟨#[49, 47, 50, 32, 48, 32, 48, 32, 48]⟩ (by decide) (l := [⟨#[49, 47, 50]⟩, ⟨#[48]⟩, ⟨#[48]⟩, ⟨#[48]⟩]) [5004, 0, 0, 0] (by kernel_rfl) rfl (by decide) (fun i hi => by
    match i, hi with
    | 0, _ => exact wd2
    | 1, _ => exact wd0
    | 2, _ => exact wd0
    | 3, _ => exact wd0)
theorem rw19 : Con Tryz.prog 136 [.val (.string ⟨#[48, 32, 49, 47, 50, 32, 48, 32, 48]⟩)] (.tup [.own 2 4 (avs [0, 5004, 0, 0]), .bool true]) :=
  readNumbers_c ⟨#[48, 32, 49, 47, 50, 32, 48, 32, 48]⟩ (by decide) (l := [⟨#[48]⟩, ⟨#[49, 47, 50]⟩, ⟨#[48]⟩, ⟨#[48]⟩]) [0, 5004, 0, 0] (by kernel_rfl) rfl (by decide) (fun i hi => by
    match i, hi with
    | 0, _ => exact wd0
    | 1, _ => exact wd2
    | 2, _ => exact wd0
    | 3, _ => exact wd0)
theorem rw20 : Con Tryz.prog 136 [.val (.string ⟨#[48, 32, 48, 32, 49, 32, 48]⟩)] (.tup [.own 2 4 (avs [0, 0, 1, 0]), .bool true]) :=
  readNumbers_c ⟨#[48, 32, 48, 32, 49, 32, 48]⟩ (by decide) (l := [⟨#[48]⟩, ⟨#[48]⟩, ⟨#[49]⟩, ⟨#[48]⟩]) [0, 0, 1, 0] (by kernel_rfl) rfl (by decide) (fun i hi => by
    match i, hi with
    | 0, _ => exact wd0
    | 1, _ => exact wd0
    | 2, _ => exact wd1
    | 3, _ => exact wd0)
theorem rw21 : Con Tryz.prog 136 [.val (.string ⟨#[49, 47, 54, 32, 49, 47, 51, 32, 49, 47, 51, 32, 49, 47, 54]⟩)] (.tup [.own 2 4 (avs [1668, 3336, 3336, 1668]), .bool true]) :=
  readNumbers_c ⟨#[49, 47, 54, 32, 49, 47, 51, 32, 49, 47, 51, 32, 49, 47, 54]⟩ (by decide) (l := [⟨#[49, 47, 54]⟩, ⟨#[49, 47, 51]⟩, ⟨#[49, 47, 51]⟩, ⟨#[49, 47, 54]⟩]) [1668, 3336, 3336, 1668] (by kernel_rfl) rfl (by decide) (fun i hi => by
    match i, hi with
    | 0, _ => exact wd5
    | 1, _ => exact wd8
    | 2, _ => exact wd8
    | 3, _ => exact wd5)
theorem rw22 : Con Tryz.prog 136 [.val (.string ⟨#[49, 47, 52, 32, 49, 47, 52]⟩)] (.tup [.own 2 2 (avs [2502, 2502]), .bool true]) :=
  readNumbers_c ⟨#[49, 47, 52, 32, 49, 47, 52]⟩ (by decide) (l := [⟨#[49, 47, 52]⟩, ⟨#[49, 47, 52]⟩]) [2502, 2502] (by kernel_rfl) rfl (by decide) (fun i hi => by
    match i, hi with
    | 0, _ => exact wd13
    | 1, _ => exact wd13)
theorem pt_euler : Con Tryz.prog 66 [.val (.string ⟨#[48, 124, 49]⟩)] (.tup [.agg [.own 25 1 (omat [[0]]), .own 2 1 (avs [1])], .int 0]) :=
  ParseTableau_c ⟨#[48, 124, 49]⟩ ⟨#[48]⟩ ⟨#[49]⟩ (by decide) (by decide) (l := [⟨#[48]⟩]) [[0]] [1] (by kernel_rfl) (by kernel_rfl) rfl rw1 (fun i hi => by
    match i, hi with
    | 0, _ => exact rw0) (by decide)
theorem pt_heun : Con Tryz.prog 66 [.val (.string ⟨#[48, 32, 48, 59, 49, 32, 48, 124, 49, 47, 50, 32, 49, 47, 50]⟩)] (.tup [.agg [.own 25 2 (omat [[0, 0], [1, 0]]), .own 2 2 (avs [5004, 5004])], .int 0]) :=
  ParseTableau_c ⟨#[48, 32, 48, 59, 49, 32, 48, 124, 49, 47, 50, 32, 49, 47, 50]⟩ ⟨#[48, 32, 48, 59, 49, 32, 48]⟩ ⟨#[49, 47, 50, 32, 49, 47, 50]⟩ (by decide) (by decide) (l := [⟨#[48, 32, 48]⟩, ⟨#[49, 32, 48]⟩]) [[0, 0], [1, 0]] [5004, 5004] (by kernel_rfl) (by kernel_rfl) rfl rw4 (fun i hi => by
    match i, hi with
    | 0, _ => exact rw2
    | 1, _ => exact rw3) (by decide)
theorem pt_implicit : Con Tryz.prog 66 [.val (.string ⟨#[49, 124, 49]⟩)] (.tup [.agg [.own 25 1 (omat [[1]]), .own 2 1 (avs [1])], .int 0]) :=
  ParseTableau_c ⟨#[49, 124, 49]⟩ ⟨#[49]⟩ ⟨#[49]⟩ (by decide) (by decide) (l := [⟨#[49]⟩]) [[1]] [1] (by kernel_rfl) (by kernel_rfl) rfl rw1 (fun i hi => by
    match i, hi with
    | 0, _ => exact rw1) (by decide)
theorem pt_kutta : Con Tryz.prog 66 [.val (.string ⟨#[48, 32, 48, 32, 48, 59, 49, 47, 50, 32, 48, 32, 48, 59, 45, 49, 32, 50, 32, 48, 124, 49, 47, 54, 32, 50, 47, 51, 32, 49, 47, 54]⟩)] (.tup [.agg [.own 25 3 (omat [[0, 0, 0], [5004, 0, 0], [10006, 2, 0]]), .own 2 3 (avs [1668, 6672, 1668])], .int 0]) :=
  ParseTableau_c ⟨#[48, 32, 48, 32, 48, 59, 49, 47, 50, 32, 48, 32, 48, 59, 45, 49, 32, 50, 32, 48, 124, 49, 47, 54, 32, 50, 47, 51, 32, 49, 47, 54]⟩ ⟨#[48, 32, 48, 32, 48, 59, 49, 47, 50, 32, 48, 32, 48, 59, 45, 49, 32, 50, 32, 48]⟩ ⟨#[49, 47, 54, 32, 50, 47, 51, 32, 49, 47, 54]⟩ (by decide) (by decide) (l := [⟨#[48, 32, 48, 32, 48]⟩, ⟨#[49, 47, 50, 32, 48, 32, 48]⟩, ⟨#[45, 49, 32, 50, 32, 48]⟩]) [[0, 0, 0], [5004, 0, 0], [10006, 2, 0]] [1668, 6672, 1668] (by kernel_rfl) (by kernel_rfl) rfl rw8 (fun i hi => by
    match i, hi with
    | 0, _ => exact rw5
    | 1, _ => exact rw6
    | 2, _ => exact rw7) (by decide)
theorem pt_lobatto : Con Tryz.prog 66 [.val (.string ⟨#[48, 32, 48, 32, 48, 59, 53, 47, 50, 52, 32, 49, 47, 51, 32, 45, 49, 47, 50, 52, 59, 49, 47, 54, 32, 50, 47, 51, 32, 49, 47, 54, 124, 49, 47, 54, 32, 50, 47, 51, 32, 49, 47, 54]⟩)] (.tup [.agg [.own 25 3 (omat [[0, 0, 0], [2085, 3336, 9590], [1668, 6672, 1668]]), .own 2 3 (avs [1668, 6672, 1668])], .int 0]) :=
  ParseTableau_c ⟨#[48, 32, 48, 32, 48, 59, 53, 47, 50, 52, 32, 49, 47, 51, 32, 45, 49, 47, 50, 52, 59, 49, 47, 54, 32, 50, 47, 51, 32, 49, 47, 54, 124, 49, 47, 54, 32, 50, 47, 51, 32, 49, 47, 54]⟩ ⟨#[48, 32, 48, 32, 48, 59, 53, 47, 50, 52, 32, 49, 47, 51, 32, 45, 49, 47, 50, 52, 59, 49, 47, 54, 32, 50, 47, 51, 32, 49, 47, 54]⟩ ⟨#[49, 47, 54, 32, 50, 47, 51, 32, 49, 47, 54]⟩ (by decide) (by decide) (l := [⟨#[48, 32, 48, 32, 48]⟩, ⟨#[53, 47, 50, 52, 32, 49, 47, 51, 32, 45, 49, 47, 50, 52]⟩, ⟨#[49, 47, 54, 32, 50, 47, 51, 32, 49, 47, 54]⟩]) [[0, 0, 0], [2085, 3336, 9590], [1668, 6672, 1668]] [1668, 6672, 1668] (by kernel_rfl) (by kernel_rfl) rfl rw8 (fun i hi => by
    match i, hi with
    | 0, _ => exact rw5
    | 1, _ => exact rw9
    | 2, _ => exact rw8) (by decide)
theorem pt_middle : Con Tryz.prog 66 [.val (.string ⟨#[49, 47, 50, 124, 49]⟩)] (.tup [.agg [.own 25 1 (omat [[5004]]), .own 2 1 (avs [1])], .int 0]) :=
  ParseTableau_c ⟨#[49, 47, 50, 124, 49]⟩ ⟨#[49, 47, 50]⟩ ⟨#[49]⟩ (by decide) (by decide) (l := [⟨#[49, 47, 50]⟩]) [[5004]] [1] (by kernel_rfl) (by kernel_rfl) rfl rw1 (fun i hi => by
    match i, hi with
    | 0, _ => exact rw10) (by decide)
theorem pt_midpoint : Con Tryz.prog 66 [.val (.string ⟨#[48, 32, 48, 59, 49, 47, 50, 32, 48, 124, 48, 32, 49]⟩)] (.tup [.agg [.own 25 2 (omat [[0, 0], [5004, 0]]), .own 2 2 (avs [0, 1])], .int 0]) :=
  ParseTableau_c ⟨#[48, 32, 48, 59, 49, 47, 50, 32, 48, 124, 48, 32, 49]⟩ ⟨#[48, 32, 48, 59, 49, 47, 50, 32, 48]⟩ ⟨#[48, 32, 49]⟩ (by decide) (by decide) (l := [⟨#[48, 32, 48]⟩, ⟨#[49, 47, 50, 32, 48]⟩]) [[0, 0], [5004, 0]] [0, 1] (by kernel_rfl) (by kernel_rfl) rfl rw12 (fun i hi => by
    match i, hi with
    | 0, _ => exact rw2
    | 1, _ => exact rw11) (by decide)
theorem pt_radau : Con Tryz.prog 66 [.val (.string ⟨#[53, 47, 49, 50, 32, 45, 49, 47, 49, 50, 59, 51, 47, 52, 32, 49, 47, 52, 124, 51, 47, 52, 32, 49, 47, 52]⟩)] (.tup [.agg [.own 25 2 (omat [[4170, 9173], [7506, 2502]]), .own 2 2 (avs [7506, 2502])], .int 0]) :=
  ParseTableau_c ⟨#[53, 47, 49, 50, 32, 45, 49, 47, 49, 50, 59, 51, 47, 52, 32, 49, 47, 52, 124, 51, 47, 52, 32, 49, 47, 52]⟩ ⟨#[53, 47, 49, 50, 32, 45, 49, 47, 49, 50, 59, 51, 47, 52, 32, 49, 47, 52]⟩ ⟨#[51, 47, 52, 32, 49, 47, 52]⟩ (by decide) (by decide) (l := [⟨#[53, 47, 49, 50, 32, 45, 49, 47, 49, 50]⟩, ⟨#[51, 47, 52, 32, 49, 47, 52]⟩]) [[4170, 9173], [7506, 2502]] [7506, 2502] (by kernel_rfl) (by kernel_rfl) rfl rw14 (fun i hi => by
    match i, hi with
    | 0, _ => exact rw13
    | 1, _ => exact rw14) (by decide)
theorem pt_ralston : Con Tryz.prog 66 [.val (.string ⟨#[48, 32, 48, 59, 50, 47, 51, 32, 48, 124, 49, 47, 52, 32, 51, 47, 52]⟩)] (.tup [.agg [.own 25 2 (omat [[0, 0], [6672, 0]]), .own 2 2 (avs [2502, 7506])], .int 0]) :=
  ParseTableau_c ⟨#[48, 32, 48, 59, 50, 47, 51, 32, 48, 124, 49, 47, 52, 32, 51, 47, 52]⟩ ⟨#[48, 32, 48, 59, 50, 47, 51, 32, 48]⟩ ⟨#[49, 47, 52, 32, 51, 47, 52]⟩ (by decide) (by decide) (l := [⟨#[48, 32, 48]⟩, ⟨#[50, 47, 51, 32, 48]⟩]) [[0, 0], [6672, 0]] [2502, 7506] (by kernel_rfl) (by kernel_rfl) rfl rw16 (fun i hi => by
    match i, hi with
    | 0, _ => exact rw2
    | 1, _ => exact rw15) (by decide)
theorem pt_runge : Con Tryz.prog 66 [.val (.string ⟨#[48, 32, 48, 32, 48, 32, 48, 59, 49, 47, 50, 32, 48, 32, 48, 32, 48, 59, 48, 32, 49, 47, 50, 32, 48, 32, 48, 59, 48, 32, 48, 32, 49, 32, 48, 124, 49, 47, 54, 32, 49, 47, 51, 32, 49, 47, 51, 32, 49, 47, 54]⟩)] (.tup [.agg [.own 25 4 (omat [[0, 0, 0, 0], [5004, 0, 0, 0], [0, 5004, 0, 0], [0, 0, 1, 0]]), .own 2 4 (avs [1668, 3336, 3336, 1668])], .int 0]) :=
  ParseTableau_c ⟨#[48, 32, 48, 32, 48, 32, 48, 59, 49, 47, 50, 32, 48, 32, 48, 32, 48, 59, 48, 32, 49, 47, 50, 32, 48, 32, 48, 59, 48, 32, 48, 32, 49, 32, 48, 124, 49, 47, 54, 32, 49, 47, 51, 32, 49, 47, 51, 32, 49, 47, 54]⟩ ⟨#[48, 32, 48, 32, 48, 32, 48, 59, 49, 47, 50, 32, 48, 32, 48, 32, 48, 59, 48, 32, 49, 47, 50, 32, 48, 32, 48, 59, 48, 32, 48, 32, 49, 32, 48]⟩ ⟨#[49, 47, 54, 32, 49, 47, 51, 32, 49, 47, 51, 32, 49, 47, 54]⟩ (by decide) (by decide) (l := [⟨#[48, 32, 48, 32, 48, 32, 48]⟩, ⟨#[49, 47, 50, 32, 48, 32, 48, 32, 48]⟩, ⟨#[48, 32, 49, 47, 50, 32, 48, 32, 48]⟩, ⟨#[48, 32, 48, 32, 49, 32, 48]⟩]) [[0, 0, 0, 0], [5004, 0, 0, 0], [0, 5004, 0, 0], [0, 0, 1, 0]] [1668, 3336, 3336, 1668] (by kernel_rfl) (by kernel_rfl) rfl rw21 (fun i hi => by
    match i, hi with
    | 0, _ => exact rw17
    | 1, _ => exact rw18
    | 2, _ => exact rw19
    | 3, _ => exact rw20) (by decide)
theorem pt_trapezoid : Con Tryz.prog 66 [.val (.string ⟨#[48, 32, 48, 59, 49, 47, 50, 32, 49, 47, 50, 124, 49, 47, 50, 32, 49, 47, 50]⟩)] (.tup [.agg [.own 25 2 (omat [[0, 0], [5004, 5004]]), .own 2 2 (avs [5004, 5004])], .int 0]) :=
  ParseTableau_c ⟨#[48, 32, 48, 59, 49, 47, 50, 32, 49, 47, 50, 124, 49, 47, 50, 32, 49, 47, 50]⟩ ⟨#[48, 32, 48, 59, 49, 47, 50, 32, 49, 47, 50]⟩ ⟨#[49, 47, 50, 32, 49, 47, 50]⟩ (by decide) (by decide) (l := [⟨#[48, 32, 48]⟩, ⟨#[49, 47, 50, 32, 49, 47, 50]⟩]) [[0, 0], [5004, 5004]] [5004, 5004] (by kernel_rfl) (by kernel_rfl) rfl rw4 (fun i hi => by
    match i, hi with
    | 0, _ => exact rw2
    | 1, _ => exact rw4) (by decide)
theorem pt_gauss : Con Tryz.prog 66 [.val (.string ⟨#[49, 47, 52, 32, 49, 47, 52, 59, 49, 47, 52, 32, 49, 47, 52, 124, 49, 47, 50, 32, 49, 47, 50]⟩)] (.tup [.agg [.own 25 2 (omat [[2502, 2502], [2502, 2502]]), .own 2 2 (avs [5004, 5004])], .int 0]) :=
  ParseTableau_c ⟨#[49, 47, 52, 32, 49, 47, 52, 59, 49, 47, 52, 32, 49, 47, 52, 124, 49, 47, 50, 32, 49, 47, 50]⟩ ⟨#[49, 47, 52, 32, 49, 47, 52, 59, 49, 47, 52, 32, 49, 47, 52]⟩ ⟨#[49, 47, 50, 32, 49, 47, 50]⟩ (by decide) (by decide) (l := [⟨#[49, 47, 52, 32, 49, 47, 52]⟩, ⟨#[49, 47, 52, 32, 49, 47, 52]⟩]) [[2502, 2502], [2502, 2502]] [5004, 5004] (by kernel_rfl) (by kernel_rfl) rfl rw4 (fun i hi => by
    match i, hi with
    | 0, _ => exact rw22
    | 1, _ => exact rw22) (by decide)
set_option maxRecDepth 100000 in
theorem nt_euler : Con Tryz.prog 65 [.val (.string ⟨#[101, 117, 108, 101, 114]⟩)] (.tup [.val (.string ⟨#[48, 124, 49]⟩), .bool true]) := by
  have e0 : strEq ⟨#[101, 117, 108, 101, 114]⟩ ⟨#[101, 117, 108, 101, 114]⟩ = true := by kernel_rfl
  refine con_of_vc Tryz.mixed ⟨4, [], [], []⟩ Tryz.func65 (by decide) rfl (by simp) (by decide) (by simp [freshOK, freshL, go_sem]) ?_
  rw [Tryz.ntmps65]
  simp [go_sem]
  simp [go_sem, e0]
set_option maxRecDepth 100000 in
theorem nt_heun : Con Tryz.prog 65 [.val (.string ⟨#[104, 101, 117, 110]⟩)] (.tup [.val (.string ⟨#[48, 32, 48, 59, 49, 32, 48, 124, 49, 47, 50, 32, 49, 47, 50]⟩), .bool true]) := by
  have e0 : strEq ⟨#[104, 101, 117, 110]⟩ ⟨#[101, 117, 108, 101, 114]⟩ = false := by kernel_rfl
  have e1 : strEq ⟨#[104, 101, 117, 110]⟩ ⟨#[104, 101, 117, 110]⟩ = true := by kernel_rfl
  refine con_of_vc Tryz.mixed ⟨4, [], [], []⟩ Tryz.func65 (by decide) rfl (by simp) (by decide) (by simp [freshOK, freshL, go_sem]) ?_
  rw [Tryz.ntmps65]
  simp [go_sem]
  simp [go_sem, e0, e1]
set_option maxRecDepth 100000 in
theorem nt_implicit : Con Tryz.prog 65 [.val (.string ⟨#[105, 109, 112, 108, 105, 99, 105, 116]⟩)] (.tup [.val (.string ⟨#[49, 124, 49]⟩), .bool true]) := by
  have e0 : strEq ⟨#[105, 109, 112, 108, 105, 99, 105, 116]⟩ ⟨#[101, 117, 108, 101, 114]⟩ = false := by kernel_rfl
  have e1 : strEq ⟨#[105, 109, 112, 108, 105, 99, 105, 116]⟩ ⟨#[104, 101, 117, 110]⟩ = false := by kernel_rfl
  have e2 : strEq ⟨#[105, 109, 112, 108, 105, 99, 105, 116]⟩ ⟨#[105, 109, 112, 108, 105, 99, 105, 116]⟩ = true := by kernel_rfl
  refine con_of_vc Tryz.mixed ⟨4, [], [], []⟩ Tryz.func65 (by decide) rfl (by simp) (by decide) (by simp [freshOK, freshL, go_sem]) ?_
  rw [Tryz.ntmps65]
  simp [go_sem]
  simp [go_sem, e0, e1, e2]
set_option maxRecDepth 100000 in
theorem nt_kutta : Con Tryz.prog 65 [.val (.string ⟨#[107, 117, 116, 116, 97]⟩)] (.tup [.val (.string ⟨#[48, 32, 48, 32, 48, 59, 49, 47, 50, 32, 48, 32, 48, 59, 45, 49, 32, 50, 32, 48, 124, 49, 47, 54, 32, 50, 47, 51, 32, 49, 47, 54]⟩), .bool true]) := by
  have e0 : strEq ⟨#[107, 117, 116, 116, 97]⟩ ⟨#[101, 117, 108, 101, 114]⟩ = false := by kernel_rfl
  have e1 : strEq ⟨#[107, 117, 116, 116, 97]⟩ ⟨#[104, 101, 117, 110]⟩ = false := by kernel_rfl
  have e2 : strEq ⟨#[107, 117, 116, 116, 97]⟩ ⟨#[105, 109, 112, 108, 105, 99, 105, 116]⟩ = false := by kernel_rfl
  have e3 : strEq ⟨#[107, 117, 116, 116, 97]⟩ ⟨#[107, 117, 116, 116, 97]⟩ = true := by kernel_rfl
  refine con_of_vc Tryz.mixed ⟨4, [], [], []⟩ Tryz.func65 (by decide) rfl (by simp) (by decide) (by simp [freshOK, freshL, go_sem]) ?_
  rw [Tryz.ntmps65]
  simp [go_sem]
  simp [go_sem, e0, e1, e2, e3]
set_option maxRecDepth 100000 in
theorem nt_lobatto : Con Tryz.prog 65 [.val (.string ⟨#[108, 111, 98, 97, 116, 116, 111]⟩)] (.tup [.val (.string ⟨#[48, 32, 48, 32, 48, 59, 53, 47, 50, 52, 32, 49, 47, 51, 32, 45, 49, 47, 50, 52, 59, 49, 47, 54, 32, 50, 47, 51, 32, 49, 47, 54, 124, 49, 47, 54, 32, 50, 47, 51, 32, 49, 47, 54]⟩), .bool true]) := by
  have e0 : strEq ⟨#[108, 111, 98, 97, 116, 116, 111]⟩ ⟨#[101, 117, 108, 101, 114]⟩ = false := by kernel_rfl
  have e1 : strEq ⟨#[108, 111, 98, 97, 116, 116, 111]⟩ ⟨#[104, 101, 117, 110]⟩ = false := by kernel_rfl
  have e2 : strEq ⟨#[108, 111, 98, 97, 116, 116, 111]⟩ ⟨#[105, 109, 112, 108, 105, 99, 105, 116]⟩ = false := by kernel_rfl
  have e3 : strEq ⟨#[108, 111, 98, 97, 116, 116, 111]⟩ ⟨#[107, 117, 116, 116, 97]⟩ = false := by kernel_rfl
  have e4 : strEq ⟨#[108, 111, 98, 97, 116, 116, 111]⟩ ⟨#[108, 111, 98, 97, 116, 116, 111]⟩ = true := by kernel_rfl
  refine con_of_vc Tryz.mixed ⟨4, [], [], []⟩ Tryz.func65 (by decide) rfl (by simp) (by decide) (by simp [freshOK, freshL, go_sem]) ?_
  rw [Tryz.ntmps65]
  simp [go_sem]
  simp [go_sem, e0, e1, e2, e3, e4]
set_option maxRecDepth 100000 in
theorem nt_middle : Con Tryz.prog 65 [.val (.string ⟨#[109, 105, 100, 100, 108, 101]⟩)] (.tup [.val (.string ⟨#[49, 47, 50, 124, 49]⟩), .bool true]) := by
  have e0 : strEq ⟨#[109, 105, 100, 100, 108, 101]⟩ ⟨#[101, 117, 108, 101, 114]⟩ = false := by kernel_rfl
  have e1 : strEq ⟨#[109, 105, 100, 100, 108, 101]⟩ ⟨#[104, 101, 117, 110]⟩ = false := by kernel_rfl
  have e2 : strEq ⟨#[109, 105, 100, 100, 108, 101]⟩ ⟨#[105, 109, 112, 108, 105, 99, 105, 116]⟩ = false := by kernel_rfl
  have e3 : strEq ⟨#[109, 105, 100, 100, 108, 101]⟩ ⟨#[107, 117, 116, 116, 97]⟩ = false := by kernel_rfl
  have e4 : strEq ⟨#[109, 105, 100, 100, 108, 101]⟩ ⟨#[108, 111, 98, 97, 116, 116, 111]⟩ = false := by kernel_rfl
  have e5 : strEq ⟨#[109, 105, 100, 100, 108, 101]⟩ ⟨#[109, 105, 100, 100, 108, 101]⟩ = true := by kernel_rfl
  refine con_of_vc Tryz.mixed ⟨4, [], [], []⟩ Tryz.func65 (by decide) rfl (by simp) (by decide) (by simp [freshOK, freshL, go_sem]) ?_
  rw [Tryz.ntmps65]
  simp [go_sem]
  simp [go_sem, e0, e1, e2, e3, e4, e5]
set_option maxRecDepth 100000 in
theorem nt_midpoint : Con Tryz.prog 65 [.val (.string ⟨#[109, 105, 100, 112, 111, 105, 110, 116]⟩)] (.tup [.val (.string ⟨#[48, 32, 48, 59, 49, 47, 50, 32, 48, 124, 48, 32, 49]⟩), .bool true]) := by
  have e0 : strEq ⟨#[109, 105, 100, 112, 111, 105, 110, 116]⟩ ⟨#[101, 117, 108, 101, 114]⟩ = false := by kernel_rfl
  have e1 : strEq ⟨#[109, 105, 100, 112, 111, 105, 110, 116]⟩ ⟨#[104, 101, 117, 110]⟩ = false := by kernel_rfl
  have e2 : strEq ⟨#[109, 105, 100, 112, 111, 105, 110, 116]⟩ ⟨#[105, 109, 112, 108, 105, 99, 105, 116]⟩ = false := by kernel_rfl
  have e3 : strEq ⟨#[109, 105, 100, 112, 111, 105, 110, 116]⟩ ⟨#[107, 117, 116, 116, 97]⟩ = false := by kernel_rfl
  have e4 : strEq ⟨#[109, 105, 100, 112, 111, 105, 110, 116]⟩ ⟨#[108, 111, 98, 97, 116, 116, 111]⟩ = false := by kernel_rfl
  have e5 : strEq ⟨#[109, 105, 100, 112, 111, 105, 110, 116]⟩ ⟨#[109, 105, 100, 100, 108, 101]⟩ = false := by kernel_rfl
  have e6 : strEq ⟨#[109, 105, 100, 112, 111, 105, 110, 116]⟩ ⟨#[109, 105, 100, 112, 111, 105, 110, 116]⟩ = true := by kernel_rfl
  refine con_of_vc Tryz.mixed ⟨4, [], [], []⟩ Tryz.func65 (by decide) rfl (by simp) (by decide) (by simp [freshOK, freshL, go_sem]) ?_
  rw [Tryz.ntmps65]
  simp [go_sem]
  simp [go_sem, e0, e1, e2, e3, e4, e5, e6]
set_option maxRecDepth 100000 in
theorem nt_radau : Con Tryz.prog 65 [.val (.string ⟨#[114, 97, 100, 97, 117]⟩)] (.tup [.val (.string ⟨#[53, 47, 49, 50, 32, 45, 49, 47, 49, 50, 59, 51, 47, 52, 32, 49, 47, 52, 124, 51, 47, 52, 32, 49, 47, 52]⟩), .bool true]) := by
  have e0 : strEq ⟨#[114, 97, 100, 97, 117]⟩ ⟨#[101, 117, 108, 101, 114]⟩ = false := by kernel_rfl
  have e1 : strEq ⟨#[114, 97, 100, 97, 117]⟩ ⟨#[104, 101, 117, 110]⟩ = false := by kernel_rfl
  have e2 : strEq ⟨#[114, 97, 100, 97, 117]⟩ ⟨#[105, 109, 112, 108, 105, 99, 105, 116]⟩ = false := by kernel_rfl
  have e3 : strEq ⟨#[114, 97, 100, 97, 117]⟩ ⟨#[107, 117, 116, 116, 97]⟩ = false := by kernel_rfl
  have e4 : strEq ⟨#[114, 97, 100, 97, 117]⟩ ⟨#[108, 111, 98, 97, 116, 116, 111]⟩ = false := by kernel_rfl
  have e5 : strEq ⟨#[114, 97, 100, 97, 117]⟩ ⟨#[109, 105, 100, 100, 108, 101]⟩ = false := by kernel_rfl
  have e6 : strEq ⟨#[114, 97, 100, 97, 117]⟩ ⟨#[109, 105, 100, 112, 111, 105, 110, 116]⟩ = false := by kernel_rfl
  have e7 : strEq ⟨#[114, 97, 100, 97, 117]⟩ ⟨#[114, 97, 100, 97, 117]⟩ = true := by kernel_rfl
  refine con_of_vc Tryz.mixed ⟨4, [], [], []⟩ Tryz.func65 (by decide) rfl (by simp) (by decide) (by simp [freshOK, freshL, go_sem]) ?_
  rw [Tryz.ntmps65]
  simp [go_sem]
  simp [go_sem, e0, e1, e2, e3, e4, e5, e6, e7]
set_option maxRecDepth 100000 in
theorem nt_ralston : Con Tryz.prog 65 [.val (.string ⟨#[114, 97, 108, 115, 116, 111, 110]⟩)] (.tup [.val (.string ⟨#[48, 32, 48, 59, 50, 47, 51, 32, 48, 124, 49, 47, 52, 32, 51, 47, 52]⟩), .bool true]) := by
  have e0 : strEq ⟨#[114, 97, 108, 115, 116, 111, 110]⟩ ⟨#[101, 117, 108, 101, 114]⟩ = false := by kernel_rfl
  have e1 : strEq ⟨#[114, 97, 108, 115, 116, 111, 110]⟩ ⟨#[104, 101, 117, 110]⟩ = false := by kernel_rfl
  have e2 : strEq ⟨#[114, 97, 108, 115, 116, 111, 110]⟩ ⟨#[105, 109, 112, 108, 105, 99, 105, 116]⟩ = false := by kernel_rfl
  have e3 : strEq ⟨#[114, 97, 108, 115, 116, 111, 110]⟩ ⟨#[107, 117, 116, 116, 97]⟩ = false := by kernel_rfl
  have e4 : strEq ⟨#[114, 97, 108, 115, 116, 111, 110]⟩ ⟨#[108, 111, 98, 97, 116, 116, 111]⟩ = false := by kernel_rfl
  have e5 : strEq ⟨#[114, 97, 108, 115, 116, 111, 110]⟩ ⟨#[109, 105, 100, 100, 108, 101]⟩ = false := by kernel_rfl
  have e6 : strEq ⟨#[114, 97, 108, 115, 116, 111, 110]⟩ ⟨#[109, 105, 100, 112, 111, 105, 110, 116]⟩ = false := by kernel_rfl
  have e7 : strEq ⟨#[114, 97, 108, 115, 116, 111, 110]⟩ ⟨#[114, 97, 100, 97, 117]⟩ = false := by kernel_rfl
  have e8 : strEq ⟨#[114, 97, 108, 115, 116, 111, 110]⟩ ⟨#[114, 97, 108, 115, 116, 111, 110]⟩ = true := by kernel_rfl
  refine con_of_vc Tryz.mixed ⟨4, [], [], []⟩ Tryz.func65 (by decide) rfl (by simp) (by decide) (by simp [freshOK, freshL, go_sem]) ?_
  rw [Tryz.ntmps65]
  simp [go_sem]
  simp [go_sem, e0, e1, e2, e3, e4, e5, e6, e7, e8]
set_option maxRecDepth 100000 in
theorem nt_runge : Con Tryz.prog 65 [.val (.string ⟨#[114, 117, 110, 103, 101]⟩)] (.tup [.val (.string ⟨#[48, 32, 48, 32, 48, 32, 48, 59, 49, 47, 50, 32, 48, 32, 48, 32, 48, 59, 48, 32, 49, 47, 50, 32, 48, 32, 48, 59, 48, 32, 48, 32, 49, 32, 48, 124, 49, 47, 54, 32, 49, 47, 51, 32, 49, 47, 51, 32, 49, 47, 54]⟩), .bool true]) := by
  have e0 : strEq ⟨#[114, 117, 110, 103, 101]⟩ ⟨#[101, 117, 108, 101, 114]⟩ = false := by kernel_rfl
  have e1 : strEq ⟨#[114, 117, 110, 103, 101]⟩ ⟨#[104, 101, 117, 110]⟩ = false := by kernel_rfl
  have e2 : strEq ⟨#[114, 117, 110, 103, 101]⟩ ⟨#[105, 109, 112, 108, 105, 99, 105, 116]⟩ = false := by kernel_rfl
  have e3 : strEq ⟨#[114, 117, 110, 103, 101]⟩ ⟨#[107, 117, 116, 116, 97]⟩ = false := by kernel_rfl
  have e4 : strEq ⟨#[114, 117, 110, 103, 101]⟩ ⟨#[108, 111, 98, 97, 116, 116, 111]⟩ = false := by kernel_rfl
  have e5 : strEq ⟨#[114, 117, 110, 103, 101]⟩ ⟨#[109, 105, 100, 100, 108, 101]⟩ = false := by kernel_rfl
  have e6 : strEq ⟨#[114, 117, 110, 103, 101]⟩ ⟨#[109, 105, 100, 112, 111, 105, 110, 116]⟩ = false := by kernel_rfl
  have e7 : strEq ⟨#[114, 117, 110, 103, 101]⟩ ⟨#[114, 97, 100, 97, 117]⟩ = false := by kernel_rfl
  have e8 : strEq ⟨#[114, 117, 110, 103, 101]⟩ ⟨#[114, 97, 108, 115, 116, 111, 110]⟩ = false := by kernel_rfl
  have e9 : strEq ⟨#[114, 117, 110, 103, 101]⟩ ⟨#[114, 117, 110, 103, 101]⟩ = true := by kernel_rfl
  refine con_of_vc Tryz.mixed ⟨4, [], [], []⟩ Tryz.func65 (by decide) rfl (by simp) (by decide) (by simp [freshOK, freshL, go_sem]) ?_
  rw [Tryz.ntmps65]
  simp [go_sem]
  simp [go_sem, e0, e1, e2, e3, e4, e5, e6, e7, e8, e9]
set_option maxRecDepth 100000 in
theorem nt_trapezoid : Con Tryz.prog 65 [.val (.string ⟨#[116, 114, 97, 112, 101, 122, 111, 105, 100]⟩)] (.tup [.val (.string ⟨#[48, 32, 48, 59, 49, 47, 50, 32, 49, 47, 50, 124, 49, 47, 50, 32, 49, 47, 50]⟩), .bool true]) := by
  have e0 : strEq ⟨#[116, 114, 97, 112, 101, 122, 111, 105, 100]⟩ ⟨#[101, 117, 108, 101, 114]⟩ = false := by kernel_rfl
  have e1 : strEq ⟨#[116, 114, 97, 112, 101, 122, 111, 105, 100]⟩ ⟨#[104, 101, 117, 110]⟩ = false := by kernel_rfl
  have e2 : strEq ⟨#[116, 114, 97, 112, 101, 122, 111, 105, 100]⟩ ⟨#[105, 109, 112, 108, 105, 99, 105, 116]⟩ = false := by kernel_rfl
  have e3 : strEq ⟨#[116, 114, 97, 112, 101, 122, 111, 105, 100]⟩ ⟨#[107, 117, 116, 116, 97]⟩ = false := by kernel_rfl
  have e4 : strEq ⟨#[116, 114, 97, 112, 101, 122, 111, 105, 100]⟩ ⟨#[108, 111, 98, 97, 116, 116, 111]⟩ = false := by kernel_rfl
  have e5 : strEq ⟨#[116, 114, 97, 112, 101, 122, 111, 105, 100]⟩ ⟨#[109, 105, 100, 100, 108, 101]⟩ = false := by kernel_rfl
  have e6 : strEq ⟨#[116, 114, 97, 112, 101, 122, 111, 105, 100]⟩ ⟨#[109, 105, 100, 112, 111, 105, 110, 116]⟩ = false := by kernel_rfl
  have e7 : strEq ⟨#[116, 114, 97, 112, 101, 122, 111, 105, 100]⟩ ⟨#[114, 97, 100, 97, 117]⟩ = false := by kernel_rfl
  have e8 : strEq ⟨#[116, 114, 97, 112, 101, 122, 111, 105, 100]⟩ ⟨#[114, 97, 108, 115, 116, 111, 110]⟩ = false := by kernel_rfl
  have e9 : strEq ⟨#[116, 114, 97, 112, 101, 122, 111, 105, 100]⟩ ⟨#[114, 117, 110, 103, 101]⟩ = false := by kernel_rfl
  have e10 : strEq ⟨#[116, 114, 97, 112, 101, 122, 111, 105, 100]⟩ ⟨#[116, 114, 97, 112, 101, 122, 111, 105, 100]⟩ = true := by kernel_rfl
  refine con_of_vc Tryz.mixed ⟨4, [], [], []⟩ Tryz.func65 (by decide) rfl (by simp) (by decide) (by simp [freshOK, freshL, go_sem]) ?_
  rw [Tryz.ntmps65]
  simp [go_sem]
  simp [go_sem, e0, e1, e2, e3, e4, e5, e6, e7, e8, e9, e10]
set_option maxRecDepth 100000 in
theorem nt_gauss : Con Tryz.prog 65 [.val (.string ⟨#[103, 97, 117, 115, 115]⟩)] (.tup [.val (.string ⟨#[49, 47, 52, 32, 49, 47, 52, 59, 49, 47, 52, 32, 49, 47, 52, 124, 49, 47, 50, 32, 49, 47, 50]⟩), .bool true]) := by
  have e0 : strEq ⟨#[103, 97, 117, 115, 115]⟩ ⟨#[101, 117, 108, 101, 114]⟩ = false := by kernel_rfl
  have e1 : strEq ⟨#[103, 97, 117, 115, 115]⟩ ⟨#[104, 101, 117, 110]⟩ = false := by kernel_rfl
  have e2 : strEq ⟨#[103, 97, 117, 115, 115]⟩ ⟨#[105, 109, 112, 108, 105, 99, 105, 116]⟩ = false := by kernel_rfl
  have e3 : strEq ⟨#[103, 97, 117, 115, 115]⟩ ⟨#[107, 117, 116, 116, 97]⟩ = false := by kernel_rfl
  have e4 : strEq ⟨#[103, 97, 117, 115, 115]⟩ ⟨#[108, 111, 98, 97, 116, 116, 111]⟩ = false := by kernel_rfl
  have e5 : strEq ⟨#[103, 97, 117, 115, 115]⟩ ⟨#[109, 105, 100, 100, 108, 101]⟩ = false := by kernel_rfl
  have e6 : strEq ⟨#[103, 97, 117, 115, 115]⟩ ⟨#[109, 105, 100, 112, 111, 105, 110, 116]⟩ = false := by kernel_rfl
  have e7 : strEq ⟨#[103, 97, 117, 115, 115]⟩ ⟨#[114, 97, 100, 97, 117]⟩ = false := by kernel_rfl
  have e8 : strEq ⟨#[103, 97, 117, 115, 115]⟩ ⟨#[114, 97, 108, 115, 116, 111, 110]⟩ = false := by kernel_rfl
  have e9 : strEq ⟨#[103, 97, 117, 115, 115]⟩ ⟨#[114, 117, 110, 103, 101]⟩ = false := by kernel_rfl
  have e10 : strEq ⟨#[103, 97, 117, 115, 115]⟩ ⟨#[116, 114, 97, 112, 101, 122, 111, 105, 100]⟩ = false := by kernel_rfl
  have e11 : strEq ⟨#[103, 97, 117, 115, 115]⟩ ⟨#[103, 97, 117, 115, 115]⟩ = true := by kernel_rfl
  refine con_of_vc Tryz.mixed ⟨4, [], [], []⟩ Tryz.func65 (by decide) rfl (by simp) (by decide) (by simp [freshOK, freshL, go_sem]) ?_
  rw [Tryz.ntmps65]
  simp [go_sem]
  simp [go_sem, e0, e1, e2, e3, e4, e5, e6, e7, e8, e9, e10, e11]
set_option maxRecDepth 100000 in
theorem nm_euler : Con Tryz.prog 14 [.val (.string ⟨#[101, 117, 108, 101, 114]⟩)] (.tup [.agg [.own 25 1 (omat [[0]]), .own 2 1 (avs [1])], .int 0]) := by
  have e : strEq ⟨#[101, 117, 108, 101, 114]⟩ ⟨#[103, 97, 117, 115, 115]⟩ = false := by kernel_rfl
  have c1 := nt_euler
  have c2 := pt_euler
  have f1 : freshL (omat [[0]]) = true := by kernel_rfl
  have f2 : freshL (avs [1]) = true := by kernel_rfl
  generalize omat [[0]] = X at *
  generalize avs [1] = Y at *
  have hf : freshOK (.tup [.agg [.own 25 1 X, .own 2 1 Y], .int 0]) = true := by simp [freshOK, freshL, f1, f2]
  refine con_of_vc Tryz.mixed ⟨11, [], [], []⟩ Tryz.func14 (by decide) rfl (by simp) (by decide) hf ?_
  rw [Tryz.ntmps14]
  simp [go_sem]
  refine CallVC.of (c1) (by decide) ?_
  simp [go_sem]
  refine CallVC.of (c2) (by decide) ?_
  simp [go_sem]
  simp [go_sem, e]
set_option maxRecDepth 100000 in
theorem nm_heun : Con Tryz.prog 14 [.val (.string ⟨#[104, 101, 117, 110]⟩)] (.tup [.agg [.own 25 2 (omat [[0, 0], [1, 0]]), .own 2 2 (avs [5004, 5004])], .int 0]) := by
  have e : strEq ⟨#[104, 101, 117, 110]⟩ ⟨#[103, 97, 117, 115, 115]⟩ = false := by kernel_rfl
  have c1 := nt_heun
  have c2 := pt_heun
  have f1 : freshL (omat [[0, 0], [1, 0]]) = true := by kernel_rfl
  have f2 : freshL (avs [5004, 5004]) = true := by kernel_rfl
  generalize omat [[0, 0], [1, 0]] = X at *
  generalize avs [5004, 5004] = Y at *
  have hf : freshOK (.tup [.agg [.own 25 2 X, .own 2 2 Y], .int 0]) = true := by simp [freshOK, freshL, f1, f2]
  refine con_of_vc Tryz.mixed ⟨11, [], [], []⟩ Tryz.func14 (by decide) rfl (by simp) (by decide) hf ?_
  rw [Tryz.ntmps14]
  simp [go_sem]
  refine CallVC.of (c1) (by decide) ?_
  simp [go_sem]
  refine CallVC.of (c2) (by decide) ?_
  simp [go_sem]
  simp [go_sem, e]
set_option maxRecDepth 100000 in
theorem nm_implicit : Con Tryz.prog 14 [.val (.string ⟨#[105, 109, 112, 108, 105, 99, 105, 116]⟩)] (.tup [.agg [.own 25 1 (omat [[1]]), .own 2 1 (avs [1])], .int 0]) := by
  have e : strEq ⟨#[105, 109, 112, 108, 105, 99, 105, 116]⟩ ⟨#[103, 97, 117, 115, 115]⟩ = false := by kernel_rfl
  have c1 := nt_implicit
  have c2 := pt_implicit
  have f1 : freshL (omat [[1]]) = true := by kernel_rfl
  have f2 : freshL (avs [1]) = true := by kernel_rfl
  generalize omat [[1]] = X at *
  generalize avs [1] = Y at *
  have hf : freshOK (.tup [.agg [.own 25 1 X, .own 2 1 Y], .int 0]) = true := by simp [freshOK, freshL, f1, f2]
  refine con_of_vc Tryz.mixed ⟨11, [], [], []⟩ Tryz.func14 (by decide) rfl (by simp) (by decide) hf ?_
  rw [Tryz.ntmps14]
  simp [go_sem]
  refine CallVC.of (c1) (by decide) ?_
  simp [go_sem]
  refine CallVC.of (c2) (by decide) ?_
  simp [go_sem]
  simp [go_sem, e]
set_option maxRecDepth 100000 in
theorem nm_kutta : Con Tryz.prog 14 [.val (.string ⟨#[107, 117, 116, 116, 97]⟩)] (.tup [.agg [.own 25 3 (omat [[0, 0, 0], [5004, 0, 0], [10006, 2, 0]]), .own 2 3 (avs [1668, 6672, 1668])], .int 0]) := by
  have e : strEq ⟨#[107, 117, 116, 116, 97]⟩ ⟨#[103, 97, 117, 115, 115]⟩ = false := by kernel_rfl
  have c1 := nt_kutta
  have c2 := pt_kutta
  have f1 : freshL (omat [[0, 0, 0], [5004, 0, 0], [10006, 2, 0]]) = true := by kernel_rfl
  have f2 : freshL (avs [1668, 6672, 1668]) = true := by kernel_rfl
  generalize omat [[0, 0, 0], [5004, 0, 0], [10006, 2, 0]] = X at *
  generalize avs [1668, 6672, 1668] = Y at *
  have hf : freshOK (.tup [.agg [.own 25 3 X, .own 2 3 Y], .int 0]) = true := by simp [freshOK, freshL, f1, f2]
  refine con_of_vc Tryz.mixed ⟨11, [], [], []⟩ Tryz.func14 (by decide) rfl (by simp) (by decide) hf ?_
  rw [Tryz.ntmps14]
  simp [go_sem]
  refine CallVC.of (c1) (by decide) ?_
  simp [go_sem]
  refine CallVC.of (c2) (by decide) ?_
  simp [go_sem]
  simp [go_sem, e]
set_option maxRecDepth 100000 in
theorem nm_lobatto : Con Tryz.prog 14 [.val (.string ⟨#[108, 111, 98, 97, 116, 116, 111]⟩)] (.tup [.agg [.own 25 3 (omat [[0, 0, 0], [2085, 3336, 9590], [1668, 6672, 1668]]), .own 2 3 (avs [1668, 6672, 1668])], .int 0]) := by
  have e : strEq ⟨#[108, 111, 98, 97, 116, 116, 111]⟩ ⟨#[103, 97, 117, 115, 115]⟩ = false := by kernel_rfl
  have c1 := nt_lobatto
  have c2 := pt_lobatto
  have f1 : freshL (omat [[0, 0, 0], [2085, 3336, 9590], [1668, 6672, 1668]]) = true := by kernel_rfl
  have f2 : freshL (avs [1668, 6672, 1668]) = true := by kernel_rfl
  generalize omat [[0, 0, 0], [2085, 3336, 9590], [1668, 6672, 1668]] = X at *
  generalize avs [1668, 6672, 1668] = Y at *
  have hf : freshOK (.tup [.agg [.own 25 3 X, .own 2 3 Y], .int 0]) = true := by simp [freshOK, freshL, f1, f2]
  refine con_of_vc Tryz.mixed ⟨11, [], [], []⟩ Tryz.func14 (by decide) rfl (by simp) (by decide) hf ?_
  rw [Tryz.ntmps14]
  simp [go_sem]
  refine CallVC.of (c1) (by decide) ?_
  simp [go_sem]
  refine CallVC.of (c2) (by decide) ?_
  simp [go_sem]
  simp [go_sem, e]
set_option maxRecDepth 100000 in
theorem nm_middle : Con Tryz.prog 14 [.val (.string ⟨#[109, 105, 100, 100, 108, 101]⟩)] (.tup [.agg [.own 25 1 (omat [[5004]]), .own 2 1 (avs [1])], .int 0]) := by
  have e : strEq ⟨#[109, 105, 100, 100, 108, 101]⟩ ⟨#[103, 97, 117, 115, 115]⟩ = false := by kernel_rfl
  have c1 := nt_middle
  have c2 := pt_middle
  have f1 : freshL (omat [[5004]]) = true := by kernel_rfl
  have f2 : freshL (avs [1]) = true := by kernel_rfl
  generalize omat [[5004]] = X at *
  generalize avs [1] = Y at *
  have hf : freshOK (.tup [.agg [.own 25 1 X, .own 2 1 Y], .int 0]) = true := by simp [freshOK, freshL, f1, f2]
  refine con_of_vc Tryz.mixed ⟨11, [], [], []⟩ Tryz.func14 (by decide) rfl (by simp) (by decide) hf ?_
  rw [Tryz.ntmps14]
  simp [go_sem]
  refine CallVC.of (c1) (by decide) ?_
  simp [go_sem]
  refine CallVC.of (c2) (by decide) ?_
  simp [go_sem]
  simp [go_sem, e]
set_option maxRecDepth 100000 in
theorem nm_midpoint : Con Tryz.prog 14 [.val (.string ⟨#[109, 105, 100, 112, 111, 105, 110, 116]⟩)] (.tup [.agg [.own 25 2 (omat [[0, 0], [5004, 0]]), .own 2 2 (avs [0, 1])], .int 0]) := by
  have e : strEq ⟨#[109, 105, 100, 112, 111, 105, 110, 116]⟩ ⟨#[103, 97, 117, 115, 115]⟩ = false := by kernel_rfl
  have c1 := nt_midpoint
  have c2 := pt_midpoint
  have f1 : freshL (omat [[0, 0], [5004, 0]]) = true := by kernel_rfl
  have f2 : freshL (avs [0, 1]) = true := by kernel_rfl
  generalize omat [[0, 0], [5004, 0]] = X at *
  generalize avs [0, 1] = Y at *
  have hf : freshOK (.tup [.agg [.own 25 2 X, .own 2 2 Y], .int 0]) = true := by simp [freshOK, freshL, f1, f2]
  refine con_of_vc Tryz.mixed ⟨11, [], [], []⟩ Tryz.func14 (by decide) rfl (by simp) (by decide) hf ?_
  rw [Tryz.ntmps14]
  simp [go_sem]
  refine CallVC.of (c1) (by decide) ?_
  simp [go_sem]
  refine CallVC.of (c2) (by decide) ?_
  simp [go_sem]
  simp [go_sem, e]
set_option maxRecDepth 100000 in
theorem nm_radau : Con Tryz.prog 14 [.val (.string ⟨#[114, 97, 100, 97, 117]⟩)] (.tup [.agg [.own 25 2 (omat [[4170, 9173], [7506, 2502]]), .own 2 2 (avs [7506, 2502])], .int 0]) := by
  have e : strEq ⟨#[114, 97, 100, 97, 117]⟩ ⟨#[103, 97, 117, 115, 115]⟩ = false := by kernel_rfl
  have c1 := nt_radau
  have c2 := pt_radau
  have f1 : freshL (omat [[4170, 9173], [7506, 2502]]) = true := by kernel_rfl
  have f2 : freshL (avs [7506, 2502]) = true := by kernel_rfl
  generalize omat [[4170, 9173], [7506, 2502]] = X at *
  generalize avs [7506, 2502] = Y at *
  have hf : freshOK (.tup [.agg [.own 25 2 X, .own 2 2 Y], .int 0]) = true := by simp [freshOK, freshL, f1, f2]
  refine con_of_vc Tryz.mixed ⟨11, [], [], []⟩ Tryz.func14 (by decide) rfl (by simp) (by decide) hf ?_
  rw [Tryz.ntmps14]
  simp [go_sem]
  refine CallVC.of (c1) (by decide) ?_
  simp [go_sem]
  refine CallVC.of (c2) (by decide) ?_
  simp [go_sem]
  simp [go_sem, e]
set_option maxRecDepth 100000 in
theorem nm_ralston : Con Tryz.prog 14 [.val (.string ⟨#[114, 97, 108, 115, 116, 111, 110]⟩)] (.tup [.agg [.own 25 2 (omat [[0, 0], [6672, 0]]), .own 2 2 (avs [2502, 7506])], .int 0]) := by
  have e : strEq ⟨#[114, 97, 108, 115, 116, 111, 110]⟩ ⟨#[103, 97, 117, 115, 115]⟩ = false := by kernel_rfl
  have c1 := nt_ralston
  have c2 := pt_ralston
  have f1 : freshL (omat [[0, 0], [6672, 0]]) = true := by kernel_rfl
  have f2 : freshL (avs [2502, 7506]) = true := by kernel_rfl
  generalize omat [[0, 0], [6672, 0]] = X at *
  generalize avs [2502, 7506] = Y at *
  have hf : freshOK (.tup [.agg [.own 25 2 X, .own 2 2 Y], .int 0]) = true := by simp [freshOK, freshL, f1, f2]
  refine con_of_vc Tryz.mixed ⟨11, [], [], []⟩ Tryz.func14 (by decide) rfl (by simp) (by decide) hf ?_
  rw [Tryz.ntmps14]
  simp [go_sem]
  refine CallVC.of (c1) (by decide) ?_
  simp [go_sem]
  refine CallVC.of (c2) (by decide) ?_
  simp [go_sem]
  simp [go_sem, e]
set_option maxRecDepth 100000 in
theorem nm_runge : Con Tryz.prog 14 [.val (.string ⟨#[114, 117, 110, 103, 101]⟩)] (.tup [.agg [.own 25 4 (omat [[0, 0, 0, 0], [5004, 0, 0, 0], [0, 5004, 0, 0], [0, 0, 1, 0]]), .own 2 4 (avs [1668, 3336, 3336, 1668])], .int 0]) := by
  have e : strEq ⟨#[114, 117, 110, 103, 101]⟩ ⟨#[103, 97, 117, 115, 115]⟩ = false := by kernel_rfl
  have c1 := nt_runge
  have c2 := pt_runge
  have f1 : freshL (omat [[0, 0, 0, 0], [5004, 0, 0, 0], [0, 5004, 0, 0], [0, 0, 1, 0]]) = true := by kernel_rfl
  have f2 : freshL (avs [1668, 3336, 3336, 1668]) = true := by kernel_rfl
  generalize omat [[0, 0, 0, 0], [5004, 0, 0, 0], [0, 5004, 0, 0], [0, 0, 1, 0]] = X at *
  generalize avs [1668, 3336, 3336, 1668] = Y at *
  have hf : freshOK (.tup [.agg [.own 25 4 X, .own 2 4 Y], .int 0]) = true := by simp [freshOK, freshL, f1, f2]
  refine con_of_vc Tryz.mixed ⟨11, [], [], []⟩ Tryz.func14 (by decide) rfl (by simp) (by decide) hf ?_
  rw [Tryz.ntmps14]
  simp [go_sem]
  refine CallVC.of (c1) (by decide) ?_
  simp [go_sem]
  refine CallVC.of (c2) (by decide) ?_
  simp [go_sem]
  simp [go_sem, e]
set_option maxRecDepth 100000 in
theorem nm_trapezoid : Con Tryz.prog 14 [.val (.string ⟨#[116, 114, 97, 112, 101, 122, 111, 105, 100]⟩)] (.tup [.agg [.own 25 2 (omat [[0, 0], [5004, 5004]]), .own 2 2 (avs [5004, 5004])], .int 0]) := by
  have e : strEq ⟨#[116, 114, 97, 112, 101, 122, 111, 105, 100]⟩ ⟨#[103, 97, 117, 115, 115]⟩ = false := by kernel_rfl
  have c1 := nt_trapezoid
  have c2 := pt_trapezoid
  have f1 : freshL (omat [[0, 0], [5004, 5004]]) = true := by kernel_rfl
  have f2 : freshL (avs [5004, 5004]) = true := by kernel_rfl
  generalize omat [[0, 0], [5004, 5004]] = X at *
  generalize avs [5004, 5004] = Y at *
  have hf : freshOK (.tup [.agg [.own 25 2 X, .own 2 2 Y], .int 0]) = true := by simp [freshOK, freshL, f1, f2]
  refine con_of_vc Tryz.mixed ⟨11, [], [], []⟩ Tryz.func14 (by decide) rfl (by simp) (by decide) hf ?_
  rw [Tryz.ntmps14]
  simp [go_sem]
  refine CallVC.of (c1) (by decide) ?_
  simp [go_sem]
  refine CallVC.of (c2) (by decide) ?_
  simp [go_sem]
  simp [go_sem, e]
end Go.Proofs.YtnokgijakdaehaaGreatDoor


namespace Go.Proofs.YtnokgijakdaehaaGreatDoor
open Go.Abs CR
set_option linter.unusedSectionVars false
set_option linter.unusedVariables false
set_option linter.unusedSimpArgs false
set_option maxHeartbeats 1000000
def sgS (a : Ser Int) : Ser Int := fun k => sgd k * a k
theorem sgd_add (i j : Nat) : sgd (i + j) = sgd i * sgd j := by
  induction j with
  | zero => simp [sgd]
  | succ j ih => rw [show i + (j + 1) = (i + j) + 1 by omega, sgd_succ, sgd_succ, ih, Int.mul_neg]
theorem sgd_sq (k : Nat) : sgd k * sgd k = 1 := by unfold sgd; split <;> rfl
theorem sgS_mul (a b : Ser Int) : sgS (a * b) = sgS a * sgS b := funext fun k => by
  show sgd k * cmul k a b = cmul k (sgS a) (sgS b)
  rw [cmul_dsum, cmul_dsum, dsum_mul]
  refine dsum_congr fun i hi => ?_
  show sgd k * (a i * b (k - i)) = sgd i * a i * (sgd (k - i) * b (k - i))
  have e : sgd k = sgd i * sgd (k - i) := by rw [← sgd_add]; congr 1; omega
  rw [e]; ac_rfl
theorem sgS_add (a b : Ser Int) : sgS (a + b) = sgS a + sgS b := funext fun k => Int.mul_add _ _ _
theorem sgS_of (k : Int) : sgS (ofI k) = ofI k := funext fun i => by
  cases i with
  | zero => show sgd 0 * k = k; simp [sgd]
  | succ i => show sgd (i + 1) * 0 = 0; rw [Int.mul_zero]
def negM (A : Mx) : Mx := fun r c => - A r c
theorem ch_neg (n : Nat) (A : Mx) : chS n (negM A) = sgS (chS n A) := by
  unfold chS
  refine Eq.symm ?_
  refine dtR_rel (fun a b : Ser Int => sgS a = b) (fun k => sgS_of k) (fun a b c d h k => by rw [sgS_add, h, k]) (fun a b c d h k => by rw [sgS_mul, h, k]) (fun r c hr hc => ?_)
  refine funext fun k => ?_
  match k with
  | 0 => show sgd 0 * idM r c = idM r c; simp [sgd]
  | 1 => show sgd 1 * (- A r c) = - (- A r c); simp [sgd]
  | k + 2 => show sgd (k + 2) * ulS A r c (k + 2) = ulS (negM A) r c (k + 2); rw [ulS_lin, ulS_lin, Int.mul_zero]
def adjM (A : Mx) (B : Nat → Int) : Mx := fun r c => B c - A r c
theorem dsum_rev (f : Nat → Int) : ∀ n, dsum (fun i => f (n - 1 - i)) n = dsum f n
  | 0 => rfl
  | n + 1 => by
    rw [dsum_shift]
    have e : dsum (fun i => f (n + 1 - 1 - (i + 1))) n = dsum (fun i => f (n - 1 - i)) n := dsum_congr fun i hi => by congr 1; omega
    rw [e, dsum_rev f n, dsum]
    show f n + dsum f n = dsum f n + f n
    omega
def revM (n : Nat) (A : Mx) : Mx := fun r c => A (n - 1 - r) (n - 1 - c)
structure Adj (A : List (List Int)) (B : List Int) (A' : List (List Int)) (B' : List Int) : Prop where
  tab : Tab A' B'
  len : B'.length = B.length
  a : ∀ r c, r < B.length → c < B.length → mx A' r c % 10007 = (B[B.length - 1 - c]?.getD 0 - mx A (B.length - 1 - r) (B.length - 1 - c)) % 10007
  b : ∀ r, r < B.length → B'[r]?.getD 0 % 10007 = B[B.length - 1 - r]?.getD 0 % 10007
theorem serEq.mul {a b c d : Ser Int} (h : serEq a b) (k : serEq c d) : serEq (a * c) (b * d) := fun i => cmul_mod i (fun j _ => h j) (fun j _ => k j)
end Go.Proofs.YtnokgijakdaehaaGreatDoor


namespace Go.Proofs.YtnokgijakdaehaaGreatDoor
open Go.Abs
set_option linter.unusedSectionVars false
set_option linter.unusedVariables false
set_option linter.unusedSimpArgs false
set_option maxHeartbeats 4000000
def tmsM (A : List (List Int)) (k : Int) : List (List Int) := (List.range A.length).map fun i => scalS (A[i]?.getD []) k
@[simp] theorem tmsM_len (A : List (List Int)) (k : Int) : (tmsM A k).length = A.length := by simp [tmsM]
set_option maxRecDepth 100000 in
theorem times_c (A : List (List Int)) (B : List Int) (k : Int) (b1 : 1 ≤ A.length) (b8 : A.length ≤ 8) (rw1 : Rws A.length A) (bN : Ns B) (bl : B.length = A.length) (hk : fits k) :
    Con Tryz.prog 86 [.agg [.sl A.length (mat A), .sl B.length (avs B)], .int k]
    (.agg [.own 25 A.length (omat (tmsM A k)), .own 2 B.length (avs (scalS B k))]) := by
  have hd : tmsM A k = (List.range A.length).map fun i => scalS (A[i]?.getD []) k := rfl
  have cT := scaled_c B k bN hk (by omega)
  generalize scalS B k = Z at *
  refine con_of_vc Tryz.mixed ⟨8, [], [], []⟩ Tryz.func86 (by decide) rfl (by simp) (by decide) (by simp [freshOK, freshL, go_sem]) ?_
  rw [Tryz.ntmps86]
  simp [go_sem]
  refine CallVC.of (cT) (by decide) ?_
  simp [go_sem]
  refine loop_inv ([5, 7] ++ List.range' 16 13) (fun i : Nat => [(5, .box 27 [if i = 0 then .val (.slice none 0 0) else .own 25 i (omat ((List.range i).map fun i => scalS (A[i]?.getD []) k)), .own 2 B.length (avs Z)]), (16, .int i)]) (fun i => i ≤ A.length) (fun i => A.length - i) 0 (by simp) (by simp [go_sem]) (by simp [go_sem]) ?_
  intro i hi
  by_cases hin : i < A.length
  · have hii : (i : Int) < A.length := by omega
    have ri := rw1.at hin
    have ane : ¬ A = [] := by rintro rfl; simp at hin
    have cP := scaled_c (A[i]?.getD []) k ri.2 hk (by omega)
    have os := omat_range_succ (fun i => scalS (A[i]?.getD []) k) i
    rw [scalS_len] at os
    by_cases h0 : i = 0
    · have ox : omat ((List.range (i + 1)).map fun i => scalS (A[i]?.getD []) k) = [.own 2 (A[i]?.getD []).length (avs (scalS (A[i]?.getD []) k))] := by rw [os, h0]; simp [omat]
      rw [if_pos h0]
      simp [go_sem, hii, mat_drop hin]
      refine ⟨ane, by kernel_rfl, ?_⟩
      refine CallD.of (cP) (by simp [roots, rootsL]) (by decide) ?_
      simp [go_sem]
      refine ⟨by kernel_rfl, ?_⟩
      simp [go_sem]
      exact ⟨⟨by omega, by omega⟩, i + 1, by omega, by omega, Off_reset _ _ _ (by simp), by rw [if_neg (by omega), ox, h0], by omega⟩
    · rw [if_neg h0]
      simp [go_sem, hii, mat_drop hin]
      refine ⟨ane, by kernel_rfl, ?_⟩
      refine CallD.of (cP) (by simp [roots, rootsL]) (by decide) ?_
      simp [go_sem]
      refine ⟨⟨by omega, by omega⟩, ?_⟩
      refine ⟨by kernel_rfl, ?_⟩
      simp [go_sem]
      exact ⟨⟨by omega, by omega⟩, i + 1, by omega, by omega, Off_reset _ _ _ (by simp), by rw [if_neg (by omega), os], by omega⟩
  · have e : i = A.length := by omega
    subst e
    rw [← hd, if_neg (show ¬ A.length = 0 by omega)]
    simp [go_sem]
def roR (A : List (List Int)) (o : List Nat) (i : Nat) : List Int := tb (fun k => (A[o[i]?.getD 0]?.getD [])[o[k]?.getD 0]?.getD 0) o.length
def roM (A : List (List Int)) (o : List Nat) : List (List Int) := (List.range o.length).map (roR A o)
def roV (B : List Int) (o : List Nat) : List Int := tb (fun i => B[o[i]?.getD 0]?.getD 0) o.length
def ofN (o : List Nat) : List Int := o.map fun (i : Nat) => (i : Int)
theorem getM {l : List Nat} {i : Nat} (h : i < l.length) : l[i]?.getD 0 ∈ l := by simp [h]
@[simp] theorem ofN_len (o : List Nat) : (ofN o).length = o.length := by simp [ofN]
theorem ofN_get {o : List Nat} {i : Nat} (h : i < o.length) : (ofN o)[i]?.getD 0 = ((o[i]?.getD 0 : Nat) : Int) := by simp [ofN, h]
set_option maxRecDepth 100000 in
theorem reordered_c (A : List (List Int)) (B : List Int) (o : List Nat) (o1 : 1 ≤ o.length) (o8 : o.length ≤ 8) (hA : Rws B.length A) (hl : A.length = B.length) (ho : ∀ x ∈ o, x < B.length) :
    Con Tryz.prog 157 [.agg [.sl A.length (mat A), .sl B.length (avs B)], .sl o.length (avs (ofN o))]
    (.agg [.own 25 o.length (omat (roM A o)), .own 2 o.length (avs (roV B o))]) := by
  have hd : roM A o = (List.range o.length).map (roR A o) := rfl
  have hv : roV B o = tb (fun i => B[o[i]?.getD 0]?.getD 0) o.length := rfl
  rw [hd, hv]
  refine con_of_vc Tryz.mixed ⟨11, [], [], [3001100000000]⟩ Tryz.func157 (by decide) rfl (by simp) (by decide) (by simp [freshOK, freshL, go_sem]) ?_
  rw [Tryz.ntmps157]
  simp [go_sem]
  refine loop_inv ([5, 7, 8, 10] ++ List.range' 14 40) (fun i : Nat => [(5, .box 27 [if i = 0 then .val (.slice none 0 0) else .own 25 i (omat ((List.range i).map (roR A o))), if i = 0 then .val (.slice none 0 0) else .own 2 i (avs (tb (fun i => B[o[i]?.getD 0]?.getD 0) i))]), (14, .int i)]) (fun i => i ≤ o.length) (fun i => o.length - i) 0 (by simp) (by simp [go_sem]) (by simp [go_sem]) ?_
  intro i hi
  by_cases hin : i < o.length
  · have hii : (i : Int) < o.length := by omega
    have hio : i < (ofN o).length := by simpa using hin
    have di := avs_drop hio
    rw [List.getD_eq_getElem?_getD, ofN_get hin] at di
    have one : ¬ ofN o = [] := by intro e; rw [e] at hio; simp at hio
    have opos := ho _ (getM hin)
    have os := omat_range_succ (roR A o) i
    have rl : (roR A o i).length = o.length := by simp [roR]
    rw [rl] at os
    have vs := tb_succ (fun i => B[o[i]?.getD 0]?.getD 0) i
    have hp : o[i]?.getD 0 < A.length := by omega
    have mp := mat_drop hp
    have pr := hA.at hp
    have hpb : o[i]?.getD 0 < B.length := by omega
    have db := avs_drop hpb
    rw [List.getD_eq_getElem?_getD] at db
    have bne : ¬ B = [] := by rintro rfl; simp at hpb
    have ane : ¬ A = [] := by rintro rfl; simp at hp
    have hrd : roR A o i = tb (fun k => (A[o[i]?.getD 0]?.getD [])[o[k]?.getD 0]?.getD 0) o.length := rfl
    generalize o[i]?.getD 0 = p at *
    simp [go_sem, hii, di]
    refine ⟨one, ?_⟩
    refine loop_inv ([8, 10] ++ List.range' 21 16) (fun k : Nat => [(8, .own 2 k (avs (tb (fun k => (A[p]?.getD [])[o[k]?.getD 0]?.getD 0) k))), (21, .int k)]) (fun k => k ≤ o.length) (fun k => o.length - k) 0 (by simp) (by simp [go_sem]) (by simp [go_sem]) ?_
    intro k hk
    by_cases hkn : k < o.length
    · have hki : (k : Int) < o.length := by omega
      have hko : k < (ofN o).length := by simpa using hkn
      have dk := avs_drop hko
      rw [List.getD_eq_getElem?_getD, ofN_get hkn] at dk
      have oq := ho _ (getM hkn)
      have hq : o[k]?.getD 0 < (A[p]?.getD []).length := by omega
      have dq := avs_drop hq
      rw [List.getD_eq_getElem?_getD] at dq
      have rne : ¬ A[p]?.getD [] = [] := fun e => by rw [e] at hq; simp at hq
      have ts := tb_succ (fun k => (A[p]?.getD [])[o[k]?.getD 0]?.getD 0) k
      generalize o[k]?.getD 0 = q at *
      simp [go_sem, hki, dk, mp, dq]
      exact ⟨one, ⟨hp, ane⟩, ⟨hq, rne⟩, ⟨by omega, by omega⟩, ⟨by omega, by omega⟩, k + 1, by omega, by omega, Off_reset _ _ _ (by simp), by rw [ts, avs_snoc]; exact ⟨rfl, rfl⟩, by omega⟩
    · have e : k = o.length := by omega
      have hki : ¬ (k : Int) < o.length := by omega
      rw [e, ← hrd]
      by_cases h0 : i = 0
      · rw [if_pos h0, if_pos h0]
        rw [e] at hki
        simp [go_sem, hki, db]
        refine ⟨[(4, 5), (4, 6), (13, 14)], [[0, 1, 2, 3, 4, 5, 6, 7, 8, 9, 10, 11, 12, 13, 14, 15, 16, 17], [0, 1, 2, 3, 4, 5, 6, 7, 8, 9, 10, 11, 12, 14, 13, 15, 16, 17], [0, 1, 2, 3, 5, 4, 6, 7, 8, 9, 10, 11, 12, 13, 14, 15, 16, 17], [0, 1, 2, 3, 5, 4, 6, 7, 8, 9, 10, 11, 12, 14, 13, 15, 16, 17], [0, 1, 2, 3, 5, 6, 4, 7, 8, 9, 10, 11, 12, 13, 14, 15, 16, 17], [0, 1, 2, 3, 5, 6, 4, 7, 8, 9, 10, 11, 12, 14, 13, 15, 16, 17]], fun _ => [], by kernel_rfl, ?_⟩
        simp [go_sem, db]
        have ox : omat ((List.range (i + 1)).map (roR A o)) = [.own 2 o.length (avs (roR A o i))] := by rw [os, h0]; simp [omat]
        have ov : avs (tb (fun i => B[o[i]?.getD 0]?.getD 0) (i + 1)) = [.int (B[p]?.getD 0)] := by rw [vs, h0, avs_snoc]; rfl
        refine ⟨⟨⟨hpb, bne⟩, by kernel_rfl, ?_⟩, ⟨⟨hpb, bne⟩, by kernel_rfl, ?_⟩, ⟨⟨hpb, bne⟩, by kernel_rfl, ?_⟩, ⟨⟨hpb, bne⟩, by kernel_rfl, ?_⟩, ⟨⟨hpb, bne⟩, by kernel_rfl, ?_⟩, ⟨hpb, bne⟩, by kernel_rfl, ?_⟩
        all_goals
          simp -failIfUnchanged [go_sem]
          refine ⟨⟨by omega, by omega⟩, i + 1, by omega, by omega, (Off.reset (by intro x hx; simp at hx ⊢; omega) (by simp) (by simp [go_sem, Off_reset])), ?_, by omega⟩
          rw [if_neg (by omega), if_neg (by omega), ox, ov, h0]
          exact ⟨rfl, rfl⟩
      · rw [if_neg h0, if_neg h0]
        rw [e] at hki
        simp [go_sem, hki, db]
        refine ⟨[(4, 5), (4, 6), (13, 14)], [[0, 1, 2, 3, 4, 5, 6, 7, 8, 9, 10, 11, 12, 13, 14, 15, 16, 17], [0, 1, 2, 3, 4, 5, 6, 7, 8, 9, 10, 11, 12, 14, 13, 15, 16, 17], [0, 1, 2, 3, 5, 4, 6, 7, 8, 9, 10, 11, 12, 13, 14, 15, 16, 17], [0, 1, 2, 3, 5, 4, 6, 7, 8, 9, 10, 11, 12, 14, 13, 15, 16, 17], [0, 1, 2, 3, 5, 6, 4, 7, 8, 9, 10, 11, 12, 13, 14, 15, 16, 17], [0, 1, 2, 3, 5, 6, 4, 7, 8, 9, 10, 11, 12, 14, 13, 15, 16, 17]], fun _ => [], by kernel_rfl, ?_⟩
        simp [go_sem, db]
        refine ⟨⟨⟨by omega, by omega⟩, ⟨hpb, bne⟩, ⟨by omega, by omega⟩, by kernel_rfl, ?_⟩, ⟨⟨by omega, by omega⟩, ⟨hpb, bne⟩, ⟨by omega, by omega⟩, by kernel_rfl, ?_⟩, ⟨⟨by omega, by omega⟩, ⟨hpb, bne⟩, ⟨by omega, by omega⟩, by kernel_rfl, ?_⟩, ⟨⟨by omega, by omega⟩, ⟨hpb, bne⟩, ⟨by omega, by omega⟩, by kernel_rfl, ?_⟩, ⟨⟨by omega, by omega⟩, ⟨hpb, bne⟩, ⟨by omega, by omega⟩, by kernel_rfl, ?_⟩, ⟨by omega, by omega⟩, ⟨hpb, bne⟩, ⟨by omega, by omega⟩, by kernel_rfl, ?_⟩
        all_goals
          simp -failIfUnchanged [go_sem]
          refine ⟨⟨by omega, by omega⟩, i + 1, by omega, by omega, (Off.reset (by intro x hx; simp at hx ⊢; omega) (by simp) (by simp [go_sem, Off_reset])), ?_, by omega⟩
          rw [if_neg (by omega), if_neg (by omega), os, vs, avs_snoc]
          exact ⟨rfl, rfl⟩
  · have e : i = o.length := by omega
    subst e
    rw [if_neg (show ¬ o.length = 0 by omega), if_neg (show ¬ o.length = 0 by omega)]
    simp [go_sem]
def adA (A : List (List Int)) (B : List Int) : List (List Int) := roM (tmsM (lesM A B) (-1)) (List.range B.length).reverse
def adB (B : List Int) : List Int := roV (scalS (scalS B (-1)) (-1)) (List.range B.length).reverse
theorem rv_ofN (n : Nat) : (tlL n).reverse = ofN (List.range n).reverse := by
  unfold tlL tb ofN
  rw [List.map_reverse]
theorem rv_get {n i : Nat} (h : i < n) : (List.range n).reverse[i]?.getD 0 = n - 1 - i := by
  rw [List.getElem?_reverse (by simpa using h)]
  have : n - 1 - i < n := by omega
  simp [this]
theorem adA_len (A : List (List Int)) (B : List Int) : (adA A B).length = B.length := by simp [adA, roM]
theorem adB_len (B : List Int) : (adB B).length = B.length := by simp [adB, roV]
theorem adB_get {B : List Int} {i : Nat} (h : i < B.length) : (adB B)[i]?.getD 0 % 10007 = B[B.length - 1 - i]?.getD 0 % 10007 := by
  unfold adB roV
  rw [tb_get _ (by simpa using h), rv_get h]
  unfold scalS
  rw [tb_get _ (by simp; omega), tb_get _ (by omega)]
  omega
theorem adA_get {A : List (List Int)} {B : List Int} (hT : Tab A B) {r c : Nat} (hr : r < B.length) (hc : c < B.length) :
    mx (adA A B) r c % 10007 = (B[B.length - 1 - c]?.getD 0 - mx A (B.length - 1 - r) (B.length - 1 - c)) % 10007 := by
  have hl := hT.len
  have e1 : (adA A B)[r]?.getD [] = roR (tmsM (lesM A B) (-1)) (List.range B.length).reverse r := by simp [adA, roM, hr]
  have e2 : mx (adA A B) r c = ((tmsM (lesM A B) (-1))[B.length - 1 - r]?.getD [])[B.length - 1 - c]?.getD 0 := by
    show ((adA A B)[r]?.getD [])[c]?.getD 0 = _
    rw [e1]
    unfold roR
    rw [tb_get _ (by simpa using hc), rv_get hr, rv_get hc]
  have hp : B.length - 1 - r < A.length := by omega
  have e3 : (tmsM (lesM A B) (-1))[B.length - 1 - r]?.getD [] = scalS (plusS (A[B.length - 1 - r]?.getD []) B (-1)) (-1) := by
    have h1 : B.length - 1 - r < (lesM A B).length := by simp [lesM]; omega
    have h2 : (lesM A B)[B.length - 1 - r]?.getD [] = plusS (A[B.length - 1 - r]?.getD []) B (-1) := by simp [lesM, hp]
    rw [← h2]
    unfold tmsM
    rw [List.getElem?_map, List.getElem?_range h1]; rfl
  have rl : (A[B.length - 1 - r]?.getD []).length = B.length := (hT.rws.at hp).1
  rw [e2, e3]
  unfold scalS plusS
  rw [tb_get _ (by simp; omega), tb_get _ (by omega)]
  show _ = (B[B.length - 1 - c]?.getD 0 - (A[B.length - 1 - r]?.getD [])[B.length - 1 - c]?.getD 0) % 10007
  omega
theorem ad_tab {A : List (List Int)} {B : List Int} (hT : Tab A B) : Tab (adA A B) (adB B) := by
  have h1 := hT.pos
  have h2 := hT.le
  have hs : Ns (adB B) := tb_N fun i _ => by
    have : Ns (scalS (scalS B (-1)) (-1)) := scalS_N _ _
    exact this.get _
  refine ⟨by rw [adB_len]; omega, by rw [adB_len]; omega, by rw [adA_len, adB_len], hs, fun r hr => ?_⟩
  obtain ⟨i, _, rfl⟩ := List.mem_map.1 hr
  refine ⟨by simp [roR, adB_len], tb_N fun k _ => ?_⟩
  rcases Nat.lt_or_ge ((List.range B.length).reverse[i]?.getD 0) (tmsM (lesM A B) (-1)).length with h | h
  · have hm : (tmsM (lesM A B) (-1))[(List.range B.length).reverse[i]?.getD 0]?.getD [] ∈ tmsM (lesM A B) (-1) := by
      rw [List.getElem?_eq_getElem h, Option.getD_some]; exact List.getElem_mem h
    obtain ⟨j, _, e⟩ := List.mem_map.1 hm
    rw [← e]
    exact (scalS_N _ _).get _
  · rw [List.getElem?_eq_none h]; exact ⟨by simp, by simp⟩
theorem ad_adj {A : List (List Int)} {B : List Int} (hT : Tab A B) : Adj A B (adA A B) (adB B) :=
  ⟨ad_tab hT, adB_len B, fun r c hr hc => adA_get hT hr hc, fun r hr => adB_get hr⟩
set_option maxRecDepth 100000 in
theorem adjoint_c (A : List (List Int)) (B : List Int) (h : Tab A B) : Con Tryz.prog 85 [.agg [.sl A.length (mat A), .sl B.length (avs B)]]
    (.agg [.own 25 (adA A B).length (omat (adA A B)), .own 2 (adB B).length (avs (adB B))]) := by
  have b1 := h.pos
  have b8 := h.le
  have lo := lesM_ok h
  have cS := allStages_c A B (by omega)
  have cR := Reverse_c (tlL B.length) (by simp; omega)
  have cI := inverse_c A B h
  have cT := times_c (lesM A B) (scalS B (-1)) (-1) (by omega) (by omega) (by rw [lo.1]; exact lo.2) (scalS_N _ _) (by rw [scalS_len, lo.1]) ⟨by omega, by omega⟩
  have rl : (List.range B.length).reverse.length = B.length := by simp
  have cO := reordered_c (tmsM (lesM A B) (-1)) (scalS (scalS B (-1)) (-1)) (List.range B.length).reverse (by omega) (by omega) (by
    rw [scalS_len, scalS_len]
    intro r hr
    obtain ⟨i, hi, rfl⟩ := List.mem_map.1 hr
    have hi : i < (lesM A B).length := by simpa using hi
    exact ⟨by rw [scalS_len]; exact (lo.2.at hi).1, scalS_N _ _⟩) (by rw [tmsM_len, scalS_len, scalS_len, lo.1]) (fun x hx => by rw [scalS_len, scalS_len]; simpa using hx)
  rw [rv_ofN, tlL_len] at cR
  rw [lo.1, scalS_len] at cT
  rw [tmsM_len, lo.1, scalS_len, scalS_len, rl] at cO
  rw [adA_len, adB_len]
  unfold adA adB
  refine con_of_vc Tryz.mixed ⟨4, [], [156], []⟩ Tryz.func85 (by decide) rfl (by simp) (by decide) (by simp [freshOK, freshL, go_sem]) ?_
  rw [Tryz.ntmps85]
  simp [go_sem]
  refine CallVC.of (cS) (by decide) ?_
  simp [go_sem]
  refine ⟨_, _, cR, ?_⟩
  simp [go_sem]
  refine CallVC.of (cI) (by decide) ?_
  simp [go_sem]
  refine CallVC.of (cT) (by decide) ?_
  simp [go_sem]
  refine CallVC.of (cO) (by decide) ?_
  simp [go_sem]
set_option maxRecDepth 100000 in
theorem AdjointTableau_c (A : List (List Int)) (B : List Int) (h : Tab A B) : Con Tryz.prog 26 [.agg [.sl A.length (mat A), .sl B.length (avs B)]]
    (.tup [.agg [.own 25 (adA A B).length (omat (adA A B)), .own 2 (adB B).length (avs (adB B))], .int 0]) := by
  have hle := h.le
  have hAB := h.len
  have cT := IsTableau_c A B (by omega) (by omega) (fun r hr => by have := (h.a r hr).1; omega)
  rw [tabB_iff.2 h] at cT
  have cA := adjoint_c A B h
  refine con_of_vc Tryz.mixed ⟨4, [], [], []⟩ Tryz.func26 (by decide) rfl (by simp) (by decide) (by simp [freshOK, freshL, go_sem]) ?_
  rw [Tryz.ntmps26]
  simp [go_sem]
  refine CallVC.of (cT) (by decide) ?_
  simp [go_sem]
  refine CallVC.of (cA) (by decide) ?_
  simp [go_sem]
end Go.Proofs.YtnokgijakdaehaaGreatDoor


namespace Go.Proofs.YtnokgijakdaehaaGreatDoor
open Go.Abs
set_option linter.unusedSectionVars false
set_option linter.unusedVariables false
set_option linter.unusedSimpArgs false
set_option maxHeartbeats 4000000
theorem root_not : ∀ k : Nat, k < 1477 → ¬ ((k : Int) * k % 10007 = 3) := by
  have h : ((List.range 1477).all fun k => decide (¬ ((k : Int) * k % 10007 = 3))) = true := by decide +kernel
  intro k hk
  have := List.all_eq_true.1 h k (by simpa using hk)
  simpa using this
set_option maxRecDepth 100000 in
theorem SquareRoot_c3 : Con Tryz.prog 67 [.int 3] (.tup [.int 1477, .int 0]) := by
  have cI := IsNumber_c 3
  refine con_of_vc Tryz.mixed ⟨5, [], [], []⟩ Tryz.func67 (by decide) rfl (by simp) (by decide) (by simp [freshOK, freshL, go_sem]) ?_
  rw [Tryz.ntmps67]
  simp [go_sem]
  refine CallVC.of (cI) (by decide) ?_
  simp [go_sem]
  refine loop_inv ([2, 3, 4] ++ List.range' 8 11) (fun k : Nat => [(4, .int k)]) (fun k => k ≤ 1477) (fun k => 1477 - k) 0 (by simp) (by simp [go_sem]) (by simp [go_sem]) ?_
  intro k hk
  have c1 := num_c ((k : Int) * k) (by
    have : (0 : Int) ≤ (k : Int) * k := Int.mul_nonneg (by omega) (by omega)
    omega) (by
    have : (k : Int) * k ≤ 5003 * 5003 := Int.mul_le_mul (by omega) (by omega) (by omega) (by omega)
    omega)
  have hf : fits ((k : Int) * k) := ⟨by
    have : (0 : Int) ≤ (k : Int) * k := Int.mul_nonneg (by omega) (by omega)
    omega, by
    have : (k : Int) * k ≤ 5003 * 5003 := Int.mul_le_mul (by omega) (by omega) (by omega) (by omega)
    omega⟩
  have hk3 : (k : Int) ≤ 5003 := by omega
  by_cases e : k = 1477
  · have e3 : (k : Int) * k % 10007 = 3 := by subst e; decide
    rw [e3] at c1
    simp [go_sem, hk3]
    refine ⟨hf, ?_⟩
    refine CallVC.of (c1) (by decide) ?_
    simp [go_sem]
    omega
  · have ne := root_not k (by omega)
    simp [go_sem, hk3]
    refine ⟨hf, ?_⟩
    refine CallVC.of (c1) (by decide) ?_
    simp [go_sem]
    simp [go_sem, ne]
    exact ⟨⟨by omega, by omega⟩, k + 1, by omega, by omega, Off_reset _ _ _ (by simp), by omega⟩
def tabNames : List ByteArray :=
  [⟨#[101, 117, 108, 101, 114]⟩, ⟨#[103, 97, 117, 115, 115]⟩, ⟨#[104, 101, 117, 110]⟩, ⟨#[105, 109, 112, 108, 105, 99, 105, 116]⟩, ⟨#[107, 117, 116, 116, 97]⟩, ⟨#[108, 111, 98, 97, 116, 116, 111]⟩, ⟨#[109, 105, 100, 100, 108, 101]⟩, ⟨#[109, 105, 100, 112, 111, 105, 110, 116]⟩, ⟨#[114, 97, 100, 97, 117]⟩, ⟨#[114, 97, 108, 115, 116, 111, 110]⟩, ⟨#[114, 117, 110, 103, 101]⟩, ⟨#[116, 114, 97, 112, 101, 122, 111, 105, 100]⟩]
set_option maxRecDepth 100000 in
theorem TableauNames_c : Con Tryz.prog 24 [] (.own 9 12 (strs tabNames)) := by
  have f1 : freshL (strs tabNames) = true := by kernel_rfl
  have hf : freshOK (.own 9 12 (strs tabNames)) = true := by simp [freshOK, f1]
  refine con_of_vc Tryz.mixed ⟨1, [], [], []⟩ Tryz.func24 (by decide) rfl (by simp) (by decide) hf ?_
  rw [Tryz.ntmps24]
  simp [go_sem]
  rfl
set_option maxRecDepth 100000 in
theorem DivideNumbers_c (a b : Int) (ha : isN a) (hb : isN b) (h0 : b ≠ 0) : Con Tryz.prog 28 [.int a, .int b] (.tup [.int (a * pw b 10005 % 10007), .int 0]) := by
  have cA := areNumbers_c [a, b] (by simp)
  have eN : numsB [a, b] = true := numsB_N.2 (fun x hx => by
    have : x = a ∨ x = b := by simpa using hx
    rcases this with rfl | rfl
    · exact ha
    · exact hb)
  rw [eN] at cA
  have cV := inv_c b hb
  have hw : isN (pw b 10005) := isN_mod _
  have fm := mul_fits ha hw
  have cM := num_c _ fm.1 fm.2
  have ab : avs [a, b] = [.int a, .int b] := rfl
  rw [ab] at cA
  generalize pw b 10005 = i at *
  refine con_of_vc Tryz.mixed ⟨6, [], [], []⟩ Tryz.func28 (by decide) rfl (by simp) (by decide) (by simp [freshOK, freshL, go_sem]) ?_
  rw [Tryz.ntmps28]
  simp [go_sem]
  refine CallVC.of (cA) (by decide) ?_
  simp [go_sem]
  simp [go_sem, h0]
  refine CallVC.of (cV) (by decide) ?_
  simp [go_sem]
  refine ⟨fm, ?_⟩
  refine CallVC.of (cM) (by decide) ?_
  simp [go_sem]
set_option maxRecDepth 100000 in
theorem ScaleTableau_c (A : List (List Int)) (B : List Int) (k : Int) (h : Tab A B) (hk : isN k) : Con Tryz.prog 27 [.agg [.sl A.length (mat A), .sl B.length (avs B)], .int k]
    (.tup [.agg [.own 25 A.length (omat (tmsM A k)), .own 2 B.length (avs (scalS B k))], .int 0]) := by
  have b1 := h.pos
  have b8 := h.le
  have al := h.len
  have cI := IsTableau_c A B (by omega) (by omega) (fun r hr => by have := (h.rws r hr).1; omega)
  rw [tabB_iff.2 h] at cI
  have cN := IsNumber_c k
  rw [decide_eq_true (show 0 ≤ k ∧ k ≤ 10006 from ⟨hk.1, by have := hk.2; omega⟩)] at cN
  have cT := times_c A B k (by omega) (by omega) (by rw [al]; exact h.rws) h.b (by omega) ⟨by have := hk.1; omega, by have := hk.2; omega⟩
  refine con_of_vc Tryz.mixed ⟨6, [], [], []⟩ Tryz.func27 (by decide) rfl (by simp) (by decide) (by simp [freshOK, freshL, go_sem]) ?_
  rw [Tryz.ntmps27]
  simp [go_sem]
  refine CallVC.of (cI) (by decide) ?_
  simp [go_sem]
  refine CallVC.of (cN) (by decide) ?_
  simp [go_sem]
  refine CallVC.of (cT) (by decide) ?_
  simp [go_sem]
set_option maxRecDepth 100000 in
theorem nm_gauss : Con Tryz.prog 14 [.val (.string ⟨#[103, 97, 117, 115, 115]⟩)] (.tup [.agg [.own 25 2 (omat [[2502, 588], [4416, 2502]]), .own 2 2 (avs [5004, 5004])], .int 0]) := by
  have e : strEq ⟨#[103, 97, 117, 115, 115]⟩ ⟨#[103, 97, 117, 115, 115]⟩ = true := by kernel_rfl
  have c1 := nt_gauss
  have c2 := pt_gauss
  have c3 := SquareRoot_c3
  have c4 := inv_c 6 ⟨by decide, by decide⟩
  have e4 : pw 6 10005 = 1668 := by
    have h := inv_ok (a := 6) ⟨by decide, by decide⟩ (by decide)
    have n := pw_N 6 10005
    have := n.1; have := n.2
    omega
  rw [e4] at c4
  have c5 := num_c (1477 * 1668) (by decide) (by decide)
  have e5 : (1477 * 1668 : Int) % 10007 = 1914 := by decide
  rw [e5] at c5
  have c6 := num_c (2502 - 1914) (by decide) (by decide)
  have e6 : (2502 - 1914 : Int) % 10007 = 588 := by decide
  rw [e6] at c6
  have c7 := num_c (2502 + 1914) (by decide) (by decide)
  have e7 : (2502 + 1914 : Int) % 10007 = 4416 := by decide
  rw [e7] at c7
  have o1 : omat [[2502, 2502], [2502, 2502]] = [.own 2 2 [.int 2502, .int 2502], .own 2 2 [.int 2502, .int 2502]] := rfl
  have o2 : omat [[2502, 588], [4416, 2502]] = [.own 2 2 [.int 2502, .int 588], .own 2 2 [.int 4416, .int 2502]] := rfl
  rw [o1] at c2
  rw [o2]
  refine con_of_vc Tryz.mixed ⟨11, [], [], [3000800000000, 1000000000000001]⟩ Tryz.func14 (by decide) rfl (by simp) (by decide) (by simp [freshOK, freshL, go_sem]) ?_
  rw [Tryz.ntmps14]
  simp [go_sem]
  refine CallVC.of (c1) (by decide) ?_
  simp [go_sem]
  refine CallVC.of (c2) (by decide) ?_
  simp [go_sem]
  simp [go_sem, e]
  refine CallVC.of (c3) (by decide) ?_
  simp [go_sem]
  refine CallVC.of (c4) (by decide) ?_
  simp [go_sem]
  refine CallVC.of (c5) (by decide) ?_
  simp [go_sem]
  refine ⟨[(4, 27), (5, 27), (6, 27), (17, 27), (18, 27), (19, 27), (21, 27)], [List.range 30], fun i => if i = 16 then [.w 50 (.int 588)] else [.w 59 (.int 4416)], by kernel_rfl, ?_⟩
  simp [go_sem, List.range, List.range.loop]
  refine CallD.of (c6) (by simp [roots, rootsL]) (by decide) ?_
  simp [go_sem]
  refine CallD.of (c7) (by simp [roots, rootsL]) (by decide) ?_
  simp [go_sem]
  refine (?_ : _ = true)
  kernel_rfl
end Go.Proofs.YtnokgijakdaehaaGreatDoor


namespace Go.Proofs.YtnokgijakdaehaaGreatDoor
open Go.Abs
set_option linter.unusedSectionVars false
set_option linter.unusedVariables false
set_option linter.unusedSimpArgs false
set_option maxHeartbeats 1000000
def frI (p q : Int) : Int := p % 10007 * pw (q % 10007) 10005 % 10007
theorem frI_N (p q : Int) : isN (frI p q) := isN_mod _
def sqL (s : Nat) (q : Int) (l : List Int) : List (List Int) := (List.range s).map fun i => tb (fun k => frI (l[i * s + k]?.getD 0) q) s
def rwL (q : Int) (l : List Int) : List Int := tb (fun i => frI (l[i]?.getD 0) q) l.length
theorem sq_lt {i k s : Nat} (hi : i < s) (hk : k < s) : i * s + k < s * s := by
  have h : (i + 1) * s ≤ s * s := Nat.mul_le_mul_right s (by omega)
  rw [Nat.succ_mul] at h
  omega
theorem fits_get {l : List Int} (h : ∀ x ∈ l, fits x) (k : Nat) : fits (l[k]?.getD 0) := by
  rcases Nat.lt_or_ge k l.length with hk | hk
  · exact h _ (by simp [hk])
  · rw [List.getElem?_eq_none hk]; exact ⟨by simp, by simp⟩
set_option maxRecDepth 100000 in
theorem l09Square_c (s : Nat) (q : Int) (l : List Int) (hs : s ≤ 8) (hl : l.length = s * s) (hq : fits q) (hN : ∀ x ∈ l, fits x) :
    Con Tryz.prog 186 [.int s, .int q, .sl l.length (avs l)] (.own 25 s (omat (sqL s q l))) := by
  have hd : sqL s q l = (List.range s).map fun i => tb (fun k => frI (l[i * s + k]?.getD 0) q) s := rfl
  have h64 : s * s ≤ 64 := by
    have := Nat.mul_le_mul hs hs
    omega
  rw [hd]
  refine con_of_vc Tryz.mixed ⟨11, [], [], []⟩ Tryz.func186 (by decide) rfl (by simp) (by decide) (by simp [freshOK, freshL, go_sem]) ?_
  rw [Tryz.ntmps186]
  simp [go_sem]
  refine loop_inv ([7, 8, 9, 10] ++ List.range' 12 28) (fun i : Nat => [(7, .own 25 i (omat ((List.range i).map fun i => tb (fun k => frI (l[i * s + k]?.getD 0) q) s))), (8, .int i)]) (fun i => i ≤ s) (fun i => s - i) 0 (by simp) (by simp [go_sem, omat]) (by simp [go_sem]) ?_
  intro i hi
  by_cases his : i < s
  · have hii : (i : Int) < s := by omega
    have os := omat_range_succ (fun i => tb (fun k => frI (l[i * s + k]?.getD 0) q) s) i
    rw [tb_len] at os
    simp [go_sem, hii]
    refine loop_inv ([9, 10] ++ List.range' 18 18) (fun k : Nat => [(9, .own 2 k (avs (tb (fun k => frI (l[i * s + k]?.getD 0) q) k))), (10, .int k)]) (fun k => k ≤ s) (fun k => s - k) 0 (by simp) (by simp [go_sem]) (by simp [go_sem]) ?_
    intro k hk
    by_cases hks : k < s
    · have hki : (k : Int) < s := by omega
      have hx : i * s + k < l.length := by rw [hl]; exact sq_lt his hks
      have ec : (i : Int) * (s : Int) = ((i * s : Nat) : Int) := by simp
      have hm : i * s ≤ 64 := by omega
      have ts := tb_succ (fun k => frI (l[i * s + k]?.getD 0) q) k
      have fx := fits_get hN (i * s + k)
      have cF := l01Frac_c (l[i * s + k]?.getD 0) q fx hq
      have fe : frI (l[i * s + k]?.getD 0) q = l[i * s + k]?.getD 0 % 10007 * pw (q % 10007) 10005 % 10007 := rfl
      rw [← fe] at cF
      have dr := avs_drop hx
      have ne : ¬ l = [] := by rintro rfl; simp at hx
      generalize hz : i * s = z at *
      rw [List.getD_eq_getElem?_getD] at dr
      generalize l[z + k]?.getD 0 = x at *
      have et : ((z : Int) + (k : Int)).toNat = z + k := by omega
      simp [go_sem, hki, ec, et, dr]
      refine ⟨by omega, ⟨by omega, by omega⟩, ⟨by omega, by omega, ne⟩, ?_⟩
      refine CallVC.of (cF) (by decide) ?_
      simp [go_sem]
      exact ⟨by omega, by omega, k + 1, by omega, by omega, Off_reset _ _ _ (by simp), by rw [ts, avs_snoc]; exact ⟨rfl, rfl⟩, by omega⟩
    · have e : k = s := by omega
      subst e
      simp [go_sem]
      exact ⟨⟨by omega, by omega⟩, by omega, i + 1, by omega, by omega, (Off.reset (by intro x hx; simp at hx ⊢; omega) (by simp) (by simp [go_sem, Off_reset])), by rw [os]; exact ⟨rfl, rfl⟩, by omega⟩
  · have e : i = s := by omega
    subst e
    simp [go_sem]
set_option maxRecDepth 100000 in
theorem l09Row_c (q : Int) (l : List Int) (hl : l.length ≤ 64) (hq : fits q) (hN : ∀ x ∈ l, fits x) :
    Con Tryz.prog 187 [.int q, .sl l.length (avs l)] (.own 2 l.length (avs (rwL q l))) := by
  have hd : rwL q l = tb (fun i => frI (l[i]?.getD 0) q) l.length := rfl
  rw [hd]
  refine con_of_vc Tryz.mixed ⟨7, [], [], []⟩ Tryz.func187 (by decide) rfl (by simp) (by decide) (by simp [freshOK, freshL, go_sem]) ?_
  rw [Tryz.ntmps187]
  simp [go_sem]
  refine loop_inv ([5, 6] ++ List.range' 8 15) (fun i : Nat => [(5, .own 2 i (avs (tb (fun i => frI (l[i]?.getD 0) q) i))), (6, .int i)]) (fun i => i ≤ l.length) (fun i => l.length - i) 0 (by simp) (by simp [go_sem]) (by simp [go_sem]) ?_
  intro i hi
  by_cases hil : i < l.length
  · have hii : (i : Int) < l.length := by omega
    have ts := tb_succ (fun i => frI (l[i]?.getD 0) q) i
    have fx := fits_get hN i
    have cF := l01Frac_c (l[i]?.getD 0) q fx hq
    have fe : frI (l[i]?.getD 0) q = l[i]?.getD 0 % 10007 * pw (q % 10007) 10005 % 10007 := rfl
    rw [← fe] at cF
    have dr := avs_drop hil
    have ne : ¬ l = [] := by rintro rfl; simp at hil
    rw [List.getD_eq_getElem?_getD] at dr
    generalize l[i]?.getD 0 = x at *
    simp [go_sem, hii, dr]
    refine ⟨ne, ?_⟩
    refine CallVC.of (cF) (by decide) ?_
    simp [go_sem]
    exact ⟨by omega, by omega, i + 1, by omega, by omega, Off_reset _ _ _ (by simp), by rw [ts, avs_snoc]; exact ⟨rfl, rfl⟩, by omega⟩
  · have e : i = l.length := by omega
    simp [go_sem, e]
set_option maxRecDepth 100000 in
theorem l01Root_r (a k : Int) (hk : 0 ≤ k) (hk2 : k ≤ 9223372036854775807) : RCon Tryz.prog 188 [.int a, .int k] (fun r o => o = [.any, .any] ∧ ∃ x : Int, -1 ≤ x ∧ x ≤ 10006 ∧ r = .int x) := by
  refine rcon_of_vcH Tryz.mixed ⟨6, [], [], []⟩ [] Tryz.func188 (by decide) rfl (by simp) (by simp) (by decide) ?_
  rw [Tryz.ntmps188]
  simp [go_sem]
  refine loop_inv (List.range' 4 12) (fun i : Nat => [(5, .int i)]) (fun i => i ≤ 10007) (fun i => 10007 - i) 0 (by simp) (by simp [go_sem]) (by simp [go_sem]) ?_
  intro i hi
  by_cases h : i < 10007
  · have hii : (i : Int) < 10007 := by omega
    have cP := l01Pow_c i k ⟨by omega, by omega⟩ hk hk2
    simp [go_sem, hii]
    refine CallVC.of (cP) (by decide) ?_
    simp [go_sem]
    refine ⟨fun h => ?_, fun h => ?_⟩ <;> simp at h
    · simp [go_sem]
      omega
    · simp [go_sem]
      exact ⟨⟨by omega, by omega⟩, i + 1, by omega, by omega, Off_reset _ _ _ (by simp), by omega⟩
  · have hii : ¬ (i : Int) < 10007 := by omega
    simp [go_sem, hii]
end Go.Proofs.YtnokgijakdaehaaGreatDoor


namespace Go.Proofs.YtnokgijakdaehaaGreatDoor
open Go.Abs
set_option linter.unusedSectionVars false
set_option linter.unusedVariables false
set_option linter.unusedSimpArgs false
set_option maxHeartbeats 4000000
theorem sqL_tab {s : Nat} (q p : Int) (l b : List Int) (h1 : 1 ≤ s) (h8 : s ≤ 8) (hb : b.length = s) : Tab (sqL s q l) (rwL p b) := by
  have bl : (rwL p b).length = s := by simp [rwL, hb]
  refine ⟨by omega, by omega, by rw [bl]; simp [sqL], tb_N fun k _ => frI_N _ _, fun r hr => ?_⟩
  obtain ⟨i, _, rfl⟩ := List.mem_map.1 hr
  exact ⟨by rw [bl]; simp, tb_N fun k _ => frI_N _ _⟩
theorem sqL_len (s : Nat) (q : Int) (l : List Int) : (sqL s q l).length = s := by simp [sqL]
theorem rwL_len (p : Int) (b : List Int) : (rwL p b).length = b.length := by simp [rwL]
def Tb8 (A : List (List Int)) (B : List Int) : Prop := Tab A B
theorem named_fin (s : Nat) (q p : Int) (l b : List Int) (h1 : 1 ≤ s) (h8 : s ≤ 8) (hb : b.length = s) :
    ∃ (A : List (List Int)) (B : List Int), Tb8 A B ∧ (s = A.length ∧ omat (sqL s q l) = omat A) ∧ s = B.length ∧ rwL p b = B :=
  ⟨sqL s q l, rwL p b, sqL_tab q p l b h1 h8 hb, ⟨(sqL_len s q l).symm, rfl⟩, by rw [rwL_len]; exact hb.symm, rfl⟩
set_option maxRecDepth 100000 in
theorem l09Named_r (nm : ByteArray) : RCon Tryz.prog 167 [.val (.string nm)] (fun r o => o = [.any] ∧ ∃ (A : List (List Int)) (B : List Int), Tb8 A B ∧ r = .agg [.own 25 A.length (omat A), .own 2 B.length (avs B)]) := by
  have sq := fun (s : Nat) (q : Int) (l : List Int) (h1 : s ≤ 8) (h2 : l.length = s * s) (h3 : fits q) (h4 : ∀ x ∈ l, fits x) => l09Square_c s q l h1 h2 h3 h4
  have rw_ := fun (q : Int) (l : List Int) (h1 : l.length ≤ 64) (h3 : fits q) (h4 : ∀ x ∈ l, fits x) => l09Row_c q l h1 h3 h4
  have f1 : fits 1 := ⟨by omega, by omega⟩
  have ff : ∀ n : Int, -100 ≤ n → n ≤ 100 → fits n := fun n h1 h2 => ⟨by omega, by omega⟩
  refine rcon_of_vcH Tryz.mixed ⟨5, [], [2000000 + 188], []⟩ [] Tryz.func167 (by decide) rfl (by simp) (by simp) (by decide) ?_
  rw [Tryz.ntmps167]
  simp [go_sem]
  refine ⟨fun h => ?_, fun h => ?_⟩
  · simp [go_sem]
    refine CallVC.of (sq 1 1 [0] (by omega) rfl (ff _ (by omega) (by omega)) (by simp [fits])) (by decide) ?_
    simp [go_sem]
    refine CallVC.of (rw_ 1 [1] (by simp) (ff _ (by omega) (by omega)) (by simp [fits])) (by decide) ?_
    simp [go_sem]
    exact named_fin 1 1 1 [0] [1] (by omega) (by omega) rfl
  simp [go_sem]
  refine ⟨fun h => ?_, fun h => ?_⟩
  · simp [go_sem]
    refine ⟨_, l01Root_r 3 2 (by omega) (by omega), ?_⟩
    rintro _ _ ⟨rfl, x, hx1, hx2, rfl⟩
    have n6 := frI_N 1 6
    have n4 := frI_N 1 4
    have c6 := l01Frac_c 1 6 f1 (ff _ (by omega) (by omega))
    have c4 := l01Frac_c 1 4 f1 (ff _ (by omega) (by omega))
    have e6 : frI 1 6 = 1 % 10007 * pw (6 % 10007) 10005 % 10007 := rfl
    have e4 : frI 1 4 = 1 % 10007 * pw (4 % 10007) 10005 % 10007 := rfl
    rw [← e6] at c6
    rw [← e4] at c4
    generalize frI 1 6 = y at *
    generalize frI 1 4 = z at *
    have fm : fits (x * y) := by
      have h1 : x * y ≤ 10006 * y := Int.mul_le_mul_of_nonneg_right hx2 n6.1
      have h2 : -1 * y ≤ x * y := Int.mul_le_mul_of_nonneg_right hx1 n6.1
      have := n6.1
      have := n6.2
      exact ⟨by omega, by omega⟩
    have cm := l01Mul_c x y fm
    have nm' : isN (x * y % 10007) := isN_mod _
    generalize x * y % 10007 = u at *
    have fs : fits (z - u) := sub_fits n4 nm'
    have fa : fits (z + u) := add_fits n4 nm'
    have cs := l01Sub_c z u fs
    have ca := l01Add_c z u fa
    have ns : isN ((z - u) % 10007) := isN_mod _
    have na : isN ((z + u) % 10007) := isN_mod _
    generalize (z - u) % 10007 = v at *
    generalize (z + u) % 10007 = w at *
    simp [go_sem]
    refine CallVC.of (c6) (by decide) ?_
    simp [go_sem]
    refine CallVC.of (cm) (by decide) ?_
    simp [go_sem]
    refine CallVC.of (c4) (by decide) ?_
    simp [go_sem]
    refine CallVC.of (cs) (by decide) ?_
    simp [go_sem]
    refine CallVC.of (ca) (by decide) ?_
    simp [go_sem]
    refine CallVC.of (rw_ 2 [1, 1] (by simp) (ff _ (by omega) (by omega)) (by simp [fits])) (by decide) ?_
    simp [go_sem]
    have hT : Tab [[z, v], [w, z]] (rwL 2 [1, 1]) := by
      refine ⟨by simp [rwL], by simp [rwL], by simp [rwL], tb_N fun k _ => frI_N _ _, fun r hr => ?_⟩
      simp at hr
      rcases hr with rfl | rfl
      · refine ⟨by simp [rwL], fun x hx => ?_⟩
        simp at hx
        rcases hx with rfl | rfl <;> assumption
      · refine ⟨by simp [rwL], fun x hx => ?_⟩
        simp at hx
        rcases hx with rfl | rfl <;> assumption
    exact ⟨[[z, v], [w, z]], rwL 2 [1, 1], hT, by simp [omat, avs], by simp [rwL]⟩
  simp [go_sem]
  refine ⟨fun h => ?_, fun h => ?_⟩
  · simp [go_sem]
    refine CallVC.of (sq 2 1 [0, 0, 1, 0] (by omega) rfl (ff _ (by omega) (by omega)) (by simp [fits])) (by decide) ?_
    simp [go_sem]
    refine CallVC.of (rw_ 2 [1, 1] (by simp) (ff _ (by omega) (by omega)) (by simp [fits])) (by decide) ?_
    simp [go_sem]
    exact named_fin 2 1 2 [0, 0, 1, 0] [1, 1] (by omega) (by omega) rfl
  simp [go_sem]
  refine ⟨fun h => ?_, fun h => ?_⟩
  · simp [go_sem]
    refine CallVC.of (sq 1 1 [1] (by omega) rfl (ff _ (by omega) (by omega)) (by simp [fits])) (by decide) ?_
    simp [go_sem]
    refine CallVC.of (rw_ 1 [1] (by simp) (ff _ (by omega) (by omega)) (by simp [fits])) (by decide) ?_
    simp [go_sem]
    exact named_fin 1 1 1 [1] [1] (by omega) (by omega) rfl
  simp [go_sem]
  refine ⟨fun h => ?_, fun h => ?_⟩
  · simp [go_sem]
    refine CallVC.of (sq 3 2 [0, 0, 0, 1, 0, 0, -2, 4, 0] (by omega) rfl (ff _ (by omega) (by omega)) (by simp [fits])) (by decide) ?_
    simp [go_sem]
    refine CallVC.of (rw_ 6 [1, 4, 1] (by simp) (ff _ (by omega) (by omega)) (by simp [fits])) (by decide) ?_
    simp [go_sem]
    exact named_fin 3 2 6 [0, 0, 0, 1, 0, 0, -2, 4, 0] [1, 4, 1] (by omega) (by omega) rfl
  simp [go_sem]
  refine ⟨fun h => ?_, fun h => ?_⟩
  · simp [go_sem]
    refine CallVC.of (sq 3 24 [0, 0, 0, 5, 8, -1, 4, 16, 4] (by omega) rfl (ff _ (by omega) (by omega)) (by simp [fits])) (by decide) ?_
    simp [go_sem]
    refine CallVC.of (rw_ 6 [1, 4, 1] (by simp) (ff _ (by omega) (by omega)) (by simp [fits])) (by decide) ?_
    simp [go_sem]
    exact named_fin 3 24 6 [0, 0, 0, 5, 8, -1, 4, 16, 4] [1, 4, 1] (by omega) (by omega) rfl
  simp [go_sem]
  refine ⟨fun h => ?_, fun h => ?_⟩
  · simp [go_sem]
    refine CallVC.of (sq 1 2 [1] (by omega) rfl (ff _ (by omega) (by omega)) (by simp [fits])) (by decide) ?_
    simp [go_sem]
    refine CallVC.of (rw_ 1 [1] (by simp) (ff _ (by omega) (by omega)) (by simp [fits])) (by decide) ?_
    simp [go_sem]
    exact named_fin 1 2 1 [1] [1] (by omega) (by omega) rfl
  simp [go_sem]
  refine ⟨fun h => ?_, fun h => ?_⟩
  · simp [go_sem]
    refine CallVC.of (sq 2 2 [0, 0, 1, 0] (by omega) rfl (ff _ (by omega) (by omega)) (by simp [fits])) (by decide) ?_
    simp [go_sem]
    refine CallVC.of (rw_ 1 [0, 1] (by simp) (ff _ (by omega) (by omega)) (by simp [fits])) (by decide) ?_
    simp [go_sem]
    exact named_fin 2 2 1 [0, 0, 1, 0] [0, 1] (by omega) (by omega) rfl
  simp [go_sem]
  refine ⟨fun h => ?_, fun h => ?_⟩
  · simp [go_sem]
    refine CallVC.of (sq 2 12 [5, -1, 9, 3] (by omega) rfl (ff _ (by omega) (by omega)) (by simp [fits])) (by decide) ?_
    simp [go_sem]
    refine CallVC.of (rw_ 4 [3, 1] (by simp) (ff _ (by omega) (by omega)) (by simp [fits])) (by decide) ?_
    simp [go_sem]
    exact named_fin 2 12 4 [5, -1, 9, 3] [3, 1] (by omega) (by omega) rfl
  simp [go_sem]
  refine ⟨fun h => ?_, fun h => ?_⟩
  · simp [go_sem]
    refine CallVC.of (sq 2 3 [0, 0, 2, 0] (by omega) rfl (ff _ (by omega) (by omega)) (by simp [fits])) (by decide) ?_
    simp [go_sem]
    refine CallVC.of (rw_ 4 [1, 3] (by simp) (ff _ (by omega) (by omega)) (by simp [fits])) (by decide) ?_
    simp [go_sem]
    exact named_fin 2 3 4 [0, 0, 2, 0] [1, 3] (by omega) (by omega) rfl
  simp [go_sem]
  refine ⟨fun h => ?_, fun h => ?_⟩
  · simp [go_sem]
    refine CallVC.of (sq 4 2 [0, 0, 0, 0, 1, 0, 0, 0, 0, 1, 0, 0, 0, 0, 2, 0] (by omega) rfl (ff _ (by omega) (by omega)) (by simp [fits])) (by decide) ?_
    simp [go_sem]
    refine CallVC.of (rw_ 6 [1, 2, 2, 1] (by simp) (ff _ (by omega) (by omega)) (by simp [fits])) (by decide) ?_
    simp [go_sem]
    exact named_fin 4 2 6 [0, 0, 0, 0, 1, 0, 0, 0, 0, 1, 0, 0, 0, 0, 2, 0] [1, 2, 2, 1] (by omega) (by omega) rfl
  simp [go_sem]
  refine CallVC.of (sq 2 2 [0, 0, 1, 1] (by omega) rfl (ff _ (by omega) (by omega)) (by simp [fits])) (by decide) ?_
  simp [go_sem]
  refine CallVC.of (rw_ 2 [1, 1] (by simp) (ff _ (by omega) (by omega)) (by simp [fits])) (by decide) ?_
  simp [go_sem]
  exact named_fin 2 2 2 [0, 0, 1, 1] [1, 1] (by omega) (by omega) rfl
end Go.Proofs.YtnokgijakdaehaaGreatDoor


namespace Go.Proofs.YtnokgijakdaehaaGreatDoor
open Go.Abs
set_option linter.unusedSectionVars false
set_option linter.unusedVariables false
set_option linter.unusedSimpArgs false
set_option maxHeartbeats 1000000
end Go.Proofs.YtnokgijakdaehaaGreatDoor


namespace Go.Proofs.YtnokgijakdaehaaGreatDoor
open Go.Abs
set_option linter.unusedSectionVars false
set_option linter.unusedVariables false
set_option linter.unusedSimpArgs false
set_option maxHeartbeats 1000000
end Go.Proofs.YtnokgijakdaehaaGreatDoor


namespace Go.Proofs.YtnokgijakdaehaaGreatDoor
open Go.Abs
set_option linter.unusedSectionVars false
set_option linter.unusedVariables false
set_option linter.unusedSimpArgs false
set_option maxHeartbeats 1000000
end Go.Proofs.YtnokgijakdaehaaGreatDoor


namespace Go.Proofs.YtnokgijakdaehaaGreatDoor
open Go.Abs Go.Shelf Go.Sort
set_option linter.unusedSectionVars false
set_option linter.unusedVariables false
set_option linter.unusedSimpArgs false
set_option maxHeartbeats 1000000
end Go.Proofs.YtnokgijakdaehaaGreatDoor


namespace Go.Proofs.YtnokgijakdaehaaGreatDoor
open Go.Abs
set_option linter.unusedSectionVars false
set_option linter.unusedVariables false
set_option linter.unusedSimpArgs false
set_option maxHeartbeats 1000000
end Go.Proofs.YtnokgijakdaehaaGreatDoor


namespace Go.Proofs.YtnokgijakdaehaaGreatDoor
open Go.Abs
set_option linter.unusedSectionVars false
set_option linter.unusedVariables false
set_option linter.unusedSimpArgs false
set_option maxHeartbeats 1000000
def DrP (n : Nat) (p : List Mon) : Prop := p.length ≤ 3 ∧ ∀ m ∈ p, WOk n 3 m
def DrS (z : Int) (f : List (List Mon)) : Prop := -1 ≤ z ∧ z ≤ 4 ∧ f.length ≤ 4 ∧ ∀ p ∈ f, p.length ≤ 4 ∧ ∀ m ∈ p, m.2.length ≤ 3
theorem DrS.of {n : Nat} {f : List (List Mon)} (hn : n ≤ 3) (hl : f.length ≤ 3) (h : ∀ p ∈ f, DrP n p) {z : Int} (h1 : -1 ≤ z) (h2 : z ≤ 4) : DrS z f :=
  ⟨h1, h2, by omega, fun p hp => ⟨by have := (h p hp).1; omega, fun m hm => by have := ((h p hp).2 m hm).len; omega⟩⟩
end Go.Proofs.YtnokgijakdaehaaGreatDoor


namespace Go.Proofs.YtnokgijakdaehaaGreatDoor
open Go.Abs
set_option linter.unusedSectionVars false
set_option linter.unusedVariables false
set_option linter.unusedSimpArgs false
set_option maxHeartbeats 1000000
theorem RCon.fz {P : Program} {f : FuncId} {args : List AV} {R : AV → List AV → Prop} (h : RCon P f args R) : RCon P f args (fun r o => ∃ r0, R r0 o ∧ r = frz r0) := by
  refine ⟨h.1, fun w vs os F0 hl hn ho hF hr => (h.2 w vs os F0 hl hn ho hF hr).mono ?_⟩
  rintro e w' ⟨r, o, hR, v, orr, oo, F', k1, k2, k3, k4, k5, k6, k7, k8, k9⟩
  refine ⟨frz r, o, ⟨r, hR, rfl⟩, v, [], oo, fun b => F' b ∨ b ∈ orr, k1, k2, fun b hb => .inl (k3 b hb), fun b hb => hb.elim (k4 b) (fun hb => .inr ⟨(k9 b (.inl hb)).1, (k9 b (.inl hb)).2.1⟩), fun tm oss => (k5 tm oss).frz (fun b h => .inl h) (fun b h => .inr h), fun tm oss => ?_, k7, ?_, fun b hb => ?_⟩
  · have := RepTL.kl (w' := w') (F' := fun b => F' b ∨ b ∈ orr) (tm' := tm) (oss' := oss) [] (fun b hb => .inl hb) (fun _ _ _ _ h => h) (k6 tm oss) (fun _ _ => rfl)
    rwa [klL_nil] at this
  · simpa using (List.nodup_append.1 k8).2.1
  · rcases hb with hb | hb
    · simp at hb
    · obtain ⟨j1, j2, j3⟩ := k9 b (.inr hb)
      exact ⟨j1, j2, fun hf => hf.elim j3 (fun hf => (List.nodup_append.1 k8).2.2 b hf b hb rfl)⟩
end Go.Proofs.YtnokgijakdaehaaGreatDoor


namespace Go.Proofs.YtnokgijakdaehaaGreatDoor
open Go.Abs
set_option linter.unusedSectionVars false
set_option linter.unusedVariables false
set_option linter.unusedSimpArgs false
set_option maxHeartbeats 4000000
theorem str_all (cs : List ByteArray) (h : cs.length = 12) : ∀ k, k < 12 → ∃ b, (cs.map fun b => AV.val (.string b))[k]? = some (.val (.string b)) := fun k hk => ⟨cs[k]?.getD default, by simp [h, hk]⟩
set_option maxRecDepth 100000 in
theorem TableauNames_r : RCon Tryz.prog 166 [] (fun r o => o = [] ∧ ∃ L : List AV, (∀ k, k < 12 → ∃ b, L[k]? = some (.val (.string b))) ∧ r = .own 9 12 L) := by
  refine RCon.mono (R := fun r o => o = [] ∧ ∃ cs : List ByteArray, cs.length = 12 ∧ r = .own 9 12 (cs.map fun b => .val (.string b))) ?_ (fun r o h => ?_)
  · refine rcon_of_vcH Tryz.mixed ⟨1, [], [], []⟩ [] Tryz.func166 (by decide) rfl (by simp) (by simp) (by decide) ?_
    rw [Tryz.ntmps166]
    simp [go_sem]
    exact ⟨[_, _, _, _, _, _, _, _, _, _, _, _], rfl, rfl⟩
  · obtain ⟨h1, cs, h2, h3⟩ := h
    exact ⟨h1, _, str_all cs h2, h3⟩
def ptM : List (List Int) → AV
  | [] => .val (.slice none 0 0)
  | r :: A => .own 25 (A.length + 1) (omat (r :: A))
theorem ptM_nil : ptM [] = .val (.slice none 0 0) := rfl
theorem ptM_cons (r : List Int) (A : List (List Int)) : ptM (r :: A) = .own 25 (A.length + 1) (omat (r :: A)) := rfl
theorem ptM_pos {A : List (List Int)} (h : 1 ≤ A.length) : ptM A = .own 25 A.length (omat A) := by
  cases A with
  | nil => simp at h
  | cons r A => rfl
theorem Ns.set {l : List Int} (h : Ns l) (k : Nat) {x : Int} (hx : isN x) : Ns (l.set k x) := fun y hy => by
  rcases List.mem_or_eq_of_mem_set hy with hy | rfl
  · exact h y hy
  · exact hx
set_option maxRecDepth 100000 in
theorem l09Draw_r (c : List Int) (σ : Src) (m : Int) (hc : Byt c) (hs : SOk σ) (hm : 1 ≤ m) (hm8 : m ≤ 8) :
    RCon Tryz.prog 107 [srcA c σ, .int m] (fun r o => ∃ (τ : Src) (A : List (List Int)) (B : List Int), SOk τ ∧ o = [srcA c τ, .any] ∧ Tb8 A B ∧ r = .agg [.own 25 A.length (omat A), .own 2 B.length (avs B)]) := by
  have c1 := l01Next_c c σ 2 hc hs
  have s1 := nx2_ok hc hs 2
  simp only [srcA_eq] at *
  by_cases h4 : 4 ≤ m
  · refine rcon_of_vcH Tryz.mixed ⟨14, [], [1000000 + 38, 1000000 + 40, 2000000 + 166, 2000000 + 167], []⟩ [0] Tryz.func107 (by decide) rfl (by simp) (by simp) (by decide) ?_
    rw [Tryz.ntmps107]
    simp [go_sem]
    simp [go_sem, h4]
    refine ⟨_, _, c1, ?_⟩
    simp [go_sem]
    generalize nx1 c σ 2 = v at *
    generalize nx2 c σ 2 = τ0 at *
    by_cases v0 : v = 0
    · simp [go_sem, v0]
      refine ⟨_, TableauNames_r, ?_⟩
      rintro _ _ ⟨rfl, L, hL, rfl⟩
      have c9 := l01Next_c c τ0 12 hc s1
      have s9 := nx2_ok hc s1 12
      have b9 := nx1_b hc τ0 (n := 12) (by omega)
      obtain ⟨k, hk⟩ : ∃ k : Nat, nx1 c τ0 12 = k := ⟨(nx1 c τ0 12).toNat, by omega⟩
      rw [hk] at c9 b9
      generalize nx2 c τ0 12 = κ at *
      simp only [srcA_eq] at c9
      obtain ⟨b, hA⟩ := hL k (by omega)
      simp [go_sem]
      refine ⟨_, _, c9, ?_⟩
      simp [go_sem]
      simp [go_sem, hA]
      refine ⟨by omega, ?_⟩
      refine ⟨_, l09Named_r _, ?_⟩
      rintro _ _ ⟨rfl, A, B, hT, rfl⟩
      simp [go_sem]
      exact ⟨κ.1, κ.2, s9, ⟨rfl, rfl⟩, A, B, hT, ⟨rfl, rfl⟩, rfl, rfl⟩
    · simp [go_sem, v0]
      have h0 := s1
      have c4 := l01Next_c c τ0 m hc h0
      have s4 := nx2_ok hc h0 m
      have b4 := nx1_b hc τ0 (n := m) (by omega)
      obtain ⟨N, hN⟩ : ∃ N : Nat, 1 + nx1 c τ0 m = N := ⟨(1 + nx1 c τ0 m).toNat, by omega⟩
      generalize nx1 c τ0 m = v4 at *
      generalize nx2 c τ0 m = τ1 at *
      have N1 : 1 ≤ N := by omega
      have N8 : N ≤ 8 := by omega
      have c5 := l01Next_c c τ1 3 hc s4
      have s5 := nx2_ok hc s4 3
      generalize nx1 c τ1 3 = u at *
      generalize nx2 c τ1 3 = τ2 at *
      have c6 := l01List_c c τ2 N hc s5 (by omega)
      have L6 := lsV_ok (f := nbV c) (fun σ h => nbV_ok hc h) N τ2 s5
      generalize lsV (nbV c) N τ2 = r6 at *
      obtain ⟨B0, τ3⟩ := r6
      simp only at L6 c6
      obtain ⟨lB, nB, s6⟩ := L6
      simp only [srcA_eq] at c4 c5 c6
      refine ⟨_, _, c4, ?_⟩
      simp [go_sem]
      refine ⟨⟨by omega, by omega⟩, ?_⟩
      rw [hN]
      refine ⟨_, _, c5, ?_⟩
      simp [go_sem]
      refine ⟨_, _, c6, ?_⟩
      simp [go_sem]
      refine loop_inv (0 :: 8 :: List.range' 9 3 ++ List.range' 40 38) (fun x : Src × List (List Int) => [(0, .box 136 [.sl c.length (bys c), .int x.1.1, .val (.int .u64 x.1.2)]), (8, .box 27 [ptM x.2, .own 2 N (avs B0)]), (9, .int x.2.length)]) (fun x => SOk x.1 ∧ x.2.length ≤ N ∧ ∀ r ∈ x.2, r.length = N ∧ Ns r) (fun x => N - x.2.length) (τ3, []) ⟨s6, by simp, by simp⟩ (by simp [go_sem, ptM_nil]) (by simp [go_sem]) ?_
      rintro ⟨ρ, A⟩ ⟨h1, h2, h3⟩
      simp only at h1 h2 h3
      by_cases hA : A.length < N
      · have hAi : (A.length : Int) < N := by omega
        have c7 := l01List_c c ρ N hc h1 (by omega)
        have L7 := lsV_ok (f := nbV c) (fun σ h => nbV_ok hc h) N ρ h1
        generalize lsV (nbV c) N ρ = r7 at *
        obtain ⟨row0, κ⟩ := r7
        simp only at L7 c7
        obtain ⟨l7, n7, s7⟩ := L7
        simp only [srcA_eq] at c7
        simp [go_sem, hAi]
        refine ⟨_, _, c7, ?_⟩
        simp [go_sem]
        refine loop_inv (10 :: 11 :: List.range' 48 24) (fun x : List Int × Nat => [(10, .own 2 N (avs x.1)), (11, .int x.2)]) (fun x => x.1.length = N ∧ Ns x.1 ∧ x.2 ≤ N) (fun x => N - x.2) (row0, 0) ⟨l7, n7, by omega⟩ (by simp [go_sem]) (by simp [go_sem]) ?_
        rintro ⟨row, k⟩ ⟨g1, g2, g3⟩
        simp only at g1 g2 g3
        by_cases hk : k < N
        · have hki : (k : Int) < N := by omega
          have hkr : k < row.length := by omega
          have hS := avs_set row k 0
          by_cases u0 : u = 0
          · by_cases u1 : (A.length : Int) ≤ k
            · simp -implicitDefEqProofs [go_sem, hki, u0, u1, hS]
              refine ⟨hkr, ⟨by omega, by omega⟩, row.set k 0, k + 1, ⟨by simpa using g1, Ns.set g2 k ⟨by omega, by omega⟩, by omega⟩, by omega, Off_reset _ _ _ (by simp), rfl, by omega⟩
            · simp -implicitDefEqProofs [go_sem, hki, u0, u1]
              refine ⟨⟨by omega, by omega⟩, row, k + 1, ⟨g1, g2, by omega⟩, by omega, Off_reset _ _ _ (by simp), rfl, by omega⟩
          · by_cases u1 : u = 1
            · by_cases u2 : (A.length : Int) < k
              · simp -implicitDefEqProofs [go_sem, hki, u0, u1, u2, hS]
                refine ⟨hkr, ⟨by omega, by omega⟩, row.set k 0, k + 1, ⟨by simpa using g1, Ns.set g2 k ⟨by omega, by omega⟩, by omega⟩, by omega, Off_reset _ _ _ (by simp), rfl, by omega⟩
              · simp -implicitDefEqProofs [go_sem, hki, u0, u1, u2]
                refine ⟨⟨by omega, by omega⟩, row, k + 1, ⟨g1, g2, by omega⟩, by omega, Off_reset _ _ _ (by simp), rfl, by omega⟩
            · simp -implicitDefEqProofs [go_sem, hki, u0, u1]
              refine ⟨⟨by omega, by omega⟩, row, k + 1, ⟨g1, g2, by omega⟩, by omega, Off_reset _ _ _ (by simp), rfl, by omega⟩
        · have e : k = N := by omega
          subst e
          simp [go_sem]
          have h3' : ∀ r ∈ A ++ [row], r.length = k ∧ Ns r := fun r hr => by
            rcases List.mem_append.1 hr with hr | hr
            · exact h3 r hr
            · simp at hr; subst hr; exact ⟨g1, g2⟩
          have os : omat (A ++ [row]) = omat A ++ [.own 2 k (avs row)] := by rw [omat_app, omat_one, g1]
          rcases A with _ | ⟨r0, A⟩
          · simp [go_sem, ptM_nil]
            refine ⟨κ.1, κ.2, [row], ⟨s7, by simp; omega, by simpa using h3'⟩, by simp; omega, (by repeat (first | exact Off_reset _ _ _ (by simp) | (refine Off.reset (by intro x hx; simp at hx ⊢; omega) (by simp) ?_; simp -failIfUnchanged [go_sem, Off_reset]))), ⟨⟨rfl, rfl⟩, by simp [ptM_cons, omat_one, g1], by simp⟩⟩
          · simp only [List.length_cons] at hA h2 hAi
            have e5 : ptM (r0 :: A ++ [row]) = .own 25 (A.length + 1 + 1) (omat (r0 :: A) ++ [.own 2 k (avs row)]) := by
              show AV.own _ ((A ++ [row]).length + 1) (omat (r0 :: A ++ [row])) = _
              rw [os, List.length_append]; rfl
            simp [go_sem, ptM_cons]
            refine ⟨⟨by omega, by omega⟩, ⟨by omega, by omega⟩, κ.1, κ.2, r0 :: A ++ [row], ⟨s7, by simp; omega, h3'⟩, by simp; omega, (by repeat (first | exact Off_reset _ _ _ (by simp) | (refine Off.reset (by intro x hx; simp at hx ⊢; omega) (by simp) ?_; simp -failIfUnchanged [go_sem, Off_reset]))), ⟨⟨rfl, rfl⟩, e5.symm, by simp⟩⟩
      · have e : A.length = N := by omega
        have hpt := ptM_pos (A := A) (by omega)
        rw [hpt, e]
        have c8 := l01Next_c c ρ 2 hc h1
        have s8 := nx2_ok hc h1 2
        generalize nx1 c ρ 2 = v8 at *
        generalize nx2 c ρ 2 = κ at *
        simp only [srcA_eq] at c8
        have fin : ∀ B : List Int, B.length = N → Ns B → ∃ a b, SOk (a, b) ∧ ((κ.1 : Int) = a ∧ κ.2 = b) ∧ ∃ A' B', Tb8 A' B' ∧ (N = A'.length ∧ omat A = omat A') ∧ N = B'.length ∧ B = B' := fun B hB nB => by
          refine ⟨κ.1, κ.2, s8, ⟨rfl, rfl⟩, A, B, ⟨by omega, by omega, by omega, nB, fun r hr => ?_⟩, ⟨e.symm, rfl⟩, hB.symm, rfl⟩
          rw [hB]; exact h3 r hr
        simp [go_sem, e]
        refine ⟨_, _, c8, ?_⟩
        simp [go_sem]
        by_cases v80 : v8 = 0
        · simp [go_sem, v80]
          refine loop_inv (12 :: 13 :: List.range' 81 12) (fun x : Int × Nat => [(12, .int x.1), (13, .int x.2)]) (fun x => isN x.1 ∧ 1 ≤ x.2 ∧ x.2 ≤ N) (fun x => N - x.2) (0, 1) ⟨⟨by simp, by simp⟩, by simp, by simp; omega⟩ (by simp [go_sem]) (by simp [go_sem]) ?_
          rintro ⟨q, i⟩ ⟨g1, g2, g3⟩
          simp only at g1 g2 g3
          by_cases hi : i < N
          · have hii : (i : Int) < N := by omega
            have hib : i < B0.length := by omega
            have hb := nB.get i
            have fa := add_fits g1 hb
            have cA := l01Add_c q (B0[i]?.getD 0) fa
            have hat := avs_at hib
            generalize B0[i]?.getD 0 = b at *
            simp [go_sem, hii, hat]
            refine CallVC.of (cA) (by decide) ?_
            simp [go_sem]
            exact ⟨⟨by omega, by omega⟩, (q + b) % 10007, i + 1, ⟨isN_mod _, by omega, by omega⟩, by omega, Off_reset _ _ _ (by simp), rfl, by omega⟩
          · have hii : ¬ (i : Int) < N := by omega
            have cS := l01Sub_c 1 q (sub_fits ⟨by omega, by omega⟩ g1)
            have nS : isN ((1 - q) % 10007) := isN_mod _
            generalize (1 - q) % 10007 = x at *
            have hset := avs_set B0 0 x
            simp [go_sem, hii]
            refine ⟨by kernel_rfl, ?_⟩
            refine CallD.of (cS) (by simp [roots, rootsL]) (by decide) ?_
            simp [go_sem]
            refine ⟨by omega, by omega, ?_⟩
            refine ⟨by kernel_rfl, ?_⟩
            simp [go_sem]
            simp only [hset]
            obtain ⟨a, b, k1, k2, A', B', k3, k4, k5, k6⟩ := fin (B0.set 0 x) (by simpa using lB) (Ns.set nB 0 nS)
            exact ⟨a, b, k1, k2, A', B', k3, k4, k5, by rw [k6]⟩
        · simp [go_sem, v80]
          exact fin B0 lB nB
  · refine rcon_of_vcH Tryz.mixed ⟨14, [], [1000000 + 38, 1000000 + 40, 2000000 + 166, 2000000 + 167], []⟩ [0] Tryz.func107 (by decide) rfl (by simp) (by simp) (by decide) ?_
    rw [Tryz.ntmps107]
    simp [go_sem]
    simp [go_sem, h4]
    have τ0h : ∃ τ0 : Src, τ0 = σ := ⟨σ, rfl⟩
    obtain ⟨τ0, rfl⟩ := τ0h
    have h0 := hs
    clear c1 s1 hs
    have c4 := l01Next_c c τ0 m hc h0
    have s4 := nx2_ok hc h0 m
    have b4 := nx1_b hc τ0 (n := m) (by omega)
    obtain ⟨N, hN⟩ : ∃ N : Nat, 1 + nx1 c τ0 m = N := ⟨(1 + nx1 c τ0 m).toNat, by omega⟩
    generalize nx1 c τ0 m = v4 at *
    generalize nx2 c τ0 m = τ1 at *
    have N1 : 1 ≤ N := by omega
    have N8 : N ≤ 8 := by omega
    have c5 := l01Next_c c τ1 3 hc s4
    have s5 := nx2_ok hc s4 3
    generalize nx1 c τ1 3 = u at *
    generalize nx2 c τ1 3 = τ2 at *
    have c6 := l01List_c c τ2 N hc s5 (by omega)
    have L6 := lsV_ok (f := nbV c) (fun σ h => nbV_ok hc h) N τ2 s5
    generalize lsV (nbV c) N τ2 = r6 at *
    obtain ⟨B0, τ3⟩ := r6
    simp only at L6 c6
    obtain ⟨lB, nB, s6⟩ := L6
    simp only [srcA_eq] at c4 c5 c6
    refine ⟨_, _, c4, ?_⟩
    simp [go_sem]
    refine ⟨⟨by omega, by omega⟩, ?_⟩
    rw [hN]
    refine ⟨_, _, c5, ?_⟩
    simp [go_sem]
    refine ⟨_, _, c6, ?_⟩
    simp [go_sem]
    refine loop_inv (0 :: 8 :: List.range' 9 3 ++ List.range' 40 38) (fun x : Src × List (List Int) => [(0, .box 136 [.sl c.length (bys c), .int x.1.1, .val (.int .u64 x.1.2)]), (8, .box 27 [ptM x.2, .own 2 N (avs B0)]), (9, .int x.2.length)]) (fun x => SOk x.1 ∧ x.2.length ≤ N ∧ ∀ r ∈ x.2, r.length = N ∧ Ns r) (fun x => N - x.2.length) (τ3, []) ⟨s6, by simp, by simp⟩ (by simp [go_sem, ptM_nil]) (by simp [go_sem]) ?_
    rintro ⟨ρ, A⟩ ⟨h1, h2, h3⟩
    simp only at h1 h2 h3
    by_cases hA : A.length < N
    · have hAi : (A.length : Int) < N := by omega
      have c7 := l01List_c c ρ N hc h1 (by omega)
      have L7 := lsV_ok (f := nbV c) (fun σ h => nbV_ok hc h) N ρ h1
      generalize lsV (nbV c) N ρ = r7 at *
      obtain ⟨row0, κ⟩ := r7
      simp only at L7 c7
      obtain ⟨l7, n7, s7⟩ := L7
      simp only [srcA_eq] at c7
      simp [go_sem, hAi]
      refine ⟨_, _, c7, ?_⟩
      simp [go_sem]
      refine loop_inv (10 :: 11 :: List.range' 48 24) (fun x : List Int × Nat => [(10, .own 2 N (avs x.1)), (11, .int x.2)]) (fun x => x.1.length = N ∧ Ns x.1 ∧ x.2 ≤ N) (fun x => N - x.2) (row0, 0) ⟨l7, n7, by omega⟩ (by simp [go_sem]) (by simp [go_sem]) ?_
      rintro ⟨row, k⟩ ⟨g1, g2, g3⟩
      simp only at g1 g2 g3
      by_cases hk : k < N
      · have hki : (k : Int) < N := by omega
        have hkr : k < row.length := by omega
        have hS := avs_set row k 0
        by_cases u0 : u = 0
        · by_cases u1 : (A.length : Int) ≤ k
          · simp -implicitDefEqProofs [go_sem, hki, u0, u1, hS]
            refine ⟨hkr, ⟨by omega, by omega⟩, row.set k 0, k + 1, ⟨by simpa using g1, Ns.set g2 k ⟨by omega, by omega⟩, by omega⟩, by omega, Off_reset _ _ _ (by simp), rfl, by omega⟩
          · simp -implicitDefEqProofs [go_sem, hki, u0, u1]
            refine ⟨⟨by omega, by omega⟩, row, k + 1, ⟨g1, g2, by omega⟩, by omega, Off_reset _ _ _ (by simp), rfl, by omega⟩
        · by_cases u1 : u = 1
          · by_cases u2 : (A.length : Int) < k
            · simp -implicitDefEqProofs [go_sem, hki, u0, u1, u2, hS]
              refine ⟨hkr, ⟨by omega, by omega⟩, row.set k 0, k + 1, ⟨by simpa using g1, Ns.set g2 k ⟨by omega, by omega⟩, by omega⟩, by omega, Off_reset _ _ _ (by simp), rfl, by omega⟩
            · simp -implicitDefEqProofs [go_sem, hki, u0, u1, u2]
              refine ⟨⟨by omega, by omega⟩, row, k + 1, ⟨g1, g2, by omega⟩, by omega, Off_reset _ _ _ (by simp), rfl, by omega⟩
          · simp -implicitDefEqProofs [go_sem, hki, u0, u1]
            refine ⟨⟨by omega, by omega⟩, row, k + 1, ⟨g1, g2, by omega⟩, by omega, Off_reset _ _ _ (by simp), rfl, by omega⟩
      · have e : k = N := by omega
        subst e
        simp [go_sem]
        have h3' : ∀ r ∈ A ++ [row], r.length = k ∧ Ns r := fun r hr => by
          rcases List.mem_append.1 hr with hr | hr
          · exact h3 r hr
          · simp at hr; subst hr; exact ⟨g1, g2⟩
        have os : omat (A ++ [row]) = omat A ++ [.own 2 k (avs row)] := by rw [omat_app, omat_one, g1]
        rcases A with _ | ⟨r0, A⟩
        · simp [go_sem, ptM_nil]
          refine ⟨κ.1, κ.2, [row], ⟨s7, by simp; omega, by simpa using h3'⟩, by simp; omega, (by repeat (first | exact Off_reset _ _ _ (by simp) | (refine Off.reset (by intro x hx; simp at hx ⊢; omega) (by simp) ?_; simp -failIfUnchanged [go_sem, Off_reset]))), ⟨⟨rfl, rfl⟩, by simp [ptM_cons, omat_one, g1], by simp⟩⟩
        · simp only [List.length_cons] at hA h2 hAi
          have e5 : ptM (r0 :: A ++ [row]) = .own 25 (A.length + 1 + 1) (omat (r0 :: A) ++ [.own 2 k (avs row)]) := by
            show AV.own _ ((A ++ [row]).length + 1) (omat (r0 :: A ++ [row])) = _
            rw [os, List.length_append]; rfl
          simp [go_sem, ptM_cons]
          refine ⟨⟨by omega, by omega⟩, ⟨by omega, by omega⟩, κ.1, κ.2, r0 :: A ++ [row], ⟨s7, by simp; omega, h3'⟩, by simp; omega, (by repeat (first | exact Off_reset _ _ _ (by simp) | (refine Off.reset (by intro x hx; simp at hx ⊢; omega) (by simp) ?_; simp -failIfUnchanged [go_sem, Off_reset]))), ⟨⟨rfl, rfl⟩, e5.symm, by simp⟩⟩
    · have e : A.length = N := by omega
      have hpt := ptM_pos (A := A) (by omega)
      rw [hpt, e]
      have c8 := l01Next_c c ρ 2 hc h1
      have s8 := nx2_ok hc h1 2
      generalize nx1 c ρ 2 = v8 at *
      generalize nx2 c ρ 2 = κ at *
      simp only [srcA_eq] at c8
      have fin : ∀ B : List Int, B.length = N → Ns B → ∃ a b, SOk (a, b) ∧ ((κ.1 : Int) = a ∧ κ.2 = b) ∧ ∃ A' B', Tb8 A' B' ∧ (N = A'.length ∧ omat A = omat A') ∧ N = B'.length ∧ B = B' := fun B hB nB => by
        refine ⟨κ.1, κ.2, s8, ⟨rfl, rfl⟩, A, B, ⟨by omega, by omega, by omega, nB, fun r hr => ?_⟩, ⟨e.symm, rfl⟩, hB.symm, rfl⟩
        rw [hB]; exact h3 r hr
      simp [go_sem, e]
      refine ⟨_, _, c8, ?_⟩
      simp [go_sem]
      by_cases v80 : v8 = 0
      · simp [go_sem, v80]
        refine loop_inv (12 :: 13 :: List.range' 81 12) (fun x : Int × Nat => [(12, .int x.1), (13, .int x.2)]) (fun x => isN x.1 ∧ 1 ≤ x.2 ∧ x.2 ≤ N) (fun x => N - x.2) (0, 1) ⟨⟨by simp, by simp⟩, by simp, by simp; omega⟩ (by simp [go_sem]) (by simp [go_sem]) ?_
        rintro ⟨q, i⟩ ⟨g1, g2, g3⟩
        simp only at g1 g2 g3
        by_cases hi : i < N
        · have hii : (i : Int) < N := by omega
          have hib : i < B0.length := by omega
          have hb := nB.get i
          have fa := add_fits g1 hb
          have cA := l01Add_c q (B0[i]?.getD 0) fa
          have hat := avs_at hib
          generalize B0[i]?.getD 0 = b at *
          simp [go_sem, hii, hat]
          refine CallVC.of (cA) (by decide) ?_
          simp [go_sem]
          exact ⟨⟨by omega, by omega⟩, (q + b) % 10007, i + 1, ⟨isN_mod _, by omega, by omega⟩, by omega, Off_reset _ _ _ (by simp), rfl, by omega⟩
        · have hii : ¬ (i : Int) < N := by omega
          have cS := l01Sub_c 1 q (sub_fits ⟨by omega, by omega⟩ g1)
          have nS : isN ((1 - q) % 10007) := isN_mod _
          generalize (1 - q) % 10007 = x at *
          have hset := avs_set B0 0 x
          simp [go_sem, hii]
          refine ⟨by kernel_rfl, ?_⟩
          refine CallD.of (cS) (by simp [roots, rootsL]) (by decide) ?_
          simp [go_sem]
          refine ⟨by omega, by omega, ?_⟩
          refine ⟨by kernel_rfl, ?_⟩
          simp [go_sem]
          simp only [hset]
          obtain ⟨a, b, k1, k2, A', B', k3, k4, k5, k6⟩ := fin (B0.set 0 x) (by simpa using lB) (Ns.set nB 0 nS)
          exact ⟨a, b, k1, k2, A', B', k3, k4, k5, by rw [k6]⟩
      · simp [go_sem, v80]
        exact fin B0 lB nB
end Go.Proofs.YtnokgijakdaehaaGreatDoor


namespace Go.Proofs.YtnokgijakdaehaaGreatDoor
open Go.Abs
set_option linter.unusedSectionVars false
set_option linter.unusedVariables false
set_option linter.unusedSimpArgs false
set_option maxHeartbeats 4000000
theorem RCon.rep {P : Program} {f : FuncId} {args : List AV} {R R' : AV → List AV → Prop} (h : RCon P f args R)
    (hR : ∀ r o, R r o → ∃ r', R' r' o ∧ ∀ (w : World) (F : Nat → Prop) (tm : Nat → Value) (oss : Nat → List Nat) (v : Value) (os : List Nat), RepT P w F tm oss r v os → RepT P w F tm oss r' v os) : RCon P f args R' := by
  refine ⟨h.1, fun w vs os F0 hl hn ho hF hr => (h.2 w vs os F0 hl hn ho hF hr).mono ?_⟩
  rintro e w' ⟨r, o, hr0, v, orr, oo, F', k1, k2, k3, k4, k5, k6⟩
  obtain ⟨r', h1, h2⟩ := hR r o hr0
  exact ⟨r', o, h1, v, orr, oo, F', k1, k2, k3, k4, fun tm oss => h2 _ _ _ _ _ _ (k5 tm oss), k6⟩
theorem rep_nils {P : Program} {w : World} {F : Nat → Prop} {tm : Nat → Value} {oss : Nat → List Nat} {v : Value} {os : List Nat}
    (h : RepT P w F tm oss (.agg [.val (.slice none 0 0), .val (.slice none 0 0)]) v os) : RepT P w F tm oss (.agg [.sl 0 [], .sl 0 []]) v os := by
  cases h with
  | cell c v os h => cases h
  | agg cs vs os hl h =>
    refine .agg _ vs os (by simpa using hl) ?_
    cases h with
    | cons c v o cs vs os' h t =>
      cases t with
      | cons c2 v2 o2 cs2 vs2 os2 h2 t2 =>
        refine .cons _ _ _ _ _ _ ?_ (.cons _ _ _ _ _ _ ?_ t2)
        · cases h with
          | cell _ _ _ h => cases h with | val _ _ => exact .cell _ _ _ (.sl0 none 0)
        · cases h2 with
          | cell _ _ _ h => cases h with | val _ _ => exact .cell _ _ _ (.sl0 none 0)
def Sz (A : List (List Int)) (B : List Int) : Prop := A.length ≤ 9 ∧ B.length ≤ 9 ∧ ∀ r ∈ A, r.length ≤ 9
theorem Tab.sz {A : List (List Int)} {B : List Int} (h : Tab A B) : Sz A B := by
  have h1 := h.le
  have h2 := h.len
  refine ⟨by omega, by omega, fun r hr => ?_⟩
  have := (h.a r hr).1
  omega
theorem omat_cons (r : List Int) (A : List (List Int)) : omat (r :: A) = .own 2 r.length (avs r) :: omat A := rfl
def FrT (r : AV) (A : List (List Int)) (B : List Int) : Prop := frz r = .agg [.sl A.length (mat A), .sl B.length (avs B)]
set_option maxRecDepth 100000 in
theorem l09Spoil_r (c : List Int) (σ : Src) (m : Int) (hc : Byt c) (hs : SOk σ) (hm : 1 ≤ m) (hm8 : m ≤ 8) :
    RCon Tryz.prog 37 [srcA c σ, .int m] (fun r o => ∃ (τ : Src), SOk τ ∧ o = [srcA c τ, .any] ∧ (r = .agg [.val (.slice none 0 0), .val (.slice none 0 0)] ∨ ∃ (A : List (List Int)) (B : List Int), Sz A B ∧ FrT r A B)) := by
  have cD := l09Draw_r c σ m hc hs hm hm8
  simp only [srcA_eq] at *
  refine rcon_of_vcH Tryz.mixed ⟨6, [46], [1000000 + 38, 1000000 + 108, 2000000 + 107], [2000607000110]⟩ [0] Tryz.func37 (by decide) rfl (by simp) (by simp) (by decide) ?_
  rw [Tryz.ntmps37]
  simp [go_sem]
  refine ⟨_, cD, ?_⟩
  rintro _ _ ⟨τ, A, B, h1, rfl, hT, rfl⟩
  have c4 := l01Next_c c τ 40 hc h1
  have s4 := nx2_ok hc h1 40
  generalize nx1 c τ 40 = v at *
  generalize nx2 c τ 40 = τ1 at *
  have hz := Tab.sz hT
  have hp := Tab.pos hT
  have hl := Tab.len hT
  have hle := Tab.le hT
  simp only [srcA_eq] at c4
  simp [go_sem]
  refine ⟨_, _, c4, ?_⟩
  simp [go_sem]
  by_cases v0 : v = 0
  · have ef := avs_frz (B ++ [1])
    rw [avs_snoc] at ef
    simp [go_sem, v0]
    exact ⟨⟨by omega, by omega⟩, τ1.1, τ1.2, s4, ⟨rfl, rfl⟩, A, B ++ [1], ⟨hz.1, by simp; omega, hz.2.2⟩, by simp [FrT, frz, frzL, avs_snoc, ef]⟩
  · by_cases v1 : v = 1
    · rcases A with _ | ⟨r0, A⟩
      · simp at hl; omega
      · have hr0 := hz.2.2 r0 (by simp)
        have fin : ∃ a b, SOk (a, b) ∧ ((τ1.1 : Int) = a ∧ τ1.2 = b) ∧ ∃ A_1 B_1, Sz A_1 B_1 ∧ FrT (.agg [.own 25 (A.length + 1) (.own 2 (r0.length + 1) (avs r0 ++ [.int 1]) :: omat A), .own 2 B.length (avs B)]) A_1 B_1 := by
          refine ⟨τ1.1, τ1.2, s4, ⟨rfl, rfl⟩, (r0 ++ [1]) :: A, B, ⟨hz.1, hz.2.1, fun r hr => ?_⟩, ?_⟩
          · rcases List.mem_cons.1 hr with rfl | hr
            · have := hT.le; have := (hT.a r0 (by simp)).1; simp; omega
            · exact hz.2.2 r (by simp [hr])
          · have e : omat ((r0 ++ [1]) :: A) = .own 2 (r0.length + 1) (avs r0 ++ [.int 1]) :: omat A := by rw [omat_cons, avs_snoc, List.length_append]; rfl
            unfold FrT
            rw [← e]
            simp [frz, frzL]
        simp [go_sem, v0, v1]
        rw [DrawVC4_app]
        refine ⟨fun i => [], by kernel_rfl, ?_, ?_, ?_⟩
        · simp [go_sem, omat_cons]
          refine ⟨⟨by omega, by omega⟩, by kernel_rfl, ?_⟩
          exact fin
        · simp [go_sem, omat_cons]
          refine ⟨⟨by omega, by omega⟩, by kernel_rfl, ?_⟩
          exact fin
        · simp [go_sem, omat_cons]
          refine ⟨⟨by omega, by omega⟩, by kernel_rfl, ?_⟩
          exact fin
    · by_cases v2 : v = 2
      · have c5 := l01Pick_c c τ1 [-1, 10007] hc s4 (by simp) (by simp)
        have s5 := nx2_ok hc s4 2
        have e4 : (([-1, 10007] : List Int).length : Int) = 2 := rfl
        rw [e4] at c5
        simp only [srcA_eq] at c5
        generalize pk c τ1 [-1, 10007] = x at *
        generalize nx2 c τ1 2 = τ2 at *
        rcases A with _ | ⟨r0, A⟩
        · simp at hl; omega
        · simp [go_sem, v0, v1, v2, omat_cons]
          refine ⟨by kernel_rfl, ?_⟩
          refine ⟨_, _, c5, ?_⟩
          simp [go_sem]
          have hr0 : r0.length = B.length := (hT.a r0 (by simp)).1
          have hset := avs_set r0 0 x
          refine ⟨by omega, ?_⟩
          refine ⟨by kernel_rfl, ?_⟩
          simp [go_sem]
          simp only [hset]
          refine ⟨τ2.1, τ2.2, s5, ⟨rfl, rfl⟩, (r0.set 0 x) :: A, B, ⟨hz.1, hz.2.1, fun r hr => ?_⟩, ?_⟩
          · rcases List.mem_cons.1 hr with rfl | hr
            · simp; omega
            · exact hz.2.2 r (by simp [hr])
          · have e : omat ((r0.set 0 x) :: A) = .own 2 r0.length (avs (r0.set 0 x)) :: omat A := by rw [omat_cons, List.length_set]
            unfold FrT
            rw [← e]
            simp [frz, frzL]
      · by_cases v3 : v = 3
        · simp [go_sem, v0, v1, v2, v3]
          exact ⟨τ1.1, s4, rfl⟩
        · by_cases v4 : v = 4
          · simp [go_sem, v0, v1, v2, v3, v4]
            refine ⟨by omega, τ1.1, τ1.2, s4, ⟨rfl, rfl⟩, A.tail, B, ⟨by simp; omega, hz.2.1, fun r hr => hz.2.2 r (List.mem_of_mem_tail hr)⟩, ?_⟩
            have e : List.take (A.length - 1) (mat A).tail = mat A.tail := by rw [List.take_of_length_le (by simp)]; simp [mat]
            unfold FrT
            rw [e]
            simp [frz, frzL]
          · simp [go_sem, v0, v1, v2, v3, v4]
            exact ⟨τ1.1, τ1.2, s4, ⟨rfl, rfl⟩, A, B, hz, by simp [FrT, frz, frzL]⟩
theorem l09Spoil_f (c : List Int) (σ : Src) (m : Int) (hc : Byt c) (hs : SOk σ) (hm : 1 ≤ m) (hm8 : m ≤ 8) :
    RCon Tryz.prog 37 [srcA c σ, .int m] (fun r o => ∃ (τ : Src) (A : List (List Int)) (B : List Int), SOk τ ∧ o = [srcA c τ, .any] ∧ Sz A B ∧ r = .agg [.sl A.length (mat A), .sl B.length (avs B)]) := by
  refine RCon.rep (RCon.fz (l09Spoil_r c σ m hc hs hm hm8)) (fun r o h => ?_)
  obtain ⟨r0, ⟨τ, h1, h2, h3⟩, rfl⟩ := h
  rcases h3 with rfl | ⟨A, B, hz, hf⟩
  · exact ⟨_, ⟨τ, [], [], h1, h2, ⟨by simp, by simp, by simp⟩, rfl⟩, fun w F tm oss v os h => rep_nils h⟩
  · unfold FrT at hf
    exact ⟨_, ⟨τ, A, B, h1, h2, hz, hf⟩, fun w F tm oss v os h => h⟩
end Go.Proofs.YtnokgijakdaehaaGreatDoor


namespace Go.Proofs.YtnokgijakdaehaaGreatDoor
open Go.Abs
set_option linter.unusedSectionVars false
set_option linter.unusedVariables false
set_option linter.unusedSimpArgs false
set_option maxHeartbeats 1000000
end Go.Proofs.YtnokgijakdaehaaGreatDoor


namespace Go.Proofs.YtnokgijakdaehaaGreatDoor
open Go.Abs
set_option linter.unusedSectionVars false
set_option linter.unusedVariables false
set_option linter.unusedSimpArgs false
set_option maxHeartbeats 1000000
end Go.Proofs.YtnokgijakdaehaaGreatDoor


namespace Go.Proofs.YtnokgijakdaehaaGreatDoor
open Go.Abs
set_option linter.unusedSectionVars false
set_option linter.unusedVariables false
set_option linter.unusedSimpArgs false
set_option maxHeartbeats 1000000
end Go.Proofs.YtnokgijakdaehaaGreatDoor


namespace Go.Proofs.YtnokgijakdaehaaGreatDoor
open Go.Abs
set_option linter.unusedSectionVars false
set_option linter.unusedVariables false
set_option linter.unusedSimpArgs false
set_option maxHeartbeats 1000000
end Go.Proofs.YtnokgijakdaehaaGreatDoor


namespace Go.Proofs.YtnokgijakdaehaaGreatDoor
open Go.Abs
set_option linter.unusedSectionVars false
set_option linter.unusedVariables false
set_option linter.unusedSimpArgs false
set_option maxHeartbeats 4000000
end Go.Proofs.YtnokgijakdaehaaGreatDoor


namespace Go.Proofs.YtnokgijakdaehaaGreatDoor
open Go.Abs
set_option linter.unusedSectionVars false
set_option linter.unusedVariables false
set_option linter.unusedSimpArgs false
set_option maxHeartbeats 4000000
end Go.Proofs.YtnokgijakdaehaaGreatDoor


namespace Go.Proofs.YtnokgijakdaehaaGreatDoor
open Go.Abs
set_option linter.unusedSectionVars false
set_option linter.unusedVariables false
set_option linter.unusedSimpArgs false
set_option maxHeartbeats 4000000
def spV (c : List Int) (σ : Src) : Int × Src :=
  if nx1 c σ 30 = 0 then (pk c (nx2 c σ 30) [-1, 10007, 1099511627776, -4611686018427387904], nx2 c (nx2 c σ 30) 4) else nbV c (nx2 c σ 30)
set_option maxRecDepth 100000 in
theorem l01Spoil_c (c : List Int) (σ : Src) (hc : Byt c) (hs : SOk σ) : GCon Tryz.prog 41 [srcA c σ] (.int (spV c σ).1) [srcA c (spV c σ).2] := by
  have s1 := nx2_ok hc hs 30
  have c1 := l01Next_c c σ 30 hc hs
  have c2 := l01Pick_c c (nx2 c σ 30) [-1, 10007, 1099511627776, -4611686018427387904] hc s1 (by simp) (by simp)
  have c3 := l01Number_c c (nx2 c σ 30) hc s1
  unfold spV
  have e3 : (([-1, 10007, 1099511627776, -4611686018427387904] : List Int).length : Int) = 4 := rfl
  rw [e3] at c2
  generalize pk c (nx2 c σ 30) [-1, 10007, 1099511627776, -4611686018427387904] = pv at *
  generalize nbV c (nx2 c σ 30) = nv at *
  generalize nx2 c (nx2 c σ 30) 4 = t4 at *
  generalize nx2 c σ 30 = t1 at *
  generalize nx1 c σ 30 = v1 at *
  unfold srcA at *
  by_cases h0 : v1 = 0
  · rw [if_pos h0]
    refine gcon_of_vc Tryz.mixed ⟨3, [], [1000000 + 38, 1000000 + 108, 1000000 + 110], []⟩ [2] [0] Tryz.func41 (by decide) rfl rfl (by simp) (by simp) (by decide) ?_
    rw [Tryz.ntmps41]
    simp [go_sem]
    refine ⟨_, _, c1, ?_⟩
    simp [go_sem]
    simp [go_sem, h0]
    refine ⟨_, _, c2, ?_⟩
    simp [go_sem]
  · rw [if_neg h0]
    refine gcon_of_vc Tryz.mixed ⟨3, [], [1000000 + 38, 1000000 + 108, 1000000 + 110], []⟩ [2] [0] Tryz.func41 (by decide) rfl rfl (by simp) (by simp) (by decide) ?_
    rw [Tryz.ntmps41]
    simp [go_sem]
    refine ⟨_, _, c1, ?_⟩
    simp [go_sem]
    simp [go_sem, h0]
    refine ⟨_, _, c3, ?_⟩
    simp [go_sem]
end Go.Proofs.YtnokgijakdaehaaGreatDoor


namespace Go.Proofs.YtnokgijakdaehaaGreatDoor
open Go.Abs
set_option linter.unusedSectionVars false
set_option linter.unusedVariables false
set_option linter.unusedSimpArgs false
set_option maxHeartbeats 4000000
set_option maxRecDepth 100000 in
theorem DrawStabilityAt_f (c : List Int) (hc : Byt c) :
    RCon Tryz.prog 21 [.sl c.length (bys c)] (fun r o => o = [.any] ∧ ∃ (A : List (List Int)) (B : List Int) (z : Int), Sz A B ∧
      r = .tup [.agg [.sl A.length (mat A), .sl B.length (avs B)], .int z]) := by
  have c0 := l01From_r c hc
  refine rcon_of_vcH Tryz.mixed ⟨6, [], [1000000 + 38, 1000000 + 41, 2000000 + 36, 2000000 + 37], []⟩ [] Tryz.func21 (by decide) rfl (by simp) (by simp) (by decide) ?_
  rw [Tryz.ntmps21]
  simp [go_sem]
  refine ⟨_, c0, ?_⟩
  rintro _ _ ⟨rfl, h, rfl⟩
  have c1 := l09Spoil_f c (0, h) 5 hc (by unfold SOk; simp) (by omega) (by omega)
  simp only [srcA_eq] at *
  simp [go_sem]
  refine ⟨_, c1, ?_⟩
  rintro _ _ ⟨τ1, A, B, h1, rfl, hz, rfl⟩
  have cI := l09Is_c A B (by have := hz.1; omega) (by have := hz.2.1; omega) (fun r h => by have := hz.2.2 r h; omega)
  have c2 := l01Next_c c τ1 4 hc h1
  have s2 := nx2_ok hc h1 4
  have cS1 := l01Spoil_c c τ1 hc h1
  have cS2 := l01Spoil_c c (nx2 c τ1 4) hc s2
  generalize spV c τ1 = w1 at *
  generalize spV c (nx2 c τ1 4) = w2 at *
  generalize nx1 c τ1 4 = v at *
  generalize nx2 c τ1 4 = τ2 at *
  simp only [srcA_eq] at *
  simp [go_sem]
  refine CallVC.of (cI) (by decide) ?_
  simp [go_sem]
  by_cases hT : tabB A B = true
  · have hTT := tabB_iff.1 hT
    have b1 := hTT.pos
    have al := hTT.len
    rcases A with _ | ⟨r0, A⟩
    · simp at al; omega
    rcases r0 with _ | ⟨x0, r0⟩
    · have := (hTT.a [] (by simp)).1
      simp at this; omega
    have cL := l09Lower_c ((x0 :: r0) :: A) B 1 (by omega) (by have := hz.2.1; omega) (by omega) (fun r hr => (hTT.a r hr).1)
    have x0N : isN x0 := (hTT.a (x0 :: r0) (by simp)).2 x0 (by simp)
    have cV := l01Inv_c x0 x0N
    have hm : mat ((x0 :: r0) :: A) = .sl (r0.length + 1) (.int x0 :: avs r0) :: mat A := rfl
    rw [hm] at cL
    simp only [List.length_cons] at cL
    simp [go_sem, hT, hm]
    refine ⟨_, _, c2, ?_⟩
    simp [go_sem]
    by_cases v0 : v = 0
    · by_cases x00 : x0 = 0
      · subst x00
        simp [go_sem, v0]
        refine ⟨by kernel_rfl, ?_⟩
        refine ⟨_, _, cS2, ?_⟩
        simp [go_sem]
        refine ⟨by kernel_rfl, ?_⟩
        simp [go_sem]
        exact ⟨(0 :: r0) :: A, B, hz, ⟨rfl, rfl⟩, rfl, rfl⟩
      · cases hlo : lowB ((x0 :: r0) :: A) 1 with
        | true =>
          rw [hlo] at cL
          simp [go_sem, v0, x00]
          refine CallVC.of (cL) (by decide) ?_
          simp [go_sem]
          refine ⟨by kernel_rfl, ?_⟩
          refine CallD.of (cV) (by simp [roots, rootsL]) (by decide) ?_
          simp [go_sem]
          refine ⟨by kernel_rfl, ?_⟩
          simp [go_sem]
          exact ⟨(x0 :: r0) :: A, B, hz, ⟨rfl, rfl⟩, rfl, rfl⟩
        | false =>
          rw [hlo] at cL
          simp [go_sem, v0, x00]
          refine CallVC.of (cL) (by decide) ?_
          simp [go_sem]
          refine ⟨by kernel_rfl, ?_⟩
          refine ⟨_, _, cS2, ?_⟩
          simp [go_sem]
          refine ⟨by kernel_rfl, ?_⟩
          simp [go_sem]
          exact ⟨(x0 :: r0) :: A, B, hz, ⟨rfl, rfl⟩, rfl, rfl⟩
    · simp [go_sem, v0]
      refine ⟨by kernel_rfl, ?_⟩
      refine ⟨_, _, cS2, ?_⟩
      simp [go_sem]
      refine ⟨by kernel_rfl, ?_⟩
      simp [go_sem]
      exact ⟨(x0 :: r0) :: A, B, hz, ⟨rfl, rfl⟩, rfl, rfl⟩
  · simp [go_sem, hT]
    refine ⟨by kernel_rfl, ?_⟩
    refine ⟨_, _, cS1, ?_⟩
    simp [go_sem]
    refine ⟨by kernel_rfl, ?_⟩
    simp [go_sem]
    exact ⟨A, B, hz, ⟨rfl, rfl⟩, rfl, rfl⟩
end Go.Proofs.YtnokgijakdaehaaGreatDoor


namespace Go.Proofs.YtnokgijakdaehaaGreatDoor
open Go.RowKit Go.Shelf Go.Abs
set_option linter.unusedSectionVars false
set_option linter.unusedVariables false
set_option linter.unusedSimpArgs false
attribute [local go_sem] Oper.semAt_some
def upto {α : Type} (f : Nat → α) (k : Nat) : List α := (List.range k).map f
theorem upto_succ {α : Type} (f : Nat → α) (k : Nat) : upto f (k + 1) = upto f k ++ [f k] := by simp [upto, List.range_succ]
theorem upto_length {α : Type} (f : Nat → α) (k : Nat) : (upto f k).length = k := by simp [upto]
abbrev BkT := Int × { a : Int // isN a }
def bkF {zs : List Int} (hN : Ns zs) (len : Nat) (j : Nat) : BkT := ((len : Int) - 1 - j, ⟨zs[len - 1 - j]?.getD 0, hN.get _⟩)
def KpC (Bs b : Nat) (A B : World) : Prop := (∀ v, A.cell? ⟨Bs, 0, none⟩ = some v → B.cell? ⟨Bs, 0, none⟩ = some v) ∧ ∀ j v, A.cell? ⟨b, j, none⟩ = some v → B.cell? ⟨b, j, none⟩ = some v
theorem KpC.trans {Bs b : Nat} {A B C : World} (h : KpC Bs b A B) (k : KpC Bs b B C) : KpC Bs b A C := ⟨fun v hv => k.1 v (h.1 v hv), fun j v hv => k.2 j v (h.2 j v hv)⟩
theorem KpC.book {Bs b : Nat} (W : World) (l : Nat) (o o' : Obj) (hl : W.heap[l]? = some o) (ho : o.isCells = false) : KpC Bs b W (W.putObj l o') :=
  ⟨fun v hv => cell_kept hv (grownBy_putObj' W l o') (fun r e => by cases e; exact ⟨o, hl, ho⟩), fun j v hv => cell_kept hv (grownBy_putObj' W l o') (fun r e => by cases e; exact ⟨o, hl, ho⟩)⟩
theorem KpC.refl (Bs b : Nat) (W : World) : KpC Bs b W W := ⟨fun _ h => h, fun _ _ h => h⟩
set_option maxRecDepth 100000 in
set_option maxHeartbeats 2000000 in
theorem back1_in (F : Fence) (n : Nat) (h7 : F.fn 173) (hro : F.round = none) (hn : 1 ≤ n) (l Bs b off len cap : Nat) (zs : List Int) (hN : Ns zs) (hreach : len * 8 ≤ 140737488351232) (J Jx : List BkT → World → Prop)
    (hY : ∀ pre x W, J pre W → pre.length < len → YieldAt F (n - 1) Tryz.prog l #[.int .i64 x.1, .int .i64 x.2.1] W fun e W' =>
      (e = .returned (.bool true) ∧ J (pre ++ [x]) W' ∧ KpC Bs b W W') ∨ (e = .returned (.bool false) ∧ Jx (pre ++ [x]) W'))
    (W : World) (hBs : W.cell? ⟨Bs, 0, none⟩ = some (.slice (some ⟨b, off, none⟩) len cap)) (hc : ∀ j, j < len → W.cell? ⟨b, off + j, none⟩ = some (.int .i64 (zs[j]?.getD 0))) (h0 : J [] W) :
    CallsIn F n Tryz.prog 173 #[.func (.yield l) #[] #[], .pointer (some ⟨Bs, 0, none⟩)] W fun e W' => (∃ v, e = .returned v) ∧
      ((∃ ys, ys = upto (bkF hN len) len ∧ J ys W') ∨ (∃ pre, (∃ k, k ≤ len ∧ pre = upto (bkF hN len) k) ∧ Jx pre W')) := by
  refine callsIn_of_wp Tryz.func173 rfl h7 ?_ hro
  simp only [Tryz.ntmps173, List.size_toArray, List.length_cons, List.length_nil, Nat.reduceAdd, Nat.reduceSub, Array.replicate_succ, Array.replicate_zero, List.push_toArray, List.append_toArray, List.nil_append, List.cons_append]
  gi_wp2
  gi_loopw [3] (fun i wr => ∃ k : Nat, k ≤ len ∧ i = .int .i64 ((len : Int) - 1 - k) ∧ J (upto (bkF hN len) k) wr ∧ KpC Bs b W wr)
    (fun i _ => (intOf i + 1).toNat)
  case atStart =>
    exact ⟨0, Nat.zero_le _, by simp, h0, KpC.refl _ _ _⟩
  case round =>
    obtain ⟨k, hk, rfl, hJs, hnx⟩ := hrel
    have hBx : wr.cell? ⟨Bs, 0, none⟩ = some (.slice (some ⟨b, off, none⟩) len cap) := hnx.1 _ hBs
    by_cases hlt : k < len
    · have hcx : wr.cell? ⟨b, off + (len - 1 - k), none⟩ = some (.int .i64 (zs[len - 1 - k]?.getD 0)) := hnx.2 _ _ (hc _ (by omega))
      obtain ⟨fn, tmps, assign, body, hy, hR⟩ := hY _ (bkF hN len k) wr hJs (by rw [upto_length]; exact hlt)
      dsimp only [bkF] at hy
      have ek : (len : Int) - 1 - k = ((len - 1 - k : Nat) : Int) := by omega
      have hlt2 : len - 1 - k < len := by omega
      rw [ek] at hy
      gi_wp2
      refine hR.mono ?_
      rintro e W3 (⟨rfl, hJ3, hk3⟩ | ⟨rfl, hJx3⟩)
      · gi_wp2
        go_roundw
        case rel => exact ⟨k + 1, by omega, by simp; omega, by rw [upto_succ]; exact hJ3, hnx.trans hk3⟩
        case measure => simp [intOf]; omega
      · gi_wp2
        refine bodyPost_ret (results_none rfl _ _ _) rfl ?_
        exact ⟨⟨_, rfl⟩, .inr ⟨_, ⟨k + 1, by omega, (upto_succ _ _).symm⟩, hJx3⟩⟩
    · obtain rfl : k = len := by omega
      gi_wp2
      go_end0
      exact ⟨⟨_, rfl⟩, .inl ⟨_, rfl, hJs⟩⟩
set_option maxHeartbeats 1000000 in
theorem back_in (F : Fence) (n : Nat) (h5 : F.fn 124) (hro : F.round = none) (a : Option Addr) (len cap : Nat) (w : World) :
    CallsIn F n Tryz.prog 124 #[.slice a len cap] w fun e w' => e = .returned (.func (.func 173) #[] #[.pointer (some ⟨w.heap.size, 0, none⟩)]) ∧ w' = w.alloc (.cells #[.slice a len cap] 25) := by
  refine callsIn_of_wp Tryz.func124 rfl h5 ?_ hro
  simp only [Tryz.ntmps124, List.size_toArray, List.length_cons, List.length_nil, Nat.reduceAdd, Nat.reduceSub, Array.replicate_succ, Array.replicate_zero, List.push_toArray, List.append_toArray, List.nil_append, List.cons_append]
  gi_wp2
  go_ret
  exact ⟨rfl, rfl⟩
theorem back_stops (F : Fence) (n : Nat) (h7 : F.fn 173) (hro : F.round = none) (hn : 1 ≤ n) (Bs b off cap : Nat) (zs : List Int) (hN : Ns zs) (hreach : zs.length * 8 ≤ 140737488351232) (w : World) (hBs : Bs < w.heap.size) (hb : b < w.heap.size)
    (hc : w.cell? ⟨Bs, 0, none⟩ = some (.slice (some ⟨b, off, none⟩) zs.length cap)) (hz : ∀ j, j < zs.length → w.cell? ⟨b, off + j, none⟩ = some (.int .i64 (zs[j]?.getD 0))) :
    SeqStopsK F n Tryz.prog 173 #[.pointer (some ⟨Bs, 0, none⟩)] (fun x : BkT => #[Value.int .i64 x.1, Value.int .i64 x.2.1]) (KpC Bs b) (fun ys => ys = upto (bkF hN zs.length) zs.length)
      (fun pre => ∃ k, k ≤ zs.length ∧ pre = upto (bkF hN zs.length) k) zs.length w := fun l J Jx W hW _ _ hY h0 =>
  back1_in F n h7 hro hn l Bs b off zs.length cap zs hN hreach J Jx hY W ((hW.cell (p := ⟨Bs, 0, none⟩) hBs).trans hc) (fun j hj => (hW.cell (p := ⟨b, off + j, none⟩) hb).trans (hz j hj)) h0
end Go.Proofs.YtnokgijakdaehaaGreatDoor


namespace Go.Proofs.YtnokgijakdaehaaGreatDoor
open Go.RowKit Go.Shelf Go.Abs
set_option linter.unusedSectionVars false
set_option linter.unusedVariables false
set_option linter.unusedSimpArgs false
attribute [local go_sem] Oper.semAt_some
def hor (z : Int) : List Int → Int := List.foldl (fun s a => (s * z + a) % 10007) 0
theorem hor_snoc (z : Int) (l : List Int) (a : Int) : hor z (l ++ [a]) = (hor z l * z + a) % 10007 := by simp [hor]
theorem hor_N (z : Int) (l : List Int) : isN (hor z l) := by
  have gen : ∀ (l : List Int) (s : Int), isN s → isN (l.foldl (fun s a => (s * z + a) % 10007) s) := by
    intro l
    induction l with
    | nil => intro s h; exact h
    | cons a l ih => intro s h; exact ih _ (isN_mod _)
  exact gen l 0 ⟨by omega, by omega⟩
theorem Con.int1 {f : FuncId} {x y : Int} (h : Con Tryz.prog f [.int x] (.int y)) (w : World) :
    Calls Tryz.prog f #[.int .i64 x] w fun e w' => e = .returned (.int .i64 y) ∧ Below w.heap.size w w' := by
  refine (h.2 w [.int .i64 x] rfl (fun tm oss => .cons _ _ [] _ _ [] (.cell _ _ _ (.val _ rfl)) (.nil _))).mono ?_
  rintro e w' ⟨v, os, rfl, hx, hr, _⟩
  exact ⟨by rw [(hr (fun _ => undef) (fun _ => [])).val_eq], hx.below⟩
set_option maxRecDepth 100000 in
set_option maxHeartbeats 4000000 in
theorem valueOfPolynomial_calls (zs : List Int) (z : Int) (b off cap : Nat) (w : World) (hreach : zs.length * 8 ≤ 140737488351232) (hb : b < w.heap.size) (hc : ∀ j, j < zs.length → w.cell? ⟨b, off + j, none⟩ = some (.int .i64 (zs[j]?.getD 0))) (hN : Ns zs) (hz : isN z) :
    Calls Tryz.prog 62 #[.slice (some ⟨b, off, none⟩) zs.length cap, .int .i64 z] w fun e W' => e = .returned (.int .i64 (hor z ((upto (bkF hN zs.length) zs.length).map (·.2.1)))) ∧ Below w.heap.size w W' := by
  refine (callsIn_wide (n := 9)).1 ?_
  refine callsIn_of_wp_marks Tryz.func62 rfl trivial ?_ rfl
  simp only [Tryz.ntmps62, List.size_toArray, List.length_cons, List.length_nil, Nat.reduceAdd, Nat.reduceSub, Array.replicate_succ, Array.replicate_zero, List.push_toArray, List.append_toArray, List.nil_append, List.cons_append]
  gi_wp2_with (refine ⟨trivial, ?_⟩; gi_at_call 124; refine (back_in Fence.wide _ trivial rfl _ _ _ _).mono ?_; rintro e w' ⟨rfl, rfl⟩)
  have bZ := Boxed.new w 2 (.int .i64 z)
  have bS := Boxed.new (w.alloc (.cells #[.int .i64 z] 2)) 2 (.int .i64 0)
  have bN := Boxed.new ((w.alloc (.cells #[.int .i64 z] 2)).alloc (.cells #[.int .i64 0] 2)) 25 (.slice (some ⟨b, off, none⟩) zs.length cap)
  simp only [World.size_alloc] at bS bN
  have hB0 : Below w.heap.size w (((w.alloc (.cells #[.int .i64 z] 2)).alloc (.cells #[.int .i64 0] 2)).alloc (.cells #[.slice (some ⟨b, off, none⟩) zs.length cap] 25)) := (((Below.refl _ w).alloc (Nat.le_refl _) _).alloc (by simp) _).alloc (by simp; omega) _
  have bZ2 := ((bZ.alloc (.cells #[.int .i64 0] 2)).alloc (.cells #[.slice (some ⟨b, off, none⟩) zs.length cap] 25))
  have bS2 := (bS.alloc (.cells #[.slice (some ⟨b, off, none⟩) zs.length cap] 25))
  refine wpIn_rangeFunc_ownG (F := Fence.wide) rfl (show 1 ≤ 9 by omega) (gf := 173) (lb := #[.pointer (some ⟨w.heap.size + 1 + 1, 0, none⟩)]) rfl trivial (enters_of Tryz.func173 (by kernel_rfl) rfl)
    (back_stops Fence.wide 8 trivial rfl (by omega) (w.heap.size + 1 + 1) b off cap zs hN hreach _ (by simp) (by simp; omega) bN.cell (fun j hj => (hB0.cell (p := ⟨b, off + j, none⟩) hb).trans (hc j hj)))
    (fun h k => h.trans k) (fun W l o o' _ hl ho _ => KpC.book W l o o' hl ho) (Below.refl _ _) (fun _ => rfl)
    (fun pre W => (W.cell? ⟨w.heap.size + 1, 0, none⟩ = some (.int .i64 (hor z (pre.map (·.2.1)))) ∧ W.frozen? ⟨w.heap.size + 1, 0, none⟩ = false ∧ W.cell? ⟨w.heap.size, 0, none⟩ = some (.int .i64 z)) ∧ Below w.heap.size w W)
    (fun _ _ _ => False)
    (OwnFrom.and (Own.from (fun s A B row hs hg hr => ⟨cell_kept hs.1 hg hr, (frozen_kept hs.1 hg hr).trans hs.2.1, cell_kept hs.2.2 hg hr⟩) _) (ownFrom_below (Nat.le_refl _) (by simp; omega)))
    (fun _ _ _ _ _ hs _ _ => hs)
    ⟨⟨bS2.cell, bS2.frozen, bZ2.cell⟩, hB0⟩
    (fun x => { tmps := #[.slice (some ⟨b, off, none⟩) zs.length cap, .int .i64 z, undef, .pointer (some ⟨w.heap.size, 0, none⟩), .int .i64 0, .pointer (some ⟨w.heap.size + 1, 0, none⟩), undef, .int .i64 x.2.1, .slice (some ⟨b, off, none⟩) zs.length cap,
      .func (.func 173) #[] #[.pointer (some ⟨w.heap.size + 1 + 1, 0, none⟩)], .int .i64 x.1, .int .i64 x.2.1, undef, undef, undef, undef, undef, undef, undef], defers := [] }) ?assign ?body ?done ?stop
  case assign =>
    intro l x W K hK
    gi_wp2
    exact hK
  case body =>
    rintro l pre ⟨xi, xa, hxa⟩ W ⟨⟨hcS, hfS, hcZ⟩, hB⟩ _
    have hsn := hor_snoc z (pre.map (·.2.1)) xa
    have hsN := hor_N z (pre.map (·.2.1))
    have hmap : (pre ++ [((xi, ⟨xa, hxa⟩) : BkT)]).map (·.2.1) = pre.map (·.2.1) ++ [xa] := by simp
    rw [← hmap] at hsn
    generalize hs : hor z (pre.map (·.2.1)) = s at *
    have fm := mul_bound hsN hz
    have xa1 := hxa.1
    have xa2 := hxa.2
    have w1 : wrap64 (s * z) = s * z := by unfold wrap64; omega
    have w2 : wrap64 (s * z + xa) = s * z + xa := by unfold wrap64; omega
    have hlt : w.heap.size + 1 < W.heap.size := by
      obtain ⟨o, ho, _⟩ := cells_of_cell hcS
      exact (Array.getElem?_eq_some_iff.1 ho).1
    have cN := num_c (s * z + xa) (by omega) (by omega)
    rw [← hsn] at cN
    gi_wp2_with (refine ⟨trivial, ?_⟩; gi_at_call 63; refine (CallsIn.inRound l (callsIn_wide.2 (Con.int1 cN _))).mono ?_; rintro e w3 ⟨rfl, hb3⟩; have c3 := (hb3.cell (p := ⟨w.heap.size + 1, 0, none⟩) hlt).trans hcS; have f3 := (hb3.frozen (p := ⟨w.heap.size + 1, 0, none⟩) hlt).trans hfS)
    have old : ∀ (p : Addr) (v : Value), p ≠ ⟨w.heap.size + 1, 0, none⟩ → W.cell? p = some v → (w3.setCell ⟨w.heap.size + 1, 0, none⟩ (.int .i64 (hor z (pre.map (·.2.1) ++ [xa])))).cell? p = some v := fun p v hp hv => by
      obtain ⟨o, ho, _⟩ := cells_of_cell hv
      rw [World.cell?_setCell_other (h := Ne.symm hp)]
      exact (hb3.cell (Array.getElem?_eq_some_iff.1 ho).1).trans hv
    have ko : KeepsOthers W w3 := ⟨hb3.size, fun k o hk _ => (hb3.block k (Array.getElem?_eq_some_iff.1 hk).1).trans hk⟩
    refine ⟨(ko.trans (KeepsOthers.setCell _ _ _)).from _, ⟨fun v hv => old _ v (fun e => by injection e with e; omega) hv, fun j v hv => old _ v (fun e => by injection e with e; omega) hv⟩, ⟨?_, by rw [World.frozen?_setCell]; exact f3, old _ _ (fun e => by injection e with e; omega) hcZ⟩, ?_⟩
    · rw [hmap]
      exact World.cell?_setCell_same' _ _ _ (by rw [c3]; rfl)
    · exact (hB.trans (hb3.mono (by omega))).setCell (p := ⟨w.heap.size + 1, 0, none⟩) (by simp) _
  case done =>
    rintro D ys W hD rfl ⟨⟨hcS, _, _⟩, hB⟩ hK
    gi_wp2
    refine ⟨by simp, .inl ⟨_, _, rfl, run_takeDeferred hK, ?_⟩⟩
    exact ⟨_, results_tmp rfl _ _ _, rfl, hB.trans (belowK_b (w := w) (Nat.le_refl _) W D _ _ (by simp at hD; omega) hK rfl rfl)⟩
  case stop =>
    rintro D c pre W _ _ h _
    exact h.elim
end Go.Proofs.YtnokgijakdaehaaGreatDoor

