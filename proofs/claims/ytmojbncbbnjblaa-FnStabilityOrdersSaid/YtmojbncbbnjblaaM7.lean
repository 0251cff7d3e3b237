/- Texts of the own layer and contracts, part 7: E11 W21 Q41 Q42 Q43 N8 O W2 L18. -/
import Derived.Test.YtmojbncbbnjblaaRows
import Derived.WalkKit
import Derived.ProofKit
import Derived.OpenShut
import Derived.Test.YtmojbncbbnjblaaM6
namespace Go.Proofs.Ytmojbncbbnjblaa
open Go.Abs CR
set_option linter.unusedVariables false
set_option linter.unusedSimpArgs false
set_option maxHeartbeats 1000000
def sgS (a : Ser Int) : Ser Int := fun k => sgd k * a k
theorem sgd_add (i j : Nat) : sgd (i + j) = sgd i * sgd j := by
  induction j with
  | zero => simp [sgd]
  | succ j ih => rw [show i + (j + 1) = (i + j) + 1 by omega, sgd_succ, sgd_succ, ih, Int.mul_neg]
theorem sgd_sq (k : Nat) : sgd k * sgd k = 1 := by unfold sgd; split <;> rfl
theorem sgS_mul (a b : Ser Int) : sgS (a * b) = sgS a * sgS b := funext fun k => by
  show sgd k * cmul k a b = cmul k (sgS a) (sgS b)
  rw [cmul_dsum, cmul_dsum, dsum_mul]
  refine dsum_congr fun i hi => ?_
  show sgd k * (a i * b (k - i)) = sgd i * a i * (sgd (k - i) * b (k - i))
  have e : sgd k = sgd i * sgd (k - i) := by rw [← sgd_add]; congr 1; omega
  rw [e]; ac_rfl
theorem sgS_add (a b : Ser Int) : sgS (a + b) = sgS a + sgS b := funext fun k => Int.mul_add _ _ _
theorem sgS_of (k : Int) : sgS (ofI k) = ofI k := funext fun i => by
  cases i with
  | zero => show sgd 0 * k = k; simp [sgd]
  | succ i => show sgd (i + 1) * 0 = 0; rw [Int.mul_zero]
theorem sgS_sgS (a : Ser Int) : sgS (sgS a) = a := funext fun k => by
  show sgd k * (sgd k * a k) = a k
  rw [← Int.mul_assoc, sgd_sq, Int.one_mul]
theorem sgS_0 (a : Ser Int) : sgS a 0 = a 0 := by show sgd 0 * a 0 = a 0; simp [sgd]
def negM (A : Mx) : Mx := fun r c => - A r c
theorem ch_neg (n : Nat) (A : Mx) : chS n (negM A) = sgS (chS n A) := by
  unfold chS
  refine Eq.symm ?_
  refine dtR_rel (fun a b : Ser Int => sgS a = b) (fun k => sgS_of k) (fun a b c d h k => by rw [sgS_add, h, k]) (fun a b c d h k => by rw [sgS_mul, h, k]) (fun r c hr hc => ?_)
  refine funext fun k => ?_
  match k with
  | 0 => show sgd 0 * idM r c = idM r c; simp [sgd]
  | 1 => show sgd 1 * (- A r c) = - (- A r c); simp [sgd]
  | k + 2 => show sgd (k + 2) * ulS A r c (k + 2) = ulS (negM A) r c (k + 2); rw [ulS_lin, ulS_lin, Int.mul_zero]
def adjM (A : Mx) (B : Nat → Int) : Mx := fun r c => B c - A r c
theorem rs_adj (n : Nat) (A : Mx) (B : Nat → Int) : rsS n (adjM A B) B * sgS (rsS n A B) = ofI 1 := by
  have e1 : lessM (adjM A B) B = negM A := funext fun r => funext fun c => by show B c - A r c - B c = - A r c; omega
  have e2 : adjM A B = negM (lessM A B) := funext fun r => funext fun c => by show B c - A r c = - (A r c - B c); omega
  have h1 := ch_less n (adjM A B) B
  rw [e1, ch_neg] at h1
  have h2 : chS n (adjM A B) = sgS (rsS n A B) * sgS (chS n A) := by rw [e2, ch_neg, ch_less, sgS_mul]
  rw [h2] at h1
  refine ser_cancel (a := sgS (chS n A)) (by rw [sgS_0, ch_0]; decide) ?_
  rw [mul1]
  have e : sgS (chS n A) * (rsS n (adjM A B) B * sgS (rsS n A B)) = rsS n (adjM A B) B * (sgS (rsS n A B) * sgS (chS n A)) := by ac_rfl
  rw [e, ← h1]
theorem ev_mod {n : Nat} {A A' : Mx} (h : ∀ r c, r < n → c < n → A r c % 10007 = A' r c % 10007) : ∀ k r, r < n → evN n A k r % 10007 = evN n A' k r % 10007
  | 0, r, _ => rfl
  | k + 1, r, hr => dsum_mod fun c hc => mod_mulc (h r c hr hc) (ev_mod h k c hc)
theorem rs_mod {n : Nat} {A A' : Mx} {B B' : Nat → Int} (h : ∀ r c, r < n → c < n → A r c % 10007 = A' r c % 10007) (hB : ∀ r, r < n → B r % 10007 = B' r % 10007) (k : Nat) : rsS n A B k % 10007 = rsS n A' B' k % 10007 := by
  cases k with
  | zero => rw [rsS_0, rsS_0]
  | succ k => rw [rs_dot, rs_dot]; exact dsum_mod fun r hr => mod_mulc (hB r hr) (ev_mod h k r hr)
theorem dsum_rev (f : Nat → Int) : ∀ n, dsum (fun i => f (n - 1 - i)) n = dsum f n
  | 0 => rfl
  | n + 1 => by
    rw [dsum_shift]
    have e : dsum (fun i => f (n + 1 - 1 - (i + 1))) n = dsum (fun i => f (n - 1 - i)) n := dsum_congr fun i hi => by congr 1; omega
    rw [e, dsum_rev f n, dsum]
    show f n + dsum f n = dsum f n + f n
    omega
def revM (n : Nat) (A : Mx) : Mx := fun r c => A (n - 1 - r) (n - 1 - c)
def revV (n : Nat) (B : Nat → Int) : Nat → Int := fun r => B (n - 1 - r)
theorem ev_rev (n : Nat) (A : Mx) : ∀ k r, r < n → evN n (revM n A) k r = evN n A k (n - 1 - r)
  | 0, r, _ => rfl
  | k + 1, r, hr => by
    show dsum (fun c => A (n - 1 - r) (n - 1 - c) * evN n (revM n A) k c) n = dsum (fun c => A (n - 1 - r) c * evN n A k c) n
    rw [← dsum_rev (fun c => A (n - 1 - r) c * evN n A k c) n]
    exact dsum_congr fun c hc => by rw [ev_rev n A k c hc]
theorem rs_rev (n : Nat) (A : Mx) (B : Nat → Int) (k : Nat) : rsS n (revM n A) (revV n B) k = rsS n A B k := by
  cases k with
  | zero => rw [rsS_0, rsS_0]
  | succ k =>
    rw [rs_dot, rs_dot, ← dsum_rev (fun r => B r * evN n A k r) n]
    exact dsum_congr fun r hr => by rw [ev_rev n A k r hr]; rfl
theorem exp_inv : ∀ j, j < 16 → (dsum (fun i => expU[i]?.getD 0 * (sgd (j - i) * expU[j - i]?.getD 0)) (j + 1)) % 10007 = if j = 0 then 1 else 0 := by decide +kernel
theorem exp_half {a b : Ser Int} (h : serEq (a * b) (ofI 1)) (b0 : b 0 = 1) {m : Nat} (hm : m ≤ 15) (hb : ∀ j, j ≤ m → b j % 10007 = (sgd j * expU[j]?.getD 0) % 10007) : ∀ j, j ≤ m → a j % 10007 = expU[j]?.getD 0 % 10007 := by
  have gen : ∀ n j, j ≤ n → j ≤ m → a j % 10007 = expU[j]?.getD 0 % 10007 := by
    intro n
    induction n with
    | zero =>
      intro j hj hjm
      have : j = 0 := by omega
      subst this
      have h0 : (a 0 * b 0) % 10007 = 1 % 10007 := h 0
      rw [b0, Int.mul_one] at h0
      rw [h0]; rfl
    | succ n ih =>
      intro j hj hjm
      by_cases e : j = n + 1
      · subst e
        have h1 : (a * b) (n + 1) % 10007 = 0 % 10007 := h (n + 1)
        rw [show (a * b) (n + 1) = cmul (n + 1) a b from rfl, cmul_dsum, dsum] at h1
        have h2 := exp_inv (n + 1) (by omega)
        rw [if_neg (by omega), dsum] at h2
        have s0 : sgd (n + 1 - (n + 1)) * expU[n + 1 - (n + 1)]?.getD 0 = 1 := by rw [Nat.sub_self]; rfl
        rw [s0, Int.mul_one] at h2
        rw [show b (n + 1 - (n + 1)) = 1 by rw [Nat.sub_self]; exact b0, Int.mul_one] at h1
        have e3 : dsum (fun i => a i * b (n + 1 - i)) (n + 1) % 10007 = dsum (fun i => expU[i]?.getD 0 * (sgd (n + 1 - i) * expU[n + 1 - i]?.getD 0)) (n + 1) % 10007 :=
          dsum_mod fun i hi => mod_mulc (ih i (by omega) (by omega)) (hb (n + 1 - i) (by omega))
        generalize dsum (fun i => a i * b (n + 1 - i)) (n + 1) = d1 at *
        generalize dsum (fun i => expU[i]?.getD 0 * (sgd (n + 1 - i) * expU[n + 1 - i]?.getD 0)) (n + 1) = d2 at *
        omega
      · exact ih j (by omega) hjm
  exact fun j hj => gen j j (Nat.le_refl _) hj
theorem ordN_le (xs ys : List Int) : ∀ f p, p ≤ ordN xs ys f p ∧ ordN xs ys f p ≤ p + f
  | 0, p => by simp [ordN]
  | f + 1, p => by
    rw [ordN]; split
    · have := ordN_le xs ys f (p + 1); omega
    · omega
theorem ordN_ge {xs ys : List Int} {m : Nat} : ∀ f p, p ≤ m → m ≤ p + f → (∀ j, p < j → j ≤ m → xs[j]?.getD 0 = ys[j]?.getD 0) → m ≤ ordN xs ys f p
  | 0, p, h1, h2, _ => by simp [ordN]; omega
  | f + 1, p, h1, h2, h => by
    rw [ordN]
    by_cases e : p = m
    · subst e
      split
      · have := (ordN_le xs ys f (p + 1)).1; omega
      · omega
    · rw [if_pos (h (p + 1) (by omega) (by omega))]
      exact ordN_ge f (p + 1) (by omega) (by omega) (fun j a b => h j (by omega) b)
theorem ordN_all {xs ys : List Int} : ∀ f p j, p < j → j ≤ ordN xs ys f p → xs[j]?.getD 0 = ys[j]?.getD 0
  | 0, p, j, h1, h2 => by simp [ordN] at h2; omega
  | f + 1, p, j, h1, h2 => by
    rw [ordN] at h2
    split at h2
    · rename_i h
      by_cases e : j = p + 1
      · subst e; exact h
      · exact ordN_all f (p + 1) j (by omega) h2
    · omega
theorem expU_N : Ns expU := by
  have h : expU.all (fun x => decide (0 ≤ x ∧ x ≤ 10006)) = true := by decide +kernel
  intro x hx
  have := List.all_eq_true.1 h x hx
  simp at this
  exact ⟨by omega, by omega⟩
structure Adj (A : List (List Int)) (B : List Int) (A' : List (List Int)) (B' : List Int) : Prop where
  tab : Tab A' B'
  len : B'.length = B.length
  a : ∀ r c, r < B.length → c < B.length → mx A' r c % 10007 = (B[B.length - 1 - c]?.getD 0 - mx A (B.length - 1 - r) (B.length - 1 - c)) % 10007
  b : ∀ r, r < B.length → B'[r]?.getD 0 % 10007 = B[B.length - 1 - r]?.getD 0 % 10007
theorem adj_series {A : List (List Int)} {B : List Int} {A' : List (List Int)} {B' : List Int} (h : Adj A B A' B') : serEq (rsS B'.length (mx A') (fun r => B'[r]?.getD 0)) (rsS B.length (adjM (mx A) (fun r => B[r]?.getD 0)) (fun r => B[r]?.getD 0)) := fun k => by
  rw [h.len, ← rs_rev B.length (adjM (mx A) (fun r => B[r]?.getD 0)) (fun r => B[r]?.getD 0)]
  exact rs_mod (fun r c hr hc => h.a r c hr hc) (fun r hr => h.b r hr) k
theorem serEq.sg {a b : Ser Int} (h : serEq a b) : serEq (sgS a) (sgS b) := fun k => mod_mulc rfl (h k)
theorem serEq.mul {a b c d : Ser Int} (h : serEq a b) (k : serEq c d) : serEq (a * c) (b * d) := fun i => cmul_mod i (fun j _ => h j) (fun j _ => k j)
theorem serEq.eq {a b c : Ser Int} (h : serEq a b) (k : b = c) : serEq a c := k ▸ h
theorem adj_ord {A : List (List Int)} {B : List Int} {A' : List (List Int)} {B' : List Int} (hT : Tab A B) (h : Adj A B A' B') : ordS A' B' = ordS A B := by
  have hs := adj_series h
  have hp := rs_adj B.length (mx A) (fun r => B[r]?.getD 0)
  generalize hR : rsS B.length (mx A) (fun r => B[r]?.getD 0) = R at *
  generalize hS : rsS B'.length (mx A') (fun r => B'[r]?.getD 0) = S at *
  have R0 : R 0 = 1 := by rw [← hR, rsS_0]
  have S0 : S 0 = 1 := by rw [← hS, rsS_0]
  have p1 : serEq (S * sgS R) (ofI 1) := (serEq.mul hs (fun _ => rfl)).eq hp
  have p2 : serEq (R * sgS S) (ofI 1) := by
    have e : R * sgS S = sgS (S * sgS R) := by rw [sgS_mul, sgS_sgS, mulC]
    rw [e]
    exact (serEq.sg p1).eq (sgS_of 1)
  have g1 : ∀ {k}, k ≤ 15 → (serL A B 15)[k]?.getD 0 = R k % 10007 := fun hk => by rw [serL_get hT hk, hR]
  have g2 : ∀ {k}, k ≤ 15 → (serL A' B' 15)[k]?.getD 0 = S k % 10007 := fun hk => by rw [serL_get h.tab hk, hS]
  have eN : ∀ k : Nat, expU[k]?.getD 0 % 10007 = expU[k]?.getD 0 := fun k => by
    have := expU_N.get k
    exact Int.emod_eq_of_lt this.1 (by have := this.2; omega)
  have half : ∀ {a b : Ser Int} {xs : List Int}, serEq (a * sgS b) (ofI 1) → b 0 = 1 → (∀ {k}, k ≤ 15 → xs[k]?.getD 0 = b k % 10007) → ∀ j, j ≤ ordN xs expU 15 0 → a j % 10007 = expU[j]?.getD 0 % 10007 := fun {a b xs} hab b0 hx => by
    have ho := (ordN_le xs expU 15 0).2
    refine exp_half hab (by rw [sgS_0]; exact b0) (by omega) (fun j hj => mod_mulc rfl ?_)
    by_cases j0 : j = 0
    · subst j0; rw [b0]; rfl
    · have := ordN_all 15 0 j (by omega) hj
      rw [hx (by omega)] at this
      rw [this, eN]
  have o1 := (ordN_le (serL A B 15) expU 15 0).2
  have o2 := (ordN_le (serL A' B' 15) expU 15 0).2
  have a1 : ordS A B ≤ ordS A' B' := ordN_ge 15 0 (by omega) (by unfold ordS; omega) (fun j j1 j2 => by
    unfold ordS at j2
    rw [g2 (by omega), half p1 R0 g1 j j2, eN])
  have a2 : ordS A' B' ≤ ordS A B := ordN_ge 15 0 (by omega) (by unfold ordS; omega) (fun j j1 j2 => by
    unfold ordS at j2
    rw [g1 (by omega), half p2 S0 g2 j j2, eN])
  omega
end Go.Proofs.Ytmojbncbbnjblaa


namespace Go.Proofs.Ytmojbncbbnjblaa
open Go.Abs
set_option linter.unusedVariables false
set_option linter.unusedSimpArgs false
set_option maxHeartbeats 4000000
def tmsM (A : List (List Int)) (k : Int) : List (List Int) := (List.range A.length).map fun i => scalS (A[i]?.getD []) k
@[simp] theorem tmsM_len (A : List (List Int)) (k : Int) : (tmsM A k).length = A.length := by simp [tmsM]
set_option maxRecDepth 100000 in
theorem times_c (A : List (List Int)) (B : List Int) (k : Int) (b1 : 1 ≤ A.length) (b8 : A.length ≤ 8) (rw1 : Rws A.length A) (bN : Ns B) (bl : B.length = A.length) (hk : fits k) :
    Con Try.prog 153 [.agg [.sl A.length (mat A), .sl B.length (avs B)], .int k]
    (.agg [.own 27 A.length (omat (tmsM A k)), .own 2 B.length (avs (scalS B k))]) := by
  have hd : tmsM A k = (List.range A.length).map fun i => scalS (A[i]?.getD []) k := rfl
  have cT := scaled_c B k bN hk (by omega)
  generalize scalS B k = Z at *
  refine con_of_vc Try.mixed ⟨8, [], [], []⟩ Try.func153 (by decide) rfl (by simp) (by decide) (by simp [freshOK, freshL, go_sem]) ?_
  rw [Try.ntmps153]
  simp [go_sem]
  refine CallVC.of (cT) (by decide) ?_
  simp [go_sem]
  refine loop_inv ([5, 7] ++ List.range' 16 13) (fun i : Nat => [(5, .box 45 [if i = 0 then .val (.slice none 0 0) else .own 27 i (omat ((List.range i).map fun i => scalS (A[i]?.getD []) k)), .own 2 B.length (avs Z)]), (16, .int i)]) (fun i => i ≤ A.length) (fun i => A.length - i) 0 (by simp) (by simp [go_sem]) (by simp [go_sem]) ?_
  intro i hi
  by_cases hin : i < A.length
  · have hii : (i : Int) < A.length := by omega
    have ri := rw1.at hin
    have ane : ¬ A = [] := by rintro rfl; simp at hin
    have cP := scaled_c (A[i]?.getD []) k ri.2 hk (by omega)
    have os := omat_range_succ (fun i => scalS (A[i]?.getD []) k) i
    rw [scalS_len] at os
    by_cases h0 : i = 0
    · have ox : omat ((List.range (i + 1)).map fun i => scalS (A[i]?.getD []) k) = [.own 2 (A[i]?.getD []).length (avs (scalS (A[i]?.getD []) k))] := by rw [os, h0]; simp [omat]
      rw [if_pos h0]
      simp [go_sem, hii, mat_drop hin]
      refine ⟨ane, by kernel_rfl, ?_⟩
      refine CallD.of (cP) (by simp [roots, rootsL]) (by decide) ?_
      simp [go_sem]
      refine ⟨by kernel_rfl, ?_⟩
      simp [go_sem]
      exact ⟨⟨by omega, by omega⟩, i + 1, by omega, by omega, Off_reset _ _ _ (by simp), by rw [if_neg (by omega), ox, h0], by omega⟩
    · rw [if_neg h0]
      simp [go_sem, hii, mat_drop hin]
      refine ⟨ane, by kernel_rfl, ?_⟩
      refine CallD.of (cP) (by simp [roots, rootsL]) (by decide) ?_
      simp [go_sem]
      refine ⟨⟨by omega, by omega⟩, ?_⟩
      refine ⟨by kernel_rfl, ?_⟩
      simp [go_sem]
      exact ⟨⟨by omega, by omega⟩, i + 1, by omega, by omega, Off_reset _ _ _ (by simp), by rw [if_neg (by omega), os], by omega⟩
  · have e : i = A.length := by omega
    subst e
    rw [← hd, if_neg (show ¬ A.length = 0 by omega)]
    simp [go_sem]
def roR (A : List (List Int)) (o : List Nat) (i : Nat) : List Int := tb (fun k => (A[o[i]?.getD 0]?.getD [])[o[k]?.getD 0]?.getD 0) o.length
def roM (A : List (List Int)) (o : List Nat) : List (List Int) := (List.range o.length).map (roR A o)
def roV (B : List Int) (o : List Nat) : List Int := tb (fun i => B[o[i]?.getD 0]?.getD 0) o.length
def ofN (o : List Nat) : List Int := o.map fun (i : Nat) => (i : Int)
theorem getM {l : List Nat} {i : Nat} (h : i < l.length) : l[i]?.getD 0 ∈ l := by simp [h]
@[simp] theorem ofN_len (o : List Nat) : (ofN o).length = o.length := by simp [ofN]
theorem ofN_get {o : List Nat} {i : Nat} (h : i < o.length) : (ofN o)[i]?.getD 0 = ((o[i]?.getD 0 : Nat) : Int) := by simp [ofN, h]
set_option maxRecDepth 100000 in
theorem reordered_c (A : List (List Int)) (B : List Int) (o : List Nat) (o1 : 1 ≤ o.length) (o8 : o.length ≤ 8) (hA : Rws B.length A) (hl : A.length = B.length) (ho : ∀ x ∈ o, x < B.length) :
    Con Try.prog 154 [.agg [.sl A.length (mat A), .sl B.length (avs B)], .sl o.length (avs (ofN o))]
    (.agg [.own 27 o.length (omat (roM A o)), .own 2 o.length (avs (roV B o))]) := by
  have hd : roM A o = (List.range o.length).map (roR A o) := rfl
  have hv : roV B o = tb (fun i => B[o[i]?.getD 0]?.getD 0) o.length := rfl
  rw [hd, hv]
  refine con_of_vc Try.mixed ⟨11, [], [], [3001100000000]⟩ Try.func154 (by decide) rfl (by simp) (by decide) (by simp [freshOK, freshL, go_sem]) ?_
  rw [Try.ntmps154]
  simp [go_sem]
  refine loop_inv ([5, 7, 8, 10] ++ List.range' 14 40) (fun i : Nat => [(5, .box 45 [if i = 0 then .val (.slice none 0 0) else .own 27 i (omat ((List.range i).map (roR A o))), if i = 0 then .val (.slice none 0 0) else .own 2 i (avs (tb (fun i => B[o[i]?.getD 0]?.getD 0) i))]), (14, .int i)]) (fun i => i ≤ o.length) (fun i => o.length - i) 0 (by simp) (by simp [go_sem]) (by simp [go_sem]) ?_
  intro i hi
  by_cases hin : i < o.length
  · have hii : (i : Int) < o.length := by omega
    have hio : i < (ofN o).length := by simpa using hin
    have di := avs_drop hio
    rw [List.getD_eq_getElem?_getD, ofN_get hin] at di
    have one : ¬ ofN o = [] := by intro e; rw [e] at hio; simp at hio
    have opos := ho _ (getM hin)
    have os := omat_range_succ (roR A o) i
    have rl : (roR A o i).length = o.length := by simp [roR]
    rw [rl] at os
    have vs := tb_succ (fun i => B[o[i]?.getD 0]?.getD 0) i
    have hp : o[i]?.getD 0 < A.length := by omega
    have mp := mat_drop hp
    have pr := hA.at hp
    have hpb : o[i]?.getD 0 < B.length := by omega
    have db := avs_drop hpb
    rw [List.getD_eq_getElem?_getD] at db
    have bne : ¬ B = [] := by rintro rfl; simp at hpb
    have ane : ¬ A = [] := by rintro rfl; simp at hp
    have hrd : roR A o i = tb (fun k => (A[o[i]?.getD 0]?.getD [])[o[k]?.getD 0]?.getD 0) o.length := rfl
    generalize o[i]?.getD 0 = p at *
    simp [go_sem, hii, di]
    refine ⟨one, ?_⟩
    refine loop_inv ([8, 10] ++ List.range' 21 16) (fun k : Nat => [(8, .own 2 k (avs (tb (fun k => (A[p]?.getD [])[o[k]?.getD 0]?.getD 0) k))), (21, .int k)]) (fun k => k ≤ o.length) (fun k => o.length - k) 0 (by simp) (by simp [go_sem]) (by simp [go_sem]) ?_
    intro k hk
    by_cases hkn : k < o.length
    · have hki : (k : Int) < o.length := by omega
      have hko : k < (ofN o).length := by simpa using hkn
      have dk := avs_drop hko
      rw [List.getD_eq_getElem?_getD, ofN_get hkn] at dk
      have oq := ho _ (getM hkn)
      have hq : o[k]?.getD 0 < (A[p]?.getD []).length := by omega
      have dq := avs_drop hq
      rw [List.getD_eq_getElem?_getD] at dq
      have rne : ¬ A[p]?.getD [] = [] := fun e => by rw [e] at hq; simp at hq
      have ts := tb_succ (fun k => (A[p]?.getD [])[o[k]?.getD 0]?.getD 0) k
      generalize o[k]?.getD 0 = q at *
      simp [go_sem, hki, dk, mp, dq]
      exact ⟨one, ⟨hp, ane⟩, ⟨hq, rne⟩, ⟨by omega, by omega⟩, ⟨by omega, by omega⟩, k + 1, by omega, by omega, Off_reset _ _ _ (by simp), by rw [ts, avs_snoc]; exact ⟨rfl, rfl⟩, by omega⟩
    · have e : k = o.length := by omega
      have hki : ¬ (k : Int) < o.length := by omega
      rw [e, ← hrd]
      by_cases h0 : i = 0
      · rw [if_pos h0, if_pos h0]
        rw [e] at hki
        simp [go_sem, hki, db]
        refine ⟨[(4, 5), (4, 6), (13, 14)], [[0, 1, 2, 3, 4, 5, 6, 7, 8, 9, 10, 11, 12, 13, 14, 15, 16, 17], [0, 1, 2, 3, 4, 5, 6, 7, 8, 9, 10, 11, 12, 14, 13, 15, 16, 17], [0, 1, 2, 3, 5, 4, 6, 7, 8, 9, 10, 11, 12, 13, 14, 15, 16, 17], [0, 1, 2, 3, 5, 4, 6, 7, 8, 9, 10, 11, 12, 14, 13, 15, 16, 17], [0, 1, 2, 3, 5, 6, 4, 7, 8, 9, 10, 11, 12, 13, 14, 15, 16, 17], [0, 1, 2, 3, 5, 6, 4, 7, 8, 9, 10, 11, 12, 14, 13, 15, 16, 17]], fun _ => [], by kernel_rfl, ?_⟩
        simp [go_sem, db]
        have ox : omat ((List.range (i + 1)).map (roR A o)) = [.own 2 o.length (avs (roR A o i))] := by rw [os, h0]; simp [omat]
        have ov : avs (tb (fun i => B[o[i]?.getD 0]?.getD 0) (i + 1)) = [.int (B[p]?.getD 0)] := by rw [vs, h0, avs_snoc]; rfl
        refine ⟨⟨⟨hpb, bne⟩, by kernel_rfl, ?_⟩, ⟨⟨hpb, bne⟩, by kernel_rfl, ?_⟩, ⟨⟨hpb, bne⟩, by kernel_rfl, ?_⟩, ⟨⟨hpb, bne⟩, by kernel_rfl, ?_⟩, ⟨⟨hpb, bne⟩, by kernel_rfl, ?_⟩, ⟨hpb, bne⟩, by kernel_rfl, ?_⟩
        all_goals
          simp -failIfUnchanged [go_sem]
          refine ⟨⟨by omega, by omega⟩, i + 1, by omega, by omega, (Off.reset (by intro x hx; simp at hx ⊢; omega) (by simp) (by simp [go_sem, Off_reset])), ?_, by omega⟩
          rw [if_neg (by omega), if_neg (by omega), ox, ov, h0]
          exact ⟨rfl, rfl⟩
      · rw [if_neg h0, if_neg h0]
        rw [e] at hki
        simp [go_sem, hki, db]
        refine ⟨[(4, 5), (4, 6), (13, 14)], [[0, 1, 2, 3, 4, 5, 6, 7, 8, 9, 10, 11, 12, 13, 14, 15, 16, 17], [0, 1, 2, 3, 4, 5, 6, 7, 8, 9, 10, 11, 12, 14, 13, 15, 16, 17], [0, 1, 2, 3, 5, 4, 6, 7, 8, 9, 10, 11, 12, 13, 14, 15, 16, 17], [0, 1, 2, 3, 5, 4, 6, 7, 8, 9, 10, 11, 12, 14, 13, 15, 16, 17], [0, 1, 2, 3, 5, 6, 4, 7, 8, 9, 10, 11, 12, 13, 14, 15, 16, 17], [0, 1, 2, 3, 5, 6, 4, 7, 8, 9, 10, 11, 12, 14, 13, 15, 16, 17]], fun _ => [], by kernel_rfl, ?_⟩
        simp [go_sem, db]
        refine ⟨⟨⟨by omega, by omega⟩, ⟨hpb, bne⟩, ⟨by omega, by omega⟩, by kernel_rfl, ?_⟩, ⟨⟨by omega, by omega⟩, ⟨hpb, bne⟩, ⟨by omega, by omega⟩, by kernel_rfl, ?_⟩, ⟨⟨by omega, by omega⟩, ⟨hpb, bne⟩, ⟨by omega, by omega⟩, by kernel_rfl, ?_⟩, ⟨⟨by omega, by omega⟩, ⟨hpb, bne⟩, ⟨by omega, by omega⟩, by kernel_rfl, ?_⟩, ⟨⟨by omega, by omega⟩, ⟨hpb, bne⟩, ⟨by omega, by omega⟩, by kernel_rfl, ?_⟩, ⟨by omega, by omega⟩, ⟨hpb, bne⟩, ⟨by omega, by omega⟩, by kernel_rfl, ?_⟩
        all_goals
          simp -failIfUnchanged [go_sem]
          refine ⟨⟨by omega, by omega⟩, i + 1, by omega, by omega, (Off.reset (by intro x hx; simp at hx ⊢; omega) (by simp) (by simp [go_sem, Off_reset])), ?_, by omega⟩
          rw [if_neg (by omega), if_neg (by omega), os, vs, avs_snoc]
          exact ⟨rfl, rfl⟩
  · have e : i = o.length := by omega
    subst e
    rw [if_neg (show ¬ o.length = 0 by omega), if_neg (show ¬ o.length = 0 by omega)]
    simp [go_sem]
def adA (A : List (List Int)) (B : List Int) : List (List Int) := roM (tmsM (lesM A B) (-1)) (List.range B.length).reverse
def adB (B : List Int) : List Int := roV (scalS (scalS B (-1)) (-1)) (List.range B.length).reverse
theorem rv_ofN (n : Nat) : (tlL n).reverse = ofN (List.range n).reverse := by
  unfold tlL tb ofN
  rw [List.map_reverse]
theorem rv_get {n i : Nat} (h : i < n) : (List.range n).reverse[i]?.getD 0 = n - 1 - i := by
  rw [List.getElem?_reverse (by simpa using h)]
  have : n - 1 - i < n := by omega
  simp [this]
theorem adA_len (A : List (List Int)) (B : List Int) : (adA A B).length = B.length := by simp [adA, roM]
theorem adB_len (B : List Int) : (adB B).length = B.length := by simp [adB, roV]
theorem adB_get {B : List Int} {i : Nat} (h : i < B.length) : (adB B)[i]?.getD 0 % 10007 = B[B.length - 1 - i]?.getD 0 % 10007 := by
  unfold adB roV
  rw [tb_get _ (by simpa using h), rv_get h]
  unfold scalS
  rw [tb_get _ (by simp; omega), tb_get _ (by omega)]
  omega
theorem adA_get {A : List (List Int)} {B : List Int} (hT : Tab A B) {r c : Nat} (hr : r < B.length) (hc : c < B.length) :
    mx (adA A B) r c % 10007 = (B[B.length - 1 - c]?.getD 0 - mx A (B.length - 1 - r) (B.length - 1 - c)) % 10007 := by
  have hl := hT.len
  have e1 : (adA A B)[r]?.getD [] = roR (tmsM (lesM A B) (-1)) (List.range B.length).reverse r := by simp [adA, roM, hr]
  have e2 : mx (adA A B) r c = ((tmsM (lesM A B) (-1))[B.length - 1 - r]?.getD [])[B.length - 1 - c]?.getD 0 := by
    show ((adA A B)[r]?.getD [])[c]?.getD 0 = _
    rw [e1]
    unfold roR
    rw [tb_get _ (by simpa using hc), rv_get hr, rv_get hc]
  have hp : B.length - 1 - r < A.length := by omega
  have e3 : (tmsM (lesM A B) (-1))[B.length - 1 - r]?.getD [] = scalS (plusS (A[B.length - 1 - r]?.getD []) B (-1)) (-1) := by
    have h1 : B.length - 1 - r < (lesM A B).length := by simp [lesM]; omega
    have h2 : (lesM A B)[B.length - 1 - r]?.getD [] = plusS (A[B.length - 1 - r]?.getD []) B (-1) := by simp [lesM, hp]
    rw [← h2]
    unfold tmsM
    rw [List.getElem?_map, List.getElem?_range h1]; rfl
  have rl : (A[B.length - 1 - r]?.getD []).length = B.length := (hT.rws.at hp).1
  rw [e2, e3]
  unfold scalS plusS
  rw [tb_get _ (by simp; omega), tb_get _ (by omega)]
  show _ = (B[B.length - 1 - c]?.getD 0 - (A[B.length - 1 - r]?.getD [])[B.length - 1 - c]?.getD 0) % 10007
  omega
theorem ad_tab {A : List (List Int)} {B : List Int} (hT : Tab A B) : Tab (adA A B) (adB B) := by
  have h1 := hT.pos
  have h2 := hT.le
  have hs : Ns (adB B) := tb_N fun i _ => by
    have : Ns (scalS (scalS B (-1)) (-1)) := scalS_N _ _
    exact this.get _
  refine ⟨by rw [adB_len]; omega, by rw [adB_len]; omega, by rw [adA_len, adB_len], hs, fun r hr => ?_⟩
  obtain ⟨i, _, rfl⟩ := List.mem_map.1 hr
  refine ⟨by simp [roR, adB_len], tb_N fun k _ => ?_⟩
  rcases Nat.lt_or_ge ((List.range B.length).reverse[i]?.getD 0) (tmsM (lesM A B) (-1)).length with h | h
  · have hm : (tmsM (lesM A B) (-1))[(List.range B.length).reverse[i]?.getD 0]?.getD [] ∈ tmsM (lesM A B) (-1) := by
      rw [List.getElem?_eq_getElem h, Option.getD_some]; exact List.getElem_mem h
    obtain ⟨j, _, e⟩ := List.mem_map.1 hm
    rw [← e]
    exact (scalS_N _ _).get _
  · rw [List.getElem?_eq_none h]; exact ⟨by simp, by simp⟩
theorem ad_adj {A : List (List Int)} {B : List Int} (hT : Tab A B) : Adj A B (adA A B) (adB B) :=
  ⟨ad_tab hT, adB_len B, fun r c hr hc => adA_get hT hr hc, fun r hr => adB_get hr⟩
set_option maxRecDepth 100000 in
theorem adjoint_c (A : List (List Int)) (B : List Int) (h : Tab A B) : Con Try.prog 87 [.agg [.sl A.length (mat A), .sl B.length (avs B)]]
    (.agg [.own 27 (adA A B).length (omat (adA A B)), .own 2 (adB B).length (avs (adB B))]) := by
  have b1 := h.pos
  have b8 := h.le
  have lo := lesM_ok h
  have cS := allStages_c A B (by omega)
  have cR := Reverse_c (tlL B.length) (by simp; omega)
  have cI := inverse_c A B h
  have cT := times_c (lesM A B) (scalS B (-1)) (-1) (by omega) (by omega) (by rw [lo.1]; exact lo.2) (scalS_N _ _) (by rw [scalS_len, lo.1]) ⟨by omega, by omega⟩
  have rl : (List.range B.length).reverse.length = B.length := by simp
  have cO := reordered_c (tmsM (lesM A B) (-1)) (scalS (scalS B (-1)) (-1)) (List.range B.length).reverse (by omega) (by omega) (by
    rw [scalS_len, scalS_len]
    intro r hr
    obtain ⟨i, hi, rfl⟩ := List.mem_map.1 hr
    have hi : i < (lesM A B).length := by simpa using hi
    exact ⟨by rw [scalS_len]; exact (lo.2.at hi).1, scalS_N _ _⟩) (by rw [tmsM_len, scalS_len, scalS_len, lo.1]) (fun x hx => by rw [scalS_len, scalS_len]; simpa using hx)
  rw [rv_ofN, tlL_len] at cR
  rw [lo.1, scalS_len] at cT
  rw [tmsM_len, lo.1, scalS_len, scalS_len, rl] at cO
  rw [adA_len, adB_len]
  unfold adA adB
  refine con_of_vc Try.mixed ⟨4, [], [151], []⟩ Try.func87 (by decide) rfl (by simp) (by decide) (by simp [freshOK, freshL, go_sem]) ?_
  rw [Try.ntmps87]
  simp [go_sem]
  refine CallVC.of (cS) (by decide) ?_
  simp [go_sem]
  refine ⟨_, _, cR, ?_⟩
  simp [go_sem]
  refine CallVC.of (cI) (by decide) ?_
  simp [go_sem]
  refine CallVC.of (cT) (by decide) ?_
  simp [go_sem]
  refine CallVC.of (cO) (by decide) ?_
  simp [go_sem]
set_option maxRecDepth 100000 in
theorem AdjointTableau_c (A : List (List Int)) (B : List Int) (h : Tab A B) : Con Try.prog 31 [.agg [.sl A.length (mat A), .sl B.length (avs B)]]
    (.tup [.agg [.own 27 (adA A B).length (omat (adA A B)), .own 2 (adB B).length (avs (adB B))], .int 0]) := by
  have hle := h.le
  have hAB := h.len
  have cT := IsTableau_c A B (by omega) (by omega) (fun r hr => by have := (h.a r hr).1; omega)
  rw [tabB_iff.2 h] at cT
  have cA := adjoint_c A B h
  refine con_of_vc Try.mixed ⟨4, [], [], []⟩ Try.func31 (by decide) rfl (by simp) (by decide) (by simp [freshOK, freshL, go_sem]) ?_
  rw [Try.ntmps31]
  simp [go_sem]
  refine CallVC.of (cT) (by decide) ?_
  simp [go_sem]
  refine CallVC.of (cA) (by decide) ?_
  simp [go_sem]
end Go.Proofs.Ytmojbncbbnjblaa


namespace Go.Proofs.Ytmojbncbbnjblaa
open Go.Abs
set_option linter.unusedVariables false
set_option linter.unusedSimpArgs false
set_option maxHeartbeats 1000000
def pF (t : List Int) : Nat → Option Nat
  | 0 => none
  | j + 1 => if t[j]?.getD 0 ≤ 1 then pF t j else some j
def qF (t : List Int) (v : Int) : Nat → Option Nat
  | 0 => none
  | j + 1 => if t[j]?.getD 0 = v then some j else qF t v j
def fiS (t : List Int) (d p : Nat) : Nat → List Int
  | 0 => t
  | k + 1 => (fiS t d p k).set (p + k) ((fiS t d p k)[p + k - d]?.getD 0)
@[simp] theorem fiS_len (t : List Int) (d p : Nat) : ∀ k, (fiS t d p k).length = t.length
  | 0 => rfl
  | k + 1 => by simp [fiS, fiS_len t d p k]
def genT : Nat → List Int → List (List Int)
  | 0, _ => []
  | k + 1, t => t :: match pF t t.length with
    | none => []
    | some p => match qF t (t[p]?.getD 0 - 1) p with
      | none => []
      | some q => genT k (fiS t (p - q) p (t.length - p))
def chkT : Nat → List Int → Bool
  | 0, _ => false
  | k + 1, t => t.all (fun x => decide (0 ≤ x ∧ x ≤ 100)) && match pF t t.length with
    | none => true
    | some p => match qF t (t[p]?.getD 0 - 1) p with
      | none => false
      | some q => chkT k (fiS t (p - q) p (t.length - p))
theorem qF_lt {t : List Int} {v : Int} : ∀ {j q : Nat}, qF t v j = some q → q < j ∧ t[q]?.getD 0 = v
  | j + 1, q, h => by
    rw [qF] at h
    split at h
    · injection h with h; subst h; exact ⟨by omega, by assumption⟩
    · have := qF_lt h; exact ⟨by omega, this.2⟩
set_option maxRecDepth 100000 in
theorem treesOf_c (n F : Nat) (hn : n ≤ 1000) (hF : F ≤ 1000000) (hc : chkT F (upTo n) = true) : Con Try.prog 187 [.int n] (.own 27 (genT F (upTo n)).length (omat (genT F (upTo n)))) := by
  refine con_of_vc Try.mixed ⟨9, [], [], []⟩ Try.func187 (by decide) rfl (by simp) (by decide) (by simp [freshOK, freshL, go_sem]) ?_
  rw [Try.ntmps187]
  simp [go_sem]
  refine loop_inv (3 :: 5 :: List.range' 12 8) (fun i : Nat => [(3, .own 2 i (avs (upTo i))), (12, .int i)]) (fun i => i ≤ n) (fun i => n - i) 0 (by simp) (by simp [go_sem, upTo]) (by simp [go_sem]) ?_
  intro i hi
  simp [go_sem]
  refine ⟨fun h => ?_, fun h => ?_⟩ <;> simp at h
  · simp [go_sem]
    refine ⟨⟨by omega, by omega⟩, by omega, i + 1, by omega, by omega, Off_reset _ _ _ (by simp), by rw [upTo_succ, avs_snoc]; exact ⟨rfl, rfl⟩, by omega⟩
  · have e : i = n := by omega
    subst e
    simp [go_sem]
    refine loop_inv (2 :: 3 :: 4 :: 6 :: 7 :: 8 :: List.range' 20 52) (fun x : Nat × List Int × List (List Int) => [(3, .own 2 i (avs x.2.1)), (4, .own 27 x.2.2.length (omat x.2.2))]) (fun x => x.2.2 ++ genT x.1 x.2.1 = genT F (upTo i) ∧ chkT x.1 x.2.1 = true ∧ x.2.1.length = i ∧ x.2.2.length + x.1 ≤ F) (fun x => x.1) (F, upTo i, []) ⟨by simp, hc, by simp, by simp⟩ (by simp [go_sem, omat_nil]) (by simp [go_sem]) ?_
    rintro ⟨k, t, done⟩ ⟨hg, hk, hl, hdl⟩
    simp only at hg hk hl hdl
    cases k with
    | zero => simp [chkT] at hk
    | succ k =>
      rw [chkT] at hk
      rw [genT] at hg
      simp only [Bool.and_eq_true] at hk
      obtain ⟨hb, hk⟩ := hk
      have hb2 : ∀ j : Nat, 0 ≤ t[j]?.getD 0 ∧ t[j]?.getD 0 ≤ 100 := fun j => by
        rcases Nat.lt_or_ge j t.length with hj | hj
        · have := (List.all_eq_true.1 hb) _ (List.getElem_mem hj)
          simp only [decide_eq_true_eq] at this
          simpa [hj] using this
        · simp [List.getElem?_eq_none hj]
      have cC := Clone_c t (by omega)
      rw [hl] at cC hk hg
      simp [go_sem]
      refine CallVC.of (cC) (by decide) ?_
      simp [go_sem]
      refine ⟨⟨by omega, by omega⟩, ⟨by omega, by omega⟩, ?_⟩
      refine loop_inv (6 :: List.range' 27 11) (fun j : Nat => [(6, .int ((j : Int) - 1))]) (fun j => j ≤ i ∧ pF t i = pF t j) (fun j => j) i ⟨by omega, rfl⟩ (by simp [go_sem]) (by simp [go_sem]) ?_
      rintro j ⟨hj, hpj⟩
      rcases j with _ | j
      · rw [hpj, pF] at hg
        simp [go_sem]
        rw [← hg, omat_app, omat_one, hl]
        exact ⟨by simp, rfl⟩
      · have hjt : j < t.length := by omega
        have ej : ((j + 1 : Nat) : Int) - 1 = j := by omega
        have j0 : (0 : Int) ≤ j := by omega
        by_cases ht : t[j]?.getD 0 ≤ 1
        · rw [pF, if_pos ht] at hpj
          simp [go_sem, ej, j0, avs_at hjt, ht]
          exact ⟨by omega, ⟨by omega, by omega⟩, j, ⟨by omega, hpj⟩, by omega, Off_reset _ _ _ (by simp), by omega⟩
        · rw [pF, if_neg ht] at hpj
          rw [hpj] at hg hk
          simp only at hg hk
          have jn : ¬ (j : Int) < 0 := by omega
          cases hq : qF t (t[j]?.getD 0 - 1) j with
          | none => rw [hq] at hk; simp at hk
          | some q =>
            rw [hq] at hg hk
            simp only at hg hk
            have hql := qF_lt hq
            have b1 := hb2 j
            simp [go_sem, ej, j0, avs_at hjt, ht, jn]
            refine ⟨by omega, ⟨by omega, by omega⟩, ?_⟩
            refine loop_inv (7 :: List.range' 43 12) (fun r : Nat => [(7, .int ((r : Int) - 1))]) (fun r => r ≤ j ∧ qF t (t[j]?.getD 0 - 1) r = some q) (fun r => r) j ⟨by omega, hq⟩ (by simp [go_sem]) (by simp [go_sem]) ?_
            rintro r ⟨hr, hqr⟩
            rcases r with _ | r
            · simp [qF] at hqr
            · have hrt : r < t.length := by omega
              have er : ((r + 1 : Nat) : Int) - 1 = r := by omega
              by_cases hv : t[r]?.getD 0 = t[j]?.getD 0 - 1
              · rw [qF, if_pos hv] at hqr
                injection hqr with hqr
                subst hqr
                simp [go_sem, er, avs_at hrt, avs_at hjt, hv]
                refine ⟨by kernel_rfl, by omega, by omega, ⟨by omega, by omega⟩, ?_⟩
                refine ⟨by kernel_rfl, ?_⟩
                simp [go_sem]
                refine loop_inv (3 :: 8 :: List.range' 56 16) (fun e : Nat => [(3, .own 2 i (avs (fiS t (j - r) j e))), (8, .int ((j + e : Nat) : Int))]) (fun e => j + e ≤ i) (fun e => i - e) 0 (by omega) (by simp [go_sem, fiS]) (by simp [go_sem]) ?_
                intro e he
                simp [go_sem]
                refine ⟨fun h => ?_, fun h => ?_⟩ <;> simp at h
                · have hlf := fiS_len t (j - r) j e
                  have k1 : j + e - (j - r) < (fiS t (j - r) j e).length := by omega
                  have k2 : j + e < (fiS t (j - r) j e).length := by omega
                  have ix : ((j : Int) + e - (j - r)) = ((j + e - (j - r) : Nat) : Int) := by omega
                  have hs : fiS t (j - r) j (e + 1) = (fiS t (j - r) j e).set (j + e) ((fiS t (j - r) j e)[j + e - (j - r)]?.getD 0) := rfl
                  generalize hF1 : fiS t (j - r) j (e + 1) = F1 at *
                  generalize fiS t (j - r) j e = F0 at *
                  have ix2 : ((j : Int) + e - (j - r)).toNat = j + e - (j - r) := by omega
                  have ij2 : ((j : Int) + e).toNat = j + e := by omega
                  simp [go_sem, ix2, avs_at k1, ij2]
                  refine ⟨⟨by omega, by omega⟩, ⟨by omega, by omega⟩, ⟨by omega, by omega⟩, ⟨by omega, by omega⟩, k2, ⟨by omega, by omega⟩, e + 1, by omega, by omega, Off_reset _ _ _ (by simp), ?_, by omega⟩
                  rw [hF1, hs, avs_set]
                · have en : e = i - j := by omega
                  subst en
                  have h1 : done ++ [t] ++ genT k (fiS t (j - r) j (i - j)) = genT F (upTo i) := by rw [← hg]; simp
                  simp [go_sem]
                  refine ⟨k, fiS t (j - r) j (i - j), done ++ [t], ⟨h1, hk, by rw [fiS_len]; exact hl, by simp; omega⟩, by omega, (by repeat (first | exact Off_reset _ _ _ (by simp) | (refine Off.reset (by intro x hx; simp at hx ⊢; omega) (by simp) ?_; simp -failIfUnchanged [go_sem, Off_reset]))), rfl, ?_⟩
                  rw [omat_app, omat_one, hl]
                  exact ⟨by simp, rfl⟩
              · rw [qF, if_neg hv] at hqr
                simp [go_sem, er, avs_at hrt, avs_at hjt, hv]
                refine ⟨by kernel_rfl, by omega, by omega, ⟨by omega, by omega⟩, ?_⟩
                refine ⟨by kernel_rfl, ?_⟩
                simp [go_sem]
                exact ⟨⟨by omega, by omega⟩, r, ⟨by omega, hqr⟩, by omega, Off_reset _ _ _ (by simp), by omega⟩
end Go.Proofs.Ytmojbncbbnjblaa


namespace Go.Proofs.Ytmojbncbbnjblaa
open Go.Abs
set_option linter.unusedVariables false
set_option linter.unusedSimpArgs false
set_option maxHeartbeats 1000000
def atL (p : List Int) : List (List Int) → Nat
  | [] => 0
  | s :: S => if ltL s p = true then 0 else atL p S + 1
theorem atL_le (p : List Int) : ∀ S, atL p S ≤ S.length
  | [] => by simp [atL]
  | s :: S => by have := atL_le p S; rw [atL]; split <;> simp; omega
def insL (p : List Int) (S : List (List Int)) : List (List Int) := S.take (atL p S) ++ p :: S.drop (atL p S)
@[simp] theorem insL_len (p : List Int) (S : List (List Int)) : (insL p S).length = S.length + 1 := by have := atL_le p S; simp [insL]; omega
def rootL (S : List (List Int)) : List Int := 0 :: S.flatMap fun b => b.map (· + 1)
def canF : Nat → List Int → List Int
  | 0, _ => []
  | n + 1, t => rootL ((brs t).foldl (fun S b => insL (canF n b) S) [])
end Go.Proofs.Ytmojbncbbnjblaa


namespace Go.Proofs.Ytmojbncbbnjblaa
open Go.Abs
set_option linter.unusedVariables false
set_option linter.unusedSimpArgs false
set_option maxHeartbeats 1000000
def grwL : Nat → List Int → List (List Int) → List (List Int)
  | 0, t, L => if canF t.length t = t then L ++ [t] else L
  | k + 1, t, L => (List.range (t[t.length - 1]?.getD 0 + 1).toNat).foldl (fun (L : List (List Int)) (i : Nat) => grwL k (t ++ [t[t.length - 1]?.getD 0 + 1 - (i : Int)]) L) L
theorem trees_same : ∀ n : Nat, 1 ≤ n → n ≤ 6 → chkT 200 (upTo n) = true ∧ genT 200 (upTo n) = grwL (n - 1) [0] [] ∧ (genT 200 (upTo n)).all lvB = true := by
  have h : ∀ n ∈ [1, 2, 3, 4, 5, 6], (chkT 200 (upTo n) && decide (genT 200 (upTo n) = grwL (n - 1) [0] []) && (genT 200 (upTo n)).all lvB) = true := by decide +kernel
  intro n h1 h6
  have := h n (by simp; omega)
  simp only [Bool.and_eq_true, decide_eq_true_eq] at this
  exact ⟨this.1.1, this.1.2, this.2⟩
end Go.Proofs.Ytmojbncbbnjblaa


namespace Go.Proofs.Ytmojbncbbnjblaa
open Go.Abs
set_option linter.unusedVariables false
set_option linter.unusedSimpArgs false
set_option maxHeartbeats 4000000
def denF : Nat → List Int → Int
  | 0, _ => 0
  | n + 1, t => (brs t).foldl (fun o b => o * denF n b) t.length
def denK (n : Nat) (t : List Int) (j : Nat) : Int := ((brs t).take j).foldl (fun o b => o * denF n b) t.length
def denOk : Nat → List Int → Bool
  | 0, _ => false
  | n + 1, t => (brs t).all (denOk n) && (List.range ((brs t).length + 1)).all fun j => decide (0 ≤ denK n t j ∧ denK n t j ≤ 1000000)
theorem denK_succ (n : Nat) {t : List Int} {j : Nat} (h : j < (brs t).length) : denK n t (j + 1) = denK n t j * denF n ((brs t)[j]?.getD []) := by
  unfold denK
  rw [List.take_add_one, List.foldl_append]
  simp [h]
set_option maxRecDepth 100000 in
theorem density_c : ∀ (n : Nat) (t : List Int), Lv t → t.length ≤ 1048576 → denOk n t = true → Con Try.prog 188 [.sl t.length (avs t)] (.int (denF n t))
  | 0, t, hL, hl, hd => by simp [denOk] at hd
  | n + 1, t, hL, hl, hd => by
    have cL := length_c t.length (avs t) (by omega)
    have cB := branchesOf_c t hl hL
    rw [denOk, Bool.and_eq_true] at hd
    obtain ⟨hd1, hd2⟩ := hd
    have ih := fun b (hb : b ∈ brs t) => density_c n b (brs_ok hL hb).1 (by have := (brs_ok hL hb).2; omega) (List.all_eq_true.1 hd1 b hb)
    have bd : ∀ j, j ≤ (brs t).length → 0 ≤ denK n t j ∧ denK n t j ≤ 1000000 := fun j hj => by
      have := List.all_eq_true.1 hd2 j (by simp; omega)
      simpa using this
    have hs := fun j (h : j < (brs t).length) => denK_succ n h
    have k0 : denK n t 0 = t.length := by simp [denK]
    have ke : denK n t (brs t).length = denF (n + 1) t := by rw [denK, List.take_length, denF]
    have hcnt : (brs t).length < t.length := brs_cnt hL
    rw [← ke]
    generalize denK n t = K at *
    generalize brs t = L at *
    refine con_of_vc Try.mixed ⟨6, [], [], []⟩ Try.func188 (by decide) rfl (by simp) (by decide) (by simp [freshOK, freshL, go_sem]) ?_
    rw [Try.ntmps188]
    simp [go_sem]
    refine CallVC.of (cL) (by decide) ?_
    simp [go_sem]
    refine CallVC.of (cB) (by decide) ?_
    simp [go_sem]
    refine loop_inv ([3, 5] ++ List.range' 11 9) (fun i : Nat => [(3, .int (K i)), (11, .int i)]) (fun i => i ≤ L.length) (fun i => L.length - i) 0 (by simp) (by simp [go_sem, k0]) (by simp [go_sem]) ?_
    intro i hi
    by_cases hiL : i < L.length
    · have hii : (i : Int) < L.length := by omega
      have hb : L[i]?.getD [] ∈ L := by simp [hiL]
      have cD := ih _ hb
      have hg := omat_get hiL
      have b0 := bd i hi
      have b1 := bd (i + 1) hiL
      have h1 := hs i hiL
      generalize denF n (L[i]?.getD []) = d at *
      generalize hk1 : K (i + 1) = k1 at *
      generalize K i = k at *
      simp [go_sem, hii, hg]
      refine CallVC.of (cD) (by decide) ?_
      simp [go_sem]
      rw [← h1]
      exact ⟨⟨by omega, by omega⟩, ⟨by omega, by omega⟩, i + 1, by omega, by omega, Off_reset _ _ _ (by simp), hk1.symm, by omega⟩
    · have e : i = L.length := by omega
      subst e
      have hii : ¬ (L.length : Int) < L.length := by omega
      simp [go_sem, hii]
def trN (k : Nat) : List (List Int) := (List.range k).flatMap fun i => genT 200 (upTo (i + 1))
theorem trN_succ (k : Nat) : trN (k + 1) = trN k ++ genT 200 (upTo (k + 1)) := by simp [trN, List.range_succ]
theorem trN_len : ∀ k, k ≤ 6 → (trN k).length ≤ 100 := by decide +kernel
theorem trN_len6 : (trN 6).length = 37 := by decide +kernel
def lvC (t : List Int) : Bool := decide (0 < t.length) && decide (t[0]?.getD 0 = 0) && (List.range t.length).all fun j => decide (j = 0) || decide (1 ≤ t[j]?.getD 0 ∧ t[j]?.getD 0 ≤ t[j - 1]?.getD 0 + 1)
theorem lvC_Lv {t : List Int} (h : lvC t = true) : Lv t := by
  unfold lvC at h
  simp only [Bool.and_eq_true, decide_eq_true_eq, List.all_eq_true, Bool.or_eq_true, List.mem_range] at h
  exact ⟨h.1.1, h.1.2, fun j h1 h2 => (h.2 j h2).resolve_left (by omega)⟩
theorem trN_all : (trN 6).all (fun t => lvC t && decide (t.length ≤ 6) && denOk 8 t) = true := by decide +kernel
theorem trN_at {t : List Int} (h : t ∈ trN 6) : Lv t ∧ t.length ≤ 6 ∧ denOk 8 t = true := by
  have := List.all_eq_true.1 trN_all t h
  simp only [Bool.and_eq_true, decide_eq_true_eq] at this
  exact ⟨lvC_Lv this.1.1, this.1.2, this.2⟩
set_option maxRecDepth 100000 in
theorem treesTo_c (n : Nat) (hn : n ≤ 6) : Con Try.prog 148 [.int n] (.own 27 (trN n).length (omat (trN n))) := by
  refine con_of_vc Try.mixed ⟨5, [], [], []⟩ Try.func148 (by decide) rfl (by simp) (by decide) (by simp [freshOK, freshL, go_sem]) ?_
  rw [Try.ntmps148]
  simp [go_sem]
  refine loop_inv ([3, 4] ++ List.range' 6 9) (fun i : Nat => [(3, .own 27 (trN i).length (omat (trN i))), (4, .int (i + 1))]) (fun i => i ≤ n) (fun i => n - i) 0 (by simp) (by simp [go_sem, trN, omat]) (by simp [go_sem]) ?_
  intro i hi
  have l0 := trN_len i (by omega)
  by_cases hin : i < n
  · have hii : (i : Int) + 1 ≤ n := by omega
    have cT := treesOf_c (i + 1) 200 (by omega) (by omega) (trees_same (i + 1) (by omega) (by omega)).1
    have l1 := trN_len (i + 1) (by omega)
    have ts := trN_succ i
    have tl := congrArg List.length ts
    rw [List.length_append] at tl
    have ot : omat (trN (i + 1)) = omat (trN i) ++ omat (genT 200 (upTo (i + 1))) := by rw [ts]; simp [omat]
    have ec : ((i + 1 : Nat) : Int) = (i : Int) + 1 := by omega
    rw [ec] at cT
    generalize genT 200 (upTo (i + 1)) = G at *
    simp [go_sem, hii]
    refine CallVC.of (cT) (by decide) ?_
    simp [go_sem]
    exact ⟨⟨by omega, by omega⟩, ⟨by omega, by omega⟩, i + 1, by omega, by omega, Off_reset _ _ _ (by simp), by rw [tl, ot]; exact ⟨rfl, rfl⟩, by omega⟩
  · have e : i = n := by omega
    subst e
    have hii : ¬ (i : Int) + 1 ≤ i := by omega
    simp [go_sem, hii]
def lacF (A : List (List Int)) (B : List Int) (t : List Int) : Int := (dotI B (stwF A B.length t.length t) % 10007 - pw (denF 8 t % 10007) 10005) % 10007
set_option maxRecDepth 100000 in
theorem lacking_c (A : List (List Int)) (B : List Int) (hT : Tab A B) (t : List Int) (ht : t ∈ trN 6) :
    Con Try.prog 149 [.agg [.sl A.length (mat A), .sl B.length (avs B)], .sl t.length (avs t)] (.int (lacF A B t)) := by
  obtain ⟨hL, h6, hd⟩ := trN_at ht
  have cW := weight_c A B hT t.length t hL (Nat.le_refl _) (by omega)
  have cD := density_c 8 t hL (by omega) hd
  have db : 0 ≤ denF 8 t ∧ denF 8 t ≤ 1000000 := by
    rw [denOk, Bool.and_eq_true] at hd
    have := List.all_eq_true.1 hd.2 (brs t).length (by simp)
    rw [denK, List.take_length] at this
    have e : denF 8 t = (brs t).foldl (fun o b => o * denF 7 b) t.length := rfl
    rw [e]
    simpa using this
  have cV := inv_c (denF 8 t % 10007) (isN_mod _)
  have wN : isN (dotI B (stwF A B.length t.length t) % 10007) := isN_mod _
  have pN : isN (pw (denF 8 t % 10007) 10005) := isN_mod _
  have hl : lacF A B t = (dotI B (stwF A B.length t.length t) % 10007 - pw (denF 8 t % 10007) 10005) % 10007 := rfl
  rw [hl]
  generalize dotI B (stwF A B.length t.length t) % 10007 = w at *
  generalize denF 8 t = d at *
  generalize pw (d % 10007) 10005 = v at *
  have w1 := wN.1
  have w2 := wN.2
  have v1 := pN.1
  have v2 := pN.2
  refine con_of_vc Try.mixed ⟨5, [], [], []⟩ Try.func149 (by decide) rfl (by simp) (by decide) (by simp [freshOK, freshL, go_sem]) ?_
  rw [Try.ntmps149]
  simp [go_sem]
  refine CallVC.of (cW) (by decide) ?_
  simp [go_sem]
  refine CallVC.of (cD) (by decide) ?_
  simp [go_sem]
  refine CallVC.of (num_c d (by omega) (by omega)) (by decide) ?_
  simp [go_sem]
  refine CallVC.of (cV) (by decide) ?_
  simp [go_sem]
  refine ⟨⟨by omega, by omega⟩, ?_⟩
  refine CallVC.of (num_c (w - v) (by omega) (by omega)) (by decide) ?_
  simp [go_sem]
def orT (A : List (List Int)) (B : List Int) : List (List Int) → Int
  | [] => 6
  | t :: l => if lacF A B t = 0 then orT A B l else (t.length : Int) - 1
set_option maxRecDepth 100000 in
theorem order_c (A : List (List Int)) (B : List Int) (hT : Tab A B) : Con Try.prog 86 [.agg [.sl A.length (mat A), .sl B.length (avs B)]] (.int (orT A B (trN 6))) := by
  have cT := treesTo_c 6 (by omega)
  have l6 := trN_len6
  have lc := fun t h => lacking_c A B hT t h
  have at6 := fun t h => (trN_at (t := t) h).2.1
  have e6 : ((6 : Nat) : Int) = 6 := rfl
  rw [e6] at cT
  generalize trN 6 = L at *
  refine con_of_vc Try.mixed ⟨5, [], [], []⟩ Try.func86 (by decide) rfl (by simp) (by decide) (by simp [freshOK, freshL, go_sem]) ?_
  rw [Try.ntmps86]
  simp [go_sem]
  refine CallVC.of (cT) (by decide) ?_
  simp [go_sem]
  refine loop_inv ([2, 4] ++ List.range' 7 12) (fun i : Nat => [(7, .int i)]) (fun i => i ≤ L.length ∧ orT A B (L.drop i) = orT A B L) (fun i => L.length - i) 0 (by simp) (by simp [go_sem]) (by simp [go_sem]) ?_
  rintro i ⟨hi, ho⟩
  by_cases hiL : i < L.length
  · have hii : (i : Int) < L.length := by omega
    have hb : L[i]?.getD [] ∈ L := by simp [hiL]
    have cK := lc _ hb
    have l7 := at6 _ hb
    have hg := omat_get hiL
    have hd : L.drop i = L[i]?.getD [] :: L.drop (i + 1) := by
      rw [List.getElem?_eq_getElem hiL, Option.getD_some]
      exact List.drop_eq_getElem_cons hiL
    rw [hd, orT] at ho
    have cL := length_c (L[i]?.getD []).length (avs (L[i]?.getD [])) (by omega)
    generalize L[i]?.getD [] = t at *
    generalize lacF A B t = z at *
    by_cases h0 : z = 0
    · rw [if_pos h0] at ho
      simp [go_sem, hii, hg]
      refine CallVC.of (cK) (by decide) ?_
      simp [go_sem]
      simp [go_sem, h0]
      exact ⟨⟨by omega, by omega⟩, i + 1, ⟨by omega, ho⟩, by omega, Off_reset _ _ _ (by simp), by omega⟩
    · rw [if_neg h0] at ho
      simp [go_sem, hii, hg]
      refine CallVC.of (cK) (by decide) ?_
      simp [go_sem]
      simp [go_sem, h0, hg]
      refine CallVC.of (cL) (by decide) ?_
      simp [go_sem]
      rw [← ho]
      exact ⟨⟨by omega, by omega⟩, rfl⟩
  · have e : i = L.length := by omega
    subst e
    have hii : ¬ (L.length : Int) < L.length := by omega
    rw [List.drop_length, orT] at ho
    rw [← ho]
    simp [go_sem, hii]
theorem OrderOf_c (A : List (List Int)) (B : List Int) (hT : Tab A B) : Con Try.prog 30 [.agg [.sl A.length (mat A), .sl B.length (avs B)]] (.tup [.int (orT A B (trN 6)), .int 0]) := by
  have hle := hT.le
  have hAB := hT.len
  have cI := IsTableau_c A B (by omega) (by omega) (fun r hr => by have := (hT.a r hr).1; omega)
  rw [tabB_iff.2 hT] at cI
  have cO := order_c A B hT
  refine con_of_vc Try.mixed ⟨4, [], [], []⟩ Try.func30 (by decide) rfl (by simp) (by decide) (by simp [freshOK, freshL, go_sem]) ?_
  rw [Try.ntmps30]
  simp [go_sem]
  refine CallVC.of (cI) (by decide) ?_
  simp [go_sem]
  refine CallVC.of (cO) (by decide) ?_
  simp [go_sem]
theorem orT_at {A : List (List Int)} {B : List Int} : ∀ {L : List (List Int)}, L.Pairwise (fun s t => s.length ≤ t.length) → (∀ t ∈ L, 0 < t.length ∧ t.length ≤ 6) → 0 ≤ orT A B L ∧ orT A B L ≤ 6 ∧ ∀ t ∈ L, (t.length : Int) ≤ orT A B L → lacF A B t = 0
  | [], _, _ => ⟨by simp [orT], by simp [orT], fun t ht => by simp at ht⟩
  | s :: L, hp, hb => by
    have ih := orT_at (A := A) (B := B) (List.pairwise_cons.1 hp).2 (fun t ht => hb t (by simp [ht]))
    have hs := hb s (by simp)
    rw [orT]
    by_cases h0 : lacF A B s = 0
    · rw [if_pos h0]
      refine ⟨ih.1, ih.2.1, fun t ht hl => ?_⟩
      rcases List.mem_cons.1 ht with rfl | ht
      · exact h0
      · exact ih.2.2 t ht hl
    · rw [if_neg h0]
      refine ⟨by omega, by omega, fun t ht hl => ?_⟩
      exfalso
      rcases List.mem_cons.1 ht with rfl | ht
      · omega
      · have := (List.pairwise_cons.1 hp).1 t ht
        omega
def srtB : List (List Int) → Bool
  | [] => true
  | s :: L => L.all (fun t => decide (s.length ≤ t.length)) && srtB L
theorem srtB_ok : ∀ {L : List (List Int)}, srtB L = true → L.Pairwise (fun s t => s.length ≤ t.length)
  | [], _ => .nil
  | s :: L, h => by
    rw [srtB, Bool.and_eq_true] at h
    exact .cons (fun t ht => by simpa using List.all_eq_true.1 h.1 t ht) (srtB_ok h.2)
theorem trN_srt : srtB (trN 6) = true := by decide +kernel
theorem trN_tall : ∀ k, k < 6 → tlL (k + 1) ∈ trN 6 ∧ denF 8 (tlL (k + 1)) % 10007 ≠ 0 ∧ ((fp 15 (denF 8 (tlL (k + 1)) % 10007).toNat 10005 : Nat) : Int) = expU[k + 1]?.getD 0 ∧ 0 ≤ denF 8 (tlL (k + 1)) % 10007 := by decide +kernel
theorem ord_le {A : List (List Int)} {B : List Int} (hT : Tab A B) : orT A B (trN 6) ≤ ordS A B := by
  have oa := orT_at (A := A) (B := B) (srtB_ok trN_srt) (fun t ht => ⟨(trN_at ht).1.1, (trN_at ht).2.1⟩)
  generalize hm : orT A B (trN 6) = m at *
  obtain ⟨k, rfl⟩ : ∃ k : Nat, m = k := ⟨m.toNat, by omega⟩
  have : k ≤ ordS A B := ordN_ge 15 0 (by omega) (by omega) (fun j j1 j2 => by
    obtain ⟨i, rfl⟩ : ∃ i, j = i + 1 := ⟨j - 1, by omega⟩
    have hi : i < 6 := by omega
    obtain ⟨t1, t2, t3, t4⟩ := trN_tall i hi
    have hl := oa.2.2 _ t1 (by rw [tlL_len]; omega)
    unfold lacF at hl
    rw [tl_weight hT (show i < 8 by omega) (show i < 15 by omega)] at hl
    have hp : pw (denF 8 (tlL (i + 1)) % 10007) 10005 = expU[i + 1]?.getD 0 := by
      rw [← t3, fp_pw]
      congr 1
      omega
    rw [hp] at hl
    have n1 : isN ((serL A B 15)[i + 1]?.getD 0) := by
      rw [← tl_weight hT (show i < 8 by omega) (show i < 15 by omega)]; exact isN_mod _
    have n2 : isN (expU[i + 1]?.getD 0) := by rw [← hp]; exact isN_mod _
    have := n1.1; have := n1.2; have := n2.1; have := n2.2
    omega)
  omega
end Go.Proofs.Ytmojbncbbnjblaa


namespace Go.Proofs.Ytmojbncbbnjblaa
open Go.ChangeShapes Go.WideShapes Go.ChangeAt Go.RowKit Go.Abs Go.Deep
set_option linter.unusedVariables false
section
variable {H : Type} {enc : TypeId × Value → H} {w : World} {sp : Nat → Bool} {held : Bool} {base : Nat}
theorem kids : Kids Try.prog (· < Try.prog.types.size) := kids_rows (by kernel_rfl) (by kernel_rfl)
theorem full : ∀ t e, t < Try.prog.types.size → Try.prog.underlying t = some (.slice e) → 0 < Try.prog.cellsOf e := slices_full_of Try.prog (by kernel_rfl)
theorem flat1 {α β : Type} (g : α → β) : ∀ qs : List α, qs.flatMap (fun a => [g a]) = qs.map g
  | [] => rfl
  | a :: qs => by rw [List.flatMap_cons, flat1 g qs]; rfl
theorem rep_one {F : Nat → Prop} {tm : Nat → Value} {oss : Nat → List Nat} {c : AV} {v : Value} (h : RepL Try.prog w F [c] [v] []) : RepT Try.prog w F tm oss c v [] := .cell _ _ _ (RepL.one h)
set_option maxRecDepth 100000 in
theorem repV {F : Nat → Prop} {tm : Nat → Value} {oss : Nat → List Nat} {t e : TypeId} {v : Value} {c : AV} {r : Reach} {b0 : Nat} (ht : Try.prog.underlying t = some (.slice e)) (hv : Value.okWide Try.prog w r b0 t v) (h : RepL Try.prog w F [c] v.cells.toList []) :
    RepT Try.prog w F tm oss c v [] := by
  have hc : v.cells.toList = [v] := by
    simp only [Value.okWide, ht] at hv
    cases v <;> simp_all [Value.cells, Cell.okWide, Cell.ok]
  rw [hc] at h
  exact rep_one h
end
end Go.Proofs.Ytmojbncbbnjblaa


namespace Go.Proofs.Ytmojbncbbnjblaa
open Go.Abs
set_option linter.unusedVariables false
set_option linter.unusedSimpArgs false
set_option maxHeartbeats 1000000
open Go.ChangeShapes Go.WideShapes Go.ChangeAt Go.RowKit Go.Deep
theorem big_c (c : List Int) (hl : c.length ≤ 9223372036854775807) : Con Try.prog 8 [.sl c.length (bys c)] (.bool (decide (4096 < c.length))) := by
  refine con_of_vc Try.mixed ⟨3, [], [], []⟩ Try.func8 (by decide) rfl (by simp) (by decide) (by simp [freshOK, freshL, go_sem]) ?_
  rw [Try.ntmps8]
  simp [go_sem]
  omega
section
variable {H : Type} {enc : TypeId × Value → H} {w : World} {sp : Nat → Bool} {held : Bool} {base : Nat}
theorem open_bys {n : Nat} {cs : List Value} {x : DataW H × List MemPlace} (h : DataW.trod enc Try.prog w base sp held n 22 cs = some x) :
    ∃ xs : List Int, (∀ z ∈ xs, 0 ≤ z ∧ z ≤ 255) ∧ xs.length ≤ 9223372036854775807 ∧ RepL Try.prog w (fun b => b < w.heap.size) [.sl xs.length (bys xs)] cs [] ∧ cs.length = 1 := by
  obtain ⟨qs, h1, h2, h3, h4⟩ := open_sl (f := fun z : Int => [AV.val (.int .u8 z)]) (Good := fun z => (Lit.int .u8 z).wf = true) Try.underlying22 (s := 1) (by kernel_rfl) (by decide) (fun _ => rfl)
    (fun n cs y hy => by obtain ⟨z, k1, k2, _⟩ := open_i Try.underlying5 hy; exact ⟨z, k1, k2⟩) h
  refine ⟨qs, fun z hz => ?_, h2, by rw [flat1] at h3; exact h3, h4⟩
  have := h1 z hz
  simp [Lit.wf, IntKind.min, IntKind.max, IntKind.signed, IntKind.bits] at this
  omega
end
end Go.Proofs.Ytmojbncbbnjblaa


namespace Go.Proofs.Ytmojbncbbnjblaa
open Go.Abs
set_option linter.unusedVariables false
set_option linter.unusedSimpArgs false
set_option maxHeartbeats 4000000
set_option maxRecDepth 100000 in
theorem DrawStabilityOrder_r (c : List Int) (hc : Byt c) :
    RCon Try.prog 27 [.sl c.length (bys c)] (fun r o => o = [.any] ∧ ∃ (A : List (List Int)) (B : List Int), Sz A B ∧ r = .agg [.sl A.length (mat A), .sl B.length (avs B)]) := by
  have c0 := l01From_r c hc
  refine rcon_of_vcH Try.mixed ⟨3, [], [2000000 + 48, 2000000 + 70], []⟩ [] Try.func27 (by decide) rfl (by simp) (by simp) (by decide) ?_
  rw [Try.ntmps27]
  simp [go_sem]
  refine ⟨_, c0, ?_⟩
  rintro _ _ ⟨rfl, h, rfl⟩
  have c1 := l09Spoil_f c (0, h) 6 hc (by unfold SOk; simp) (by omega) (by omega)
  simp only [srcA_eq] at *
  simp [go_sem]
  refine ⟨_, c1, ?_⟩
  rintro _ _ ⟨τ, A, B, h1, rfl, hz, rfl⟩
  simp [go_sem]
  exact ⟨A, B, hz, ⟨rfl, rfl⟩, rfl, rfl⟩
set_option maxRecDepth 100000 in
theorem FnStabilityOrders_c (c : List Int) (hl : c.length ≤ 9223372036854775807) (hb : ∀ x ∈ c, 0 ≤ x ∧ x ≤ 255) : Con Try.prog 5 [.sl c.length (bys c)] (.bool true) := by
  have cB := big_c c hl
  by_cases hc4 : 4096 < c.length
  · refine con_of_vc Try.mixed ⟨14, [], [2000000 + 27], []⟩ Try.func5 (by decide) rfl (by simp) (by decide) (by simp [freshOK, freshL, go_sem]) ?_
    rw [Try.ntmps5]
    simp [go_sem]
    refine CallVC.of (cB) (by decide) ?_
    simp [go_sem]
    simp [go_sem, hc4]
  · have hc : Byt c := ⟨by omega, hb⟩
    have cD := DrawStabilityOrder_r c hc
    refine con_of_vc Try.mixed ⟨14, [], [2000000 + 27], []⟩ Try.func5 (by decide) rfl (by simp) (by decide) (by simp [freshOK, freshL, go_sem]) ?_
    rw [Try.ntmps5]
    simp [go_sem]
    refine CallVC.of (cB) (by decide) ?_
    simp [go_sem]
    simp [go_sem, hc4]
    refine ⟨_, cD, ?_⟩
    rintro _ _ ⟨rfl, A, B, hz, rfl⟩
    obtain ⟨z1, z2, z3⟩ := hz
    have c1 := StabilityOrder_c A B (by omega) (by omega) (fun r h => by have := z3 r h; omega)
    have c2 := specStabilityOrder_c A B (by omega) (by omega) (fun r h => by have := z3 r h; omega)
    unfold stabO at c1 c2
    simp [go_sem]
    by_cases hT : tabB A B = true
    · have tab := tabB_iff.1 hT
      rw [if_pos hT] at c1 c2
      have cO := OrderOf_c A B tab
      have cA := AdjointTableau_c A B tab
      have aT := ad_tab tab
      have ble := tab.le
      have ale := aT.le
      have ane := aT.len
      have c5 := StabilityOrder_c (adA A B) (adB B) (by omega) (by omega) (fun r h => by have := (aT.a r h).1; omega)
      unfold stabO at c5
      rw [if_pos (tabB_iff.2 aT), adj_ord tab (ad_adj tab)] at c5
      have hle := ord_le tab
      generalize ordS A B = p at *
      generalize orT A B (trN 6) = n at *
      refine CallVC.of (c1) (by decide) ?_
      simp [go_sem]
      refine CallVC.of (c2) (by decide) ?_
      simp [go_sem]
      by_cases h4 : 4 < B.length
      · have h4i : (4 : Int) < B.length := by omega
        simp [go_sem, h4, h4i]
      · have h4i : ¬ (4 : Int) < B.length := by omega
        simp [go_sem, h4, h4i]
        refine CallVC.of (cO) (by decide) ?_
        simp [go_sem]
        refine CallVC.of (cA) (by decide) ?_
        simp [go_sem]
        refine CallVC.of (c5) (by decide) ?_
        simp [go_sem]
        simp [go_sem, hle]
    · rw [if_neg hT] at c1 c2
      refine CallVC.of (c1) (by decide) ?_
      simp [go_sem]
      refine CallVC.of (c2) (by decide) ?_
      simp [go_sem]
end Go.Proofs.Ytmojbncbbnjblaa

