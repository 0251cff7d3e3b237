/- Texts of the own layer and contracts, part 8: B16 R7 R8 E12 E13 N5 N0 N1 R9 N2 N4 Q36 N6 E8 E9 E24 Q15 Q16 Q17 Q18 Q19 Q20 Q21 Q22 Q23 Q24 Q25 Q26 Q30 Q31 Q32 Q33 C14 Q40 Q27 Q28 E10 E0 E14 E15 V3 V4 V5 V6 W22 W23 W24 Q38 E18 E20 E21 W11 E25 E22 V11 V12 E23 V9 V10 W36 E26 O W2. -/
import Derived.RangeFuncNested
import Derived.RangeFuncBox
import Derived.RangeFuncBound
import Derived.RangeFuncCalls
import Derived.RangeFuncLeaves
import Derived.Shelf.Abstract
import Derived.WalkKit
import Derived.OwnWalkIn
import Derived.TacticsInMore
import Derived.LoopNIn
import Derived.LoopIn
import Derived.Test.YtbeekabpflaihaaGreatRows
import Derived.ProofKit
import Derived.OpenShut
import Derived.Test.YtbeekabpflaihaaGreatM7
namespace Go.Proofs.YtbeekabpflaihaaGreat
open Go.Abs
set_option linter.unusedSectionVars false
set_option linter.unusedVariables false
set_option linter.unusedSimpArgs false
set_option maxHeartbeats 1000000
theorem dotI_dsum : ∀ (xs ys : List Int) (n : Nat), xs.length = n → ys.length = n → dotI xs ys = dsum (fun c => xs[c]?.getD 0 * ys[c]?.getD 0) n
  | [], ys, n, h, h2 => by simp at h; subst h; rfl
  | x :: xs, [], n, h, h2 => by simp at h h2; omega
  | x :: xs, y :: ys, n, h, h2 => by
    obtain ⟨m, rfl⟩ : ∃ m, n = m + 1 := ⟨n - 1, by simp at h; omega⟩
    rw [dsum_shift, dotI, dotI_dsum xs ys m (by simpa using h) (by simpa using h2)]
    rfl
def tmM (a b : List (List Int)) : List (List Int) := (List.range a.length).map fun i => tb (fun k => dotI (a[i]?.getD []) (colS b k) % 10007) (b[0]?.getD []).length
@[simp] theorem tmM_len (a b : List (List Int)) : (tmM a b).length = a.length := by simp [tmM]
theorem tmM_ok (a b : List (List Int)) : Rws (b[0]?.getD []).length (tmM a b) := fun x hx => by
  obtain ⟨i, _, rfl⟩ := List.mem_map.1 hx
  exact ⟨by simp, tb_N fun k _ => isN_mod _⟩
theorem tmM_mx {n : Nat} {a b : List (List Int)} (hl : a.length = n) (hr : Rws n a) (hl2 : b.length = n) (hr2 : Rws n b) {r c : Nat} (h1 : r < n) (h2 : c < n) :
    mx (tmM a b) r c = dsum (fun k => mx a r k * mx b k c) n % 10007 := by
  have q0 := hr2.at (show 0 < b.length by omega)
  have e : (tmM a b)[r]?.getD [] = tb (fun k => dotI (a[r]?.getD []) (colS b k) % 10007) n := by simp [tmM, hl, h1, q0.1]
  show ((tmM a b)[r]?.getD [])[c]?.getD 0 = _
  rw [e, tb_get _ h2, dotI_dsum _ _ n ((hr.at (by omega)).1) (by simp [hl2])]
  congr 1
  refine dsum_congr fun k hk => ?_
  congr 1
  exact tb_get (fun i => (b[i]?.getD [])[c]?.getD 0) (by omega)
def adU (a : List (List Int)) (k : Int) : List (List Int) := (List.range a.length).map fun i => (a[i]?.getD []).set i (((a[i]?.getD [])[i]?.getD 0 + k) % 10007)
@[simp] theorem adU_len (a : List (List Int)) (k : Int) : (adU a k).length = a.length := by simp [adU]
theorem adU_row {a : List (List Int)} {k : Int} {i : Nat} (h : i < a.length) : (adU a k)[i]?.getD [] = (a[i]?.getD []).set i (((a[i]?.getD [])[i]?.getD 0 + k) % 10007) := by simp [adU, h]
theorem adU_ok {n : Nat} {a : List (List Int)} (hr : Rws n a) (k : Int) : Rws n (adU a k) := fun x hx => by
  obtain ⟨i, h, rfl⟩ := List.mem_map.1 hx
  have q := hr.at (show i < a.length by simpa using h)
  refine ⟨by rw [List.length_set]; exact q.1, fun y hy => ?_⟩
  rcases List.mem_or_eq_of_mem_set hy with h | h
  · exact q.2 y h
  · subst h; exact isN_mod _
theorem adU_mx {n : Nat} {a : List (List Int)} (hl : a.length = n) (hr : Rws n a) (k : Int) {r c : Nat} (h1 : r < n) (h2 : c < n) : mx (adU a k) r c = if r = c then (mx a r c + k) % 10007 else mx a r c := by
  have q := (hr.at (i := r) (by omega)).1
  show ((adU a k)[r]?.getD [])[c]?.getD 0 = _
  rw [adU_row (by omega)]
  by_cases h : r = c
  · subst h; rw [if_pos rfl, List.getElem?_set_self (by omega)]; rfl
  · rw [if_neg h, List.getElem?_set_ne h]; rfl
def zeM (n : Nat) : List (List Int) := (List.range n).map fun _ => List.replicate n 0
theorem zeM_ok (n : Nat) : (zeM n).length = n ∧ Rws n (zeM n) := by
  refine ⟨by simp [zeM], fun x hx => ?_⟩
  obtain ⟨i, _, rfl⟩ := List.mem_map.1 hx
  refine ⟨by simp, fun y hy => ?_⟩
  rw [List.eq_of_mem_replicate hy]
  exact ⟨by omega, by omega⟩
theorem zeM_mx (n r c : Nat) : mx (zeM n) r c = 0 := by
  unfold mx zeM
  by_cases hr : r < n
  · simp [hr]
    by_cases hc : c < n <;> simp [hc]
  · simp [hr]
theorem rows_ext {n : Nat} {a b : List (List Int)} (ha : a.length = n) (hb : b.length = n) (hra : Rws n a) (hrb : Rws n b) (h : ∀ r c, r < n → c < n → mx a r c = mx b r c) : a = b := by
  refine List.ext_getElem? fun r => ?_
  by_cases hr : r < n
  · have h1 := (hra.at (i := r) (by omega)).1
    have h2 := (hrb.at (i := r) (by omega)).1
    have e : a[r]?.getD [] = b[r]?.getD [] := by
      refine List.ext_getElem? fun c => ?_
      by_cases hc : c < n
      · have := h r c hr hc
        unfold mx at this
        generalize a[r]?.getD [] = x at *
        generalize b[r]?.getD [] = y at *
        rw [List.getElem?_eq_getElem (show c < x.length by omega), List.getElem?_eq_getElem (show c < y.length by omega)] at this ⊢
        simpa using this
      · rw [List.getElem?_eq_none (by omega), List.getElem?_eq_none (by omega)]
    rw [List.getElem?_eq_getElem (by omega), List.getElem?_eq_getElem (by omega)] at e ⊢
    simpa using e
  · rw [List.getElem?_eq_none (by omega), List.getElem?_eq_none (by omega)]
def adM (n : Nat) (M : Mx) (k : Nat) : List (List Int) := (List.range n).map fun j => tb (fun i => adS n M j i k % 10007) n
theorem adM_ok (n : Nat) (M : Mx) (k : Nat) : (adM n M k).length = n ∧ Rws n (adM n M k) := by
  refine ⟨by simp [adM], fun x hx => ?_⟩
  obtain ⟨i, _, rfl⟩ := List.mem_map.1 hx
  exact ⟨by simp, tb_N fun k _ => isN_mod _⟩
theorem adM_mx {n : Nat} (M : Mx) (k : Nat) {r c : Nat} (h1 : r < n) (h2 : c < n) : mx (adM n M k) r c = adS n M r c k % 10007 := by
  have e : (adM n M k)[r]?.getD [] = tb (fun i => adS n M r i k % 10007) n := by simp [adM, h1]
  show ((adM n M k)[r]?.getD [])[c]?.getD 0 = _
  rw [e]; exact tb_get _ h2
theorem fl_start (n : Nat) (M : Mx) : adU (zeM n) 1 = adM n M 0 := by
  have z := zeM_ok n
  refine rows_ext (by rw [adU_len]; exact z.1) (adM_ok n M 0).1 (adU_ok z.2 1) (adM_ok n M 0).2 fun r c h1 h2 => ?_
  rw [adU_mx z.1 z.2 1 h1 h2, adM_mx M 0 h1 h2, ad_0 n M h1 h2, zeM_mx]
  unfold idM
  split <;> rfl
theorem fl_times {n : Nat} {a : List (List Int)} (hl : a.length = n) (hr : Rws n a) (k : Nat) {r c : Nat} (h1 : r < n) (h2 : c < n) :
    mx (tmM a (adM n (mx a) k)) r c = dsum (fun j => mx a r j * adS n (mx a) j c k) n % 10007 := by
  have o := adM_ok n (mx a) k
  rw [tmM_mx hl hr o.1 o.2 h1 h2]
  refine dsum_cong fun j hj => ?_
  rw [adM_mx (mx a) k hj h2, mul_mod_r]
theorem fl_next {n : Nat} {a : List (List Int)} (h0 : 0 < n) (hl : a.length = n) (hr : Rws n a) (k : Nat) : adU (tmM a (adM n (mx a) k)) (chS n (mx a) (k + 1) % 10007) = adM n (mx a) (k + 1) := by
  have o := adM_ok n (mx a) k
  have q0 := o.2.at (show 0 < (adM n (mx a) k).length by omega)
  have tr := tmM_ok a (adM n (mx a) k)
  rw [q0.1] at tr
  have tl : (tmM a (adM n (mx a) k)).length = n := by rw [tmM_len]; exact hl
  refine rows_ext (by rw [adU_len]; exact tl) (adM_ok n _ _).1 (adU_ok tr _) (adM_ok n _ _).2 fun r c h1 h2 => ?_
  rw [adU_mx tl tr _ h1 h2, adM_mx _ _ h1 h2, ad_step n (mx a) h1 h2, fl_times hl hr k h1 h2]
  generalize dsum (fun j => mx a r j * adS n (mx a) j c k) n = z
  by_cases h : r = c
  · rw [if_pos h, if_pos h.symm]; omega
  · rw [if_neg h, if_neg (fun e => h e.symm), Int.add_zero]
def trU (m : List (List Int)) : Nat → Int
  | 0 => 0
  | i + 1 => trU m i + mx m i i
theorem trU_is (m : List (List Int)) : ∀ n, trU m n = dsum (fun i => mx m i i) n
  | 0 => rfl
  | n + 1 => by rw [trU, trU_is m n]; rfl
theorem trU_bound {n : Nat} {m : List (List Int)} (hl : m.length = n) (hr : Rws n m) : ∀ i : Nat, i ≤ n → 0 ≤ trU m i ∧ trU m i ≤ i * 10006
  | 0, _ => by simp [trU]
  | i + 1, h => by
    have h1 := trU_bound hl hr i (by omega)
    have h2 := mx_N hr (show i < m.length by omega) i
    obtain ⟨h3, h4⟩ := h2
    rw [trU]; omega
theorem fl_coef {n : Nat} {a : List (List Int)} (h8 : n ≤ 8) (hl : a.length = n) (hr : Rws n a) (k : Nat) (hk : k < n) :
    -(trU (tmM a (adM n (mx a) k)) n % 10007) * pw ((k : Int) + 1) 10005 % 10007 = chS n (mx a) (k + 1) % 10007 := by
  have iv := inv_ok (a := (k : Int) + 1) ⟨by omega, by omega⟩ (by omega)
  have st := ch_step n (mx a) k
  have e1 : trU (tmM a (adM n (mx a) k)) n % 10007 = dsum (fun i => dsum (fun c => mx a i c * adS n (mx a) c i k) n) n % 10007 := by
    rw [trU_is]
    refine dsum_cong fun i hi => ?_
    rw [fl_times hl hr k hi hi, Int.emod_emod_of_dvd _ (Int.dvd_refl _)]
  rw [e1]
  generalize dsum (fun i => dsum (fun c => mx a i c * adS n (mx a) c i k) n) n = T at *
  generalize pw ((k : Int) + 1) 10005 = q at *
  generalize chS n (mx a) (k + 1) = e at *
  have e2 : -(T % 10007) * q % 10007 = (((k : Int) + 1) * e) * q % 10007 := by
    rw [st, Int.neg_mul, Int.neg_mul]
    have h1 : T % 10007 * q % 10007 = T * q % 10007 := mul_mod_l T q
    omega
  rw [e2, show ((k : Int) + 1) * e * q = e * (((k : Int) + 1) * q) by ac_rfl, ← mul_mod_r, iv, Int.mul_one]
end Go.Proofs.YtbeekabpflaihaaGreat


namespace Go.Proofs.YtbeekabpflaihaaGreat
open Go.Abs
set_option linter.unusedSectionVars false
set_option linter.unusedVariables false
set_option linter.unusedSimpArgs false
set_option maxHeartbeats 4000000
theorem colS_is {n : Nat} {b : List (List Int)} (hr : Rws n b) (k : Nat) : Ns (colS b k) := tb_N fun i hi => (hr.at hi).2.get k
set_option maxRecDepth 100000 in
theorem timesMatrix_c {n : Nat} (a b : List (List Int)) (ha : a.length ≤ 64) (hn : n ≤ 64) (hr : Rws n a) (h0 : 0 < b.length) (hb : b.length = n) {w : Nat} (hw : w ≤ 64) (hrb : Rws w b) :
    Con Tryz.prog 77 [.sl a.length (mat a), .sl b.length (mat b)] (.own 22 a.length (omat (tmM a b))) := by
  have q0 := (hrb.at h0).1
  have m0 := mat_drop (xss := b) (k := 0) h0
  simp only [List.drop_zero] at m0
  have m1 : AV.sl (b[0]?.getD []).length (avs (b[0]?.getD [])) :: mat b.tail = mat b := by cases b with | nil => simp at h0 | cons x l => simp [mat]
  have hd : tmM a b = (List.range a.length).map fun i => tb (fun k => dotI (a[i]?.getD []) (colS b k) % 10007) w := by unfold tmM; rw [q0]
  have bne : ¬ b = [] := by rintro rfl; simp at h0
  rw [hd]
  refine con_of_vc Tryz.mixed ⟨10, [], [], []⟩ Tryz.func77 (by decide) rfl (by simp) (by decide) (by simp [freshOK, freshL, go_sem]) ?_
  rw [Tryz.ntmps77]
  simp [go_sem]
  refine loop_inv ([5, 7, 8, 9] ++ List.range' 13 26) (fun i : Nat => [(5, .own 22 i (omat ((List.range i).map fun i => tb (fun k => dotI (a[i]?.getD []) (colS b k) % 10007) w))), (13, .int i)]) (fun i => i ≤ a.length) (fun i => a.length - i) 0 (by simp) (by simp [go_sem, omat]) (by simp [go_sem]) ?_
  intro i hi
  by_cases hin : i < a.length
  · have hii : (i : Int) < a.length := by omega
    have ri := hr.at hin
    have os := omat_range_succ (fun i => tb (fun k => dotI (a[i]?.getD []) (colS b k) % 10007) w) i
    have ane : ¬ a = [] := by rintro rfl; simp at hin
    rw [tb_len] at os
    generalize hrow : a[i]?.getD [] = row at *
    simp [go_sem, hii, mat_drop hin, hrow, m0]
    simp only [m1]
    refine ⟨ane, h0, ?_⟩
    have ex : ∀ k, tb (fun k => dotI row (colS b k) % 10007) (k + 1) = tb (fun k => dotI row (colS b k) % 10007) k ++ [dotI row (colS b k) % 10007] := fun k => tb_succ _ k
    refine loop_inv ([8, 9] ++ List.range' 22 12) (fun k : Nat => [(8, .own 2 k (avs (tb (fun k => dotI row (colS b k) % 10007) k))), (22, .int k)]) (fun k => k ≤ w) (fun k => w - k) 0 (by simp) (by simp [go_sem]) (by simp [go_sem]) ?_
    intro k hk
    by_cases hkw : k < w
    · have hki : (k : Int) < (b[0]?.getD []).length := by omega
      have cC := column_c b k (by omega) (fun r h => by have := (hrb r h).1; omega) (by omega)
      have cD := dot_c row (colS b k) (by rw [colS_len]; omega) (by omega) ri.2 (colS_is hrb k)
      rw [colS_len] at cD
      simp [go_sem, hki]
      refine CallVC.of (cC) (by decide) ?_
      simp [go_sem]
      refine CallVC.of (cD) (by decide) ?_
      simp [go_sem]
      exact ⟨⟨by omega, by omega⟩, by omega, k + 1, by omega, by omega, Off_reset _ _ _ (by simp), by rw [ex, avs_snoc]; exact ⟨rfl, rfl⟩, by omega⟩
    · have e : k = w := by omega
      subst e
      have hki : ¬ (k : Int) < (b[0]?.getD []).length := by omega
      simp [go_sem, hki]
      exact ⟨⟨by omega, by omega⟩, by omega, i + 1, by omega, by omega, (Off.reset (by intro x hx; simp at hx ⊢; omega) (by simp) (by simp [go_sem, Off_reset])), by rw [os]; exact ⟨rfl, rfl⟩, by omega⟩
  · have e : i = a.length := by omega
    subst e
    simp [go_sem]
theorem zeroMatrix_c (n : Nat) (hn : n ≤ 64) : Con Tryz.prog 142 [.int n] (.own 22 n (omat (zeM n))) := by
  have hd : zeM n = (List.range n).map fun _ => List.replicate n 0 := rfl
  rw [hd]
  refine con_of_vc Tryz.mixed ⟨4, [], [], []⟩ Tryz.func142 (by decide) rfl (by simp) (by decide) (by simp [freshOK, freshL, go_sem]) ?_
  rw [Tryz.ntmps142]
  simp [go_sem]
  refine loop_inv ([3] ++ List.range' 6 8) (fun i : Nat => [(3, .own 22 i (omat ((List.range i).map fun _ => List.replicate n 0))), (6, .int i)]) (fun i => i ≤ n) (fun i => n - i) 0 (by simp) (by simp [go_sem, omat]) (by simp [go_sem]) ?_
  intro i hi
  by_cases hin : i < n
  · have hii : (i : Int) < n := by omega
    have os := omat_range_succ (fun _ => List.replicate n 0) i
    have rp := avs_repl n 0
    rw [List.length_replicate] at os
    simp [go_sem, hii, hin]
    exact ⟨⟨by omega, by omega⟩, ⟨by omega, by omega⟩, ⟨by omega, by omega⟩, i + 1, by omega, by omega, Off_reset _ _ _ (by simp), by rw [os, rp]; exact ⟨rfl, rfl⟩, by omega⟩
  · have e : i = n := by omega
    subst e
    simp [go_sem]
set_option maxRecDepth 100000 in
theorem addUnit_c {n : Nat} (a : List (List Int)) (k : Int) (hl : a.length = n) (hn : n ≤ 64) (hr : Rws n a) (hk : isN k) : Con Tryz.prog 144 [.sl a.length (mat a), .int k] (.own 22 a.length (omat (adU a k))) := by
  have cC := cloneRows_c a (by omega) (fun r h => by have := (hr r h).1; omega)
  have al := adU_len a k
  refine con_of_vc Tryz.mixed ⟨7, [], [], []⟩ Tryz.func144 (by decide) rfl (by simp) (by decide) (by simp [freshOK, freshL, go_sem]) ?_
  rw [Tryz.ntmps144]
  simp [go_sem]
  refine CallVC.of (cC) (by decide) ?_
  simp [go_sem]
  refine loop_inv ([5, 6] ++ List.range' 11 20) (fun i : Nat => [(5, .own 22 a.length (omat (mxR a (adU a k) i))), (11, .int i)]) (fun i => i ≤ a.length) (fun i => a.length - i) 0 (by simp) (by simp [go_sem, mxR_zero]) (by simp [go_sem, omat_kl]) ?_
  intro i hi
  by_cases hin : i < a.length
  · have hii : (i : Int) < a.length := by omega
    have hg := omat_get (A := mxR a (adU a k) i) (k := i) (by rw [mxR_len al hi]; exact hin)
    have hgi : (mxR a (adU a k) i)[i]?.getD [] = a[i]?.getD [] := by rw [mxR_get al hi, if_neg (by omega)]
    rw [hgi] at hg
    have hset := omat_set (mxR a (adU a k) i) i ((adU a k)[i]?.getD [])
    rw [mxR_set al hin] at hset
    have hnew := adU_row (k := k) hin
    have ri := hr.at hin
    have hkr : i < (a[i]?.getD []).length := by omega
    have nN := ri.2.get i
    have f1 := add_fits nN hk
    generalize mxR a (adU a k) i = M at *
    generalize (adU a k)[i]?.getD [] = new at *
    generalize a[i]?.getD [] = old at *
    simp [go_sem, hii, hg, avs_at hkr, avs_drop hkr]
    refine ⟨by kernel_rfl, hkr, f1, ?_⟩
    refine CallD.of (num_c _ f1.1 f1.2) (by simp [roots, rootsL]) (by decide) ?_
    simp [go_sem]
    simp [go_sem, hg]
    refine ⟨hkr, ?_⟩
    refine ⟨by kernel_rfl, ?_⟩
    simp [go_sem]
    exact ⟨by omega, i + 1, by omega, by omega, Off_reset _ _ _ (by simp), by rw [← hset, hnew, List.length_set, avs_set], by omega⟩
  · have e : i = a.length := by omega
    subst e
    rw [mxR_all al]
    simp [go_sem]
theorem lengthM_c (n : Nat) (cs : List AV) (hn : n ≤ 9223372036854775807) : Con Tryz.prog 70 [.sl n cs] (.int n) := by
  refine con_of_vc Tryz.mixed ⟨3, [], [], []⟩ Tryz.func70 (by decide) rfl (by simp) (by decide) (by simp [freshOK, freshL, go_sem]) ?_
  rw [Tryz.ntmps70]
  simp [go_sem]
set_option maxRecDepth 100000 in
theorem unitLess_c {n : Nat} (a : List (List Int)) (h0 : 0 < n) (h8 : n ≤ 8) (hl : a.length = n) (hr : Rws n a) : Con Tryz.prog 138 [.sl a.length (mat a)] (.own 2 (n + 1) (avs (chL n a))) := by
  have cZ := zeroMatrix_c n (by omega)
  have z := zeM_ok n
  have cU := addUnit_c (n := n) (zeM n) 1 z.1 (by omega) z.2 ⟨by omega, by omega⟩
  rw [z.1, fl_start n (mx a)] at cU
  have ad := adM_ok n (mx a)
  have cd : chL n a = tb (fun k => chS n (mx a) k % 10007) (n + 1) := rfl
  have c0 : tb (fun k => chS n (mx a) k % 10007) (0 + 1) = [1] := by rw [tb_succ]; simp [ch_0]
  have tl : ∀ k, (tmM a (adM n (mx a) k)).length = n := fun k => by rw [tmM_len]; exact hl
  have tr : ∀ k, Rws n (tmM a (adM n (mx a) k)) := fun k => by
    have := tmM_ok a (adM n (mx a) k)
    rwa [((ad k).2.at (show 0 < (adM n (mx a) k).length by rw [(ad k).1]; exact h0)).1] at this
  rw [cd]
  refine con_of_vc Tryz.mixed ⟨9, [], [], []⟩ Tryz.func138 (by decide) rfl (by simp) (by decide) (by simp [freshOK, freshL, go_sem]) ?_
  rw [Tryz.ntmps138]
  simp [go_sem]
  simp [go_sem, hl]
  refine CallVC.of (cZ) (by decide) ?_
  simp [go_sem]
  refine CallVC.of (cU) (by decide) ?_
  simp [go_sem]
  refine loop_inv ([3, 4, 5, 6, 7, 8] ++ List.range' 14 38) (fun k : Nat => [(3, .own 2 (k + 1) (avs (tb (fun k => chS n (mx a) k % 10007) (k + 1)))), (4, .own 22 n (omat (adM n (mx a) k))), (5, .int (k + 1))]) (fun k => k ≤ n) (fun k => n - k) 0 (by simp) (by simp [go_sem, c0]; rfl) (by simp [go_sem, omat_kl]) ?_
  intro k hk
  have cL := lengthM_c a.length (mat a) (by omega)
  simp [go_sem, hl]
  rw [hl] at cL
  refine CallVC.of (cL) (by decide) ?_
  simp [go_sem]
  by_cases hkn : k < n
  · have hki : (k : Int) + 1 ≤ n := by omega
    have cT := timesMatrix_c a (adM n (mx a) k) (by omega) (show n ≤ 64 by omega) hr (by rw [(ad k).1]; exact h0) (ad k).1 (show n ≤ 64 by omega) (ad k).2
    rw [(ad k).1, hl] at cT
    have tb' := trU_bound (tl k) (tr k) n (Nat.le_refl _)
    have fc := fl_coef h8 hl hr k hkn
    have fn := fl_next h0 hl hr k
    have cA := addUnit_c (n := n) (tmM a (adM n (mx a) k)) (chS n (mx a) (k + 1) % 10007) (tl k) (by omega) (tr k) (isN_mod _)
    rw [fn, tl k] at cA
    have ts := tb_succ (fun k => chS n (mx a) k % 10007) (k + 1)
    have trN := fun i hi => trU_bound (tl k) (tr k) i hi
    have mN := fun i (hi : i < n) => mx_N (tr k) (show i < (tmM a (adM n (mx a) k)).length by rw [tl k]; exact hi) i
    have tlk := tl k
    have trk := tr k
    generalize tmM a (adM n (mx a) k) = T at *
    have cI := inv_c ((k : Int) + 1) ⟨by omega, by omega⟩
    simp [go_sem, hki]
    refine CallVC.of (cT) (by decide) ?_
    simp [go_sem]
    refine loop_inv ([6, 7] ++ List.range' 25 13) (fun i : Nat => [(6, .int (trU T i)), (25, .int i)]) (fun i => i ≤ n) (fun i => n - i) 0 (by simp) (by simp [go_sem, trU]) (by simp [go_sem]) ?_
    intro i hi
    by_cases hin : i < n
    · have hii : (i : Int) < n := by omega
      have ri := trk.at (show i < T.length by omega)
      have hkr : i < (T[i]?.getD []).length := by omega
      have hg := omat_get (A := T) (k := i) (by omega)
      have mm : (T[i]?.getD [])[i]?.getD 0 = mx T i i := rfl
      have b1 := trN i hi
      have b2 := mN i hin
      obtain ⟨b3, b4⟩ := b2
      have ps : trU T (i + 1) = trU T i + mx T i i := rfl
      simp [go_sem, hii, hg, avs_at hkr, avs_drop hkr, mm]
      exact ⟨hkr, ⟨by omega, by omega⟩, ⟨by omega, by omega⟩, i + 1, by omega, by omega, Off_reset _ _ _ (by simp), by rw [ps], by omega⟩
    · have e : i = n := by omega
      subst e
      have hii : ¬ (i : Int) < i := by omega
      have hb := mul_bound (isN_mod (trU T i)) (show isN (pw ((k : Int) + 1) 10005) from isN_mod _)
      have f1 : fits (-(trU T i % 10007) * pw ((k : Int) + 1) 10005) := by
        rw [Int.neg_mul]
        exact ⟨by omega, by omega⟩
      have tn := isN_mod (trU T i)
      simp [go_sem, hii]
      refine CallVC.of (num_c _ (by omega) (by omega)) (by decide) ?_
      simp [go_sem]
      refine ⟨⟨by have := tn.2; omega, by have := tn.1; omega⟩, ?_⟩
      refine CallVC.of (cI) (by decide) ?_
      simp [go_sem]
      refine ⟨f1, ?_⟩
      refine CallVC.of (num_c _ f1.1 f1.2) (by decide) ?_
      simp [go_sem]
      rw [fc]
      refine ⟨⟨by omega, by omega⟩, ?_⟩
      refine CallVC.of (cA) (by decide) ?_
      simp [go_sem]
      exact ⟨⟨by omega, by omega⟩, k + 1, by omega, by omega, (Off.reset (by intro x hx; simp at hx ⊢; omega) (by simp) (by simp [go_sem, Off_reset])), by rw [ts, avs_snoc]; exact ⟨rfl, rfl⟩, rfl, by omega⟩
  · have e : k = n := by omega
    subst e
    have hki : ¬ (k : Int) + 1 ≤ k := by omega
    simp [go_sem, hki]
end Go.Proofs.YtbeekabpflaihaaGreat


namespace Go.Proofs.YtbeekabpflaihaaGreat
open Go.Abs
set_option linter.unusedSectionVars false
set_option linter.unusedVariables false
set_option linter.unusedSimpArgs false
set_option maxHeartbeats 4000000
def unR (n i : Nat) : List Int := tb (fun c => if c = i then 1 else 0) n
theorem unR_set {n i : Nat} (h : i < n) : (List.replicate n (0 : Int)).set i 1 = unR n i := by
  refine List.ext_getElem (by simp [unR]) fun c h1 h2 => ?_
  rw [List.getElem_set]
  simp only [unR, tb, List.getElem_map, List.getElem_range]
  by_cases e : i = c
  · subst e; simp
  · rw [if_neg e, if_neg (fun x => e x.symm)]; simp
end Go.Proofs.YtbeekabpflaihaaGreat


namespace Go.Proofs.YtbeekabpflaihaaGreat
open Go.Abs
set_option linter.unusedSectionVars false
set_option linter.unusedVariables false
set_option linter.unusedSimpArgs false
set_option maxHeartbeats 1000000
theorem dsum_split (f : Nat → Int) (n : Nat) : ∀ m, dsum f (n + m) = dsum f n + dsum (fun j => f (n + j)) m
  | 0 => by simp [dsum]
  | m + 1 => by
    have : n + (m + 1) = (n + m) + 1 := rfl
    rw [this, dsum, dsum_split f n m, dsum]; omega
def catL (n : Nat) (a : List (List Int)) : List (List Int) := (List.range n).map fun i => a[i]?.getD [] ++ unR n i
theorem unR_get {n i c : Nat} (h : c < n) : (unR n i)[c]?.getD 0 = if c = i then 1 else 0 := tb_get _ h
theorem unR_len (n i : Nat) : (unR n i).length = n := by simp [unR]
theorem unR_N (n i : Nat) : Ns (unR n i) := tb_N fun k _ => by split <;> exact ⟨by omega, by omega⟩
theorem catL_row {n : Nat} {a : List (List Int)} {i : Nat} (h : i < n) : (catL n a)[i]?.getD [] = a[i]?.getD [] ++ unR n i := by simp [catL, h]
theorem catL_ok {n : Nat} {a : List (List Int)} (hl : a.length = n) (hr : Rws n a) : (catL n a).length = n ∧ Rws (n + n) (catL n a) := by
  refine ⟨by simp [catL], fun x hx => ?_⟩
  obtain ⟨i, h, rfl⟩ := List.mem_map.1 hx
  have q := hr.at (show i < a.length by have : i < n := by simpa using h
                                        omega)
  refine ⟨by rw [List.length_append, q.1, unR_len], fun y hy => ?_⟩
  rcases List.mem_append.1 hy with h | h
  · exact q.2 y h
  · exact unR_N n i y h
theorem catL_mx {n : Nat} {a : List (List Int)} (hl : a.length = n) (hr : Rws n a) {r : Nat} (h : r < n) : (∀ c, c < n → mx (catL n a) r c = mx a r c) ∧ ∀ c, c < n → mx (catL n a) r (n + c) = idM r c := by
  have q := (hr.at (i := r) (by omega)).1
  have e := catL_row (a := a) h
  refine ⟨fun c hc => ?_, fun c hc => ?_⟩
  · show ((catL n a)[r]?.getD [])[c]?.getD 0 = (a[r]?.getD [])[c]?.getD 0
    rw [e, List.getElem?_append_left (by omega)]
  · show ((catL n a)[r]?.getD [])[n + c]?.getD 0 = _
    rw [e, List.getElem?_append_right (by omega), q, Nat.add_sub_cancel_left, unR_get hc]
    unfold idM
    by_cases e : c = r
    · subst e; simp
    · rw [if_neg e, if_neg (fun x => e x.symm)]
theorem cat_full {n : Nat} {a : List (List Int)} (hn : 0 < n) (hl : a.length = n) (hr : Rws n a) : (redR (n + n) 0 (catL n a, 1, 0)).2.2 = n := by
  have wo := catL_ok hl hr
  have wm := fun r h => catL_mx hl hr (r := r) h
  obtain ⟨k', h1, h2, h3⟩ := redR_GI (n + n) 0 (catL n a, 1, 0) (by omega) (GI.start wo.1 wo.2)
  rcases h2 with h2 | h2
  · subst h2
    have hd := h3.dle
    rcases Nat.lt_or_ge (redR (n + n) 0 (catL n a, 1, 0)).2.2 n with hlt | hge
    · exfalso
      have low := h3.low (n - 1) (by omega) (by omega)
      obtain ⟨s, t, k1, k2⟩ := h3.eqv
      have k3 := k2 (fun c => n + c) (fun c hc => by show n + c < n + n; omega)
      have e1 : det n (sel (mx (catL n a)) (fun c => n + c)) = 1 :=
        (det_congr (M := sel (mx (catL n a)) (fun c => n + c)) (N := idM) (fun r c hr hc => (wm r hr).2 c hc)).trans (det_one n)
      have e2 : det n (sel (mx (redR (n + n) 0 (catL n a, 1, 0)).1) (fun c => n + c)) = 0 := by
        rw [det_congr (N := updR (sel (mx (redR (n + n) 0 (catL n a, 1, 0)).1) (fun c => n + c)) (n - 1) (fun _ => 0)) (fun r c hr hc => by
          unfold updR
          by_cases e : r = n - 1
          · subst e; rw [if_pos rfl]; exact low (n + c) (by omega)
          · rw [if_neg e])]
        exact det_nil _ (show n - 1 < n by omega) (fun c => by rw [updR_at])
      rw [e1, e2, Int.one_mul] at k3
      rw [← mul_mod_l, k3] at k1
      simp at k1
    · omega
  · exact h2
def bckL (n : Nat) (R : List (List Int)) : List (List Int) := R.map fun r => r.drop n
theorem bckL_row (n : Nat) (R : List (List Int)) (i : Nat) : (bckL n R)[i]?.getD [] = (R[i]?.getD []).drop n := by
  simp only [bckL, List.getElem?_map]
  cases R[i]? <;> simp
theorem bckL_mx (n : Nat) (R : List (List Int)) (r c : Nat) : mx (bckL n R) r c = mx R r (n + c) := by
  show ((bckL n R)[r]?.getD [])[c]?.getD 0 = (R[r]?.getD [])[n + c]?.getD 0
  rw [bckL_row, List.getElem?_drop]
theorem bckL_ok {n : Nat} {R : List (List Int)} (hl : R.length = n) (hr : Rws (n + n) R) : (bckL n R).length = n ∧ Rws n (bckL n R) := by
  refine ⟨by simp [bckL, hl], fun x hx => ?_⟩
  obtain ⟨r, h, rfl⟩ := List.mem_map.1 hx
  have q := hr r h
  exact ⟨by simp [q.1], fun y hy => q.2 y (List.mem_of_mem_drop hy)⟩
theorem cat_none {n : Nat} {a : List (List Int)} (hn : 0 < n) (hl : a.length = n) (hr : Rws n a) {j : Nat} (hj : j < n) (hld : n ≤ leadL ((redR (n + n) 0 (catL n a, 1, 0)).1[j]?.getD [])) : ldet n a = 0 := by
  have wo := catL_ok hl hr
  have wm := fun r h => catL_mx hl hr (r := r) h
  obtain ⟨k', h1, h2, h3⟩ := redR_GI (n + n) 0 (catL n a, 1, 0) (by omega) (GI.start wo.1 wo.2)
  have := h3.eqv.sing (by omega) hj (fun c hc => by
    have : mx (redR (n + n) 0 (catL n a, 1, 0)).1 j c = 0 := ldF_zero _ _ 0 c (Nat.zero_le _) (Nat.lt_of_lt_of_le hc hld)
    rw [this]; rfl)
  rw [ldet_is n a hl hr, ← this]
  exact congrArg (· % 10007) (det_congr fun r c h1 h2 => ((wm r h1).1 c h2).symm)
theorem GI.oneW {n w : Nat} {W0 : Mx} {m : List (List Int)} {k : Nat} (h : GI n w W0 m n k) (hn : 0 < n) (hw : n ≤ w) (hl : leadL (m[n - 1]?.getD []) < n) : ∀ r c, r < n → c < n → mx m r c = idM r c := by
  obtain ⟨p, p1, p2, p3⟩ := h.piv
  have rl := (h.rws.at (i := n - 1) (by rw [h.len]; omega)).1
  have hl2 : ldF (m[n - 1]?.getD []) (m[n - 1]?.getD []).length 0 < n := hl
  have hl3 : n ≤ (m[n - 1]?.getD []).length := by rw [rl]; exact hw
  have hne := ldF_ne (m[n - 1]?.getD []) (m[n - 1]?.getD []).length 0 (by rw [Nat.zero_add]; exact Nat.lt_of_lt_of_le hl2 hl3)
  have hp : p (n - 1) ≤ n - 1 := by
    rcases Nat.lt_or_ge (leadL (m[n - 1]?.getD [])) (p (n - 1)) with hlt | hge
    · exact (hne (p3 (n - 1) (by omega) _ hlt)).elim
    · omega
  intro r c hr hc
  have g1 := piv_ge p2 c hc
  have g2 := piv_le p2 (n - 1 - c) c (by omega)
  have e : p c = c := by omega
  have := (p1 c hc).2 r hr
  rw [e] at this
  exact this
theorem cat_some {n : Nat} {a : List (List Int)} (hn : 0 < n) (hl : a.length = n) (hr : Rws n a) (hld : leadL ((redR (n + n) 0 (catL n a, 1, 0)).1[n - 1]?.getD []) < n) :
    ldet n a ≠ 0 ∧ ∀ v : Nat → Int, ∀ r, r < n → dsum (fun c => mx a r c * dsum (fun k => mx (bckL n (redR (n + n) 0 (catL n a, 1, 0)).1) c k * v k) n) n % 10007 = v r % 10007 := by
  have wo := catL_ok hl hr
  have wm := fun r h => catL_mx hl hr (r := r) h
  have cf := cat_full hn hl hr
  obtain ⟨k', h1, h2, h3⟩ := redR_GI (n + n) 0 (catL n a, 1, 0) (by omega) (GI.start wo.1 wo.2)
  have h3' := h3
  rw [cf] at h3'
  have hid := h3'.oneW hn (by omega) hld
  have wid := fun x => redR_unNul (x := x) (n + n) 0 (catL n a, 1, 0) (by omega) (GI.start wo.1 wo.2)
  generalize (redR (n + n) 0 (catL n a, 1, 0)).1 = R at *
  refine ⟨fun h0 => ?_, fun v r hrn => ?_⟩
  · obtain ⟨s, t, k1, k2⟩ := h3'.eqv
    have k3 := k2 id (fun c hc => by show c < n + n; omega)
    have e : ∀ X : Mx, sel X id = X := fun X => rfl
    rw [e, e, det_congr (N := mx a) (fun r c h1 h2 => (wm r h1).1 c h2), det_congr (N := idM) hid, det_one, ← mul_mod_l, ← ldet_is n a hl hr, h0] at k3
    simp at k3
  · have nr : Nul n (n + n) R (fun c => if c < n then dsum (fun k => mx (bckL n R) c k * v k) n else - v (c - n)) := fun k hk => by
      rw [dsum_split]
      have e1 : dsum (fun c => mx R k c * (if c < n then dsum (fun k => mx (bckL n R) c k * v k) n else - v (c - n))) n = dsum (fun j => mx (bckL n R) k j * v j) n := by
        rw [dsum_congr (g := fun c => idM k c * dsum (fun j => mx (bckL n R) c j * v j) n) (fun c hc => by rw [if_pos hc, hid k c hk hc]), dsum_id hk]
      have e2 : dsum (fun j => mx R k (n + j) * (if n + j < n then dsum (fun k => mx (bckL n R) (n + j) k * v k) n else - v (n + j - n))) n = (-1) * dsum (fun j => mx (bckL n R) k j * v j) n := by
        rw [dsum_mul]
        exact dsum_congr fun j hj => by
          rw [if_neg (by omega), Nat.add_sub_cancel_left, bckL_mx, Int.mul_neg]; omega
      rw [e1, e2]
      generalize dsum (fun j => mx (bckL n R) k j * v j) n = z
      have : z + -1 * z = 0 := by omega
      rw [this]; rfl
    have nu := wid _ nr r hrn
    rw [dsum_split] at nu
    have e1 : dsum (fun c => mx (catL n a) r c * (if c < n then dsum (fun k => mx (bckL n R) c k * v k) n else - v (c - n))) n = dsum (fun c => mx a r c * dsum (fun k => mx (bckL n R) c k * v k) n) n :=
      dsum_congr fun c hc => by rw [if_pos hc, (wm r hrn).1 c hc]
    have e2 : dsum (fun j => mx (catL n a) r (n + j) * (if n + j < n then dsum (fun k => mx (bckL n R) (n + j) k * v k) n else - v (n + j - n))) n = - v r := by
      rw [dsum_congr (g := fun j => idM r j * - v j) (fun j hj => by rw [if_neg (by omega), Nat.add_sub_cancel_left, (wm r hrn).2 j hj]), dsum_id hrn]
    rw [e1, e2] at nu
    generalize dsum (fun c => mx a r c * dsum (fun k => mx (bckL n R) c k * v k) n) n = z at *
    omega
def horM (m : List (List Int)) (l : List Int) : List (List Int) := l.foldl (fun M a => adU (tmM M m) a) (zeM m.length)
theorem horM_snoc (m : List (List Int)) (l : List Int) (a : Int) : horM m (l ++ [a]) = adU (tmM (horM m l) m) a := by simp [horM]
theorem horM_ok {n : Nat} {m : List (List Int)} (h0 : 0 < n) (hl : m.length = n) (hr : Rws n m) (l : List Int) : (horM m l).length = n ∧ Rws n (horM m l) := by
  have gen : ∀ (l : List Int) (M : List (List Int)), M.length = n ∧ Rws n M → (l.foldl (fun M a => adU (tmM M m) a) M).length = n ∧ Rws n (l.foldl (fun M a => adU (tmM M m) a) M) := by
    intro l
    induction l with
    | nil => intro M h; exact h
    | cons a l ih =>
      intro M h
      refine ih _ ⟨by rw [adU_len, tmM_len]; exact h.1, ?_⟩
      have t := tmM_ok M m
      rw [(hr.at (show 0 < m.length by omega)).1] at t
      exact adU_ok t a
  exact gen l _ (by rw [hl]; exact zeM_ok n)
end Go.Proofs.YtbeekabpflaihaaGreat


namespace Go.Proofs.YtbeekabpflaihaaGreat
open Go.Abs
set_option linter.unusedSectionVars false
set_option linter.unusedVariables false
set_option linter.unusedSimpArgs false
set_option maxHeartbeats 1000000
def act (n : Nat) (M : List (List Int)) (v : Nat → Int) (r : Nat) : Int := dsum (fun c => mx M r c * v c) n
theorem act_cong {n : Nat} (M : List (List Int)) {v v' : Nat → Int} (h : ∀ c, c < n → v c % 10007 = v' c % 10007) (r : Nat) : act n M v r % 10007 = act n M v' r % 10007 :=
  dsum_cong fun c hc => by rw [← mul_mod_r, h c hc, mul_mod_r]
def apF (n : Nat) (m : List (List Int)) : List Int → (Nat → Int) → Nat → Int
  | [], _, _ => 0
  | a :: l, v, r => a * v r + apF n m l (act n m v) r
theorem apF_cong {n : Nat} (m : List (List Int)) : ∀ (l : List Int) {v v' : Nat → Int}, (∀ c, c < n → v c % 10007 = v' c % 10007) → ∀ r, r < n → apF n m l v r % 10007 = apF n m l v' r % 10007
  | [], v, v', h, r, hr => rfl
  | a :: l, v, v', h, r, hr => by
    have ih := apF_cong m l (v := act n m v) (v' := act n m v') (fun c hc => act_cong m h c) r hr
    rw [apF, apF, Int.add_emod, ih, ← mul_mod_r, h r hr, mul_mod_r, ← Int.add_emod]
theorem act_tm {n : Nat} {H m : List (List Int)} (h1 : H.length = n) (h2 : Rws n H) (h3 : m.length = n) (h4 : Rws n m) (v : Nat → Int) {r : Nat} (hr : r < n) : act n (tmM H m) v r % 10007 = act n H (act n m v) r % 10007 := by
  have e1 : act n (tmM H m) v r % 10007 = dsum (fun c => dsum (fun k => mx H r k * mx m k c) n * v c) n % 10007 := dsum_cong fun c hc => by
    rw [tmM_mx h1 h2 h3 h4 hr hc, mul_mod_l]
  rw [e1]
  congr 1
  have e2 : dsum (fun c => dsum (fun k => mx H r k * mx m k c) n * v c) n = dsum (fun c => dsum (fun k => mx H r k * (mx m k c * v c)) n) n := dsum_congr fun c hc => by
    rw [Int.mul_comm, dsum_mul]
    exact dsum_congr fun k hk => by ac_rfl
  rw [e2, dsum_swap (fun c k => mx H r k * (mx m k c * v c))]
  exact dsum_congr fun k hk => by
    show dsum (fun c => mx H r k * (mx m k c * v c)) n = mx H r k * act n m v k
    rw [act, dsum_mul]
theorem act_ad {n : Nat} {T : List (List Int)} (h1 : T.length = n) (h2 : Rws n T) (a : Int) (v : Nat → Int) {r : Nat} (hr : r < n) : act n (adU T a) v r % 10007 = (act n T v r + a * v r) % 10007 := by
  have e1 : act n (adU T a) v r % 10007 = dsum (fun c => mx T r c * v c + idM r c * (a * v c)) n % 10007 := dsum_cong fun c hc => by
    rw [adU_mx h1 h2 a hr hc]
    unfold idM
    by_cases e : r = c
    · subst e; rw [if_pos rfl, if_pos rfl, mul_mod_l, Int.add_mul, Int.one_mul]
    · rw [if_neg e, if_neg e]; simp
  rw [e1, dsum_plus, dsum_id hr]
  rfl
theorem hor_act {n : Nat} {m : List (List Int)} (h0 : 0 < n) (hl : m.length = n) (hr : Rws n m) : ∀ (l : List Int) (v : Nat → Int) (r : Nat), r < n → act n (horM m l.reverse) v r % 10007 = apF n m l v r % 10007
  | [], v, r, h => by
    have : act n (horM m [].reverse) v r = 0 := dsum_zero fun c hc => by
      show mx (zeM m.length) r c * v c = 0
      rw [zeM_mx, Int.zero_mul]
    rw [this]; rfl
  | a :: l, v, r, h => by
    have ho := horM_ok h0 hl hr l.reverse
    have ih := hor_act h0 hl hr l (act n m v) r h
    have tl : (tmM (horM m l.reverse) m).length = n := by rw [tmM_len]; exact ho.1
    have tr := tmM_ok (horM m l.reverse) m
    rw [(hr.at (show 0 < m.length by omega)).1] at tr
    rw [List.reverse_cons, horM_snoc, act_ad tl tr a v h, Int.add_emod, act_tm ho.1 ho.2 hl hr v h, ih, ← Int.add_emod, apF, Int.add_comm]
def powK (m : List (List Int)) (y : List Int) : Nat → List Int
  | 0 => y
  | k + 1 => tim m (powK m y k)
def vmulS (a : List Int) (k : Int) : List Int := tb (fun i => a[i]?.getD 0 * k % 10007) a.length
def vaddS (a b : List Int) : List Int := tb (fun i => (a[i]?.getD 0 + b[i]?.getD 0) % 10007) a.length
def sumK (p : List Int) (m : List (List Int)) (y : List Int) : Nat → List Int
  | 0 => List.replicate y.length 0
  | k + 1 => vaddS (sumK p m y k) (vmulS (powK m y k) (p[k]?.getD 0))
def apL (p : List Int) (m : List (List Int)) (y : List Int) : List Int := sumK p m y p.length
theorem powK_ok {n : Nat} {m : List (List Int)} (hl : m.length = n) {y : List Int} (hy : y.length = n) (hN : Ns y) : ∀ k, (powK m y k).length = n ∧ Ns (powK m y k)
  | 0 => ⟨hy, hN⟩
  | k + 1 => ⟨by rw [powK, tim_len]; exact hl, tim_N _ _⟩
theorem sumK_ok {n : Nat} (p : List Int) (m : List (List Int)) {y : List Int} (hy : y.length = n) : ∀ k, (sumK p m y k).length = n ∧ Ns (sumK p m y k)
  | 0 => ⟨by simp [sumK, hy], fun x hx => by rw [List.eq_of_mem_replicate hx]; exact ⟨by omega, by omega⟩⟩
  | k + 1 => ⟨by rw [sumK, vaddS, tb_len]; exact (sumK_ok p m hy k).1, tb_N fun i _ => isN_mod _⟩
theorem tim_get {m : List (List Int)} (v : List Int) {r : Nat} (h : r < m.length) : (tim m v)[r]?.getD 0 = dotI (m[r]?.getD []) v % 10007 := by
  simp [tim, h]
theorem tim_act {n : Nat} {m : List (List Int)} (hl : m.length = n) (hr : Rws n m) {v : List Int} (hv : v.length = n) {r : Nat} (h : r < n) : (tim m v)[r]?.getD 0 = act n m (fun c => v[c]?.getD 0) r % 10007 := by
  rw [tim_get v (by omega), dotI_dsum _ _ n (hr.at (by omega)).1 hv]
  rfl
theorem sum_step {n : Nat} {p : List Int} {m : List (List Int)} (hl : m.length = n) (hr : Rws n m) {y : List Int} (hy : y.length = n) (hN : Ns y) : ∀ k, k ≤ p.length → ∀ r, r < n →
    ((sumK p m y k)[r]?.getD 0 + apF n m (p.drop k) (fun c => (powK m y k)[c]?.getD 0) r) % 10007 = apF n m p (fun c => y[c]?.getD 0) r % 10007
  | 0, _, r, h => by
    have : (sumK p m y 0)[r]?.getD 0 = 0 := by simp [sumK, hy, h]
    rw [this, Int.zero_add]; rfl
  | k + 1, hk, r, h => by
    rw [← sum_step hl hr hy hN k (by omega) r h]
    have pk := powK_ok hl hy hN k
    have sk := sumK_ok p m hy k
    have e0 : p.drop k = p[k]?.getD 0 :: p.drop (k + 1) := by
      rw [List.getElem?_eq_getElem (show k < p.length by omega), Option.getD_some]
      exact List.drop_eq_getElem_cons (by omega)
    have e1 : (sumK p m y (k + 1))[r]?.getD 0 = ((sumK p m y k)[r]?.getD 0 + (powK m y k)[r]?.getD 0 * p[k]?.getD 0 % 10007) % 10007 := by
      rw [sumK, vaddS, tb_get _ (by rw [sk.1]; exact h), vmulS, tb_get _ (by rw [pk.1]; exact h)]
    have e2 := apF_cong m (p.drop (k + 1)) (v := fun c => (powK m y (k + 1))[c]?.getD 0) (v' := act n m (fun c => (powK m y k)[c]?.getD 0)) (fun c hc => by
      show (tim m (powK m y k))[c]?.getD 0 % 10007 = _
      rw [tim_act hl hr pk.1 hc, Int.emod_emod_of_dvd _ (Int.dvd_refl _)]) r h
    rw [e0, apF, e1]
    generalize apF n m (p.drop (k + 1)) (fun c => (powK m y (k + 1))[c]?.getD 0) r = A at *
    generalize apF n m (p.drop (k + 1)) (act n m (fun c => (powK m y k)[c]?.getD 0)) r = B at *
    rw [Int.mul_comm (p[k]?.getD 0)]
    generalize (powK m y k)[r]?.getD 0 * p[k]?.getD 0 = z at *
    omega
theorem apL_get {n : Nat} {p : List Int} {m : List (List Int)} (hl : m.length = n) (hr : Rws n m) {y : List Int} (hy : y.length = n) (hN : Ns y) {r : Nat} (h : r < n) : (apL p m y)[r]?.getD 0 = apF n m p (fun c => y[c]?.getD 0) r % 10007 := by
  have := sum_step (p := p) hl hr hy hN p.length (Nat.le_refl _) r h
  rw [List.drop_length, apF, Int.add_zero] at this
  have q := (sumK_ok p m hy p.length).2.get r
  rw [← this]
  exact (Int.emod_eq_of_lt q.1 (by have := q.2; omega)).symm
theorem lin_law {n : Nat} {p q : List Int} {m : List (List Int)} {y : List Int} (h0 : 0 < n) (hl : m.length = n) (hr : Rws n m) (hy : y.length = n) (hN : Ns y)
    (hld : leadL ((redR (n + n) 0 (catL n (horM m q.reverse), 1, 0)).1[n - 1]?.getD []) < n) :
    ldet n (horM m q.reverse) ≠ 0 ∧ tim (tmM (bckL n (redR (n + n) 0 (catL n (horM m q.reverse), 1, 0)).1) (horM m p.reverse)) y = tb (sysF n (horM m q.reverse) (apL p m y)) n := by
  have ho := horM_ok h0 hl hr q.reverse
  have hp := horM_ok h0 hl hr p.reverse
  have wo := catL_ok ho.1 ho.2
  obtain ⟨k', g1, g2, g3⟩ := redR_GI (n + n) 0 (catL n (horM m q.reverse), 1, 0) (by omega) (GI.start wo.1 wo.2)
  have bk := bckL_ok g3.len g3.rws
  obtain ⟨c1, c2⟩ := cat_some h0 ho.1 ho.2 hld
  generalize bckL n (redR (n + n) 0 (catL n (horM m q.reverse), 1, 0)).1 = B at *
  refine ⟨c1, ?_⟩
  have apN : Ns (apL p m y) := (sumK_ok p m hy p.length).2
  have tl : (tmM B (horM m p.reverse)).length = n := by rw [tmM_len]; exact bk.1
  have tr := tmM_ok B (horM m p.reverse)
  rw [(hp.2.at (show 0 < (horM m p.reverse).length by rw [hp.1]; exact h0)).1] at tr
  have su := solve_uniq (e := act n B (act n (horM m p.reverse) (fun c => y[c]?.getD 0))) h0 ho.1 ho.2 apN c1 (fun r hrn => by
    have := c2 (act n (horM m p.reverse) (fun c => y[c]?.getD 0)) r hrn
    have e1 : dsum (fun c => mx (horM m q.reverse) r c * act n B (act n (horM m p.reverse) (fun c => y[c]?.getD 0)) c) n % 10007 = act n (horM m p.reverse) (fun c => y[c]?.getD 0) r % 10007 := this
    rw [e1, hor_act h0 hl hr p _ r hrn, apL_get hl hr hy hN hrn, Int.emod_emod_of_dvd _ (Int.dvd_refl _)])
  refine List.ext_getElem (by rw [tim_len, tb_len, tl]) fun k h1 h2 => ?_
  have hk : k < n := by rw [tb_len] at h2; exact h2
  have e1 : (tim (tmM B (horM m p.reverse)) y)[k] = (tim (tmM B (horM m p.reverse)) y)[k]?.getD 0 := by rw [List.getElem?_eq_getElem h1, Option.getD_some]
  have e2 : (tb (sysF n (horM m q.reverse) (apL p m y)) n)[k] = sysF n (horM m q.reverse) (apL p m y) k := by simp [tb]
  rw [e1, e2, tim_act tl tr hy hk, act_tm bk.1 bk.2 hp.1 hp.2 _ hk]
  exact (su k hk).symm
end Go.Proofs.YtbeekabpflaihaaGreat


namespace Go.Proofs.YtbeekabpflaihaaGreat
open Go.Abs
set_option linter.unusedSectionVars false
set_option linter.unusedVariables false
set_option linter.unusedSimpArgs false
set_option maxHeartbeats 4000000
theorem flL_two (a b : List Int) : flL [a, b] 2 = a ++ b := by simp [flL]
theorem omat_cat_succ (n : Nat) (a : List (List Int)) (i : Nat) (h : (a[i]?.getD []).length = n) : omat ((List.range (i + 1)).map fun i => a[i]?.getD [] ++ unR n i) = omat ((List.range i).map fun i => a[i]?.getD [] ++ unR n i) ++ [.own 2 (n + n) (avs (a[i]?.getD [] ++ unR n i))] := by
  have := omat_range_succ (fun i => a[i]?.getD [] ++ unR n i) i
  rw [List.length_append, h, unR_len] at this
  exact this
set_option maxRecDepth 100000 in
theorem inverse_w {n : Nat} (a : List (List Int)) (h0 : 0 < n) (hl : a.length = n) (hn : n ≤ 100) (hr : Rws n a) {R : List (List Int)} {dt : Int} (x : AV)
    (hst : redR (n + n) 0 (catL n a, 1, 0) = (R, dt, n)) (gl : R.length = n) (gr : Rws (n + n) R) (hf : freshOK x = true)
    (hA : leadL (R[n - 1]?.getD []) < n → x = .tup [.own 22 n (omat (bckL n R)), .bool true])
    (hB : ∀ j, j < n → n ≤ leadL (R[j]?.getD []) → x = .tup [.val (.slice none 0 0), .bool false]) :
    Con Tryz.prog 75 [.sl a.length (mat a)] x := by
  have wo := catL_ok (n := n) (a := a) hl hr
  have cR := reduce_c (w := n + n) (catL n a) (by omega) (by omega) (by omega) wo.2
  have hw : catL n a = (List.range n).map fun i => a[i]?.getD [] ++ unR n i := rfl
  have ne : ¬ a = [] := by rintro rfl; simp at hl; omega
  rw [wo.1, hst] at cR
  simp only at cR
  have ht : R.take n = R := List.take_of_length_le (by omega)
  rw [ht] at cR
  have rp := avs_repl n 0
  refine con_of_vc Tryz.mixed ⟨13, [36], [1000000 + 140], []⟩ Tryz.func75 (by decide) rfl (by simp) (by decide) hf ?_
  rw [Tryz.ntmps75]
  simp [go_sem]
  refine loop_inv ([4, 5, 6, 7] ++ List.range' 16 19) (fun i : Nat => [(4, .own 22 i (omat ((List.range i).map fun i => a[i]?.getD [] ++ unR n i))), (16, .int i)]) (fun i => i ≤ n) (fun i => n - i) 0 (by simp) (by simp [go_sem, omat]) (by simp [go_sem]) ?_
  intro i hi
  by_cases hin : i < n
  · have hii : (i : Int) < a.length := by omega
    have hia : i < a.length := by omega
    have ri := (hr.at hia).1
    have cC := Concat_c [a[i]?.getD [], unR n i] (by show 0 < (flL [_, _] 2).length; rw [flL_two, List.length_append, unR_len]; omega) (by show (flL [_, _] 2).length ≤ _; rw [flL_two, List.length_append, unR_len]; omega) (by simp)
    have cl2 : [a[i]?.getD [], unR n i].length = 2 := rfl
    rw [cl2, flL_two, List.length_append, unR_len, ri] at cC
    have ho := omat_cat_succ n a i ri
    have rs := unR_set hin
    have mm : mat [a[i]?.getD [], unR n i] = [.sl n (avs (a[i]?.getD [])), .sl n (avs (unR n i))] := by simp [mat, ri, unR_len]
    rw [mm] at cC
    have hrw : a[i]'hia = a[i]?.getD [] := by simp [hia]
    generalize hrow : a[i]?.getD [] = row at *
    simp [go_sem, hii, mat_drop hia, hrow, hrw, hl, ri, hin, rp, avs_set, rs]
    refine ⟨ne, ⟨by omega, by omega⟩, ?_⟩
    refine CallVC.of (cC) (by decide) ?_
    simp [go_sem]
    exact ⟨⟨by omega, by omega⟩, ⟨by omega, by omega⟩, i + 1, by omega, by omega, Off_reset _ _ _ (by simp), by rw [ho]; exact ⟨rfl, rfl⟩, by omega⟩
  · have e : i = n := by omega
    subst e
    have hii : ¬ (i : Int) < a.length := by omega
    rw [← hw]
    simp [go_sem, hii]
    refine ⟨_, _, cR, ?_⟩
    simp [go_sem]
    refine loop_inv ([2, 3, 10, 12] ++ List.range' 43 18) (fun j : Nat => [(10, .own 22 j (omat (bckL i (R.take j)))), (43, .int j)]) (fun j => j ≤ i ∧ ∀ t, t < j → leadL (R[t]?.getD []) < i) (fun j => i - j) 0 ⟨by omega, fun t ht => by omega⟩ (by simp [go_sem, bckL, omat]) (by simp [go_sem]) ?_
    rintro j ⟨hj, hp⟩
    by_cases hjn : j < i
    · have hji : (j : Int) < i := by omega
      have hR1 := rmat_get (A := R) (k := j) (by omega)
      have rr := gr.at (show j < R.length by omega)
      have hL := leadL_c (R[j]?.getD []) (by omega)
      have hne : ¬ R = [] := by rintro rfl; simp at gl; omega
      have hj2 : j < R.length := by omega
      have ha0 : a.length = i := hl
      have dc : Con Tryz.prog 64 [.sl ((R[j]?.getD []).drop i).length (avs ((R[j]?.getD []).drop i))] (.own 2 ((R[j]?.getD []).drop i).length (avs ((R[j]?.getD []).drop i))) := Clone_c _ (by rw [List.length_drop]; omega)
      have dl : ((R[j]?.getD []).drop i).length = i := by rw [List.length_drop, rr.1]; omega
      rw [dl] at dc
      by_cases hld : leadL (R[j]?.getD []) < i
      · have hld2 : ¬ i ≤ leadL (R[j]?.getD []) := by omega
        generalize hrow : R[j]?.getD [] = row at *
        have dl2 : row.length - i = i := by omega
        have dl3 : i ≤ row.length := by omega
        have hsl : List.take i (List.drop i (avs row)) = avs (row.drop i) := by
          rw [List.take_of_length_le (by simp [avs]; omega)]
          simp [avs, List.map_drop]
        have bt : bckL i (R.take (j + 1)) = bckL i (R.take j) ++ [row.drop i] := by
          unfold bckL
          rw [List.take_add_one, List.map_append, List.getElem?_eq_getElem hj2]
          rw [List.getElem?_eq_getElem hj2] at hrow
          simp at hrow
          simp [hrow]
        have ob : omat (bckL i (R.take (j + 1))) = omat (bckL i (R.take j)) ++ [.own 2 i (avs (row.drop i))] := by
          rw [bt]
          unfold omat
          rw [List.map_append]
          simp [dl2]
        simp [go_sem, hji, hR1]
        refine CallVC.of (hL) (by decide) ?_
        simp [go_sem]
        have bl : (bckL i (R.take j)).length = j := by simp [bckL, gl]; omega
        simp [go_sem, ha0, hld2, dl2, hsl]
        refine ⟨dl3, ?_⟩
        refine CallVC.of (dc) (by decide) ?_
        simp [go_sem]
        exact ⟨⟨by omega, by omega⟩, ⟨by omega, by omega⟩, j + 1, ⟨by omega, fun t ht => by rcases Nat.lt_or_ge t j with h | h; exact hp t h; obtain rfl : t = j := (by omega); rw [hrow]; exact hld⟩, by omega, Off_reset _ _ _ (by simp), by rw [ob]; exact ⟨rfl, rfl⟩, by omega⟩
      · have hx := hB j hjn (by omega)
        have hld2 : i ≤ leadL (R[j]?.getD []) := by omega
        subst hx
        generalize hrow : R[j]?.getD [] = row at *
        simp [go_sem, hji, hR1]
        refine CallVC.of (hL) (by decide) ?_
        simp [go_sem]
        simp [go_sem, ha0, hld2]
    · have e : j = i := by omega
      subst e
      have hji : ¬ (j : Int) < j := by omega
      have hx := hA (hp (j - 1) (by omega))
      have htk : R.take j = R := List.take_of_length_le (by omega)
      have ha0 : a.length = j := hl
      subst hx
      simp [go_sem, hji, htk, ha0]
def invL (n : Nat) (a : List (List Int)) : List (List Int) := bckL n (redR (n + n) 0 (catL n a, 1, 0)).1
def invB (n : Nat) (a : List (List Int)) : Bool := decide (leadL ((redR (n + n) 0 (catL n a, 1, 0)).1[n - 1]?.getD []) < n)
theorem invB_is {n : Nat} {a : List (List Int)} (h0 : 0 < n) (hl : a.length = n) (hr : Rws n a) : invB n a = decide (ldet n a ≠ 0) := by
  unfold invB
  by_cases h : leadL ((redR (n + n) 0 (catL n a, 1, 0)).1[n - 1]?.getD []) < n
  · have := (cat_some h0 hl hr h).1
    simp [h, this]
  · have := cat_none h0 hl hr (j := n - 1) (by omega) (by omega)
    simp [h, this]
theorem inverseOf_c {n : Nat} (a : List (List Int)) (h0 : 0 < n) (hl : a.length = n) (hn : n ≤ 100) (hr : Rws n a) :
    Con Tryz.prog 75 [.sl a.length (mat a)] (if invB n a = true then .tup [.own 22 n (omat (invL n a)), .bool true] else .tup [.val (.slice none 0 0), .bool false]) := by
  have wo := catL_ok (n := n) (a := a) hl hr
  have cf := cat_full h0 hl hr
  have cN : ∀ j, j < n → n ≤ leadL ((redR (n + n) 0 (catL n a, 1, 0)).1[j]?.getD []) → ldet n a = 0 := fun j hj => cat_none h0 hl hr hj
  have iB := invB_is h0 hl hr
  obtain ⟨k', g1, g2, g3⟩ := redR_GI (n + n) 0 (catL n a, 1, 0) (by omega) (GI.start wo.1 wo.2)
  have gl := g3.len
  have gr := g3.rws
  clear g3 g1 g2
  unfold invL
  have iB2 : invB n a = decide (leadL ((redR (n + n) 0 (catL n a, 1, 0)).1[n - 1]?.getD []) < n) := rfl
  generalize hst : redR (n + n) 0 (catL n a, 1, 0) = st at *
  obtain ⟨R, dt, dn⟩ := st
  simp only at cf cN gl gr iB2
  subst cf
  refine inverse_w a h0 hl hn hr _ hst gl gr (by split <;> simp [freshOK, freshL]) (fun h => ?_) (fun j hj h => ?_)
  · rw [iB2, decide_eq_true h]; rfl
  · rw [iB, if_neg (by simp [cN j hj h])]
end Go.Proofs.YtbeekabpflaihaaGreat


namespace Go.Proofs.YtbeekabpflaihaaGreat
open Go.RowKit Go.Shelf Go.Abs
set_option linter.unusedSectionVars false
set_option linter.unusedVariables false
set_option linter.unusedSimpArgs false
attribute [local go_sem] Oper.semAt_some
def upto {α : Type} (f : Nat → α) (k : Nat) : List α := (List.range k).map f
theorem upto_succ {α : Type} (f : Nat → α) (k : Nat) : upto f (k + 1) = upto f k ++ [f k] := by simp [upto, List.range_succ]
theorem upto_length {α : Type} (f : Nat → α) (k : Nat) : (upto f k).length = k := by simp [upto]
abbrev BkT := Int × { a : Int // isN a }
def bkF {zs : List Int} (hN : Ns zs) (len : Nat) (j : Nat) : BkT := ((len : Int) - 1 - j, ⟨zs[len - 1 - j]?.getD 0, hN.get _⟩)
def KpC (Bs b : Nat) (A B : World) : Prop := (∀ v, A.cell? ⟨Bs, 0, none⟩ = some v → B.cell? ⟨Bs, 0, none⟩ = some v) ∧ ∀ j v, A.cell? ⟨b, j, none⟩ = some v → B.cell? ⟨b, j, none⟩ = some v
theorem KpC.trans {Bs b : Nat} {A B C : World} (h : KpC Bs b A B) (k : KpC Bs b B C) : KpC Bs b A C := ⟨fun v hv => k.1 v (h.1 v hv), fun j v hv => k.2 j v (h.2 j v hv)⟩
theorem KpC.book {Bs b : Nat} (W : World) (l : Nat) (o o' : Obj) (hl : W.heap[l]? = some o) (ho : o.isCells = false) : KpC Bs b W (W.putObj l o') :=
  ⟨fun v hv => cell_kept hv (grownBy_putObj' W l o') (fun r e => by cases e; exact ⟨o, hl, ho⟩), fun j v hv => cell_kept hv (grownBy_putObj' W l o') (fun r e => by cases e; exact ⟨o, hl, ho⟩)⟩
theorem KpC.refl (Bs b : Nat) (W : World) : KpC Bs b W W := ⟨fun _ h => h, fun _ _ h => h⟩
set_option maxRecDepth 100000 in
set_option maxHeartbeats 2000000 in
theorem back1_in (F : Fence) (n : Nat) (h7 : F.fn 189) (hro : F.round = none) (hn : 1 ≤ n) (l Bs b off len cap : Nat) (zs : List Int) (hN : Ns zs) (hreach : len * 8 ≤ 140737488351232) (J Jx : List BkT → World → Prop)
    (hY : ∀ pre x W, J pre W → pre.length < len → YieldAt F (n - 1) Tryz.prog l #[.int .i64 x.1, .int .i64 x.2.1] W fun e W' =>
      (e = .returned (.bool true) ∧ J (pre ++ [x]) W' ∧ KpC Bs b W W') ∨ (e = .returned (.bool false) ∧ Jx (pre ++ [x]) W'))
    (W : World) (hBs : W.cell? ⟨Bs, 0, none⟩ = some (.slice (some ⟨b, off, none⟩) len cap)) (hc : ∀ j, j < len → W.cell? ⟨b, off + j, none⟩ = some (.int .i64 (zs[j]?.getD 0))) (h0 : J [] W) :
    CallsIn F n Tryz.prog 189 #[.func (.yield l) #[] #[], .pointer (some ⟨Bs, 0, none⟩)] W fun e W' => (∃ v, e = .returned v) ∧
      ((∃ ys, ys = upto (bkF hN len) len ∧ J ys W') ∨ (∃ pre, (∃ k, k ≤ len ∧ pre = upto (bkF hN len) k) ∧ Jx pre W')) := by
  refine callsIn_of_wp Tryz.func189 rfl h7 ?_ hro
  simp only [Tryz.ntmps189, List.size_toArray, List.length_cons, List.length_nil, Nat.reduceAdd, Nat.reduceSub, Array.replicate_succ, Array.replicate_zero, List.push_toArray, List.append_toArray, List.nil_append, List.cons_append]
  gi_wp2
  gi_loopw [3] (fun i wr => ∃ k : Nat, k ≤ len ∧ i = .int .i64 ((len : Int) - 1 - k) ∧ J (upto (bkF hN len) k) wr ∧ KpC Bs b W wr)
    (fun i _ => (intOf i + 1).toNat)
  case atStart =>
    exact ⟨0, Nat.zero_le _, by simp, h0, KpC.refl _ _ _⟩
  case round =>
    obtain ⟨k, hk, rfl, hJs, hnx⟩ := hrel
    have hBx : wr.cell? ⟨Bs, 0, none⟩ = some (.slice (some ⟨b, off, none⟩) len cap) := hnx.1 _ hBs
    by_cases hlt : k < len
    · have hcx : wr.cell? ⟨b, off + (len - 1 - k), none⟩ = some (.int .i64 (zs[len - 1 - k]?.getD 0)) := hnx.2 _ _ (hc _ (by omega))
      obtain ⟨fn, tmps, assign, body, hy, hR⟩ := hY _ (bkF hN len k) wr hJs (by rw [upto_length]; exact hlt)
      dsimp only [bkF] at hy
      have ek : (len : Int) - 1 - k = ((len - 1 - k : Nat) : Int) := by omega
      have hlt2 : len - 1 - k < len := by omega
      rw [ek] at hy
      gi_wp2
      refine hR.mono ?_
      rintro e W3 (⟨rfl, hJ3, hk3⟩ | ⟨rfl, hJx3⟩)
      · gi_wp2
        go_roundw
        case rel => exact ⟨k + 1, by omega, by simp; omega, by rw [upto_succ]; exact hJ3, hnx.trans hk3⟩
        case measure => simp [intOf]; omega
      · gi_wp2
        refine bodyPost_ret (results_none rfl _ _ _) rfl ?_
        exact ⟨⟨_, rfl⟩, .inr ⟨_, ⟨k + 1, by omega, (upto_succ _ _).symm⟩, hJx3⟩⟩
    · obtain rfl : k = len := by omega
      gi_wp2
      go_end0
      exact ⟨⟨_, rfl⟩, .inl ⟨_, rfl, hJs⟩⟩
set_option maxHeartbeats 1000000 in
theorem back_in (F : Fence) (n : Nat) (h5 : F.fn 143) (hro : F.round = none) (a : Option Addr) (len cap : Nat) (w : World) :
    CallsIn F n Tryz.prog 143 #[.slice a len cap] w fun e w' => e = .returned (.func (.func 189) #[] #[.pointer (some ⟨w.heap.size, 0, none⟩)]) ∧ w' = w.alloc (.cells #[.slice a len cap] 22) := by
  refine callsIn_of_wp Tryz.func143 rfl h5 ?_ hro
  simp only [Tryz.ntmps143, List.size_toArray, List.length_cons, List.length_nil, Nat.reduceAdd, Nat.reduceSub, Array.replicate_succ, Array.replicate_zero, List.push_toArray, List.append_toArray, List.nil_append, List.cons_append]
  gi_wp2
  go_ret
  exact ⟨rfl, rfl⟩
theorem back_stops (F : Fence) (n : Nat) (h7 : F.fn 189) (hro : F.round = none) (hn : 1 ≤ n) (Bs b off cap : Nat) (zs : List Int) (hN : Ns zs) (hreach : zs.length * 8 ≤ 140737488351232) (w : World) (hBs : Bs < w.heap.size) (hb : b < w.heap.size)
    (hc : w.cell? ⟨Bs, 0, none⟩ = some (.slice (some ⟨b, off, none⟩) zs.length cap)) (hz : ∀ j, j < zs.length → w.cell? ⟨b, off + j, none⟩ = some (.int .i64 (zs[j]?.getD 0))) :
    SeqStopsK F n Tryz.prog 189 #[.pointer (some ⟨Bs, 0, none⟩)] (fun x : BkT => #[Value.int .i64 x.1, Value.int .i64 x.2.1]) (KpC Bs b) (fun ys => ys = upto (bkF hN zs.length) zs.length)
      (fun pre => ∃ k, k ≤ zs.length ∧ pre = upto (bkF hN zs.length) k) zs.length w := fun l J Jx W hW _ _ hY h0 =>
  back1_in F n h7 hro hn l Bs b off zs.length cap zs hN hreach J Jx hY W ((hW.cell (p := ⟨Bs, 0, none⟩) hBs).trans hc) (fun j hj => (hW.cell (p := ⟨b, off + j, none⟩) hb).trans (hz j hj)) h0
end Go.Proofs.YtbeekabpflaihaaGreat


namespace Go.Proofs.YtbeekabpflaihaaGreat
open Go.RowKit Go.Shelf Go.Abs
set_option linter.unusedSectionVars false
set_option linter.unusedVariables false
set_option linter.unusedSimpArgs false
attribute [local go_sem] Oper.semAt_some
end Go.Proofs.YtbeekabpflaihaaGreat


namespace Go.Proofs.YtbeekabpflaihaaGreat
open Go.Abs
set_option linter.unusedSectionVars false
set_option linter.unusedVariables false
set_option linter.unusedSimpArgs false
set_option maxHeartbeats 4000000
def lesM (A : List (List Int)) (B : List Int) : List (List Int) := (List.range A.length).map fun i => plusS (A[i]?.getD []) B (-1)
theorem Tab.rws {A : List (List Int)} {B : List Int} (h : Tab A B) : Rws B.length A := h.a
theorem lesM_ok {A : List (List Int)} {B : List Int} (h : Tab A B) : (lesM A B).length = B.length ∧ Rws B.length (lesM A B) := by
  refine ⟨by simp [lesM, h.len], fun x hx => ?_⟩
  obtain ⟨i, hi, rfl⟩ := List.mem_map.1 hx
  exact ⟨by rw [plusS_len]; exact (h.rws.at (show i < A.length by simpa using hi)).1, plusS_N _ _ _⟩
set_option maxRecDepth 100000 in
theorem fraction_c (A : List (List Int)) (B : List Int) (h : Tab A B) : Con Tryz.prog 74 [.agg [.sl A.length (mat A), .sl B.length (avs B)]]
    (.tup [.own 2 (B.length + 1) (avs (chL B.length (lesM A B))), .own 2 (B.length + 1) (avs (chL B.length A))]) := by
  have b1 := h.pos
  have b8 := h.le
  have ab := h.len
  have rw1 := h.rws
  have lo := lesM_ok h
  have c1 := unitLess_c (n := B.length) (lesM A B) (by omega) b8 lo.1 lo.2
  have c2 := unitLess_c (n := B.length) A (by omega) b8 ab rw1
  have c1 : Con Tryz.prog 138 [.sl A.length (mat (lesM A B))] (.own 2 (B.length + 1) (avs (chL B.length (lesM A B)))) := by rw [lo.1] at c1; rw [ab]; exact c1
  have hd : lesM A B = (List.range A.length).map fun i => plusS (A[i]?.getD []) B (-1) := rfl
  have bN := h.b
  refine con_of_vc Tryz.mixed ⟨7, [], [], []⟩ Tryz.func74 (by decide) rfl (by simp) (by decide) (by simp [freshOK, freshL, go_sem]) ?_
  rw [Tryz.ntmps74]
  simp [go_sem]
  refine loop_inv ([4, 6] ++ List.range' 11 12) (fun i : Nat => [(4, .own 22 i (omat ((List.range i).map fun i => plusS (A[i]?.getD []) B (-1)))), (11, .int i)]) (fun i => i ≤ A.length) (fun i => A.length - i) 0 (by simp) (by simp [go_sem, omat]) (by simp [go_sem]) ?_
  intro i hi
  by_cases hin : i < A.length
  · have hii : (i : Int) < A.length := by omega
    have ri := rw1.at hin
    have ane : ¬ A = [] := by rintro rfl; simp at hin
    have cP := plus_c (A[i]?.getD []) B (-1) ri.2 bN ⟨by omega, by omega⟩ (by omega) (by omega)
    have os := omat_range_succ (fun i => plusS (A[i]?.getD []) B (-1)) i
    rw [plusS_len] at os
    simp [go_sem, hii, mat_drop hin]
    refine ⟨ane, ?_⟩
    refine CallVC.of (cP) (by decide) ?_
    simp [go_sem]
    exact ⟨⟨by omega, by omega⟩, by omega, i + 1, by omega, by omega, Off_reset _ _ _ (by simp), by rw [os]; exact ⟨rfl, rfl⟩, by omega⟩
  · have e : i = A.length := by omega
    subst e
    rw [← hd]
    simp [go_sem]
    refine ⟨by kernel_rfl, ?_⟩
    refine CallD.of (c1) (by simp [roots, rootsL]) (by decide) ?_
    simp [go_sem]
    refine CallD.of (c2) (by simp [roots, rootsL]) (by decide) ?_
    simp [go_sem]
    refine ⟨by kernel_rfl, ?_⟩
    simp [go_sem]
end Go.Proofs.YtbeekabpflaihaaGreat


namespace Go.Proofs.YtbeekabpflaihaaGreat
open Go.Abs
set_option linter.unusedSectionVars false
set_option linter.unusedVariables false
set_option linter.unusedSimpArgs false
set_option maxHeartbeats 4000000
theorem RepL_avs {P : Program} {w : World} {F : Nat → Prop} : ∀ {zs : List Int} {vs : List Value} {os : List Nat}, RepL P w F (avs zs) vs os → ∀ j, j < zs.length → vs[j]? = some (.int .i64 (zs[j]?.getD 0))
  | [], _, _, _, j, hj => by simp at hj
  | z :: zs, vs, os, h, j, hj => by
    have e : avs (z :: zs) = .val (.int .i64 z) :: avs zs := rfl
    rw [e] at h
    cases h with
    | cons c v o cs vs os' h t =>
      cases h with
      | val _ _ =>
        cases j with
        | zero => rfl
        | succ j => exact RepL_avs t j (by simpa using hj)
theorem back_list {zs : List Int} (hN : Ns zs) : (upto (bkF hN zs.length) zs.length).map (·.2.1) = zs.reverse := by
  refine List.ext_getElem (by simp [upto]) fun k h1 h2 => ?_
  have hk : k < zs.length := by simpa using h2
  have h3 : zs.length - 1 - k < zs.length := by omega
  simp [upto, bkF, h3]
end Go.Proofs.YtbeekabpflaihaaGreat


namespace Go.Proofs.YtbeekabpflaihaaGreat
open Go.RowKit Go.Shelf Go.Abs
set_option linter.unusedSectionVars false
set_option linter.unusedVariables false
set_option linter.unusedSimpArgs false
attribute [local go_sem] Oper.semAt_some
theorem avs_os {P : Program} {w : World} {F : Nat → Prop} {r : List Int} {vs : List Value} {os : List Nat} (h : RepL P w F (avs r) vs os) : os = [] := by
  induction r generalizing vs os with
  | nil => cases h; rfl
  | cons a r ih =>
    have e : avs (a :: r) = .val (.int .i64 a) :: avs r := rfl
    rw [e] at h
    cases h with
    | cons c v o cs vs os' h t =>
      cases h with
      | val _ _ => rw [ih t]; rfl
theorem omat_cells {P : Program} {w : World} {F : Nat → Prop} : ∀ {M : List (List Int)} {vs : List Value} {os : List Nat}, RepL P w F (omat M) vs os → ∀ b ∈ os, ∃ o, w.heap[b]? = some o ∧ o.isCells = true
  | [], vs, os, h => by cases h; intro b hb; simp at hb
  | r :: M, vs, os, h => by
    have e : omat (r :: M) = .own 2 r.length (avs r) :: omat M := rfl
    rw [e] at h
    cases h with
    | cons c v o cs vs os' h t =>
      intro b hb
      rcases List.mem_append.1 hb with hb | hb
      · generalize hc : avs r = ac at h
        generalize hl : r.length = n at h
        cases h with
        | own0 _ => simp at hb
        | own bb _ _ cap c _ os2 hbb hn hcc hll =>
          subst hc
          rw [avs_os hll] at hb
          have : b = bb := by simpa using hb
          subst this
          exact ⟨_, hbb, rfl⟩
      · exact omat_cells t b hb
theorem own_cells {P : Program} {w : World} {F : Nat → Prop} {e : TypeId} {n : Nat} {M : List (List Int)} {v : Value} {os : List Nat} (h : RepC P w F (.own e n (omat M)) v os) : ∀ b ∈ os, ∃ o, w.heap[b]? = some o ∧ o.isCells = true := by
  generalize hc : omat M = ac at h
  cases h with
  | own0 _ => intro b hb; simp at hb
  | own bb _ _ cap c _ os2 hbb hn hcc hll =>
    subst hc
    intro b hb
    rcases List.mem_cons.1 hb with rfl | hb
    · exact ⟨_, hbb, rfl⟩
    · exact omat_cells hll b hb
theorem Con.ownC {f : FuncId} {args : List AV} {e : TypeId} {n : Nat} {M : List (List Int)} (h0 : 0 < n) (h : Con Tryz.prog f args (.own e n (omat M))) (w : World) (vs : List Value) (hl : args.length = vs.length)
    (ha : ∀ tm oss, RepTL Tryz.prog w (fun b => b < w.heap.size) tm oss args vs []) :
    Calls Tryz.prog f vs.toArray w fun x w' => ∃ bb cap os, x = .returned (.slice (some ⟨bb, 0, none⟩) n cap) ∧ Below w.heap.size w w' ∧ RepC Tryz.prog w' (fun _ => False) (.own e n (omat M)) (.slice (some ⟨bb, 0, none⟩) n cap) os ∧ os.Nodup ∧ ∀ b ∈ os, w.heap.size ≤ b ∧ b < w'.heap.size := by
  refine (h.2 w vs hl ha).mono ?_
  rintro x w' ⟨v, os, rfl, hx, hr, hn, ho⟩
  have := (hr (fun _ => undef) (fun _ => [])).fresh (F' := fun _ => False) (by simp [freshOK])
  generalize hc : AV.own e n (omat M) = c at this
  cases this with
  | cell _ _ _ k =>
    subst hc
    generalize hc : omat M = ac at k
    cases k with
    | own0 _ => omega
    | own bb _ _ cap c _ os2 hbb hn2 hcc hll => subst hc; exact ⟨bb, cap, _, rfl, hx.below, .own bb e n cap c _ os2 hbb hn2 hcc hll, hn, ho⟩
  | any v => simp at hc
  | agg => simp at hc
  | tup => simp at hc
  | fn => simp at hc
  | bor => simp at hc
  | ptr => simp at hc
  | slp => simp at hc
def stA (B0 B1 : Nat) (vm : Value) (n0 n : Nat) (M : List (List Int)) (W : World) : Prop :=
  ∃ bb cap os, W.cell? ⟨B1, 0, none⟩ = some (.slice (some ⟨bb, 0, none⟩) n cap) ∧ W.frozen? ⟨B1, 0, none⟩ = false ∧ W.cell? ⟨B0, 0, none⟩ = some vm ∧ RepC Tryz.prog W (fun _ => False) (.own 22 n (omat M)) (.slice (some ⟨bb, 0, none⟩) n cap) os ∧ os.Nodup ∧ ∀ b ∈ os, n0 ≤ b
theorem stA_own (B0 B1 : Nat) (vm : Value) (n0 n : Nat) {α : Type} (g : α → List (List Int)) : Own (fun (x : α) W => stA B0 B1 vm n0 n (g x) W) := by
  rintro s A B row ⟨bb, cap, os, h1, h2, h3, h4, h5, h6⟩ hg hr
  refine ⟨bb, cap, os, cell_kept h1 hg hr, (frozen_kept h1 hg hr).trans h2, cell_kept h3 hg hr, h4.mono (fun _ h => h) (fun b hb => ?_), h5, h6⟩
  rcases hb with hb | hb
  · exact hb.elim
  · obtain ⟨o, ho, hc⟩ := own_cells h4 b hb
    exact grownBy_keeps_cells hg hr ho hc
theorem own_lt {W : World} {F : Nat → Prop} {e : TypeId} {n : Nat} {M : List (List Int)} {v : Value} {os : List Nat} (h : RepC Tryz.prog W F (.own e n (omat M)) v os) : ∀ b ∈ os, b < W.heap.size := fun b hb => by
  obtain ⟨o, ho, _⟩ := own_cells h b hb
  exact (Array.getElem?_eq_some_iff.1 ho).1
theorem own_sl {W : World} {e : TypeId} {n : Nat} {M : List (List Int)} {v : Value} {os : List Nat} (h : RepC Tryz.prog W (fun _ => False) (.own e n (omat M)) v os) : RepC Tryz.prog W (fun b => b < W.heap.size) (.sl n (mat M)) v [] := by
  have := h.frz (F' := fun b => b < W.heap.size) (fun _ h => h.elim) (own_lt h)
  rwa [frz, omat_frz] at this
set_option maxRecDepth 100000 in
set_option maxHeartbeats 4000000 in
theorem atMatrix_calls {n : Nat} (zs : List Int) (m : List (List Int)) (b off cap bm offm capm : Nat) (w : World) (hreach : zs.length * 8 ≤ 140737488351232) (hb : b < w.heap.size) (hc : ∀ j, j < zs.length → w.cell? ⟨b, off + j, none⟩ = some (.int .i64 (zs[j]?.getD 0))) (hN : Ns zs)
    (h0 : 0 < n) (hn : n ≤ 64) (hml : m.length = n) (hmr : Rws n m) (hm : RepC Tryz.prog w (fun b => b < w.heap.size) (.sl m.length (mat m)) (.slice (some ⟨bm, offm, none⟩) m.length capm) []) :
    Calls Tryz.prog 76 #[.slice (some ⟨b, off, none⟩) zs.length cap, .slice (some ⟨bm, offm, none⟩) m.length capm] w fun e W' => ∃ v os, e = .returned v ∧ Below w.heap.size w W' ∧
      RepC Tryz.prog W' (fun _ => False) (.own 22 m.length (omat (horM m ((upto (bkF hN zs.length) zs.length).map (·.2.1))))) v os ∧ os.Nodup ∧ ∀ b ∈ os, w.heap.size ≤ b ∧ b < W'.heap.size := by
  have cZ := zeroMatrix_c n hn
  refine (callsIn_wide (n := 9)).1 ?_
  refine callsIn_of_wp_marks Tryz.func76 rfl trivial ?_ rfl
  simp only [Tryz.ntmps76, List.size_toArray, List.length_cons, List.length_nil, Nat.reduceAdd, Nat.reduceSub, Array.replicate_succ, Array.replicate_zero, List.push_toArray, List.append_toArray, List.nil_append, List.cons_append]
  subst hml
  have bM := Boxed.new w 27 (.slice (some ⟨bm, offm, none⟩) m.length capm)
  gi_wp2_with (refine ⟨trivial, ?_⟩; gi_at_call 142; refine (callsIn_wide.2 (Con.ownC h0 cZ _ [.int .i64 m.length] rfl (fun tm oss => .cons _ _ [] _ _ [] (.cell _ _ _ (.val _ rfl)) (.nil _)))).mono ?_; rintro e w1 ⟨b0, cap0, os0, rfl, hb1, hr0, hn0, ho0⟩)
  gi_wp2_with (refine ⟨trivial, ?_⟩; gi_at_call 143; refine (back_in Fence.wide _ trivial rfl _ _ _ _).mono ?_; rintro e w' ⟨rfl, rfl⟩)
  have l1 : w.heap.size < w1.heap.size := by have := hb1.size; simp at this; omega
  have bS := Boxed.new w1 27 (.slice (some ⟨b0, 0, none⟩) m.length cap0)
  have bN := Boxed.new (w1.alloc (.cells #[.slice (some ⟨b0, 0, none⟩) m.length cap0] 27)) 22 (.slice (some ⟨b, off, none⟩) zs.length cap)
  simp only [World.size_alloc] at bN
  have hB1 : Below w.heap.size w w1 := ((Below.refl _ w).alloc (Nat.le_refl _) _).trans (hb1.mono (by simp))
  have hB0 : Below w.heap.size w ((w1.alloc (.cells #[.slice (some ⟨b0, 0, none⟩) m.length cap0] 27)).alloc (.cells #[.slice (some ⟨b, off, none⟩) zs.length cap] 22)) := (hB1.alloc (by omega) _).alloc (by simp; omega) _
  have hA1 : Below w1.heap.size w1 ((w1.alloc (.cells #[.slice (some ⟨b0, 0, none⟩) m.length cap0] 27)).alloc (.cells #[.slice (some ⟨b, off, none⟩) zs.length cap] 22)) := ((Below.refl _ w1).alloc (Nat.le_refl _) _).alloc (by simp) _
  have bS2 := bS.alloc (.cells #[.slice (some ⟨b, off, none⟩) zs.length cap] 22)
  have cM := (hA1.cell (p := ⟨w.heap.size, 0, none⟩) l1).trans ((hb1.cell (p := ⟨w.heap.size, 0, none⟩) (by simp)).trans bM.cell)
  refine wpIn_rangeFunc_ownG (F := Fence.wide) rfl (show 1 ≤ 9 by omega) (gf := 189) (lb := #[.pointer (some ⟨w1.heap.size + 1, 0, none⟩)]) rfl trivial (enters_of Tryz.func189 (by kernel_rfl) rfl)
    (back_stops Fence.wide 8 trivial rfl (by omega) (w1.heap.size + 1) b off cap zs hN hreach _ (by simp) (by simp; omega) bN.cell (fun j hj => (hB0.cell (p := ⟨b, off + j, none⟩) hb).trans (hc j hj)))
    (fun h k => h.trans k) (fun W l o o' _ hl ho _ => KpC.book W l o o' hl ho) (Below.refl _ _) (fun _ => rfl)
    (fun pre W => stA w.heap.size w1.heap.size (.slice (some ⟨bm, offm, none⟩) m.length capm) w.heap.size m.length (horM m (pre.map (·.2.1))) W ∧ Below w.heap.size w W)
    (fun _ _ _ => False)
    (OwnFrom.and (Own.from (stA_own _ _ _ _ _ _) _) (ownFrom_below (Nat.le_refl _) (by simp; omega)))
    (fun _ _ _ _ _ hs _ _ => hs)
    ⟨⟨b0, cap0, os0, bS2.cell, bS2.frozen, cM, hr0.mono (fun _ h => h) (fun b hb => by rcases hb with hb | hb; exact hb.elim; exact hA1.block b (ho0 b hb).2), hn0, fun b hb => by have := (ho0 b hb).1; simp at this; omega⟩, hB0⟩
    (fun x => { tmps := #[.slice (some ⟨b, off, none⟩) zs.length cap, .slice (some ⟨bm, offm, none⟩) m.length capm, undef, .pointer (some ⟨w.heap.size, 0, none⟩), .slice none 0 0, .pointer (some ⟨w1.heap.size, 0, none⟩), undef, .int .i64 x.2.1, .slice (some ⟨bm, offm, none⟩) m.length capm,
      .int .i64 m.length, .slice (some ⟨b0, 0, none⟩) m.length cap0, .slice (some ⟨b, off, none⟩) zs.length cap,
      .func (.func 189) #[] #[.pointer (some ⟨w1.heap.size + 1, 0, none⟩)], .int .i64 x.1, .int .i64 x.2.1, undef, undef, undef, undef, undef, undef], defers := [] }) ?assign ?body ?done ?stop
  case assign =>
    intro l x W K hK
    gi_wp2
    exact hK
  case body =>
    rintro l pre ⟨xi, xa, hxa⟩ W ⟨⟨bb, cp, os, hcS, hfS, hcM, hR, hnd, hos⟩, hB⟩ _
    have hsn := horM_snoc m (pre.map (·.2.1)) xa
    have hok := horM_ok h0 rfl hmr (pre.map (·.2.1))
    have hmap : (pre ++ [((xi, ⟨xa, hxa⟩) : BkT)]).map (·.2.1) = pre.map (·.2.1) ++ [xa] := by simp
    rw [← hmap] at hsn
    generalize hs : horM m (pre.map (·.2.1)) = M at *
    have cT := timesMatrix_c M m (by rw [hok.1]; omega) hn hok.2 h0 rfl hn hmr
    have tl : (tmM M m).length = m.length := by rw [tmM_len]; exact hok.1
    have tr := tmM_ok M m
    rw [(hmr.at h0).1] at tr
    have cA := addUnit_c (n := m.length) (tmM M m) xa tl hn tr hxa
    rw [← hsn, tl] at cA
    rw [hok.1] at cT
    have hF := own_sl hR
    have hmW : RepC Tryz.prog W (fun b => b < W.heap.size) (.sl m.length (mat m)) (.slice (some ⟨bm, offm, none⟩) m.length capm) [] := hm.mono (fun b h => Nat.lt_of_lt_of_le h hB.size) (fun b hb => hB.block b (by simpa using hb))
    have hlt : w1.heap.size < W.heap.size := by
      obtain ⟨o, ho, _⟩ := cells_of_cell hcS
      exact (Array.getElem?_eq_some_iff.1 ho).1
    gi_wp2_with (refine ⟨trivial, ?_⟩; gi_at_call 77; refine (CallsIn.inRound l (callsIn_wide.2 (Con.ownC h0 cT _ [_, _] rfl (fun tm oss => .cons _ _ [] _ _ [] (.cell _ _ _ hF) (.cons _ _ [] _ _ [] (.cell _ _ _ hmW) (.nil _)))))).mono ?_; rintro e W1 ⟨b1, cap1, os1, rfl, hbA, hr1, hn1, ho1⟩)
    have hF1 := own_sl hr1
    gi_wp2_with (refine ⟨trivial, ?_⟩; gi_at_call 144; refine (CallsIn.inRound l (callsIn_wide.2 (Con.ownC h0 cA _ [_, .int .i64 xa] rfl (fun tm oss => .cons _ _ [] _ _ [] (.cell _ _ _ hF1) (.cons _ _ [] _ _ [] (.cell _ _ _ (.val _ rfl)) (.nil _)))))).mono ?_; rintro e W2 ⟨b2, cap2, os2, rfl, hbC, hr2, hn2, ho2⟩; have hbB := hbA.trans (hbC.mono hbA.size); have c3 := (hbB.cell (p := ⟨w1.heap.size, 0, none⟩) hlt).trans hcS; have f3 := (hbB.frozen (p := ⟨w1.heap.size, 0, none⟩) hlt).trans hfS)
    have old : ∀ (p : Addr) (v : Value), p ≠ ⟨w1.heap.size, 0, none⟩ → W.cell? p = some v → (W2.setCell ⟨w1.heap.size, 0, none⟩ (.slice (some ⟨b2, 0, none⟩) m.length cap2)).cell? p = some v := fun p v hp hv => by
      obtain ⟨o, ho, _⟩ := cells_of_cell hv
      rw [World.cell?_setCell_other (h := Ne.symm hp)]
      exact (hbB.cell (Array.getElem?_eq_some_iff.1 ho).1).trans hv
    have ko : KeepsOthers W W2 := ⟨hbB.size, fun k o hk _ => (hbB.block k (Array.getElem?_eq_some_iff.1 hk).1).trans hk⟩
    refine ⟨(ko.trans (KeepsOthers.setCell _ _ _)).from _, ⟨fun v hv => old _ v (fun e => by injection e with e; omega) hv, fun j v hv => old _ v (fun e => by injection e with e; omega) hv⟩, ⟨b2, cap2, os2, ?_, by rw [World.frozen?_setCell]; exact f3, old _ _ (fun e => by injection e with e; omega) hcM, ?_, hn2, fun b hb => ?_⟩, ?_⟩
    · exact World.cell?_setCell_same' _ _ _ (by rw [c3]; rfl)
    · refine hr2.mono (fun _ h => h) (fun b hb => ?_)
      rcases hb with hb | hb
      · exact hb.elim
      · have := (ho2 b hb).1
        have := hbA.size
        exact Below.heap_setCell _ _ _ _ (by show b ≠ w1.heap.size; omega)
    · have := (ho2 b hb).1
      have := hbA.size
      omega
    · exact (hB.trans (hbB.mono (by omega))).setCell (p := ⟨w1.heap.size, 0, none⟩) (by show w.heap.size ≤ w1.heap.size; omega) _
  case done =>
    rintro D ys W hD rfl ⟨⟨bb, cp, os, hcS, hfS, hcM, hR, hnd, hos⟩, hB⟩ hK
    gi_wp2
    refine ⟨by simp, .inl ⟨_, _, rfl, run_takeDeferred hK, ?_⟩⟩
    refine ⟨_, results_tmp rfl _ _ _, ⟨_, os, rfl, hB.trans (belowK_b (w := w) (Nat.le_refl _) W D _ _ (by simp at hD; omega) hK rfl rfl), ?_, hnd, ?_⟩⟩
    · show RepC Tryz.prog (W.putObj D (Obj.deferred none)) (fun _ => False) _ (.slice (some ⟨bb, 0, none⟩) m.length cp) os
      refine hR.mono (fun _ h => h) (fun b hb => ?_)
      rcases hb with hb | hb
      · exact hb.elim
      · obtain ⟨o, ho, hc⟩ := own_cells hR b hb
        exact grownBy_keeps_cells (grownBy_putObj' W D _) (fun r e => by cases e; exact ⟨_, hK, rfl⟩) ho hc
    · intro b hb
      have := own_lt hR b hb
      exact ⟨hos b hb, by simpa using this⟩
  case stop =>
    rintro D c pre W _ _ h _
    exact h.elim
set_option maxRecDepth 100000 in
theorem atMatrix_c {n : Nat} (zs : List Int) (m : List (List Int)) (h1 : 1 ≤ zs.length) (h2 : zs.length ≤ 1000) (hN : Ns zs) (h0 : 0 < n) (hn : n ≤ 64) (hml : m.length = n) (hmr : Rws n m) :
    Con Tryz.prog 76 [.sl zs.length (avs zs), .sl m.length (mat m)] (.own 22 m.length (omat (horM m zs.reverse))) := by
  refine ⟨⟨_, Tryz.func76, by decide, rfl⟩, fun w vs hl ha => ?_⟩
  have k := ha (fun _ => undef) (fun _ => [])
  generalize hoz : ([] : List Nat) = oz at k
  cases k with
  | cons c v o cs vs os hc ht =>
    cases ht with
    | cons c2 v2 o2 cs2 vs2 os2 hc2 ht2 =>
      have e2 : vs2 = [] := by simpa using hl
      subst e2
      have hm : RepC Tryz.prog w (fun b => b < w.heap.size) (.sl m.length (mat m)) v2 [] := by
        have : o2 = [] := by
          have := congrArg List.length hoz
          simp at this
          exact List.length_eq_zero_iff.1 (by omega)
        subst this
        cases hc2 with
        | cell _ _ _ h => exact h
      have hm' := hm
      generalize hmn : m.length = mn at hm
      generalize hmm : mat m = mm at hm
      cases hm with
      | sl0 base cap => omega
      | sl bm offm _ capm ccm em frm csm hFm hbm hlrm hnm =>
        subst hmn; subst hmm
        generalize hn' : zs.length = l at hc
        generalize hcs : avs zs = ac at hc
        cases hc with
        | cell _ _ _ hc =>
          cases hc with
          | sl0 base cap => omega
          | sl b off _ cap cc e fr cs hF hb hlr hn2 =>
            subst hn'; subst hcs
            have cells : ∀ j, j < zs.length → w.cell? ⟨b, off + j, none⟩ = some (.int .i64 (zs[j]?.getD 0)) := fun j hj => by
              have := RepL_avs hlr j hj
              rw [List.getElem?_drop, Array.getElem?_toList] at this
              simp [World.cell?, hb, this]
            refine (atMatrix_calls (n := n) zs m b off cap bm offm capm w (by omega) hF cells hN h0 hn hml hmr hm').mono ?_
            rintro e w' ⟨v, os, rfl, hB, hr, hnd, ho⟩
            rw [back_list] at hr
            exact ⟨_, os, rfl, ⟨hB.os, hB.tape, hB.output, hB.size, hB.block, by rw [show dK = 0 from rfl]; omega⟩, fun tm oss => .cell _ _ _ (hr.mono (fun _ h => h.elim) (fun _ _ => rfl)), hnd, ho⟩
end Go.Proofs.YtbeekabpflaihaaGreat


namespace Go.Proofs.YtbeekabpflaihaaGreat
open Go.Abs
set_option linter.unusedSectionVars false
set_option linter.unusedVariables false
set_option linter.unusedSimpArgs false
set_option maxHeartbeats 1000000
def rowOk (A : List (List Int)) (r : List Int) : Bool := decide (r.length = (A[0]?.getD []).length) && numsB r
def matB (A : List (List Int)) : Bool := decide (1 ≤ A.length ∧ A.length ≤ 8) && (decide (1 ≤ (A[0]?.getD []).length ∧ (A[0]?.getD []).length ≤ 8) && A.all (rowOk A))
theorem matB_iff {A : List (List Int)} : matB A = true ↔ (1 ≤ A.length ∧ A.length ≤ 8) ∧ (1 ≤ (A[0]?.getD []).length ∧ (A[0]?.getD []).length ≤ 8) ∧ ∀ r ∈ A, r.length = (A[0]?.getD []).length ∧ Ns r := by
  unfold matB rowOk
  simp only [Bool.and_eq_true, decide_eq_true_eq, List.all_eq_true, numsB_N]
theorem lengthR_c (n : Nat) (cs : List AV) (hn : n ≤ 9223372036854775807) : Con Tryz.prog 70 [.sl n cs] (.int n) := by
  refine con_of_vc Tryz.mixed ⟨3, [], [], []⟩ Tryz.func70 (by decide) rfl (by simp) (by decide) (by simp [freshOK, freshL, go_sem]) ?_
  rw [Tryz.ntmps70]
  simp [go_sem]
  try omega
theorem at0 {A : List (List Int)} (h : 0 < A.length) : mat A = .sl (A[0]?.getD []).length (avs (A[0]?.getD [])) :: mat A.tail := by cases A with | nil => simp at h | cons x l => simp [mat]
set_option maxRecDepth 100000 in
theorem isMatrix_c (A : List (List Int)) (hl : A.length ≤ 9223372036854775807) (hr : ∀ r ∈ A, r.length ≤ 9223372036854775807) :
    Con Tryz.prog 67 [.sl A.length (mat A)] (.bool (matB A)) := by
  have cL := lengthR_c A.length (mat A) hl
  have cI := inRange_c (A.length : Int) 1 8
  by_cases h1 : 1 ≤ A.length ∧ A.length ≤ 8
  · have e1 : (decide ((1 : Int) ≤ A.length) && decide ((A.length : Int) ≤ 8)) = true := by simp; omega
    rw [e1] at cI
    have m0 := at0 (A := A) (by omega)
    have h0 : (A[0]?.getD []) ∈ A := by simp [show 0 < A.length by omega]
    have r0 := hr _ h0
    have fine : matB A = (decide (1 ≤ (A[0]?.getD []).length ∧ (A[0]?.getD []).length ≤ 8) && A.all (rowOk A)) := by unfold matB; rw [decide_eq_true h1]; rfl
    refine con_of_vc Tryz.mixed ⟨5, [], [], []⟩ Tryz.func67 (by decide) rfl (by simp) (by decide) (by simp [freshOK, freshL, go_sem]) ?_
    rw [Tryz.ntmps67]
    simp [go_sem]
    refine CallVC.of (cL) (by decide) ?_
    simp [go_sem]
    refine CallVC.of (cI) (by decide) ?_
    simp [go_sem]
    refine loop_inv (2 :: 4 :: List.range' 11 23) (fun i : Nat => [(11, .int i)]) (fun i => i ≤ A.length ∧ (∀ r ∈ A.take i, rowOk A r = true) ∧ (0 < i → 1 ≤ (A[0]?.getD []).length ∧ (A[0]?.getD []).length ≤ 8)) (fun i => A.length - i) 0 (by simp) (by simp [go_sem]) (by simp [go_sem]) ?_
    rintro i ⟨hi, hp, hq⟩
    simp [go_sem]
    refine ⟨fun h => ?_, fun h => ?_⟩ <;> simp at h
    · have hif := h
      have hx : A[i]?.getD [] ∈ A := by simp [h]
      have hx2 := hr _ hx
      have cl := length_c (A[i]?.getD []).length (avs (A[i]?.getD [])) hx2
      have ci := inRange_c ((A[i]?.getD []).length : Int) 1 8
      have cn := areNumbers_c (A[i]?.getD []) hx2
      have hno : rowOk A (A[i]?.getD []) = false → matB A = false := fun hh => by
        rw [fine]
        have : A.all (rowOk A) = false := by rw [List.all_eq_false]; exact ⟨_, hx, by simp [hh]⟩
        rw [this]; simp
      simp [go_sem, mat_drop hif]
      refine ⟨⟨hif, by rintro rfl; simp at hif⟩, ?_⟩
      generalize hR : A[i]?.getD [] = R at *
      by_cases c1 : R.length = (A[0]?.getD []).length
      · have c1' : (R.length : Int) = (A[0]?.getD []).length := by omega
        simp [go_sem, m0, c1']
        refine ⟨⟨by omega, by rintro rfl; simp at hif⟩, ?_⟩
        refine CallVC.of (cl) (by decide) ?_
        simp [go_sem]
        by_cases c2 : 1 ≤ R.length ∧ R.length ≤ 8
        · rw [show (decide ((1 : Int) ≤ R.length) && decide ((R.length : Int) ≤ 8)) = true by simp; omega] at ci
          refine CallVC.of (ci) (by decide) ?_
          simp [go_sem]
          cases hn : numsB R with
          | true =>
            rw [hn] at cn
            refine CallVC.of (cn) (by decide) ?_
            simp [go_sem]
            refine ⟨by omega, i + 1, ⟨by omega, take_all hif hp ?_, fun _ => by omega⟩, by omega, Off_reset _ _ _ (by simp), by omega⟩
            have : A[i] = R := by rw [← hR]; simp [hif]
            rw [this]; unfold rowOk; rw [hn, decide_eq_true c1]; rfl
          | false =>
            rw [hn] at cn
            refine CallVC.of (cn) (by decide) ?_
            simp [go_sem]
            exact hno (by unfold rowOk; rw [hn]; simp)
        · rw [show (decide ((1 : Int) ≤ R.length) && decide ((R.length : Int) ≤ 8)) = false by simp; omega] at ci
          refine CallVC.of (ci) (by decide) ?_
          simp [go_sem]
          rw [fine, decide_eq_false (by omega)]; rfl
      · have c1' : ¬ (R.length : Int) = (A[0]?.getD []).length := by omega
        simp [go_sem, m0, c1']
        exact ⟨⟨by omega, by rintro rfl; simp at hif⟩, hno (by unfold rowOk; rw [decide_eq_false c1]; rfl)⟩
    · simp [go_sem]
      rw [List.take_of_length_le h] at hp
      rw [fine, decide_eq_true (hq (by omega)), List.all_eq_true.2 hp]
      rfl
  · have e1 : (decide ((1 : Int) ≤ A.length) && decide ((A.length : Int) ≤ 8)) = false := by simp; omega
    rw [e1] at cI
    refine con_of_vc Tryz.mixed ⟨5, [], [], []⟩ Tryz.func67 (by decide) rfl (by simp) (by decide) (by simp [freshOK, freshL, go_sem]) ?_
    rw [Tryz.ntmps67]
    simp [go_sem]
    refine CallVC.of (cL) (by decide) ?_
    simp [go_sem]
    refine CallVC.of (cI) (by decide) ?_
    simp [go_sem]
    unfold matB
    rw [decide_eq_false h1]; rfl
def sqB (z : Int) (A : List (List Int)) : Bool := matB A && (decide ((A.length : Int) = z) && decide (((A[0]?.getD []).length : Int) = z))
theorem sqB_iff {z : Int} {A : List (List Int)} : sqB z A = true ↔ (1 ≤ A.length ∧ A.length ≤ 8) ∧ (A.length : Int) = z ∧ ∀ r ∈ A, (r.length : Int) = z ∧ Ns r := by
  unfold sqB
  simp only [Bool.and_eq_true, decide_eq_true_eq, matB_iff]
  constructor
  · rintro ⟨⟨h1, h2, h3⟩, h4, h5⟩
    exact ⟨h1, h4, fun r hr => ⟨by have := (h3 r hr).1; omega, (h3 r hr).2⟩⟩
  · rintro ⟨h1, h2, h3⟩
    have h0 : (A[0]?.getD []) ∈ A := by simp [show 0 < A.length by omega]
    have := (h3 _ h0).1
    exact ⟨⟨h1, by omega, fun r hr => ⟨by have := (h3 r hr).1; omega, (h3 r hr).2⟩⟩, h2, by omega⟩
end Go.Proofs.YtbeekabpflaihaaGreat


namespace Go.Proofs.YtbeekabpflaihaaGreat
open Go.Abs
set_option linter.unusedSectionVars false
set_option linter.unusedVariables false
set_option linter.unusedSimpArgs false
set_option maxHeartbeats 4000000
def linS (m : List (List Int)) (h : Int) : List (List Int) := (List.range m.length).map fun i => tb (fun k => (m[i]?.getD [])[k]?.getD 0 * h % 10007) (m[i]?.getD []).length
def linQ (A : List (List Int)) (B : List Int) (m : List (List Int)) (h : Int) : List (List Int) := horM (linS m h) (chL B.length A).reverse
def linX (A : List (List Int)) (B : List Int) (m : List (List Int)) (y : List Int) (h : Int) : List Int := tb (sysF m.length (linQ A B m h) (apL (chL B.length (lesM A B)) (linS m h) y)) m.length
def linC (A : List (List Int)) (B : List Int) (m : List (List Int)) (y : List Int) (h : Int) : Int :=
  if tabB A B = true then (if matB m = true then (if m.length = (m[0]?.getD []).length then (if y.length = m.length then (if numsB y = true then (if 0 ≤ h ∧ h ≤ 10006 then (if ldet m.length (linQ A B m h) = 0 then 5 else 0) else 2) else 2) else 2) else 1) else 1) else 1
def linV (A : List (List Int)) (B : List Int) (m : List (List Int)) (y : List Int) (h : Int) : List Int := if linC A B m y h = 0 then linX A B m y h else []
def linR (A : List (List Int)) (B : List Int) (m : List (List Int)) (y : List Int) (h : Int) : AV := .tup [.own 2 (linV A B m y h).length (avs (linV A B m y h)), .int (linC A B m y h)]
theorem linR_bad {A : List (List Int)} {B : List Int} {m : List (List Int)} {y : List Int} {h : Int} (c : Int) (hc : linC A B m y h = c) (h0 : c ≠ 0) : linR A B m y h = .tup [.own 2 0 [], .int c] := by
  have : linV A B m y h = [] := by unfold linV; rw [hc, if_neg h0]
  unfold linR
  rw [this, hc]; rfl
theorem linS_len (m : List (List Int)) (h : Int) : (linS m h).length = m.length := by simp [linS]
theorem linS_ok {n : Nat} {m : List (List Int)} (hr : Rws n m) (h : Int) : Rws n (linS m h) := fun x hx => by
  obtain ⟨i, hi, rfl⟩ := List.mem_map.1 hx
  have q := hr.at (show i < m.length by simpa using hi)
  exact ⟨by rw [tb_len]; exact q.1, tb_N fun k _ => isN_mod _⟩
theorem numsB_Ns {y : List Int} (h : numsB y = true) : Ns y := fun x hx => numsB_N.1 h x hx
theorem tim_take_succ (A : List (List Int)) (v : List Int) {k : Nat} (h : k < A.length) : tim (A.take (k + 1)) v = tim (A.take k) v ++ [dotI (A[k]?.getD []) v % 10007] := tim_take h
set_option maxRecDepth 100000 in
theorem LinearStep_w (A : List (List Int)) (B : List Int) (m : List (List Int)) (y : List Int) (h : Int) (hT : Tab A B) (hM1 : 1 ≤ m.length) (hM8 : m.length ≤ 8) (hr : Rws m.length m) (hE : m.length = (m[0]?.getD []).length)
    (hY : y.length = m.length) (hN : Ns y) (hh : isN h) (cI : Con Tryz.prog 71 [.agg [.sl A.length (mat A), .sl B.length (avs B)]] (.bool true)) (cM : Con Tryz.prog 67 [.sl m.length (mat m)] (.bool true))
    (cN : Con Tryz.prog 72 [.sl y.length (avs y)] (.bool true)) (cH : Con Tryz.prog 73 [.int h] (.bool true)) :
    Con Tryz.prog 27 [.agg [.sl A.length (mat A), .sl B.length (avs B)], .sl m.length (mat m), .sl y.length (avs y), .int h]
      (if ldet m.length (linQ A B m h) = 0 then .tup [.own 2 0 [], .int 5] else .tup [.own 2 m.length (avs (linX A B m y h)), .int 0]) := by
  have b8 := hT.le
  have hl := linS_len m h
  have hs := linS_ok hr h
  have cF := fraction_c A B hT
  have cQ := atMatrix_c (chL B.length A) (linS m h) (by simp) (by simp; omega) (chL_N _ _) (show 0 < m.length by omega) (by omega) hl hs
  have cP := atMatrix_c (chL B.length (lesM A B)) (linS m h) (by simp) (by simp; omega) (chL_N _ _) (show 0 < m.length by omega) (by omega) hl hs
  have hq : horM (linS m h) (chL B.length A).reverse = linQ A B m h := rfl
  have oQ := horM_ok (show 0 < m.length by omega) hl hs (chL B.length A).reverse
  have oP := horM_ok (show 0 < m.length by omega) hl hs (chL B.length (lesM A B)).reverse
  rw [hl, chL_len] at cQ cP
  rw [hq] at cQ oQ
  have cV := inverseOf_c (linQ A B m h) (show 0 < m.length by omega) oQ.1 (by omega) oQ.2
  rw [oQ.1] at cV
  have iB := invB_is (show 0 < m.length by omega) oQ.1 oQ.2
  have law := fun hb => lin_law (p := chL B.length (lesM A B)) (q := chL B.length A) (show 0 < m.length by omega) hl hs hY hN hb
  rw [hq] at law
  have wo := catL_ok oQ.1 oQ.2
  obtain ⟨k', g1, g2, g3⟩ := redR_GI (m.length + m.length) 0 (catL m.length (linQ A B m h), 1, 0) (by omega) (GI.start wo.1 wo.2)
  have bk := bckL_ok g3.len g3.rws
  have eI : invL m.length (linQ A B m h) = bckL m.length (redR (m.length + m.length) 0 (catL m.length (linQ A B m h), 1, 0)).1 := rfl
  have eB : invB m.length (linQ A B m h) = decide (leadL ((redR (m.length + m.length) 0 (catL m.length (linQ A B m h), 1, 0)).1[m.length - 1]?.getD []) < m.length) := rfl
  clear g3 g1 g2
  rw [← eI] at bk law
  have law2 : invB m.length (linQ A B m h) = true → tim (tmM (invL m.length (linQ A B m h)) (horM (linS m h) (chL B.length (lesM A B)).reverse)) y = linX A B m y h := fun hb => (law (by rw [eB] at hb; exact of_decide_eq_true hb)).2
  clear law eB eI
  have xl : (linX A B m y h).length = m.length := by simp [linX]
  generalize linQ A B m h = Q at *
  generalize linX A B m y h = X at *
  generalize invL m.length Q = K at *
  generalize horM (linS m h) (chL B.length (lesM A B)).reverse = H at *
  have cT := timesMatrix_c K H (by omega) (show m.length ≤ 64 by omega) bk.2 (by omega) oP.1 (show m.length ≤ 64 by omega) oP.2
  have tl : (tmM K H).length = m.length := by rw [tmM_len]; exact bk.1
  have tr := tmM_ok K H
  rw [(oP.2.at (show 0 < H.length by omega)).1] at tr
  rw [bk.1, oP.1] at cT
  generalize tmM K H = T at *
  have hS : linS m h = (List.range m.length).map fun i => tb (fun k => (m[i]?.getD [])[k]?.getD 0 * h % 10007) (m[i]?.getD []).length := rfl
  have hmod : h % 10007 = h := by have := hh.1; have := hh.2; omega
  have h0 : 0 < m.length := by omega
  have m0 := mat_drop (xss := m) (k := 0) h0
  simp only [List.drop_zero] at m0
  have m1 : AV.sl (m[0]?.getD []).length (avs (m[0]?.getD [])) :: mat m.tail = mat m := by cases m with | nil => simp at h0 | cons x l => simp [mat]
  have ne : ¬ m = [] := by rintro rfl; simp at h0
  have go : ∀ x : AV, freshOK x = true → (invB m.length Q = true → x = .tup [.own 2 m.length (avs X), .int 0]) → (invB m.length Q = false → x = .tup [.val (.slice none 0 0), .int 5]) →
      Con Tryz.prog 27 [.agg [.sl A.length (mat A), .sl B.length (avs B)], .sl m.length (mat m), .sl y.length (avs y), .int h] x := by
    intro x hf x1 x2
    refine con_of_vc Tryz.mixed ⟨20, [], [], []⟩ Tryz.func27 (by decide) rfl (by simp) (by decide) hf ?_
    rw [Tryz.ntmps27]
    simp [go_sem]
    refine CallVC.of (cI) (by decide) ?_
    simp [go_sem]
    refine CallVC.of (cM) (by decide) ?_
    simp [go_sem]
    simp [go_sem, m0]
    simp only [m1]
    refine ⟨⟨h0, ne⟩, ?_⟩
    simp [go_sem, hE.symm, hY]
    rw [hY] at cN
    refine CallVC.of (cN) (by decide) ?_
    simp [go_sem]
    refine CallVC.of (cH) (by decide) ?_
    simp [go_sem]
    refine loop_inv ([10, 12] ++ List.range' 57 11) (fun i : Nat => [(10, .own 22 i (omat ((List.range i).map fun i => tb (fun k => (m[i]?.getD [])[k]?.getD 0 * h % 10007) (m[i]?.getD []).length))), (57, .int i)]) (fun i => i ≤ m.length) (fun i => m.length - i) 0 (by simp) (by simp [go_sem, omat]) (by simp [go_sem]) ?_
    intro i hi
    by_cases hin : i < m.length
    · have hii : (i : Int) < m.length := by omega
      have ri := hr.at hin
      have cS := scaled_c (m[i]?.getD []) h ri.2 ⟨by have := hh.1; omega, by have := hh.2; omega⟩ (by omega)
      have ho := omat_range_succ (fun i => tb (fun k => (m[i]?.getD [])[k]?.getD 0 * h % 10007) (m[i]?.getD []).length) i
      rw [scalS, hmod] at cS
      rw [tb_len] at ho
      simp [go_sem, hii, mat_drop hin]
      refine ⟨ne, ?_⟩
      refine CallVC.of (cS) (by decide) ?_
      simp [go_sem]
      exact ⟨⟨by omega, by omega⟩, ⟨by omega, by omega⟩, i + 1, by omega, by omega, Off_reset _ _ _ (by simp), by rw [ho]; exact ⟨rfl, rfl⟩, by omega⟩
    · have e : i = m.length := by omega
      subst e
      have hii : ¬ (m.length : Int) < m.length := by omega
      rw [← hS]
      simp [go_sem, hii]
      refine CallVC.of (cF) (by decide) ?_
      simp [go_sem]
      refine CallVC.of (cQ) (by decide) ?_
      simp [go_sem]
      cases hb : invB m.length Q with
      | false =>
        rw [hb] at cV
        have hx := x2 hb
        subst hx
        simp only [Bool.false_eq_true, if_false] at cV
        refine CallVC.of (cV) (by decide) ?_
        simp [go_sem]
      | true =>
        rw [hb] at cV
        have hx := x1 hb
        subst hx
        simp only [if_true] at cV
        refine CallVC.of (cV) (by decide) ?_
        simp [go_sem]
        refine CallVC.of (cP) (by decide) ?_
        simp [go_sem]
        refine CallVC.of (cT) (by decide) ?_
        simp [go_sem]
        have law := law2 hb
        refine loop_inv ([17, 19] ++ List.range' 89 11) (fun i : Nat => [(17, .own 2 i (avs (tim (T.take i) y))), (89, .int i)]) (fun i => i ≤ m.length) (fun i => m.length - i) 0 (by simp) (by simp [go_sem, tim]) (by simp [go_sem, omat_kl]) ?_
        intro i hi
        by_cases hin : i < m.length
        · have hii : (i : Int) < m.length := by omega
          have hiT : i < T.length := by omega
          have ri := tr.at hiT
          have hg := omat_get (A := T) (k := i) hiT
          have ts := tim_take_succ T y hiT
          have cD := dot_c (T[i]?.getD []) y (by omega) (by omega) ri.2 hN
          rw [hY, ri.1] at cD
          rw [ri.1] at hg
          have rl := ri.1
          generalize T[i]?.getD [] = row at *
          simp [go_sem, hii, hg]
          refine CallVC.of (cD) (by decide) ?_
          simp [go_sem]
          exact ⟨⟨by omega, by omega⟩, ⟨by omega, by omega⟩, i + 1, by omega, by omega, Off_reset _ _ _ (by simp), by rw [ts, avs_snoc]; exact ⟨rfl, rfl⟩, by omega⟩
        · have e : i = m.length := by omega
          subst e
          have hii : ¬ (m.length : Int) < m.length := by omega
          have htk : T.take m.length = T := List.take_of_length_le (by omega)
          simp [go_sem, hii, htk, law]
  by_cases hz : ldet m.length Q = 0
  · rw [if_pos hz]
    refine Con.n1 _ (go _ (by simp [freshOK, freshL]) (fun hb => ?_) (fun _ => rfl))
    rw [iB] at hb
    exact (of_decide_eq_true hb hz).elim
  · rw [if_neg hz]
    refine go _ (by simp [freshOK, freshL]) (fun _ => rfl) (fun hb => ?_)
    rw [iB] at hb
    exact (of_decide_eq_false hb hz).elim
set_option maxRecDepth 100000 in
theorem LinearStep_c (A : List (List Int)) (B : List Int) (m : List (List Int)) (y : List Int) (h : Int) (hA : A.length ≤ 1048576) (hrA : ∀ r ∈ A, r.length ≤ 1048576) (hB : B.length ≤ 1048576) (hm : m.length ≤ 1048576) (hrm : ∀ r ∈ m, r.length ≤ 1048576) (hy : y.length ≤ 1048576) :
    Con Tryz.prog 27 [.agg [.sl A.length (mat A), .sl B.length (avs B)], .sl m.length (mat m), .sl y.length (avs y), .int h] (linR A B m y h) := by
  have cI := IsTableau_c A B (by omega) (by omega) (fun r h => by have := hrA r h; omega)
  have cM := isMatrix_c m (by omega) (fun r h => by have := hrm r h; omega)
  have cN := areNumbers_c y (by omega)
  have cH := IsNumber_c h
  by_cases hT : tabB A B = true
  · rw [hT] at cI
    by_cases hM : matB m = true
    · rw [hM] at cM
      have hM' := matB_iff.1 hM
      have h0 : 0 < m.length := by omega
      have m0 := mat_drop (xss := m) (k := 0) h0
      simp only [List.drop_zero] at m0
      have m1 : AV.sl (m[0]?.getD []).length (avs (m[0]?.getD [])) :: mat m.tail = mat m := by cases m with | nil => simp at h0 | cons x l => simp [mat]
      have ne : ¬ m = [] := by rintro rfl; simp at h0
      by_cases hE : m.length = (m[0]?.getD []).length
      · by_cases hY : y.length = m.length
        · by_cases hN : numsB y = true
          · rw [hN] at cN
            by_cases hh : 0 ≤ h ∧ h ≤ 10006
            · rw [decide_eq_true hh] at cH
              have w := LinearStep_w A B m y h (tabB_iff.1 hT) (by omega) (by omega) (fun r hr => by have := hM'.2.2 r hr; rw [← hE] at this; exact this) hE hY (numsB_Ns hN) ⟨hh.1, by omega⟩ cI cM cN cH
              have e : linC A B m y h = if ldet m.length (linQ A B m h) = 0 then 5 else 0 := by
                unfold linC; rw [if_pos hT, if_pos hM, if_pos hE, if_pos hY, if_pos hN, if_pos hh]
              by_cases hz : ldet m.length (linQ A B m h) = 0
              · rw [if_pos hz] at w e
                rw [linR_bad 5 e (by decide)]; exact w
              · rw [if_neg hz] at w e
                have xl : (linX A B m y h).length = m.length := by simp [linX]
                unfold linR linV
                rw [e, if_pos rfl, xl]; exact w
            · rw [decide_eq_false hh] at cH
              rw [linR_bad 2 (by unfold linC; rw [if_pos hT, if_pos hM, if_pos hE, if_pos hY, if_pos hN, if_neg hh]) (by decide)]
              refine Con.n1 _ ?_
              refine con_of_vc Tryz.mixed ⟨20, [], [], []⟩ Tryz.func27 (by decide) rfl (by simp) (by decide) (by simp [freshOK, freshL, go_sem]) ?_
              rw [Tryz.ntmps27]
              simp [go_sem]
              refine CallVC.of (cI) (by decide) ?_
              simp [go_sem]
              refine CallVC.of (cM) (by decide) ?_
              simp [go_sem]
              simp [go_sem, m0]
              simp only [m1]
              refine ⟨⟨h0, ne⟩, ?_⟩
              simp [go_sem, hE.symm, hY]
              rw [hY] at cN
              refine CallVC.of (cN) (by decide) ?_
              simp [go_sem]
              refine CallVC.of (cH) (by decide) ?_
              simp [go_sem]
          · have hN' : numsB y = false := by simpa using hN
            rw [hN'] at cN
            rw [linR_bad 2 (by unfold linC; rw [if_pos hT, if_pos hM, if_pos hE, if_pos hY, if_neg hN]) (by decide)]
            refine Con.n1 _ ?_
            refine con_of_vc Tryz.mixed ⟨20, [], [], []⟩ Tryz.func27 (by decide) rfl (by simp) (by decide) (by simp [freshOK, freshL, go_sem]) ?_
            rw [Tryz.ntmps27]
            simp [go_sem]
            refine CallVC.of (cI) (by decide) ?_
            simp [go_sem]
            refine CallVC.of (cM) (by decide) ?_
            simp [go_sem]
            simp [go_sem, m0]
            simp only [m1]
            refine ⟨⟨h0, ne⟩, ?_⟩
            simp [go_sem, hE.symm, hY]
            rw [hY] at cN
            refine CallVC.of (cN) (by decide) ?_
            simp [go_sem]
        · rw [linR_bad 2 (by unfold linC; rw [if_pos hT, if_pos hM, if_pos hE, if_neg hY]) (by decide)]
          refine Con.n1 _ ?_
          refine con_of_vc Tryz.mixed ⟨20, [], [], []⟩ Tryz.func27 (by decide) rfl (by simp) (by decide) (by simp [freshOK, freshL, go_sem]) ?_
          rw [Tryz.ntmps27]
          simp [go_sem]
          refine CallVC.of (cI) (by decide) ?_
          simp [go_sem]
          refine CallVC.of (cM) (by decide) ?_
          simp [go_sem]
          simp [go_sem, m0]
          simp only [m1]
          refine ⟨⟨h0, ne⟩, ?_⟩
          have hYi : ¬ (y.length : Int) = m.length := by omega
          simp [go_sem, hE.symm, hYi]
      · rw [linR_bad 1 (by unfold linC; rw [if_pos hT, if_pos hM, if_neg hE]) (by decide)]
        refine Con.n1 _ ?_
        refine con_of_vc Tryz.mixed ⟨20, [], [], []⟩ Tryz.func27 (by decide) rfl (by simp) (by decide) (by simp [freshOK, freshL, go_sem]) ?_
        rw [Tryz.ntmps27]
        simp [go_sem]
        refine CallVC.of (cI) (by decide) ?_
        simp [go_sem]
        refine CallVC.of (cM) (by decide) ?_
        simp [go_sem]
        simp [go_sem, m0]
        simp only [m1]
        refine ⟨⟨h0, ne⟩, ?_⟩
        have hEi : ¬ (m.length : Int) = (m[0]?.getD []).length := by omega
        simp [go_sem, hEi]
    · have hM' : matB m = false := by simpa using hM
      rw [hM'] at cM
      rw [linR_bad 1 (by unfold linC; rw [if_pos hT, if_neg hM]) (by decide)]
      refine Con.n1 _ ?_
      refine con_of_vc Tryz.mixed ⟨20, [], [], []⟩ Tryz.func27 (by decide) rfl (by simp) (by decide) (by simp [freshOK, freshL, go_sem]) ?_
      rw [Tryz.ntmps27]
      simp [go_sem]
      refine CallVC.of (cI) (by decide) ?_
      simp [go_sem]
      refine CallVC.of (cM) (by decide) ?_
      simp [go_sem]
  · have hT' : tabB A B = false := by simpa using hT
    rw [hT'] at cI
    rw [linR_bad 1 (by unfold linC; rw [if_neg hT]) (by decide)]
    refine Con.n1 _ ?_
    refine con_of_vc Tryz.mixed ⟨20, [], [], []⟩ Tryz.func27 (by decide) rfl (by simp) (by decide) (by simp [freshOK, freshL, go_sem]) ?_
    rw [Tryz.ntmps27]
    simp [go_sem]
    refine CallVC.of (cI) (by decide) ?_
    simp [go_sem]
end Go.Proofs.YtbeekabpflaihaaGreat


namespace Go.Proofs.YtbeekabpflaihaaGreat
open Go.Abs CR
set_option linter.unusedSectionVars false
set_option linter.unusedVariables false
set_option linter.unusedSimpArgs false
set_option maxHeartbeats 1000000
section
variable {α : Type} [CR α]
theorem dtR_rel (R : α → α → Prop) (h0 : ∀ k, R (ofI k) (ofI k)) (ha : ∀ a b c d, R a b → R c d → R (a + c) (b + d)) (hm : ∀ a b c d, R a b → R c d → R (a * c) (b * d)) :
    ∀ {n : Nat} {M N : Nat → Nat → α}, (∀ r c, r < n → c < n → R (M r c) (N r c)) → R (dtR n M) (dtR n N)
  | 0, _, _, _ => h0 1
  | n + 1, M, N, h => by
    rw [dtR, dtR]
    have gen : ∀ m : Nat, m ≤ n + 1 → R (dR (fun i => ofI (sgd i) * M i 0 * dtR n (mnR M i)) m) (dR (fun i => ofI (sgd i) * N i 0 * dtR n (mnR N i)) m) := by
      intro m
      induction m with
      | zero => intro _; exact h0 0
      | succ m ih =>
        intro hm2
        refine ha _ _ _ _ (ih (by omega)) (hm _ _ _ _ (hm _ _ _ _ (h0 _) (h m 0 (by omega) (by omega))) ?_)
        exact dtR_rel R h0 ha hm (fun r c hr hc => h _ _ (by split <;> omega) (by omega))
    exact gen _ (Nat.le_refl _)
theorem dtR_comb {n : Nat} (M : Nat → Nat → α) {i : Nat} (hi : i < n) (w : Nat → α) : dtR n (upR M i (fun c => dR (fun r => w r * M r c) n)) = w i * dtR n M := by
  have gen : ∀ t : Nat, t ≤ n → dtR n (upR M i (fun c => dR (fun r => w r * M r c) t)) = if i < t then w i * dtR n M else ofI 0 := by
    intro t
    induction t with
    | zero => intro _; rw [if_neg (by omega)]; exact dtR_nil M hi
    | succ t ih =>
      intro ht
      have e : (fun c => dR (fun r => w r * M r c) (t + 1)) = fun c => dR (fun r => w r * M r c) t + w t * M t c := rfl
      rw [e, dtR_lin M _ (M t) _ hi, ih (by omega)]
      by_cases h : t = i
      · subst h
        rw [if_neg (by omega), if_pos (by omega), upR_self, zadd]
      · have z : dtR n (upR M i (M t)) = ofI 0 := dtR_same _ hi (show t < n by omega) (fun e => h e.symm) (by rw [upR_at, upR_ne _ _ h])
        rw [z, mul0, add0]
        by_cases h2 : i < t
        · rw [if_pos h2, if_pos (by omega)]
        · rw [if_neg h2, if_neg (by omega)]
  rw [gen n (Nat.le_refl _), if_pos hi]
theorem dtR_scale {n : Nat} (M : Nat → Nat → α) {i : Nat} (hi : i < n) (k : α) (v : Nat → α) : dtR n (upR M i (fun c => k * v c)) = k * dtR n (upR M i v) := by
  have h := dtR_lin M (fun _ => ofI 0) v k hi
  rw [dtR_nil M hi, zadd] at h
  rw [← h]
  congr 1
  congr 1
  exact funext fun c => (zadd _).symm
theorem dtR_spread {n : Nat} (M : Nat → Nat → α) {i : Nat} (hi : i < n) (k : α) (v : Nat → α) : dtR n (upR (fun r c => M r c + k * v c) i v) = dtR n (upR M i v) := by
  have gen : ∀ t : Nat, t ≤ n → dtR n (fun r => if r = i then v else if r < t then fun c => M r c + k * v c else M r) = dtR n (upR M i v) := by
    intro t
    induction t with
    | zero => intro _; rfl
    | succ t ih =>
      intro ht
      rw [← ih (by omega)]
      generalize hY : (fun r => if r = i then v else if r < t then fun c => M r c + k * v c else M r : Nat → Nat → α) = Y
      by_cases h : t = i
      · refine dtR_congr fun r c _ _ => ?_
        rw [← hY]
        by_cases hr : r = i
        · simp only [hr, if_true]
        · have : r < t + 1 ↔ r < t := by omega
          simp only [hr, if_false, this]
      · have hYt : Y t = M t := by rw [← hY]; simp only [h, if_false, Nat.lt_irrefl]
        have hYi : Y i = v := by rw [← hY]; simp only [if_true]
        have e : (fun r => if r = i then v else if r < t + 1 then fun c => M r c + k * v c else M r) = upR Y t (fun c => Y t c + k * Y i c) := funext fun r => by
          unfold upR
          by_cases hr : r = t
          · subst hr; simp only [h, if_false, if_true, Nat.lt_succ_self, hYt, hYi]
          · rw [if_neg hr, ← hY]
            by_cases hri : r = i
            · simp only [hri, if_true]
            · have : r < t + 1 ↔ r < t := by omega
              simp only [hri, if_false, this]
        rw [e, dtR_lin Y (Y t) (Y i) k (by omega), upR_self]
        have z : dtR n (upR Y t (Y i)) = ofI 0 := dtR_same _ (show t < n by omega) hi h (by rw [upR_at, upR_ne _ _ (fun e => h e.symm)])
        rw [z, mul0, add0]
  rw [← gen n (Nat.le_refl _)]
  refine dtR_congr fun r c hr _ => ?_
  unfold upR
  by_cases h : r = i
  · simp only [h, if_true]
  · simp only [h, if_false, hr, if_true]
theorem cmul_cong (n : Nat) : ∀ (a b c : Ser α), (∀ i, i ≤ n → b i = c i) → cmul n a b = cmul n a c := by
  induction n with
  | zero => intro a b c h; show a 0 * b 0 = a 0 * c 0; rw [h 0 (Nat.le_refl _)]
  | succ n ih => intro a b c h; rw [cmul, cmul, h (n + 1) (Nat.le_refl _), ih (sh a) b c (fun i hi => h i (by omega))]
end
theorem ser_cancel {a b c : Ser Int} (h0 : a 0 ≠ 0) (h : a * b = a * c) : b = c := by
  have gen : ∀ n, ∀ i, i ≤ n → b i = c i := by
    intro n
    induction n with
    | zero =>
      intro i hi
      have hi : i = 0 := by omega
      subst hi
      exact Int.eq_of_mul_eq_mul_left h0 (congrFun h 0)
    | succ n ih =>
      intro i hi
      by_cases e : i = n + 1
      · subst e
        have hn : a 0 * b (n + 1) + cmul n (sh a) b = a 0 * c (n + 1) + cmul n (sh a) c := congrFun h (n + 1)
        rw [cmul_cong n (sh a) b c ih] at hn
        exact Int.eq_of_mul_eq_mul_left h0 (by omega)
      · exact ih i (by omega)
  exact funext fun i => gen i i (Nat.le_refl _)
def zedS : Ser Int := fun k => if k = 1 then 1 else 0
theorem zed_mul0 (b : Ser Int) : (zedS * b) 0 = 0 := by show zedS 0 * b 0 = 0; simp [zedS]
theorem zed_mulS (b : Ser Int) (k : Nat) : (zedS * b) (k + 1) = b k := by
  have h : (zedS * b) (k + 1) = zedS 0 * b (k + 1) + zedS 1 * b k := cmul_lin (fun i => by simp [zedS]) b k
  rw [h]; simp [zedS]
def wvN (n : Nat) (A : Mx) (B : Nat → Int) : Nat → Nat → Int
  | 0 => B
  | k + 1 => fun c => dsum (fun r => wvN n A B k r * A r c) n
def wvS (n : Nat) (A : Mx) (B : Nat → Int) (r : Nat) : Ser Int := fun k => wvN n A B k r
def lessM (A : Mx) (B : Nat → Int) : Mx := fun r c => A r c - B c
theorem wv_row {n : Nat} (A : Mx) (B : Nat → Int) {c : Nat} (hc : c < n) : dR (fun r => wvS n A B r * ulS A r c) n = ofI (B c) := by
  refine funext fun k => ?_
  rw [dR_at]
  cases k with
  | zero =>
    have : dsum (fun r => (wvS n A B r * ulS A r c) 0) n = dsum (fun r => B r * idM r c) n := dsum_congr fun r _ => by rw [mulC, ul_mul0, Int.mul_comm]; rfl
    rw [this, dsum_one hc (fun r hr hne => by unfold idM; rw [if_neg hne, Int.mul_zero])]
    unfold idM; rw [if_pos rfl, Int.mul_one]; rfl
  | succ k =>
    have : dsum (fun r => (wvS n A B r * ulS A r c) (k + 1)) n = dsum (fun r => wvN n A B (k + 1) r * idM r c + (-1) * (wvN n A B k r * A r c)) n := dsum_congr fun r _ => by
      rw [mulC, ul_mul, Int.mul_comm (idM r c), Int.neg_mul, Int.neg_mul, Int.one_mul, Int.mul_comm (A r c)]; rfl
    rw [this, dsum_lin, dsum_one hc (fun r hr hne => by unfold idM; rw [if_neg hne, Int.mul_zero])]
    have e : idM c c = 1 := by unfold idM; rw [if_pos rfl]
    rw [e]
    show wvN n A B (k + 1) c * 1 + -1 * wvN n A B (k + 1) c = 0
    omega
theorem ul_less (A : Mx) (B : Nat → Int) (r c : Nat) : ulS (lessM A B) r c = ulS A r c + zedS * ofI (B c) := by
  refine funext fun k => ?_
  rw [ser_add]
  match k with
  | 0 => rw [zed_mul0]; show idM r c = idM r c + 0; omega
  | 1 =>
    rw [zed_mulS]
    show -(A r c - B c) = -(A r c) + B c
    omega
  | k + 2 => rw [zed_mulS, ulS_lin, ulS_lin]; rfl
def rsS (n : Nat) (A : Mx) (B : Nat → Int) : Ser Int := ofI 1 + zedS * dR (fun r => wvS n A B r) n
theorem rsS_0 (n : Nat) (A : Mx) (B : Nat → Int) : rsS n A B 0 = 1 := by
  unfold rsS; rw [ser_add, zed_mul0]; rfl
theorem rsS_S (n : Nat) (A : Mx) (B : Nat → Int) (k : Nat) : rsS n A B (k + 1) = dsum (fun r => wvN n A B k r) n := by
  unfold rsS; rw [ser_add, zed_mulS, dR_at]
  show (0 : Int) + _ = _
  rw [Int.zero_add]; rfl
theorem ch_less (n : Nat) (A : Mx) (B : Nat → Int) : chS n (lessM A B) = rsS n A B * chS n A := by
  by_cases hB : ∃ i, i < n ∧ B i ≠ 0
  · obtain ⟨i, hi, hb⟩ := hB
    refine ser_cancel (a := wvS n A B i) hb ?_
    have h1 : dtR n (upR (ulS (lessM A B)) i (fun c => dR (fun r => wvS n A B r * ulS (lessM A B) r c) n)) = wvS n A B i * chS n (lessM A B) := dtR_comb _ hi _
    have h2 : ∀ c, c < n → dR (fun r => wvS n A B r * ulS (lessM A B) r c) n = rsS n A B * ofI (B c) := fun c hc => by
      have e : dR (fun r => wvS n A B r * ulS (lessM A B) r c) n = dR (fun r => wvS n A B r * ulS A r c + (zedS * ofI (B c)) * wvS n A B r) n := dR_congr fun r _ => by
        rw [ul_less, mulD, mulC (wvS n A B r) (zedS * _)]
      rw [e, dR_lin, wv_row A B hc]
      unfold rsS
      rw [Dmul, omul]
      congr 1
      ac_rfl
    have h3 : dtR n (upR (ulS (lessM A B)) i (fun c => dR (fun r => wvS n A B r * ulS (lessM A B) r c) n)) = dtR n (upR (ulS (lessM A B)) i (fun c => rsS n A B * ofI (B c))) :=
      dtR_congr fun r c _ hc => by
        unfold upR
        by_cases h : r = i
        · rw [if_pos h, if_pos h, h2 c hc]
        · rw [if_neg h, if_neg h]
    have h4 : (ulS (lessM A B) : Nat → Nat → Ser Int) = fun r c => ulS A r c + zedS * ofI (B c) := funext fun r => funext fun c => ul_less A B r c
    have h5 : dtR n (upR (ulS (lessM A B)) i (fun c => ofI (B c))) = dtR n (upR (ulS A) i (fun c => ofI (B c))) := by
      rw [h4]; exact dtR_spread (ulS A) hi zedS (fun c => ofI (B c))
    have h6 : dtR n (upR (ulS A) i (fun c => ofI (B c))) = wvS n A B i * chS n A := by
      have e : dtR n (upR (ulS A) i (fun c => ofI (B c))) = dtR n (upR (ulS A) i (fun c => dR (fun r => wvS n A B r * ulS A r c) n)) := dtR_congr fun r c _ hc => by
        unfold upR
        by_cases h : r = i
        · rw [if_pos h, if_pos h, wv_row A B hc]
        · rw [if_neg h, if_neg h]
      rw [e]; exact dtR_comb _ hi _
    rw [← h1, h3, dtR_scale _ hi, h5, h6]
    ac_rfl
  · have hz : ∀ i, i < n → B i = 0 := fun i hi => Classical.byContradiction fun h => hB ⟨i, hi, h⟩
    have wz : ∀ k r, r < n → wvN n A B k r = 0 := by
      intro k
      induction k with
      | zero => intro r hr; exact hz r hr
      | succ k ih => intro r _; exact dsum_zero fun j hj => by rw [ih j hj, Int.zero_mul]
    have e1 : rsS n A B = ofI 1 := funext fun k => by
      cases k with
      | zero => rw [rsS_0]; rfl
      | succ k => rw [rsS_S, dsum_zero (fun r hr => wz k r hr)]; rfl
    rw [e1, omul]
    unfold chS
    refine dtR_congr fun r c _ hc => ?_
    rw [ul_less, hz c hc]
    have : (ofI 0 : Ser Int) = ofI 0 := rfl
    rw [mul0, add0]
def serEq (a b : Ser Int) : Prop := ∀ k, a k % 10007 = b k % 10007
theorem mod_mulc {a b c d : Int} (h : a % 10007 = b % 10007) (k : c % 10007 = d % 10007) : (a * c) % 10007 = (b * d) % 10007 := by
  rw [Int.mul_emod, h, k, ← Int.mul_emod]
theorem mod_addc {a b c d : Int} (h : a % 10007 = b % 10007) (k : c % 10007 = d % 10007) : (a + c) % 10007 = (b + d) % 10007 := by
  rw [Int.add_emod, h, k, ← Int.add_emod]
theorem cmul_mod (n : Nat) : ∀ {a b c d : Ser Int}, (∀ i, i ≤ n → a i % 10007 = b i % 10007) → (∀ i, i ≤ n → c i % 10007 = d i % 10007) → cmul n a c % 10007 = cmul n b d % 10007 := by
  induction n with
  | zero => intro a b c d h k; exact mod_mulc (h 0 (Nat.le_refl _)) (k 0 (Nat.le_refl _))
  | succ n ih =>
    intro a b c d h k
    rw [cmul, cmul]
    exact mod_addc (mod_mulc (h 0 (by omega)) (k (n + 1) (by omega))) (ih (fun i hi => h (i + 1) (by omega)) (fun i hi => k i (by omega)))
theorem ch_mod {n : Nat} {M N : Mx} (h : ∀ r c, r < n → c < n → M r c % 10007 = N r c % 10007) : serEq (chS n M) (chS n N) := by
  unfold chS
  refine dtR_rel serEq (fun k i => rfl) (fun a b c d h k i => mod_addc (h i) (k i)) (fun a b c d h k i => cmul_mod i (fun j _ => h j) (fun j _ => k j)) (fun r c hr hc k => ?_)
  unfold ulS
  have e := h r c hr hc
  split
  · rfl
  · split
    · show (-M r c) % 10007 = (-N r c) % 10007
      omega
    · rfl
def evN (n : Nat) (A : Mx) : Nat → Nat → Int
  | 0 => fun _ => 1
  | k + 1 => fun r => dsum (fun c => A r c * evN n A k c) n
theorem wv_move (n : Nat) (A : Mx) (B : Nat → Int) (j m : Nat) : dsum (fun r => wvN n A B (j + 1) r * evN n A m r) n = dsum (fun r => wvN n A B j r * evN n A (m + 1) r) n := by
  have e1 : dsum (fun r => wvN n A B (j + 1) r * evN n A m r) n = dsum (fun r => dsum (fun q => wvN n A B j q * A q r * evN n A m r) n) n := dsum_congr fun r _ => by
    show dsum (fun q => wvN n A B j q * A q r) n * evN n A m r = _
    rw [Int.mul_comm, dsum_mul]
    exact dsum_congr fun q _ => by rw [Int.mul_comm]
  have e2 : dsum (fun r => wvN n A B j r * evN n A (m + 1) r) n = dsum (fun r => dsum (fun q => wvN n A B j r * A r q * evN n A m q) n) n := dsum_congr fun r _ => by
    show wvN n A B j r * dsum (fun c => A r c * evN n A m c) n = _
    rw [dsum_mul]
    exact dsum_congr fun q _ => by rw [Int.mul_assoc]
  rw [e1, e2, dsum_swap]
theorem wv_sum (n : Nat) (A : Mx) (B : Nat → Int) : ∀ (k j : Nat), dsum (fun r => wvN n A B (j + k) r * evN n A 0 r) n = dsum (fun r => wvN n A B j r * evN n A k r) n
  | 0, j => rfl
  | k + 1, j => by
    rw [show j + (k + 1) = (j + 1) + k by omega, wv_sum n A B k (j + 1)]
    exact wv_move n A B j k
theorem rs_dot (n : Nat) (A : Mx) (B : Nat → Int) (k : Nat) : rsS n A B (k + 1) = dsum (fun r => B r * evN n A k r) n := by
  rw [rsS_S]
  have h := wv_sum n A B k 0
  rw [Nat.zero_add] at h
  rw [← show dsum (fun r => wvN n A B k r * evN n A 0 r) n = dsum (fun r => wvN n A B k r) n from dsum_congr fun r _ => Int.mul_one _]
  exact h
end Go.Proofs.YtbeekabpflaihaaGreat


namespace Go.Proofs.YtbeekabpflaihaaGreat
open Go.Abs CR
set_option linter.unusedSectionVars false
set_option linter.unusedVariables false
set_option linter.unusedSimpArgs false
set_option maxHeartbeats 1000000
theorem dsum_mod {f g : Nat → Int} : ∀ {n : Nat}, (∀ i, i < n → f i % 10007 = g i % 10007) → dsum f n % 10007 = dsum g n % 10007
  | 0, _ => rfl
  | n + 1, h => mod_addc (dsum_mod (n := n) (fun i hi => h i (by omega))) (h n (by omega))
theorem ch_far {n k : Nat} (M : Mx) (h : n < k) : chS n M k = 0 := (Ev.det (z := 0) n (ulS M) (ulS_lin M)).1 k h
theorem chL_get (n : Nat) (a : List (List Int)) (k : Nat) : (chL n a)[k]?.getD 0 = chS n (mx a) k % 10007 := by
  by_cases h : k < n + 1
  · exact tb_get _ h
  · have : (chL n a)[k]? = none := List.getElem?_eq_none (by rw [chL_len]; omega)
    rw [this, ch_far _ (by omega)]; rfl
theorem les_mod {A : List (List Int)} {B : List Int} (h : Tab A B) {r c : Nat} (hr : r < B.length) (hc : c < B.length) :
    mx (lesM A B) r c % 10007 = lessM (mx A) (fun r => B[r]?.getD 0) r c % 10007 := by
  have hr2 : r < A.length := by rw [h.len]; exact hr
  have e : (lesM A B)[r]?.getD [] = plusS (A[r]?.getD []) B (-1) := by simp [lesM, hr2]
  have hl : (A[r]?.getD []).length = B.length := (h.rws.at hr2).1
  have e2 : mx (lesM A B) r c = ((A[r]?.getD [])[c]?.getD 0 + (-1) % 10007 * B[c]?.getD 0) % 10007 := by
    show ((lesM A B)[r]?.getD [])[c]?.getD 0 = _
    rw [e]
    exact tb_get _ (by omega)
  rw [e2]
  show _ = ((A[r]?.getD [])[c]?.getD 0 - B[c]?.getD 0) % 10007
  omega
theorem chL_0 (n : Nat) (a : List (List Int)) : (chL n a)[0]?.getD 0 = 1 := by rw [chL_get, ch_0]; rfl
end Go.Proofs.YtbeekabpflaihaaGreat


namespace Go.Proofs.YtbeekabpflaihaaGreat
open Go.Abs CR
set_option linter.unusedSectionVars false
set_option linter.unusedVariables false
set_option linter.unusedSimpArgs false
set_option maxHeartbeats 1000000
def Low (n : Nat) (M : Mx) : Prop := ∀ r c, r < n → c < n → r ≤ c → M r c = 0
theorem ad_low {n : Nat} {M : Mx} (h : Low n M) : ∀ (k j i : Nat), j < n → i < n → j < i → adS n M j i k = 0
  | 0, j, i, hj, hi, hji => by
    rw [ad_0 n M hj hi]; unfold idM; rw [if_neg (by omega)]
  | k + 1, j, i, hj, hi, hji => by
    rw [ad_step n M hj hi k, if_neg (by omega), Int.add_zero]
    refine dsum_zero fun c hc => ?_
    by_cases e : j ≤ c
    · rw [h j c hj hc e, Int.zero_mul]
    · rw [ad_low h k c i hc hi (by omega), Int.mul_zero]
theorem ch_low {n : Nat} {M : Mx} (h : Low n M) : ∀ k, chS n M k = if k = 0 then 1 else 0
  | 0 => ch_0 n M
  | k + 1 => by
    have e := ch_step n M k
    rw [dsum_zero (fun i hi => dsum_zero fun c hc => by
      by_cases e : i ≤ c
      · rw [h i c hi hc e, Int.zero_mul]
      · rw [ad_low h k c i hc hi (by omega), Int.mul_zero]), Int.neg_zero] at e
    rw [if_neg (by omega)]
    rcases Int.mul_eq_zero.1 e with h1 | h1
    · omega
    · exact h1
theorem ev_low {n : Nat} {M : Mx} (h : Low n M) : ∀ (k r : Nat), r < n → r < k → evN n M k r = 0
  | 0, r, _, hk => by omega
  | k + 1, r, hr, hk => dsum_zero fun c hc => by
    by_cases e : r ≤ c
    · rw [h r c hr hc e, Int.zero_mul]
    · rw [ev_low h k c hc (by omega), Int.mul_zero]
theorem rs_far {n : Nat} {A : Mx} (B : Nat → Int) (h : Low n A) {k : Nat} (hk : n < k) : rsS n A B k = 0 := by
  obtain ⟨j, rfl⟩ : ∃ j, k = j + 1 := ⟨k - 1, by omega⟩
  rw [rs_dot]
  exact dsum_zero fun r hr => by rw [ev_low h j r hr (by omega), Int.mul_zero]
theorem ch_les {A : List (List Int)} {B : List Int} (h : Tab A B) (hl : Low B.length (mx A)) (k : Nat) :
    (chL B.length (lesM A B))[k]?.getD 0 = rsS B.length (mx A) (fun r => B[r]?.getD 0) k % 10007 := by
  have e1 : chS B.length (mx (lesM A B)) k % 10007 = chS B.length (lessM (mx A) (fun r => B[r]?.getD 0)) k % 10007 := ch_mod (fun r c hr hc => les_mod h hr hc) k
  have e2 : chS B.length (mx A) = ofI 1 := funext fun k => by
    rw [ch_low hl]; cases k <;> rfl
  rw [chL_get, e1, ch_less, e2, mul1]
def pwM (n : Nat) (m : List (List Int)) (y : Nat → Int) : Nat → Nat → Int
  | 0 => y
  | k + 1 => act n m (pwM n m y k)
theorem linS_mx {n : Nat} {m : List (List Int)} (hl : m.length = n) (hr : Rws n m) (h : Int) {r c : Nat} (h1 : r < n) (h2 : c < n) : mx (linS m h) r c = mx m r c * h % 10007 := by
  have hr' : r < m.length := by omega
  have e : (linS m h)[r]?.getD [] = tb (fun k => (m[r]?.getD [])[k]?.getD 0 * h % 10007) (m[r]?.getD []).length := by simp [linS, hr']
  show ((linS m h)[r]?.getD [])[c]?.getD 0 = _
  rw [e]
  exact tb_get _ (by rw [(hr.at hr').1]; exact h2)
theorem act_lin {n : Nat} {m : List (List Int)} (hl : m.length = n) (hr : Rws n m) (h : Int) (v : Nat → Int) {r : Nat} (h1 : r < n) : act n (linS m h) v r % 10007 = h * act n m v r % 10007 := by
  rw [act, act, dsum_mul]
  refine dsum_mod fun c hc => ?_
  rw [linS_mx hl hr h h1 hc, mul_mod_l]
  congr 1
  ac_rfl
theorem apF_pw {n : Nat} {m : List (List Int)} (hl : m.length = n) (hr : Rws n m) (h : Int) (y : Nat → Int) : ∀ (l : List Int) (j : Nat) (v : Nat → Int),
    (∀ c, c < n → v c % 10007 = h ^ j * pwM n m y j c % 10007) → ∀ r, r < n →
    apF n (linS m h) l v r % 10007 = dsum (fun k => l[k]?.getD 0 * (h ^ (j + k) * pwM n m y (j + k) r)) l.length % 10007
  | [], j, v, hv, r, h1 => rfl
  | a :: l, j, v, hv, r, h1 => by
    rw [apF, List.length_cons, dsum_shift]
    refine mod_addc ?_ ?_
    · exact mod_mulc rfl (hv r h1)
    · have ih := apF_pw hl hr h y l (j + 1) (act n (linS m h) v) (fun c hc => by
        rw [act_lin hl hr h v hc]
        have e : act n m v c % 10007 = h ^ j * act n m (pwM n m y j) c % 10007 := by
          rw [act, act, dsum_mul]
          refine dsum_mod fun q hq => ?_
          rw [mod_mulc rfl (hv q hq)]
          congr 1
          ac_rfl
        rw [mod_mulc rfl e, Int.pow_succ]
        show _ = h ^ j * h * act n m (pwM n m y j) c % 10007
        congr 1
        ac_rfl) r h1
      rw [ih]
      congr 1
      refine dsum_congr fun k hk => ?_
      rw [show j + 1 + k = j + (k + 1) by omega, List.getElem?_cons_succ]
def xpF (A : List (List Int)) (B : List Int) (m : List (List Int)) (y : List Int) (h : Int) (r : Nat) : Int :=
  dsum (fun k => rsS B.length (mx A) (fun r => B[r]?.getD 0) k * (h ^ k * pwM m.length m (fun c => y[c]?.getD 0) k r)) 7 % 10007
theorem lin_is {A : List (List Int)} {B : List Int} {m : List (List Int)} {y : List Int} (h : Int) (hT : Tab A B) (hlow : Low B.length (mx A)) (h6 : B.length ≤ 6) (h0 : 0 < m.length) (hr : Rws m.length m) (hy : y.length = m.length) (hN : Ns y) :
    ldet m.length (linQ A B m h) ≠ 0 ∧ linX A B m y h = tb (xpF A B m y h) m.length := by
  have hl := linS_len m h
  have hs := linS_ok hr h
  have oQ := horM_ok h0 hl hs (chL B.length A).reverse
  have hq : horM (linS m h) (chL B.length A).reverse = linQ A B m h := rfl
  have qa : ∀ (v : Nat → Int) (r : Nat), r < m.length → act m.length (linQ A B m h) v r % 10007 = v r % 10007 := fun v r h1 => by
    rw [← hq, hor_act h0 hl hs _ _ _ h1, apF_pw rfl hr h v (chL B.length A) 0 v (fun c hc => by rw [Int.pow_zero, Int.one_mul]; rfl) r h1, chL_len, dsum_one (k := 0) (by omega) (fun i hi hne => by
      rw [chL_get, ch_low hlow, if_neg hne]; simp), chL_0]
    show 1 * (h ^ 0 * v r) % 10007 = _
    rw [Int.pow_zero, Int.one_mul, Int.one_mul]
  rw [hq] at oQ
  have qm : ∀ r c, r < m.length → c < m.length → mx (linQ A B m h) r c % 10007 = idM r c % 10007 := fun r c h1 h2 => by
    have e := qa (fun k => idM k c) r h1
    rw [act, dsum_one (k := c) h2 (fun i hi hne => by show _ * idM i c = 0; unfold idM; rw [if_neg hne, Int.mul_zero])] at e
    have e1 : idM c c = 1 := by unfold idM; rw [if_pos rfl]
    rw [e1, Int.mul_one] at e
    exact e
  have dn : ldet m.length (linQ A B m h) ≠ 0 := by
    rw [ldet_is _ _ oQ.1 oQ.2, det_cong qm, det_one]
    decide
  refine ⟨dn, ?_⟩
  unfold linX
  refine List.ext_getElem (by simp) fun r h1 h2 => ?_
  have hr1 : r < m.length := by simpa using h1
  have bN : Ns (apL (chL B.length (lesM A B)) (linS m h) y) := (sumK_ok (chL B.length (lesM A B)) (linS m h) hy (chL B.length (lesM A B)).length).2
  have sv := sys_solves h0 oQ.1 oQ.2 bN dn r hr1
  have e1 := qa (sysF m.length (linQ A B m h) (apL (chL B.length (lesM A B)) (linS m h) y)) r hr1
  rw [act, sv] at e1
  have e2 : sysF m.length (linQ A B m h) (apL (chL B.length (lesM A B)) (linS m h) y) r % 10007 = sysF m.length (linQ A B m h) (apL (chL B.length (lesM A B)) (linS m h) y) r := by
    unfold sysF
    exact Int.emod_emod_of_dvd _ (Int.dvd_refl _)
  rw [e2, apL_get hl hs hy hN hr1, Int.emod_emod_of_dvd _ (Int.dvd_refl _), apF_pw rfl hr h (fun c => y[c]?.getD 0) (chL B.length (lesM A B)) 0 (fun c => y[c]?.getD 0) (fun c hc => by rw [Int.pow_zero, Int.one_mul]; rfl) r hr1, chL_len] at e1
  have e3 : (tb (sysF m.length (linQ A B m h) (apL (chL B.length (lesM A B)) (linS m h) y)) m.length)[r] = sysF m.length (linQ A B m h) (apL (chL B.length (lesM A B)) (linS m h) y) r := by simp [tb]
  have e4 : (tb (xpF A B m y h) m.length)[r] = xpF A B m y h r := by simp [tb]
  rw [e3, e4, ← e1]
  unfold xpF
  have sp := dsum_split (fun k => rsS B.length (mx A) (fun r => B[r]?.getD 0) k * (h ^ k * pwM m.length m (fun c => y[c]?.getD 0) k r)) (B.length + 1) (6 - B.length)
  rw [show B.length + 1 + (6 - B.length) = 7 by omega, dsum_zero (n := 6 - B.length) (fun j hj => by
    rw [rs_far _ hlow (show B.length < B.length + 1 + j by omega), Int.zero_mul]), Int.add_zero] at sp
  rw [sp]
  refine dsum_mod fun k hk => ?_
  rw [ch_les hT hlow, mul_mod_l, Nat.zero_add]
end Go.Proofs.YtbeekabpflaihaaGreat


namespace Go.Proofs.YtbeekabpflaihaaGreat
open Go.Abs
set_option linter.unusedSectionVars false
set_option linter.unusedVariables false
set_option linter.unusedSimpArgs false
set_option maxHeartbeats 1000000
def raiS (a : List Int) : List Int := tb (fun i => if i = 0 then 0 else a[i - 1]?.getD 0) a.length
@[simp] theorem raiS_len (a : List Int) : (raiS a).length = a.length := by simp [raiS]
theorem raiS_N {a : List Int} (h : Ns a) : Ns (raiS a) := tb_N fun i _ => by split; exact ⟨by omega, by omega⟩; exact h.get _
theorem raiS_eq {a : List Int} (h : 0 < a.length) : raiS a = 0 :: a.take (a.length - 1) := by
  refine List.ext_getElem (by simp; omega) fun i h1 h2 => ?_
  cases i with
  | zero => simp [raiS, tb]
  | succ j =>
    simp only [raiS, tb, List.getElem_map, List.getElem_range, List.getElem_cons_succ, List.getElem_take]
    simp at h2
    have : j < a.length := by omega
    simp [this]
theorem raised_c (a : List Int) (hl : a.length ≤ 1048576) (h0 : 0 < a.length) :
    Con Tryz.prog 190 [.sl a.length (avs a)] (.own 2 a.length (avs (raiS a))) := by
  rw [raiS_eq h0]
  refine con_of_vc Tryz.mixed ⟨3, [], [], []⟩ Tryz.func190 (by decide) rfl (by simp) (by decide) (by simp [freshOK, freshL, go_sem]) ?_
  rw [Tryz.ntmps190]
  simp [go_sem]
  exact ⟨⟨by omega, by omega⟩, ⟨by omega, by omega⟩, ⟨by omega, by omega⟩, by omega, by simp [avs, List.map_take]⟩
def ocube (X : List (List (List Int))) : List AV := X.map fun m => .own 22 m.length (omat m)
def cube (X : List (List (List Int))) : List AV := X.map fun m => .sl m.length (mat m)
@[simp] theorem ocube_len (X : List (List (List Int))) : (ocube X).length = X.length := by simp [ocube]
@[simp] theorem cube_len (X : List (List (List Int))) : (cube X).length = X.length := by simp [cube]
@[simp] theorem cube_ne {X : List (List (List Int))} : (cube X = []) = (X = []) := by cases X <;> simp [cube]
@[simp] theorem ocube_frz : ∀ X : List (List (List Int)), frzL (ocube X) = cube X
  | [] => rfl
  | m :: X => by
    have := ocube_frz X
    simp only [ocube, cube, List.map_cons] at this ⊢
    rw [frzL, this]
    simp [frz]
@[simp] theorem ocube_fresh : ∀ X : List (List (List Int)), freshL (ocube X) = true
  | [] => rfl
  | m :: X => by
    have := ocube_fresh X
    simp only [ocube, List.map_cons] at this ⊢
    rw [freshL, this]
    simp [freshOK]
theorem cube_drop {X : List (List (List Int))} {k : Nat} (h : k < X.length) : (cube X).drop k = .sl (X[k]?.getD []).length (mat (X[k]?.getD [])) :: cube (X.drop (k + 1)) := by
  rw [cube, ← List.map_drop, List.drop_eq_getElem_cons h, List.map_cons]; simp [h, cube]
theorem ocube_app (A C : List (List (List Int))) : ocube (A ++ C) = ocube A ++ ocube C := by simp [ocube]
theorem ocube_one (r : List (List Int)) : ocube [r] = [.own 22 r.length (omat r)] := rfl
end Go.Proofs.YtbeekabpflaihaaGreat


namespace Go.Proofs.YtbeekabpflaihaaGreat
open Go.Abs
set_option linter.unusedSectionVars false
set_option linter.unusedVariables false
set_option linter.unusedSimpArgs false
set_option maxHeartbeats 1000000
def mvS (start : List (List Int)) (c : List Int) (L : List (List (List Int))) : Nat → List (List Int)
  | 0 => start
  | i + 1 => (List.range start.length).map fun k => plusS ((mvS start c L i)[k]?.getD []) (raiS ((L[i]?.getD [])[k]?.getD [])) (c[i]?.getD 0)
theorem mvS_len (start : List (List Int)) (c : List Int) (L : List (List (List Int))) : ∀ i, (mvS start c L i).length = start.length
  | 0 => rfl
  | i + 1 => by simp [mvS]
theorem mvS_row {start : List (List Int)} {c : List Int} {L : List (List (List Int))} {n : Nat} (h : ∀ r ∈ start, r.length = n ∧ Ns r) : ∀ i, ∀ r ∈ mvS start c L i, r.length = n ∧ Ns r
  | 0 => h
  | i + 1 => by
    intro r hr
    rw [mvS] at hr
    obtain ⟨k, hk, rfl⟩ := List.mem_map.1 hr
    have hk : k < start.length := by simpa using hk
    have hm : (mvS start c L i)[k]?.getD [] ∈ mvS start c L i := by simp [mvS_len, hk]
    exact ⟨by rw [plusS_len]; exact (mvS_row h i _ hm).1, plusS_N _ _ _⟩
def mxS (A C : List (List Int)) (j : Nat) : List (List Int) := (List.range A.length).map fun k => if k < j then C[k]?.getD [] else A[k]?.getD []
theorem mxS_zero (A C : List (List Int)) : mxS A C 0 = A := by
  refine List.ext_getElem (by simp [mxS]) fun i h1 h2 => ?_
  simp [mxS, h2]
theorem mxS_all {A C : List (List Int)} (h : C.length = A.length) : mxS A C A.length = C := by
  refine List.ext_getElem (by simp [mxS, h]) fun i h1 h2 => ?_
  simp [mxS, show i < A.length by omega, h2]
@[simp] theorem mxS_len (A C : List (List Int)) (j : Nat) : (mxS A C j).length = A.length := by simp [mxS]
theorem mxS_get {A C : List (List Int)} {j : Nat} (h : j < A.length) : (mxS A C j)[j]?.getD [] = A[j]?.getD [] := by simp [mxS, h]
theorem mxS_set {A C : List (List Int)} {j : Nat} (h : j < A.length) : (mxS A C j).set j (C[j]?.getD []) = mxS A C (j + 1) := by
  refine List.ext_getElem (by simp) fun i h1 h2 => ?_
  simp at h1
  rw [List.getElem_set]
  by_cases e : j = i
  · subst e; simp [mxS]
  · simp only [e, if_false, mxS, List.getElem_map, List.getElem_range]
    by_cases h3 : i < j
    · simp [h3, show i < j + 1 by omega]
    · simp [h3, show ¬ i < j + 1 by omega]
set_option maxRecDepth 100000 in
theorem moved_c (start : List (List Int)) (c : List Int) (L : List (List (List Int))) (n : Nat) (hn : 0 < n) (hn8 : n ≤ 8) (hs : ∀ r ∈ start, r.length = n ∧ Ns r) (hl : start.length ≤ 1048576) (hc : c.length ≤ 8) (hcL : c.length ≤ L.length) (hcN : Ns c) (hL : ∀ m ∈ L, m.length = start.length ∧ ∀ r ∈ m, r.length = n ∧ Ns r) (hLl : L.length ≤ 1048576) :
    Con Tryz.prog 146 [.sl start.length (mat start), .sl c.length (avs c), .sl L.length (cube L)] (.own 22 start.length (omat (mvS start c L c.length))) := by
  refine con_of_vc Tryz.mixed ⟨11, [], [], []⟩ Tryz.func146 (by decide) rfl (by simp) (by decide) (by simp [freshOK, freshL, go_sem]) ?_
  rw [Tryz.ntmps146]
  simp [go_sem]
  refine CallVC.of (cloneRows_c start hl (fun r hr => by have := (hs r hr).1; omega)) (by decide) ?_
  simp [go_sem]
  refine loop_inv (7 :: 8 :: 9 :: 10 :: List.range' 15 29) (fun i : Nat => [(7, .own 22 start.length (omat (mvS start c L i))), (15, .int i)]) (fun i => i ≤ c.length) (fun i => c.length - i) 0 (by simp) (by simp [go_sem, mvS]) (by simp [go_sem]) ?_
  intro i hi
  simp [go_sem]
  refine ⟨fun h => ?_, fun h => ?_⟩ <;> simp at h
  · have hic := h
    have hiL : i < L.length := by omega
    simp [go_sem, avs_drop hic]
    refine ⟨⟨hic, by rintro rfl; simp at hic⟩, ?_⟩
    refine loop_inv (7 :: 10 :: List.range' 22 21) (fun j : Nat => [(7, .own 22 start.length (omat (mxS (mvS start c L i) (mvS start c L (i + 1)) j))), (22, .int j)]) (fun j => j ≤ start.length) (fun j => start.length - j) 0 (by simp) (by simp [go_sem, mxS_zero]) (by simp [go_sem]) ?_
    intro j hj
    simp [go_sem]
    refine ⟨fun h => ?_, fun h => ?_⟩ <;> simp at h
    · have hjs := h
      have hM : j < (mxS (mvS start c L i) (mvS start c L (i + 1)) j).length := by rw [mxS_len, mvS_len]; exact hjs
      have hg := omat_get hM
      have hj2 : j < (mvS start c L i).length := by rw [mvS_len]; exact hjs
      rw [mxS_get hj2] at hg
      have hx := hL (L[i]?.getD []) (by simp [hiL])
      have hjL : j < (L[i]?.getD []).length := by omega
      have hy := hx.2 ((L[i]?.getD [])[j]?.getD []) (by simp [hjL])
      have hz := mvS_row (c := c) (L := L) hs i ((mvS start c L i)[j]?.getD []) (by simp [hj2])
      have hset := omat_set (mxS (mvS start c L i) (mvS start c L (i + 1)) j) j ((mvS start c L (i + 1))[j]?.getD [])
      have hnext : (mvS start c L (i + 1))[j]?.getD [] = plusS ((mvS start c L i)[j]?.getD []) (raiS ((L[i]?.getD [])[j]?.getD [])) (c[i]?.getD 0) := by simp [mvS, hjs]
      rw [mxS_set hj2] at hset
      have cR := raised_c ((L[i]?.getD [])[j]?.getD []) (by omega) (by omega)
      have ck := hcN.get i
      have cP := plus_c ((mvS start c L i)[j]?.getD []) (raiS ((L[i]?.getD [])[j]?.getD [])) (c[i]?.getD 0) hz.2 (raiS_N hy.2) (by obtain ⟨x0, x1⟩ := ck; exact ⟨by omega, by omega⟩) (by omega) (by simp; omega)
      rw [raiS_len] at cP
      rw [← hnext] at cP
      rw [hnext, plusS_len, ← hnext] at hset
      generalize mxS (mvS start c L i) (mvS start c L (i + 1)) j = M at *
      generalize (mvS start c L (i + 1))[j]?.getD [] = new at *
      generalize (mvS start c L i)[j]?.getD [] = old at *
      simp [go_sem, hg, cube_drop hiL, mat_drop hjL]
      refine ⟨by kernel_rfl, hjs, ⟨hiL, by rintro rfl; simp at hiL⟩, ⟨hjL, by intro e; simp [e] at hjL⟩, ?_⟩
      refine CallD.of (cR) (by simp [roots, rootsL]) (by decide) ?_
      simp [go_sem]
      simp [go_sem, hg]
      refine CallD.of (cP) (by simp [roots, rootsL]) (by decide) ?_
      simp [go_sem]
      refine ⟨hjs, hM, ?_⟩
      refine ⟨by kernel_rfl, ?_⟩
      simp [go_sem]
      refine ⟨by omega, j + 1, by omega, by omega, Off_reset _ _ _ (by simp), ?_⟩
      rw [← hset]
      exact ⟨rfl, by omega⟩
    · have e : j = start.length := by omega
      have hall := mxS_all (A := mvS start c L i) (C := mvS start c L (i + 1)) (by rw [mvS_len, mvS_len])
      rw [mvS_len] at hall
      subst e
      simp [go_sem]
      exact ⟨by omega, i + 1, by omega, by omega, (Off.reset (by intro x hx; simp at hx ⊢; omega) (by simp) (by simp [go_sem, Off_reset])), by rw [hall], by omega⟩
  · have e : i = c.length := by omega
    subst e
    simp [go_sem]
end Go.Proofs.YtbeekabpflaihaaGreat


namespace Go.Proofs.YtbeekabpflaihaaGreat
open Go.Abs
set_option linter.unusedSectionVars false
set_option linter.unusedVariables false
set_option linter.unusedSimpArgs false
set_option maxHeartbeats 1000000
end Go.Proofs.YtbeekabpflaihaaGreat


namespace Go.Proofs.YtbeekabpflaihaaGreat
open Go.Abs
set_option linter.unusedSectionVars false
set_option linter.unusedVariables false
set_option linter.unusedSimpArgs false
set_option maxHeartbeats 1000000
def tmN (i j n : Nat) : Nat := if i ≤ n then (if n < i + j then i + 1 else i) else n + 1
def tmS (a b : List Int) (i j : Nat) : List Int := tb (fun n => cv a b n (tmN i j n) % 10007) a.length
@[simp] theorem tmS_len (a b : List Int) (i j : Nat) : (tmS a b i j).length = a.length := by simp [tmS]
theorem tmS_N (a b : List Int) (i j : Nat) : Ns (tmS a b i j) := tb_N fun i _ => isN_mod _
theorem tmS_zero (a b : List Int) : tmS a b 0 0 = List.replicate a.length 0 := by
  refine List.ext_getElem (by simp) fun n h1 h2 => ?_
  simp [tmS, tb, tmN, cv]
theorem tmS_next (a b : List Int) (i j : Nat) (h : a.length ≤ i + j) : tmS a b i j = tmS a b (i + 1) 0 := by
  unfold tmS tb
  refine List.map_congr_left fun n hn => ?_
  have hn : n < a.length := by simpa using hn
  have e : tmN i j n = tmN (i + 1) 0 n := by unfold tmN; (repeat' split) <;> omega
  rw [e]
theorem tmS_end (a b : List Int) : tmS a b a.length 0 = mulS a b := by
  unfold tmS mulS tb
  refine List.map_congr_left fun n hn => ?_
  have hn : n < a.length := by simpa using hn
  have e : tmN a.length 0 n = n + 1 := by unfold tmN; split <;> omega
  rw [e]
theorem tmS_set (a b : List Int) (i j : Nat) (h : i + j < a.length) : (tmS a b i j).set (i + j) (((tmS a b i j)[i + j]?.getD 0 + a[i]?.getD 0 * b[j]?.getD 0) % 10007) = tmS a b i (j + 1) := by
  refine List.ext_getElem (by simp) fun n h1 h2 => ?_
  simp at h1
  rw [List.getElem_set]
  by_cases e : i + j = n
  · subst e
    have e1 : tmN i j (i + j) = i := by unfold tmN; (repeat' split) <;> omega
    have e2 : tmN i (j + 1) (i + j) = i + 1 := by unfold tmN; (repeat' split) <;> omega
    have e3 : i + j - i = j := by omega
    have g := tb_get (fun n => cv a b n (tmN i j n) % 10007) h
    have g2 : (tmS a b i j)[i + j]?.getD 0 = cv a b (i + j) (tmN i j (i + j)) % 10007 := g
    simp only [if_true, g2, e1]
    simp only [tmS, tb, List.getElem_map, List.getElem_range, e2, cv, e3]
    omega
  · have e1 : tmN i j n = tmN i (j + 1) n := by unfold tmN; (repeat' split) <;> omega
    simp only [e, if_false, tmS, tb, List.getElem_map, List.getElem_range, e1]
set_option maxRecDepth 100000 in
theorem timesSeries_c (a b : List Int) (ha : Ns a) (hb : Ns b) (hl : a.length ≤ 1048576) (hab : a.length ≤ b.length) :
    Con Tryz.prog 255 [.sl a.length (avs a), .sl b.length (avs b)] (.own 2 a.length (avs (mulS a b))) := by
  refine con_of_vc Tryz.mixed ⟨9, [], [], []⟩ Tryz.func255 (by decide) rfl (by simp) (by decide) (by simp [freshOK, freshL, go_sem]) ?_
  rw [Tryz.ntmps255]
  simp [go_sem]
  refine ⟨by omega, ?_⟩
  refine loop_inv (5 :: 6 :: 7 :: 8 :: List.range' 14 33) (fun i : Nat => [(5, .own 2 a.length (avs (tmS a b i 0))), (14, .int i)]) (fun i => i ≤ a.length) (fun i => a.length - i) 0 (by simp) (by simp [go_sem, tmS_zero, avs_repl]) (by simp [go_sem]) ?_
  intro i hi
  simp [go_sem]
  refine ⟨fun h => ?_, fun h => ?_⟩ <;> simp at h
  · have hi2 := h
    simp [go_sem, avs_drop hi2]
    refine ⟨⟨hi2, by rintro rfl; simp at hi2⟩, ?_⟩
    refine loop_inv (5 :: 8 :: List.range' 19 27) (fun j : Nat => [(5, .own 2 a.length (avs (tmS a b i j))), (8, .int j)]) (fun j => i + j ≤ a.length) (fun j => a.length - j) 0 (by simp; omega) (by simp [go_sem]) (by simp [go_sem]) ?_
    intro j hj
    simp [go_sem]
    refine ⟨⟨by omega, by omega⟩, ?_⟩
    refine ⟨fun h => ?_, fun h => ?_⟩ <;> simp at h
    · have k0 : i + j < a.length := by omega
      have k1 : j < b.length := by omega
      have k2 : i + j < (tmS a b i j).length := by rw [tmS_len]; exact k0
      have hset := tmS_set a b i j k0
      have tN := (tmS_N a b i j).get (i + j)
      have m1 := mul_fits (ha.get i) (hb.get j)
      have m2 : fits ((tmS a b i j)[i + j]?.getD 0 + a[i]?.getD 0 * b[j]?.getD 0) := by
        have x0 := mul_bound (ha.get i) (hb.get j)
        obtain ⟨y0, y1⟩ := tN
        exact ⟨by omega, by omega⟩
      have ij : ((i : Int) + j).toNat = i + j := by omega
      simp [go_sem, ij, avs_drop k1, avs_at k2]
      refine ⟨by kernel_rfl, ⟨by omega, by omega⟩, ⟨by omega, by omega⟩, ⟨k1, by intro e; simp [e] at k1⟩, m1, m2, ?_⟩
      refine CallD.of (num_c _ m2.1 m2.2) (by simp [roots, rootsL]) (by decide) ?_
      simp [go_sem]
      refine ⟨⟨by omega, by omega⟩, by omega, ?_⟩
      refine ⟨by kernel_rfl, ?_⟩
      simp [go_sem]
      exact ⟨by omega, j + 1, by omega, by omega, Off_reset _ _ _ (by simp), by rw [ij, avs_set, hset], by omega⟩
    · have hx : a.length ≤ i + j := by omega
      have hn := tmS_next a b i j hx
      simp [go_sem]
      exact ⟨by omega, i + 1, by omega, by omega, (Off.reset (by intro x hx; simp at hx ⊢; omega) (by simp) (by simp [go_sem, Off_reset])), by rw [hn], by omega⟩
  · have e : i = a.length := by omega
    subst e
    simp [go_sem]
    exact tmS_end a b
end Go.Proofs.YtbeekabpflaihaaGreat


namespace Go.Proofs.YtbeekabpflaihaaGreat
open Go.Abs
set_option linter.unusedSectionVars false
set_option linter.unusedVariables false
set_option linter.unusedSimpArgs false
set_option maxHeartbeats 1000000
def pwS (s x : List Int) : Nat → List Int
  | 0 => s
  | n + 1 => mulS (pwS s x n) x
@[simp] theorem pwS_len (s x : List Int) : ∀ n, (pwS s x n).length = s.length
  | 0 => rfl
  | n + 1 => by rw [pwS, mulS_len, pwS_len s x n]
theorem pwS_N {s x : List Int} (h : Ns s) : ∀ n, Ns (pwS s x n)
  | 0 => h
  | n + 1 => mulS_N _ _
def teS (L : List (List Int)) (e : List Int) (s : List Int) : Nat → List Int
  | 0 => s
  | i + 1 => pwS (teS L e s i) (L[i]?.getD []) (e[i]?.getD 0).toNat
@[simp] theorem teS_len (L : List (List Int)) (e s : List Int) : ∀ i, (teS L e s i).length = s.length
  | 0 => rfl
  | i + 1 => by rw [teS, pwS_len, teS_len L e s i]
theorem teS_N {L : List (List Int)} {e s : List Int} (h : Ns s) : ∀ i, Ns (teS L e s i)
  | 0 => h
  | i + 1 => pwS_N (teS_N h i) _
theorem teS_congr {L : List (List Int)} {e e' s : List Int} : ∀ {n : Nat}, (∀ i, i < n → e[i]?.getD 0 = e'[i]?.getD 0) → teS L e s n = teS L e' s n
  | 0, _ => rfl
  | n + 1, h => by rw [teS, teS, teS_congr (fun i hi => h i (by omega)), h n (by omega)]
def unS (a : Int) : List Int := [a, 0, 0, 0, 0, 0, 0]
theorem unS_N {a : Int} (h : isN a) : Ns (unS a) := by
  intro x hx
  simp [unS] at hx
  rcases hx with rfl | rfl
  · exact h
  · exact ⟨by omega, by omega⟩
def teK (L : List (List Int)) (k : Key) (x : Int) : List Int := teS L [k.1, k.2.1, k.2.2] (unS x) L.length
def reS (L : List (List Int)) (n : Nat) : List (Key × Int) → Int
  | [] => 0
  | e :: es => (teK L e.1 e.2)[n]?.getD 0 + reS L n es
def voS (L : List (List Int)) (n : Nat) : List Mon → Int
  | [] => 0
  | m :: p => (teS L m.2 (unS m.1) L.length)[n]?.getD 0 + voS L n p
theorem reS_app (L : List (List Int)) (n : Nat) (a b : List (Key × Int)) : reS L n (a ++ b) = reS L n a + reS L n b := by
  induction a with
  | nil => simp [reS]
  | cons e a ih => simp [reS, ih]; omega
theorem reS_perm (L : List (List Int)) (n : Nat) {a b : List (Key × Int)} (h : a.Perm b) : reS L n a = reS L n b := by
  induction h with
  | nil => rfl
  | cons x _ ih => simp [reS, ih]
  | swap x z l => simp [reS]; omega
  | trans _ _ i1 i2 => rw [i1, i2]
theorem teK_of {L : List (List Int)} (hl : L.length ≤ 3) (m : Mon) : teK L (keyOf m.2) m.1 = teS L m.2 (unS m.1) L.length := by
  refine teS_congr (fun i hi => ?_)
  have : i = 0 ∨ i = 1 ∨ i = 2 := by omega
  rcases this with rfl | rfl | rfl <;> simp [keyOf]
theorem reS_map {L : List (List Int)} (hl : L.length ≤ 3) (n : Nat) : ∀ p : List Mon, reS L n (p.map keyM) = voS L n p
  | [] => rfl
  | m :: p => by
    rw [List.map_cons, reS, voS, reS_map hl n p]
    have := teK_of hl m
    simp only [keyM]
    rw [this]
def evS (L : List (List Int)) (p : List Mon) : List Int := tb (fun n => voS L n p % 10007) 7
@[simp] theorem evS_len (L : List (List Int)) (p : List Mon) : (evS L p).length = 7 := by simp [evS]
theorem evS_N (L : List (List Int)) (p : List Mon) : Ns (evS L p) := tb_N fun i _ => isN_mod _
end Go.Proofs.YtbeekabpflaihaaGreat


namespace Go.Proofs.YtbeekabpflaihaaGreat
open Go.Abs
set_option linter.unusedSectionVars false
set_option linter.unusedVariables false
set_option linter.unusedSimpArgs false
set_option maxHeartbeats 1000000
set_option maxRecDepth 100000 in
theorem series_c (c : Key → Option Int) (L : List (List Int)) (T : Nat → Int) (hL : L.length ≤ 3) (hr : ∀ r ∈ L, r.length = 7 ∧ Ns r) (hc : ∀ k x, c k = some x → EOk (k, x)) (hE : ∀ es, Enum c es → ∀ n, reS L n es % 10007 = T n) :
    Con Tryz.prog 224 [.fmp c, .sl L.length (mat L)] (.own 2 7 (avs (tb T 7))) := by
  refine con_of_vc Tryz.mixed ⟨11, [], [], []⟩ Tryz.func224 (by decide) rfl (by simp) (by decide) (by simp [freshOK, freshL, go_sem]) ?_
  rw [Tryz.ntmps224]
  simp [go_sem]
  intro es hes
  have hok : ∀ e ∈ es, EOk e := fun e he => hc e.1 e.2 (hes.val e he)
  have hsum := hE es hes
  refine loop_inv (5 :: 6 :: 7 :: 8 :: 9 :: 10 :: List.range' 13 30) (fun x : List Int × Option (Key × Int) × List (Key × Int) => [(5, .own 2 7 (avs x.1)), (13, .it x.2.1 x.2.2)]) (fun x => x.1.length = 7 ∧ Ns x.1 ∧ (∀ n, n < 7 → (x.1[n]?.getD 0 + reS L n x.2.2) % 10007 = T n) ∧ ∀ e ∈ x.2.2, EOk e) (fun x => x.2.2.length) ([0, 0, 0, 0, 0, 0, 0], none, es) ?_ ?_ (by simp [go_sem]) ?_
  · refine ⟨rfl, ?_, fun n _ => ?_, hok⟩
    · intro x hx
      simp at hx; subst hx; exact ⟨by omega, by omega⟩
    · have e : ([0, 0, 0, 0, 0, 0, 0] : List Int)[n]?.getD 0 = 0 := by
        rcases Nat.lt_or_ge n 7 with h | h
        · have : n = 0 ∨ n = 1 ∨ n = 2 ∨ n = 3 ∨ n = 4 ∨ n = 5 ∨ n = 6 := by omega
          rcases this with rfl | rfl | rfl | rfl | rfl | rfl | rfl <;> rfl
        · simp [List.getElem?_eq_none, h]
      simp only [e, Int.zero_add]
      exact hsum n
  · simp [go_sem, avs]
  rintro ⟨o, l, rem⟩ ⟨ho, hoN, hoT, hrem⟩
  simp only at ho hoN hoT hrem
  simp [go_sem, keyAV]
  refine ⟨fun hr => ?_, fun l1 k0 k1 k2 x l2 hr2 => ?_⟩
  · subst hr
    refine List.ext_getElem (by simp [ho]) fun n h1 h2 => ?_
    have h7 : n < 7 := by omega
    have t := hoT n h7
    have oN := hoN.get n
    simp only [reS, Int.add_zero] at t
    rw [Int.emod_eq_of_lt oN.1 (by have := oN.2; omega)] at t
    simpa [tb, h1] using t
  · subst hr2
    have hek := hrem ((k0, k1, k2), x) (by simp)
    have hx : isN x := hek.1
    have hg : ∀ i : Nat, 0 ≤ ([k0, k1, k2] : List Int)[i]?.getD 0 ∧ ([k0, k1, k2] : List Int)[i]?.getD 0 ≤ 1000 := by
      intro i
      obtain ⟨_, a1, a2, a3, a4, a5, a6⟩ := hek
      match i with
      | 0 => exact ⟨a1, a2⟩
      | 1 => exact ⟨a3, a4⟩
      | 2 => exact ⟨a5, a6⟩
      | i + 3 => simp
    have hu := unS_N hx
    refine loop_inv (8 :: 9 :: 10 :: List.range' 25 15) (fun i : Nat => [(8, .own 2 7 (avs (teS L [k0, k1, k2] (unS x) i))), (25, .int i)]) (fun i => i ≤ L.length) (fun i => L.length - i) 0 (by simp) (by simp [go_sem, teS, unS, avs]) (by simp [go_sem]) ?_
    intro i hi
    simp [go_sem]
    refine ⟨fun h => ?_, fun h => ?_⟩ <;> simp at h
    · have hiL := h
      have h3 : i < ([k0, k1, k2] : List Int).length := by simp; omega
      have e3 : ([.val (.int .i64 k0), .val (.int .i64 k1), .val (.int .i64 k2)] : List AV)[i]? = some (.val (.int .i64 (([k0, k1, k2] : List Int)[i]?.getD 0))) := avs_at' (xs := [k0, k1, k2]) h3
      have g := hg i
      have hy := hr (L[i]?.getD []) (by simp [hiL])
      have hs : teS L [k0, k1, k2] (unS x) (i + 1) = pwS (teS L [k0, k1, k2] (unS x) i) (L[i]?.getD []) (([k0, k1, k2] : List Int)[i]?.getD 0).toNat := rfl
      simp [go_sem, mat_drop hiL, e3]
      refine ⟨⟨hiL, by rintro rfl; simp at hiL⟩, by omega, ?_⟩
      have hteN := teS_N (L := L) (e := [k0, k1, k2]) hu i
      have htl := teS_len L [k0, k1, k2] (unS x) i
      have hul : (unS x).length = 7 := rfl
      rw [hul] at htl
      generalize teS L [k0, k1, k2] (unS x) i = te at *
      generalize ([k0, k1, k2] : List Int)[i]?.getD 0 = ki at *
      obtain ⟨m, rfl⟩ : ∃ m : Nat, ki = m := ⟨ki.toNat, by omega⟩
      simp only [Int.toNat_natCast] at hs
      refine loop_inv (8 :: List.range' 33 6) (fun t : Nat => [(8, .own 2 7 (avs (pwS te (L[i]?.getD []) t))), (33, .int t)]) (fun t => t ≤ m) (fun t => m - t) 0 (by simp) (by simp [go_sem, pwS]) (by simp [go_sem]) ?_
      intro t ht
      simp [go_sem]
      refine ⟨fun h => ?_, fun h => ?_⟩ <;> simp at h
      · have cT := timesSeries_c (pwS te (L[i]?.getD []) t) (L[i]?.getD []) (pwS_N hteN t) hy.2 (by rw [pwS_len]; omega) (by rw [pwS_len]; omega)
        rw [pwS_len, htl] at cT
        simp [go_sem]
        refine CallVC.of (cT) (by decide) ?_
        simp [go_sem]
        exact ⟨by omega, t + 1, by omega, by omega, Off_reset _ _ _ (by simp), rfl, by omega⟩
      · have e : t = m := by omega
        subst e
        simp [go_sem]
        exact ⟨by omega, i + 1, by omega, by omega, (Off.reset (by intro x hx; simp at hx ⊢; omega) (by simp) (by simp [go_sem, Off_reset])), by rw [hs], by omega⟩
    · have e : i = L.length := by omega
      subst e
      have hteN := teS_N (L := L) (e := [k0, k1, k2]) hu L.length
      have htl := teS_len L [k0, k1, k2] (unS x) L.length
      have hul : (unS x).length = 7 := rfl
      rw [hul] at htl
      have hinv : ∀ n, n < 7 → ((plusS o (teS L [k0, k1, k2] (unS x) L.length) 1)[n]?.getD 0 + reS L n (l1 ++ l2)) % 10007 = T n := by
        intro n hn
        have t := hoT n hn
        have q := tb_get (fun i => (o[i]?.getD 0 + 1 % 10007 * (teS L [k0, k1, k2] (unS x) L.length)[i]?.getD 0) % 10007) (show n < o.length by omega)
        have q2 : (plusS o (teS L [k0, k1, k2] (unS x) L.length) 1)[n]?.getD 0 = (o[n]?.getD 0 + 1 % 10007 * (teS L [k0, k1, k2] (unS x) L.length)[n]?.getD 0) % 10007 := q
        rw [reS_app, reS] at t
        simp only [teK] at t
        rw [q2, reS_app, ← t]
        omega
      have cP := plus_c o (teS L [k0, k1, k2] (unS x) L.length) 1 hoN hteN ⟨by omega, by omega⟩ (by omega) (by omega)
      rw [ho, htl] at cP
      simp [go_sem]
      refine CallVC.of (cP) (by decide) ?_
      simp [go_sem]
      refine ⟨_, _, _, ⟨?_, plusS_N _ _ _, hinv, fun a b c d he => hrem _ ?_⟩, ?_, (Off.reset (by intro x hx; simp at hx ⊢; omega) (by simp) (by simp [go_sem, Off_reset])), rfl, rfl, rfl⟩
      · rw [plusS_len, ho]
      · rcases List.mem_append.1 he with he | he <;> simp [he]
      · simp
end Go.Proofs.YtbeekabpflaihaaGreat


namespace Go.Proofs.YtbeekabpflaihaaGreat
open Go.Abs
set_option linter.unusedSectionVars false
set_option linter.unusedVariables false
set_option linter.unusedSimpArgs false
set_option maxHeartbeats 1000000
theorem partSeries_c {z : Int} {p : List Mon} {L : List (List Int)} (hz : z ≤ 3) (hp : partB z p = true) (hL : (L.length : Int) = z) (hr : ∀ r ∈ L, r.length = 7 ∧ Ns r) :
    Con Tryz.prog 224 [.fmp (polF p), .sl L.length (mat L)] (.own 2 7 (avs (evS L p))) := by
  refine series_c (polF p) L (fun n => voS L n p % 10007) (by omega) hr (fun k x hk => part_entries hz hp hk) (fun es he n => ?_)
  rw [reS_perm L n (enum_perm (keys_nd hz hp) he), reS_map (by omega) n p]
def fdS (L : List (List Int)) (f : List (List Mon)) : List (List Int) := f.map (evS L)
@[simp] theorem fdS_len (L : List (List Int)) (f : List (List Mon)) : (fdS L f).length = f.length := by simp [fdS]
theorem fdS_row {L : List (List Int)} {f : List (List Mon)} : ∀ r ∈ fdS L f, r.length = 7 ∧ Ns r := by
  intro r hr
  obtain ⟨p, _, rfl⟩ := List.mem_map.1 hr
  exact ⟨evS_len L p, evS_N L p⟩
theorem fdS_take {L : List (List Int)} {f : List (List Mon)} {i : Nat} (h : i < f.length) : fdS L (f.take (i + 1)) = fdS L (f.take i) ++ [evS L (f[i]?.getD [])] := by
  rw [List.take_add_one, List.getElem?_eq_getElem h]; simp only [fdS, List.map_append, Option.toList_some, List.map_cons, List.map_nil, Option.getD_some]
end Go.Proofs.YtbeekabpflaihaaGreat


namespace Go.Proofs.YtbeekabpflaihaaGreat
open Go.Abs
set_option linter.unusedSectionVars false
set_option linter.unusedVariables false
set_option linter.unusedSimpArgs false
set_option maxHeartbeats 1000000
theorem fieldSeries_c {z : Int} {f : List (List Mon)} {L : List (List Int)} (hf : FieldOk z f) (hs : Small f) (hL : (L.length : Int) = z) (hr : ∀ r ∈ L, r.length = 7 ∧ Ns r) :
    Con Tryz.prog 191 [.sl f.length (fpols f), .sl L.length (mat L)] (.own 22 f.length (omat (fdS L f))) := by
  have fl := hs.1
  have z3 := hf.hi
  refine con_of_vc Tryz.mixed ⟨8, [], [], []⟩ Tryz.func191 (by decide) rfl (by simp) (by decide) (by simp [freshOK, freshL, go_sem]) ?_
  rw [Tryz.ntmps191]
  simp [go_sem]
  refine loop_inv (5 :: 7 :: List.range' 11 11) (fun i : Nat => [(5, .own 22 i (omat (fdS L (f.take i)))), (11, .int i)]) (fun i => i ≤ f.length) (fun i => f.length - i) 0 (by simp) (by simp [go_sem, fdS, omat_nil]) (by simp [go_sem]) ?_
  intro i hi
  simp [go_sem]
  refine ⟨fun h => ?_, fun h => ?_⟩ <;> simp at h
  · have hif := h
    have hx : f[i]?.getD [] ∈ f := by simp [h]
    have hv := fdS_take (L := L) h
    simp [go_sem, fpols_drop hif]
    refine ⟨⟨hif, by rintro rfl; simp at hif⟩, ?_⟩
    refine CallVC.of (partSeries_c z3 (hf.part _ hx) hL hr) (by decide) ?_
    simp [go_sem]
    refine ⟨⟨by omega, by omega⟩, by omega, i + 1, by omega, by omega, Off_reset _ _ _ (by simp), ?_, by omega⟩
    rw [hv, omat_app, omat_one]; simp
  · simp [go_sem]
    have e : i = f.length := by omega
    subst e; simp
end Go.Proofs.YtbeekabpflaihaaGreat


namespace Go.Proofs.YtbeekabpflaihaaGreat
open Go.Abs
set_option linter.unusedSectionVars false
set_option linter.unusedVariables false
set_option linter.unusedSimpArgs false
set_option maxHeartbeats 1000000
abbrev z7 : List Int := [0, 0, 0, 0, 0, 0, 0]
def sloS (A : List (List Int)) (f : List (List Mon)) (start : List (List Int)) : Nat → List (List (List Int))
  | 0 => List.replicate A.length (List.replicate start.length z7)
  | n + 1 => A.map fun row => fdS (mvS start row (sloS A f start n) row.length) f
@[simp] theorem sloS_len (A : List (List Int)) (f : List (List Mon)) (start : List (List Int)) : ∀ n, (sloS A f start n).length = A.length
  | 0 => by simp [sloS]
  | n + 1 => by simp [sloS]
theorem sloS_row {A : List (List Int)} {f : List (List Mon)} {start : List (List Int)} (hl : f.length = start.length) : ∀ n, ∀ m ∈ sloS A f start n, m.length = start.length ∧ ∀ r ∈ m, r.length = 7 ∧ Ns r
  | 0, m, hm => by
    simp only [sloS, List.mem_replicate] at hm
    obtain ⟨_, rfl⟩ := hm
    refine ⟨by simp, fun r hr => ?_⟩
    obtain ⟨_, rfl⟩ := List.mem_replicate.1 hr
    refine ⟨rfl, fun x hx => ?_⟩
    simp at hx; subst hx; exact ⟨by omega, by omega⟩
  | n + 1, m, hm => by
    rw [sloS] at hm
    obtain ⟨row, _, rfl⟩ := List.mem_map.1 hm
    exact ⟨by simp [hl], fdS_row⟩
theorem omat_rep_succ (n : Nat) : omat (List.replicate (n + 1) z7) = omat (List.replicate n z7) ++ [.own 2 7 (avs z7)] := by
  rw [List.replicate_succ', omat_app, omat_one]; rfl
theorem ocube_rep_succ (n : Nat) (m : List (List Int)) : ocube (List.replicate (n + 1) m) = ocube (List.replicate n m) ++ [.own 22 m.length (omat m)] := by
  rw [List.replicate_succ', ocube_app, ocube_one]
theorem ocube_nil : ocube [] = [] := rfl
theorem ocube_take (X : List (List (List Int))) (i : Nat) (h : i < X.length) : ocube (X.take (i + 1)) = ocube (X.take i) ++ [.own 22 (X[i]?.getD []).length (omat (X[i]?.getD []))] := by
  rw [List.take_add_one, List.getElem?_eq_getElem h, ocube_app]; rfl
theorem sloS_at {A : List (List Int)} (f : List (List Mon)) (start : List (List Int)) (n : Nat) {i : Nat} (h : i < A.length) : (sloS A f start (n + 1))[i]?.getD [] = fdS (mvS start (A[i]?.getD []) (sloS A f start n) (A[i]?.getD []).length) f := by
  simp [sloS, h]
set_option maxRecDepth 100000 in
theorem slopes_c {z : Int} (A : List (List Int)) (B : List Int) (f : List (List Mon)) (start : List (List Int)) (hT : Tab A B) (hf : FieldOk z f) (hs : Small f) (hl : (start.length : Int) = z) (hr : ∀ r ∈ start, r.length = 7 ∧ Ns r) :
    Con Tryz.prog 147 [.agg [.sl A.length (mat A), .sl B.length (avs B)], .sl f.length (fpols f), .sl start.length (mat start)] (.own 27 A.length (ocube (sloS A f start 7))) := by
  have fl := hs.1
  have z3 := hf.hi
  have fz := hf.len
  have b8 := hT.le
  have ab := hT.len
  refine con_of_vc Tryz.mixed ⟨9, [], [], []⟩ Tryz.func147 (by decide) rfl (by simp) (by decide) (by simp [freshOK, freshL, go_sem]) ?_
  rw [Tryz.ntmps147]
  simp [go_sem]
  refine loop_inv (7 :: 8 :: List.range' 16 17) (fun i : Nat => [(7, .own 27 i (ocube (List.replicate i (List.replicate start.length z7)))), (16, .int i)]) (fun i => i ≤ B.length) (fun i => B.length - i) 0 (by simp) (by simp [go_sem, ocube_nil]) (by simp [go_sem]) ?_
  intro i hi
  simp [go_sem]
  refine ⟨fun h => ?_, fun h => ?_⟩ <;> simp at h
  · simp [go_sem]
    refine loop_inv (8 :: List.range' 21 7) (fun j : Nat => [(8, .own 22 j (omat (List.replicate j z7))), (21, .int j)]) (fun j => j ≤ start.length) (fun j => start.length - j) 0 (by simp) (by simp [go_sem, omat_nil]) (by simp [go_sem]) ?_
    intro j hj
    simp [go_sem]
    refine ⟨fun h => ?_, fun h => ?_⟩ <;> simp at h
    · simp [go_sem]
      refine ⟨⟨by omega, by omega⟩, by omega, j + 1, by omega, by omega, Off_reset _ _ _ (by simp), ?_, by omega⟩
      rw [omat_rep_succ]; exact ⟨rfl, rfl⟩
    · have e : j = start.length := by omega
      subst e
      simp [go_sem]
      refine ⟨⟨by omega, by omega⟩, by omega, i + 1, by omega, by omega, (Off.reset (by intro x hx; simp at hx ⊢; omega) (by simp) (by simp [go_sem, Off_reset])), ?_, by omega⟩
      rw [ocube_rep_succ]; simp
  · have e : i = B.length := by omega
    subst e
    simp [go_sem]
    refine loop_inv (7 :: 9 :: 11 :: List.range' 33 22) (fun n : Nat => [(7, .own 27 A.length (ocube (sloS A f start n))), (33, .int n)]) (fun n => n ≤ 7) (fun n => 7 - n) 0 (by simp) (by simp [go_sem, sloS, ab]) (by simp [go_sem]) ?_
    intro n hn
    simp [go_sem]
    refine ⟨fun h => ?_, fun h => ?_⟩ <;> simp at h
    · simp [go_sem]
      refine loop_inv (9 :: 11 :: List.range' 39 14) (fun i : Nat => [(9, .own 27 i (ocube ((sloS A f start (n + 1)).take i))), (39, .int i)]) (fun i => i ≤ A.length) (fun i => A.length - i) 0 (by simp) (by simp [go_sem, ocube_nil]) (by simp [go_sem]) ?_
      intro i hi
      simp [go_sem]
      refine ⟨fun h => ?_, fun h => ?_⟩ <;> simp at h
      · have hif := h
        have hx : A[i]?.getD [] ∈ A := by simp [h]
        have hm := hT.a _ hx
        have ht := ocube_take (sloS A f start (n + 1)) i (by rw [sloS_len]; exact hif)
        rw [sloS_at f start n hif, fdS_len] at ht
        have cM := moved_c start (A[i]?.getD []) (sloS A f start n) 7 (by omega) (by omega) hr (by omega) (by have := hm.1; omega) (by rw [sloS_len]; have := hm.1; omega) hm.2 (sloS_row (by omega) n) (by rw [sloS_len]; omega)
        rw [sloS_len] at cM
        have cF := fieldSeries_c (L := mvS start (A[i]?.getD []) (sloS A f start n) (A[i]?.getD []).length) hf hs (by rw [mvS_len]; exact hl) (mvS_row hr _)
        rw [mvS_len] at cF
        simp [go_sem, mat_drop hif]
        refine ⟨⟨hif, by rintro rfl; simp at hif⟩, ?_⟩
        refine CallVC.of (cM) (by decide) ?_
        simp [go_sem]
        refine CallVC.of (cF) (by decide) ?_
        simp [go_sem]
        refine ⟨⟨by omega, by omega⟩, by omega, i + 1, by omega, by omega, Off_reset _ _ _ (by simp), ?_, by omega⟩
        rw [ht]; exact ⟨rfl, rfl⟩
      · have e : i = A.length := by omega
        subst e
        simp [go_sem]
        have hfin : (sloS A f start (n + 1)).take A.length = sloS A f start (n + 1) := List.take_of_length_le (by simp)
        exact ⟨by omega, n + 1, by omega, by omega, (Off.reset (by intro x hx; simp at hx ⊢; omega) (by simp) (by simp [go_sem, Off_reset])), by rw [hfin], by omega⟩
    · have e : n = 7 := by omega
      subst e
      simp [go_sem]
end Go.Proofs.YtbeekabpflaihaaGreat


namespace Go.Proofs.YtbeekabpflaihaaGreat
open Go.Abs
set_option linter.unusedSectionVars false
set_option linter.unusedVariables false
set_option linter.unusedSimpArgs false
set_option maxHeartbeats 1000000
theorem getD_mem {α : Type} {l : List α} {i : Nat} (d : α) (h : i < l.length) : l[i]?.getD d ∈ l := by simp [h]
theorem colS_N {a : List (List Int)} (h : ∀ r ∈ a, Ns r) (k : Nat) : Ns (colS a k) := tb_N fun i hi => (h (a[i]?.getD []) (by simp [hi])).get k
theorem turnS_row {n : Nat} {a : List (List Int)} (h7 : a.length = n) (h : ∀ r ∈ a, Ns r) : ∀ r ∈ turnS a, r.length = n ∧ Ns r := by
  intro r hr
  obtain ⟨k, _, rfl⟩ := List.mem_map.1 hr
  exact ⟨by rw [colS_len, h7], colS_N h k⟩
def steS (A : List (List Int)) (B : List Int) (f : List (List Mon)) (start : List (List Int)) : List (List Int) := mvS start B (sloS A f start 7) B.length
@[simp] theorem steS_len (A : List (List Int)) (B : List Int) (f : List (List Mon)) (start : List (List Int)) : (steS A B f start).length = start.length := mvS_len _ _ _ _
theorem steS_row {A : List (List Int)} {B : List Int} {f : List (List Mon)} {start : List (List Int)} (hr : ∀ r ∈ start, r.length = 7 ∧ Ns r) : ∀ r ∈ steS A B f start, r.length = 7 ∧ Ns r := mvS_row hr _
set_option maxRecDepth 100000 in
theorem stepped_c {z : Int} (A : List (List Int)) (B : List Int) (f : List (List Mon)) (start : List (List Int)) (hT : Tab A B) (hf : FieldOk z f) (hs : Small f) (hl : (start.length : Int) = z) (hr : ∀ r ∈ start, r.length = 7 ∧ Ns r) :
    Con Tryz.prog 81 [.agg [.sl A.length (mat A), .sl B.length (avs B)], .sl f.length (fpols f), .sl start.length (mat start)] (.own 22 start.length (omat (steS A B f start))) := by
  have fl := hs.1
  have z3 := hf.hi
  have fz := hf.len
  have b8 := hT.le
  have ab := hT.len
  have cS := slopes_c A B f start hT hf hs hl hr
  have cM := moved_c start B (sloS A f start 7) 7 (by omega) (by omega) hr (by omega) (by omega) (by rw [sloS_len]; omega) hT.b (sloS_row (by omega) 7) (by rw [sloS_len]; omega)
  rw [sloS_len] at cM
  refine con_of_vc Tryz.mixed ⟨7, [], [], []⟩ Tryz.func81 (by decide) rfl (by simp) (by decide) (by simp [freshOK, freshL, go_sem]) ?_
  rw [Tryz.ntmps81]
  simp [go_sem]
  refine ⟨by kernel_rfl, ?_⟩
  refine CallD.of (cS) (by simp [roots, rootsL]) (by decide) ?_
  simp [go_sem]
  refine CallD.of (cM) (by simp [roots, rootsL]) (by decide) ?_
  simp [go_sem]
  refine ⟨by kernel_rfl, ?_⟩
  simp [go_sem]
  rfl
def serB (z : Int) (L : List (List Int)) : Bool := decide (L.length = 7) && L.all (vecB z)
theorem notSeries_c (z : Int) (n : Nat) (cs : List AV) (y : List Int) (hl : y.length ≤ 9223372036854775807) :
    Con Tryz.prog 192 [.sl y.length (avs y), .fptr [.int z, .sl n cs]] (.bool (!vecB z y)) := by
  refine con_of_vc Tryz.mixed ⟨4, [], [], []⟩ Tryz.func192 (by decide) rfl (by simp) (by decide) (by simp [freshOK, freshL, go_sem]) ?_
  rw [Tryz.ntmps192]
  simp [go_sem]
  refine CallVC.of (isVector_c z n cs y hl) (by decide) ?_
  simp [go_sem]
theorem isVectorSeries_c (z : Int) (n : Nat) (cs : List AV) (L : List (List Int)) (hl : L.length ≤ 9223372036854775807) (hr : ∀ y ∈ L, y.length ≤ 9223372036854775807) :
    Con Tryz.prog 148 [.agg [.int z, .sl n cs], .sl L.length (mat L)] (.bool (serB z L)) := by
  have cC := ContainsFuncV_c 192 [.int z, .sl n cs] (fun y => !vecB z y) L hl (fun y hy => notSeries_c z n cs y (hr y hy))
  have e : L.any (fun y => !vecB z y) = !L.all (vecB z) := by rw [List.not_all_eq_any_not]
  rw [e] at cC
  unfold serB
  generalize L.all (vecB z) = b at *
  refine con_of_vc Tryz.mixed ⟨5, [], [], []⟩ Tryz.func148 (by decide) rfl (by simp) (by decide) (by simp [freshOK, freshL, go_sem]) ?_
  rw [Tryz.ntmps148]
  simp [go_sem]
  by_cases h : L.length = 7
  · have h2 : (L.length : Int) = 7 := by omega
    simp [go_sem, h2]
    refine CallVC.of (cC) (by decide) ?_
    simp [go_sem]
    cases b <;> simp [h]
  · have h2 : ¬ (L.length : Int) = 7 := by omega
    simp [go_sem, h2]
    simp [h]
end Go.Proofs.YtbeekabpflaihaaGreat


namespace Go.Proofs.YtbeekabpflaihaaGreat
open Go.Abs
set_option linter.unusedSectionVars false
set_option linter.unusedVariables false
set_option linter.unusedSimpArgs false
set_option maxHeartbeats 1000000
end Go.Proofs.YtbeekabpflaihaaGreat


namespace Go.Proofs.YtbeekabpflaihaaGreat
open Go.Abs
set_option linter.unusedSectionVars false
set_option linter.unusedVariables false
set_option linter.unusedSimpArgs false
set_option maxHeartbeats 1000000
def poS (y : List Int) : List (List Int) := y.map unS
@[simp] theorem poS_len (y : List Int) : (poS y).length = y.length := by simp [poS]
theorem poS_row {y : List Int} (h : Ns y) : ∀ r ∈ poS y, r.length = 7 ∧ Ns r := by
  intro r hr
  obtain ⟨a, ha, rfl⟩ := List.mem_map.1 hr
  exact ⟨rfl, unS_N (h a ha)⟩
theorem poS_take {y : List Int} {i : Nat} (h : i < y.length) : omat (poS (y.take (i + 1))) = omat (poS (y.take i)) ++ [.own 2 7 (avs (unS (y[i]?.getD 0)))] := by
  rw [List.take_add_one, List.getElem?_eq_getElem h]
  simp only [poS, List.map_append, omat_app]; rfl
theorem pointStart_c (y : List Int) (hy : y.length ≤ 1048576) : Con Tryz.prog 82 [.sl y.length (avs y)] (.own 22 y.length (omat (poS y))) := by
  refine con_of_vc Tryz.mixed ⟨7, [], [], []⟩ Tryz.func82 (by decide) rfl (by simp) (by decide) (by simp [freshOK, freshL, go_sem]) ?_
  rw [Tryz.ntmps82]
  simp [go_sem]
  refine loop_inv (3 :: 5 :: 6 :: List.range' 10 13) (fun i : Nat => [(3, .own 22 i (omat (poS (y.take i)))), (10, .int i)]) (fun i => i ≤ y.length) (fun i => y.length - i) 0 (by simp) (by simp [go_sem, poS, omat_nil]) (by simp [go_sem]) ?_
  intro i hi
  simp [go_sem]
  refine ⟨fun h => ?_, fun h => ?_⟩ <;> simp at h
  · have ht := poS_take h
    simp [go_sem, avs_drop h]
    refine ⟨⟨h, by rintro rfl; simp at h⟩, ⟨by omega, by omega⟩, by omega, i + 1, by omega, by omega, Off_reset _ _ _ (by simp), ⟨rfl, ?_⟩, by omega⟩
    rw [ht]; rfl
  · have e : i = y.length := by omega
    subst e
    simp [go_sem]
def ssX (A : List (List Int)) (B : List Int) (z : Int) (f : List (List Mon)) (y : List Int) : List (List Int) := if stE A B z f y = 0 then turnS (steS A B f (poS y)) else []
def ssR (A : List (List Int)) (B : List Int) (z : Int) (f : List (List Mon)) (y : List Int) : AV := .tup [.own 22 (ssX A B z f y).length (omat (ssX A B z f y)), .int (stE A B z f y)]
theorem ste_point {A : List (List Int)} {B : List Int} {f : List (List Mon)} {y : List Int} (y1 : 1 ≤ y.length) (hy : Ns y) :
    (turnS (steS A B f (poS y))).length = 7 ∧ ∀ r ∈ turnS (steS A B f (poS y)), r.length = y.length ∧ Ns r := by
  have sr := steS_row (A := A) (B := B) (f := f) (poS_row hy)
  have s0 : ((steS A B f (poS y))[0]?.getD []) ∈ steS A B f (poS y) := getD_mem _ (by rw [steS_len, poS_len]; omega)
  refine ⟨by rw [turnS_len, (sr _ s0).1], fun r h => ?_⟩
  have := turnS_row (a := steS A B f (poS y)) rfl (fun r h => (sr r h).2) r h
  rw [steS_len, poS_len] at this
  exact this
theorem stE_ok {A : List (List Int)} {B : List Int} {z : Int} {f : List (List Mon)} {y : List Int} (h : stE A B z f y = 0) : Tab A B ∧ FieldOk z f ∧ (y.length : Int) = z ∧ Ns y := by
  obtain ⟨hT, hF, hV⟩ := stE_zero h
  unfold vecB at hV
  simp only [Bool.and_eq_true, decide_eq_true_eq] at hV
  exact ⟨tabB_iff.1 hT, fieldB_iff.1 hF, hV.1, numsB_N.1 hV.2⟩
set_option maxRecDepth 100000 in
theorem StepSeries_c (A : List (List Int)) (B : List Int) (z : Int) (f : List (List Mon)) (y : List Int) (hA : A.length ≤ 1048576) (hB : B.length ≤ 1048576) (hr : ∀ r ∈ A, r.length ≤ 1048576) (hs : Small f) (hy : y.length ≤ 1048576) :
    Con Tryz.prog 28 [.agg [.sl A.length (mat A), .sl B.length (avs B)], .agg [.int z, .sl f.length (prt f)], .sl y.length (avs y)] (ssR A B z f y) := by
  have c1 := checkStep_c A B z f y hA hB hr hs hy
  unfold ssR ssX
  have hz := @stE_ok A B z f y
  generalize stE A B z f y = e at *
  by_cases he : e = 0
  · subst he
    obtain ⟨hT, hF, hl, hN⟩ := hz rfl
    have fl := hs.1
    have z1 := hF.lo
    have z3 := hF.hi
    have cP := polynomials_c z f hF hs
    have cU := pointStart_c y hy
    have cS := stepped_c A B f (poS y) hT hF hs (by rw [poS_len]; exact hl) (poS_row hN)
    have sl := steS_len A B f (poS y)
    have sr := steS_row (A := A) (B := B) (f := f) (poS_row hN)
    rw [poS_len] at cS sl
    have cE := turned_c (steS A B f (poS y)) (by omega) (by omega) (fun r h => by
      have s0 : ((steS A B f (poS y))[0]?.getD []) ∈ steS A B f (poS y) := getD_mem _ (by omega)
      have := (sr r h).1; have := (sr _ s0).1; omega) (by
      have s0 : ((steS A B f (poS y))[0]?.getD []) ∈ steS A B f (poS y) := getD_mem _ (by omega)
      have := (sr _ s0).1; omega)
    rw [sl] at cE
    rw [if_pos rfl]
    generalize turnS (steS A B f (poS y)) = X at *
    generalize steS A B f (poS y) = E at *
    generalize poS y = U at *
    refine con_of_vc Tryz.mixed ⟨9, [], [], []⟩ Tryz.func28 (by decide) rfl (by simp) (by decide) (by simp [freshOK, freshL, go_sem]) ?_
    rw [Tryz.ntmps28]
    simp [go_sem]
    refine CallVC.of (c1) (by decide) ?_
    simp [go_sem]
    refine ⟨by kernel_rfl, ?_⟩
    refine CallD.of (cP) (by simp [roots, rootsL]) (by decide) ?_
    simp [go_sem]
    refine CallD.of (cU) (by simp [roots, rootsL]) (by decide) ?_
    simp [go_sem]
    refine CallD.of (cS) (by simp [roots, rootsL]) (by decide) ?_
    simp [go_sem]
    refine CallD.of (cE) (by simp [roots, rootsL]) (by decide) ?_
    simp [go_sem]
    refine ⟨by kernel_rfl, ?_⟩
    simp [go_sem]
  · rw [if_neg he]
    refine Con.n1 _ ?_
    refine con_of_vc Tryz.mixed ⟨9, [], [], []⟩ Tryz.func28 (by decide) rfl (by simp) (by decide) (by simp [freshOK, freshL, go_sem]) ?_
    rw [Tryz.ntmps28]
    simp [go_sem]
    refine CallVC.of (c1) (by decide) ?_
    simp [go_sem]
    simp [go_sem, he]
end Go.Proofs.YtbeekabpflaihaaGreat


namespace Go.Proofs.YtbeekabpflaihaaGreat
open Go.Abs
set_option linter.unusedSectionVars false
set_option linter.unusedVariables false
set_option linter.unusedSimpArgs false
set_option maxHeartbeats 1000000
theorem FieldOk.wok {z : Int} {f : List (List Mon)} (hf : FieldOk z f) : ∀ F ∈ f, ∀ m ∈ F, WOk f.length 3 m := fun F hF m hm => by
  have h := partB_mem (hf.part F hF) hm
  have h1 := h.lo
  have h2 := h.hi
  have h3 := h.len
  have h4 := hf.len
  exact ⟨⟨by omega, by omega⟩, by omega, h.pw⟩
end Go.Proofs.YtbeekabpflaihaaGreat


namespace Go.Proofs.YtbeekabpflaihaaGreat
open Go.Abs
set_option linter.unusedSectionVars false
set_option linter.unusedVariables false
set_option linter.unusedSimpArgs false
set_option maxHeartbeats 2000000
end Go.Proofs.YtbeekabpflaihaaGreat


namespace Go.Proofs.YtbeekabpflaihaaGreat
open Go.Abs CR
set_option linter.unusedSectionVars false
set_option linter.unusedVariables false
set_option linter.unusedSimpArgs false
set_option maxHeartbeats 1000000
def toS (a : List Int) : Ser Int := fun n => a[n]?.getD 0
def csum (A B : Nat → Int) (n : Nat) : Nat → Int
  | 0 => 0
  | m + 1 => csum A B n m + A m * B (n - m)
theorem csum_shift (A B : Nat → Int) (n : Nat) : ∀ m, csum A B (n + 1) (m + 1) = A 0 * B (n + 1) + csum (sh A) B n m
  | 0 => by simp [csum]
  | m + 1 => by
    rw [csum, csum_shift A B n m, csum]
    have : n + 1 - (m + 1) = n - m := by omega
    rw [this, Int.add_assoc]; rfl
theorem csum_all : ∀ (n : Nat) (A B : Nat → Int), csum A B n (n + 1) = cmul n A B
  | 0, A, B => by simp [csum, cmul]
  | n + 1, A, B => by rw [csum_shift, csum_all n, cmul]
theorem cv_csum (a b : List Int) (n : Nat) : ∀ m, cv a b n m = csum (toS a) (toS b) n m
  | 0 => rfl
  | m + 1 => by rw [cv, cv_csum a b n m]; rfl
abbrev c7 : Cg (Ser Int) := cgS cgI 7
theorem mulS_ser {a b : List Int} (ha : a.length = 7) : c7.r (toS (mulS a b)) (toS a * toS b) := by
  intro n hn
  show (toS (mulS a b) n) % 10007 = (cmul n (toS a) (toS b)) % 10007
  rw [← csum_all, ← cv_csum]
  have e := tb_get (fun n => cv a b n (n + 1) % 10007) (show n < a.length by omega)
  have e2 : toS (mulS a b) n = cv a b n (n + 1) % 10007 := e
  rw [e2, Int.emod_emod_of_dvd _ (Int.dvd_refl _)]
theorem pwS_ser {s x : List Int} (hs : s.length = 7) : ∀ n, c7.r (toS (pwS s x n)) (toS s * pwr (toS x) n)
  | 0 => c7.eq (mul1 _).symm
  | n + 1 => by
    refine c7.trans (mulS_ser (by rw [pwS_len, hs])) ?_
    refine c7.trans (c7.mul (pwS_ser hs n) (c7.refl _)) (c7.eq ?_)
    rw [pwr, mulA]
def toU (L : List (List Int)) : Nat → Ser Int := fun k => toS (L[k]?.getD [])
theorem teS_ser {L : List (List Int)} {e s : List Int} (hs : s.length = 7) : ∀ d, c7.r (toS (teS L e s d)) (toS s * mon (toU L) (ex e) d)
  | 0 => c7.eq (mul1 _).symm
  | d + 1 => by
    refine c7.trans (pwS_ser (by rw [teS_len, hs]) _) ?_
    refine c7.trans (c7.mul (teS_ser hs d) (c7.refl _)) (c7.eq ?_)
    rw [mon, mulA]; rfl
theorem unS_ser (a : Int) : toS (unS a) = ofI a := funext fun n => by
  show ([a, 0, 0, 0, 0, 0, 0] : List Int)[n]?.getD 0 = if n = 0 then a else 0
  match n with
  | 0 => rfl
  | 1 => rfl
  | 2 => rfl
  | 3 => rfl
  | 4 => rfl
  | 5 => rfl
  | 6 => rfl
  | n + 7 => simp
theorem voS_ser (L : List (List Int)) : ∀ p : List Mon, c7.r (fun n => voS L n p) (evM L.length (toU L) p)
  | [] => fun n hn => by
    show (0 : Int) % 10007 = (evM L.length (toU L) [] n) % 10007
    rw [evM_nil]
    cases n <;> rfl
  | m :: p => by
    rw [evM_cons, ← unS_ser]
    have h1 := teS_ser (L := L) (e := m.2) (s := unS m.1) rfl L.length
    exact c7.add h1 (voS_ser L p)
section
variable {α : Type} [CR α]
theorem Cg.evM (c : Cg α) {d : Nat} {U V : Nat → α} (h : ∀ k, k < d → c.r (U k) (V k)) (L : List Mon) : c.r (evM d U L) (evM d V L) := c.ev h _
end
theorem poS_at {y : List Int} {k : Nat} (hk : k < y.length) : (poS y)[k]?.getD [] = unS (y[k]?.getD 0) := by simp [poS, hk]
end Go.Proofs.YtbeekabpflaihaaGreat


namespace Go.Proofs.YtbeekabpflaihaaGreat
open Go.Abs
set_option linter.unusedSectionVars false
set_option linter.unusedVariables false
set_option linter.unusedSimpArgs false
set_option maxHeartbeats 1000000
end Go.Proofs.YtbeekabpflaihaaGreat


namespace Go.Proofs.YtbeekabpflaihaaGreat
open Go.Abs
set_option linter.unusedSectionVars false
set_option linter.unusedVariables false
set_option linter.unusedSimpArgs false
set_option maxHeartbeats 1000000
end Go.Proofs.YtbeekabpflaihaaGreat


namespace Go.Proofs.YtbeekabpflaihaaGreat
open Go.Abs
set_option linter.unusedSectionVars false
set_option linter.unusedVariables false
set_option linter.unusedSimpArgs false
set_option maxHeartbeats 1000000
theorem mvS_first {start : List (List Int)} {c : List Int} {L : List (List (List Int))} (hs : ∀ r ∈ start, r.length = 7 ∧ Ns r) : ∀ i k, k < start.length → ((mvS start c L i)[k]?.getD [])[0]?.getD 0 = (start[k]?.getD [])[0]?.getD 0
  | 0, _, _ => rfl
  | i + 1, k, hk => by
    have ih := mvS_first (c := c) (L := L) hs i k hk
    have hm := mvS_row (c := c) (L := L) hs i _ (memD [] (show k < (mvS start c L i).length by rw [mvS_len]; exact hk))
    have e : (mvS start c L (i + 1))[k]?.getD [] = plusS ((mvS start c L i)[k]?.getD []) (raiS ((L[i]?.getD [])[k]?.getD [])) (c[i]?.getD 0) := by simp [mvS, hk]
    have e2 : (raiS ((L[i]?.getD [])[k]?.getD []))[0]?.getD 0 = 0 := by
      unfold raiS
      rcases Nat.lt_or_ge 0 ((L[i]?.getD [])[k]?.getD []).length with h | h
      · rw [tb_get _ h]; rfl
      · rw [List.getElem?_eq_none (by simpa using h)]; rfl
    have h3 := tb_get (fun j => (((mvS start c L i)[k]?.getD [])[j]?.getD 0 + c[i]?.getD 0 % 10007 * (raiS ((L[i]?.getD [])[k]?.getD []))[j]?.getD 0) % 10007) (show 0 < ((mvS start c L i)[k]?.getD []).length by omega)
    have hn := hm.2.get 0
    rw [e]
    unfold plusS
    rw [h3, e2, Int.mul_zero, Int.add_zero, Int.emod_eq_of_lt hn.1 (by have := hn.2; omega), ih]
end Go.Proofs.YtbeekabpflaihaaGreat


namespace Go.Proofs.YtbeekabpflaihaaGreat
open Go.Abs
set_option linter.unusedSectionVars false
set_option linter.unusedVariables false
set_option linter.unusedSimpArgs false
set_option maxHeartbeats 1000000
end Go.Proofs.YtbeekabpflaihaaGreat


namespace Go.Proofs.YtbeekabpflaihaaGreat
open Go.Abs
set_option linter.unusedSectionVars false
set_option linter.unusedVariables false
set_option linter.unusedSimpArgs false
set_option maxHeartbeats 1000000
end Go.Proofs.YtbeekabpflaihaaGreat


namespace Go.Proofs.YtbeekabpflaihaaGreat
open Go.Abs
set_option linter.unusedSectionVars false
set_option linter.unusedVariables false
set_option linter.unusedSimpArgs false
set_option maxHeartbeats 1000000
end Go.Proofs.YtbeekabpflaihaaGreat


namespace Go.Proofs.YtbeekabpflaihaaGreat
open Go.Abs
set_option linter.unusedSectionVars false
set_option linter.unusedVariables false
set_option linter.unusedSimpArgs false
set_option maxHeartbeats 1000000
end Go.Proofs.YtbeekabpflaihaaGreat


namespace Go.Proofs.YtbeekabpflaihaaGreat
open Go.Abs CR
set_option linter.unusedSectionVars false
set_option linter.unusedVariables false
set_option linter.unusedSimpArgs false
set_option maxHeartbeats 1000000
theorem pwrI (a : Int) : ∀ n : Nat, pwr a n = a ^ n
  | 0 => by rw [pwr, Int.pow_zero]; rfl
  | n + 1 => by rw [pwr, pwrI a n, Int.pow_succ]
theorem tmF_mon (y e : List Int) (x : Int) : ∀ i, tmF y e x i % 10007 = x * mon (yat y) (ex e) i % 10007
  | 0 => by show x % 10007 = x * 1 % 10007; rw [Int.mul_one]
  | i + 1 => by
    have ih := tmF_mon y e x i
    show tmF y e x i * pw (yat y i) (e[i]?.getD 0) % 10007 % 10007 = x * (mon (yat y) (ex e) i * pwr (yat y i) (ex e i)) % 10007
    rw [Int.emod_emod_of_dvd _ (Int.dvd_refl _), pwrI, ← Int.mul_assoc]
    unfold pw
    rw [mod_mul_r]
    show tmF y e x i * yat y i ^ (ex e i) % 10007 = _
    rw [Int.mul_emod, ih, ← Int.mul_emod]
theorem vsum_ev (y : List Int) : ∀ L : List Mon, vsum y L % 10007 = evM y.length (yat y) L % 10007
  | [] => rfl
  | m :: L => by
    have h1 := tmF_mon y m.2 m.1 y.length
    have h2 := vsum_ev y L
    rw [evM_cons]
    show (tmF y m.2 m.1 y.length + vsum y L) % 10007 = (m.1 * mon (yat y) (ex m.2) y.length + evM y.length (yat y) L) % 10007
    generalize m.1 * mon (yat y) (ex m.2) y.length = t at *
    omega
theorem evL_at {y : List Int} {f : List (List Mon)} {i : Nat} (h : i < f.length) : (evL y f)[i]?.getD 0 = vsum y (f[i]?.getD []) % 10007 := by simp [evL, h]
end Go.Proofs.YtbeekabpflaihaaGreat


namespace Go.Proofs.YtbeekabpflaihaaGreat
open Go.Abs CR
set_option linter.unusedSectionVars false
set_option linter.unusedVariables false
set_option linter.unusedSimpArgs false
set_option maxHeartbeats 1000000
section
variable {α : Type} [CR α]
def lin (u : α) (v : Int) : Ser α := fun n => if n = 0 then u else if n = 1 then ofI v else ofI 0
end
abbrev Pol : Type 1 := (α : Type) → [CR α] → (Nat → α) → α
def polM (d : Nat) (p : List Mon) : Pol := fun α [CR α] U => evM d U p
def Alk (F G : Pol) : Prop := ∀ (α : Type) [CR α] (c : Cg α) (U : Nat → α), c.r (F α U) (G α U)
def lf (d : Nat) (M : Nat → Nat → Int) {α : Type} [CR α] (U : Nat → α) : Nat → α := fun j => sT (fun k => ofI (M j k) * U k) d
end Go.Proofs.YtbeekabpflaihaaGreat


namespace Go.Proofs.YtbeekabpflaihaaGreat
open Go.Abs
set_option linter.unusedSectionVars false
set_option linter.unusedVariables false
set_option linter.unusedSimpArgs false
set_option maxHeartbeats 1000000
end Go.Proofs.YtbeekabpflaihaaGreat


namespace Go.Proofs.YtbeekabpflaihaaGreat
open Go.Abs
set_option linter.unusedSectionVars false
set_option linter.unusedVariables false
set_option linter.unusedSimpArgs false
set_option maxHeartbeats 1000000
theorem mps_frz : ∀ cs : List (Key → Option Int), frzL (cs.map AV.mp) = cs.map AV.fmp
  | [] => rfl
  | c :: cs => by rw [List.map_cons, frzL, mps_frz cs]; rfl
end Go.Proofs.YtbeekabpflaihaaGreat


namespace Go.Proofs.YtbeekabpflaihaaGreat
open Go.Abs
set_option linter.unusedSectionVars false
set_option linter.unusedVariables false
set_option linter.unusedSimpArgs false
set_option maxHeartbeats 1000000
end Go.Proofs.YtbeekabpflaihaaGreat


namespace Go.Proofs.YtbeekabpflaihaaGreat
open Go.Abs
set_option linter.unusedSectionVars false
set_option linter.unusedVariables false
set_option linter.unusedSimpArgs false
set_option maxHeartbeats 1000000
def subK (a b : Key) : Key := (a.1 - b.1, a.2.1 - b.2.1, a.2.2 - b.2.2)
theorem addK_iff {K a b : Key} : K = addK a b ↔ subK K a = b := by
  obtain ⟨k0, k1, k2⟩ := K
  obtain ⟨a0, a1, a2⟩ := a
  obtain ⟨b0, b1, b2⟩ := b
  simp only [addK, subK, Prod.mk.injEq]
  omega
theorem coef_sub {α : Type} (K a : Key) (x : Int) (key : α → Key) (num : α → Int) (E : List α) : sumI (fun d => if K = addK a (key d) then x * num d else 0) E = x * coef key num E (subK K a) := by
  unfold coef
  rw [← sumI_mul]
  refine sumI_congr (fun d _ => ?_)
  by_cases h : subK K a = key d
  · rw [if_pos (addK_iff.2 h), if_pos h]
  · rw [if_neg (fun e => h (addK_iff.1 e)), if_neg h, Int.mul_zero]
theorem enum_exists : ∀ (L : List Key) (c : Key → Option Int), (∀ k x, c k = some x → k ∈ L) → ∃ es, Enum c es
  | [], c, h => ⟨[], .nil, by simp, fun k _ => by
      cases hc : c k with
      | none => rfl
      | some x => exact absurd (h k x hc) (by simp)⟩
  | a :: L, c, h => by
    obtain ⟨es, he⟩ := enum_exists L (fun k => if k = a then none else c k) (fun k x hk => by
      by_cases e : k = a
      · simp [e] at hk
      · simp [e] at hk
        rcases List.mem_cons.1 (h k x hk) with h1 | h1
        · exact absurd h1 e
        · exact h1)
    have hne : ∀ p ∈ es, p.1 ≠ a := fun p hp e => by
      have := he.val p hp
      simp [e] at this
    cases hc : c a with
    | none =>
      refine ⟨es, he.nd, fun p hp => ?_, fun k hk => ?_⟩
      · have := he.val p hp
        simpa [hne p hp] using this
      · by_cases e : k = a
        · rw [e]; exact hc
        · have := he.out k hk
          simpa [e] using this
    | some x =>
      refine ⟨(a, x) :: es, List.pairwise_cons.2 ⟨fun p hp e => hne p hp e.symm, he.nd⟩, fun p hp => ?_, fun k hk => ?_⟩
      · rcases List.mem_cons.1 hp with rfl | hp
        · exact hc
        · have := he.val p hp
          simpa [hne p hp] using this
      · have e : ¬ k = a := fun e => hk (a, x) (by simp) e.symm
        have := he.out k (fun p hp => hk p (by simp [hp]))
        simpa [e] using this
open Classical in
noncomputable def enE (c : Key → Option Int) : List (Key × Int) := if h : ∃ es, Enum c es then h.choose else []
theorem enE_is {c : Key → Option Int} (h : ∃ es, Enum c es) : Enum c (enE c) := by
  unfold enE
  rw [dif_pos h]
  exact h.choose_spec
def degB (p : List Mon) : Bool := p.all fun m => decide (degL m.2 0 ≤ 3)
theorem srt_at {p : List Mon} (h : Srt p) {j : Nat} (h0 : 0 < j) (hj : j < p.length) : ltL (p[j - 1]?.getD (0, [])).2 (p[j]?.getD (0, [])).2 = true := by
  have h1 := List.pairwise_iff_getElem.1 h (j - 1) j (by omega) hj (by omega)
  simpa [hj, show j - 1 < p.length by omega] using h1
theorem partB_deg {z : Int} {p : List Mon} (hw : ∀ m ∈ p, (m.2.length : Int) = z) (hs : Srt p) (hz : Nzl p) : partB z p = degB p := by
  cases hd : degB p with
  | true =>
    refine partB_yes (fun j hj => ?_)
    have hm : p[j]?.getD (0, []) ∈ p := memD _ hj
    have h1 := hz _ hm
    have h2 := hw _ hm
    have h3 := List.all_eq_true.1 hd _ hm
    simp only [decide_eq_true_eq] at h3
    unfold atB monB
    rw [decide_eq_true h1, decide_eq_true h2, decide_eq_true h3]
    by_cases h0 : j = 0
    · rw [decide_eq_true h0]; rfl
    · rw [decide_eq_false h0, srt_at hs (by omega) hj]; rfl
  | false =>
    obtain ⟨m, hm, h⟩ := List.all_eq_false.1 hd
    obtain ⟨j, hj, rfl⟩ := List.getElem_of_mem hm
    refine partB_no hj ?_
    unfold atB monB
    simp at h
    simp [hj]
    omega
end Go.Proofs.YtbeekabpflaihaaGreat


namespace Go.Proofs.YtbeekabpflaihaaGreat
open Go.Abs
set_option linter.unusedSectionVars false
set_option linter.unusedVariables false
set_option linter.unusedSimpArgs false
set_option maxHeartbeats 4000000
end Go.Proofs.YtbeekabpflaihaaGreat


namespace Go.Proofs.YtbeekabpflaihaaGreat
open Go.Abs
set_option linter.unusedSectionVars false
set_option linter.unusedVariables false
set_option linter.unusedSimpArgs false
set_option maxHeartbeats 4000000
end Go.Proofs.YtbeekabpflaihaaGreat


namespace Go.Proofs.YtbeekabpflaihaaGreat
open Go.Abs
set_option linter.unusedSectionVars false
set_option linter.unusedVariables false
set_option linter.unusedSimpArgs false
set_option maxHeartbeats 4000000
def linK (row : List Int) : Nat → List Mon
  | 0 => []
  | k + 1 => putL (linK row k) (row[k]?.getD 0) (oneE row.length k)
theorem linK_ok {n : Nat} {row : List Int} (hl : row.length = n) (hN : Ns row) : ∀ k, k ≤ n → (linK row k).length ≤ k ∧ ∀ m ∈ linK row k, WOk n 1 m
  | 0, _ => ⟨by simp [linK], fun m hm => by simp [linK] at hm⟩
  | k + 1, hk => by
    have ih := linK_ok hl hN k (by omega)
    have h1 := putL_len (linK row k) (row[k]?.getD 0) (oneE row.length k)
    refine ⟨by rw [linK]; omega, fun m hm => ?_⟩
    rw [linK] at hm
    rw [hl] at hm
    exact putGo_wok (n := n) (B := 1) ⟨hN.get k, (oneE_wok (n := n) (k := k)).len, (oneE_wok (n := n) (k := k)).pw⟩ _ _ ih.2 m hm
def linF (m : List (List Int)) : List (List Mon) := m.map fun r => linK r r.length
theorem linF_len (m : List (List Int)) : (linF m).length = m.length := by simp [linF]
theorem linF_get {m : List (List Int)} {i : Nat} (h : i < m.length) : (linF m)[i]?.getD [] = linK (m[i]?.getD []) (m[i]?.getD []).length := by simp [linF, h]
theorem linF_ok {n : Nat} {m : List (List Int)} (hr : Rws n m) (hn : n ≤ 3) : ∀ p ∈ linF m, DrP n p := fun p hp => by
  obtain ⟨r, h, rfl⟩ := List.mem_map.1 hp
  have q := hr r h
  have ok := linK_ok q.1 q.2 r.length (by omega)
  exact ⟨by omega, fun x hx => (ok.2 x hx).le (by omega)⟩
end Go.Proofs.YtbeekabpflaihaaGreat


namespace Go.Proofs.YtbeekabpflaihaaGreat
open Go.Abs
set_option linter.unusedSectionVars false
set_option linter.unusedVariables false
set_option linter.unusedSimpArgs false
set_option maxHeartbeats 1000000
def linL (a : List Int) : List Mon := (List.range a.length).map fun i => (a[i]?.getD 0, oneE a.length i)
@[simp] theorem linL_len (a : List Int) : (linL a).length = a.length := by simp [linL]
theorem linL_at {a : List Int} {i : Nat} (h : i < a.length) : (linL a)[i]?.getD (0, []) = (a[i]?.getD 0, oneE a.length i) := by simp [linL, h]
theorem oneE_get {n i j : Nat} (hj : j < n) : (oneE n i)[j]?.getD 0 = if i = j then 1 else 0 := by
  unfold oneE
  rw [List.getElem?_set]
  by_cases e : i = j
  · subst e; simp [hj]
  · simp [e, hj]
theorem linL_nd {a : List Int} (h3 : a.length ≤ 3) : (linL a).Pairwise (fun a b => keyOf a.2 ≠ keyOf b.2) := by
  unfold linL
  rw [List.pairwise_map]
  refine List.Pairwise.imp_of_mem (R := fun a b => a < b) (fun {i j} hi hj hij e => ?_) (List.pairwise_lt_range)
  have hi : i < a.length := by simpa using hi
  have e2 := keyOf_inj (a := oneE a.length i) (b := oneE a.length j) (by simp) (by simp; omega) e
  have h1 := oneE_get (i := i) hi
  rw [e2, oneE_get hi, if_neg (by omega), if_pos rfl] at h1
  omega
theorem linL_eok {a : List Int} (h3 : a.length ≤ 3) (ha : Ns a) {k : Key} {x : Int} (hk : polF (linL a) k = some x) : EOk (k, x) := by
  obtain ⟨m, hm, he⟩ := List.mem_map.1 ((polF_some (linL_nd h3)).1 hk)
  obtain ⟨i, hi, rfl⟩ := List.mem_map.1 hm
  simp only [keyM, Prod.mk.injEq] at he
  obtain ⟨rfl, rfl⟩ := he
  have g : ∀ j : Nat, 0 ≤ (oneE a.length i)[j]?.getD 0 ∧ (oneE a.length i)[j]?.getD 0 ≤ 1 := fun j => (oneE_wok (n := a.length) (k := i)).get (by omega) j
  unfold EOk keyOf
  simp only
  have g0 := g 0
  have g1 := g 1
  have g2 := g 2
  exact ⟨ha.get i, by omega, by omega, by omega, by omega, by omega, by omega⟩
set_option maxRecDepth 100000 in
theorem linear_c (a : List Int) (h3 : a.length ≤ 3) : Con Tryz.prog 68 [.sl a.length (avs a)] (.mp (polF (linL a))) := by
  refine con_of_vc Tryz.mixed ⟨7, [], [], []⟩ Tryz.func68 (by decide) rfl (by simp) (by decide) (by simp [freshOK, freshL, go_sem]) ?_
  rw [Tryz.ntmps68]
  simp [go_sem]
  refine loop_inv (3 :: 4 :: 5 :: 6 :: List.range' 10 12) (fun i : Nat => [(3, .mp (polF ((linL a).take i))), (10, .int i)]) (fun i => i ≤ a.length) (fun i => a.length - i) 0 (by simp) (by simp [go_sem, polF, polG]) (by simp [go_sem]) ?_
  intro i hi
  simp [go_sem]
  refine ⟨fun h => ?_, fun h => ?_⟩ <;> simp at h
  · have hif := h
    have hv := polF_take (p := linL a) (i := i) (by simpa using h)
    rw [linL_at hif] at hv
    simp only at hv
    simp [go_sem, avs_drop hif]
    have hk : keyOf (oneE a.length i) = (if i = 0 then 1 else 0, if i = 1 then 1 else 0, if i = 2 then 1 else 0) := by
      have g : ∀ j : Nat, (oneE a.length i)[j]?.getD 0 = if i = j then 1 else 0 := fun j => by
        rcases Nat.lt_or_ge j a.length with hj | hj
        · exact oneE_get hj
        · rw [List.getElem?_eq_none (by simpa using hj), if_neg (by omega)]; rfl
      unfold keyOf
      rw [g 0, g 1, g 2]
    have hi3 : i = 0 ∨ i = 1 ∨ i = 2 := by omega
    rw [hk] at hv
    rcases hi3 with rfl | rfl | rfl
    · simp [go_sem]
      exact ⟨⟨hif, by rintro rfl; simp at hif⟩, 1, by omega, by omega, Off_reset _ _ _ (by simp), by simpa using hv.symm, by omega⟩
    · simp [go_sem]
      exact ⟨⟨hif, by rintro rfl; simp at hif⟩, 2, by omega, by omega, Off_reset _ _ _ (by simp), by simpa using hv.symm, by omega⟩
    · simp [go_sem]
      exact ⟨⟨hif, by rintro rfl; simp at hif⟩, 3, by omega, by omega, Off_reset _ _ _ (by simp), by simpa using hv.symm, by omega⟩
  · have e : i = a.length := by omega
    subst e
    simp [go_sem]
    rw [List.take_of_length_le (by simp)]
section
variable {q : List (List Int)} {f : List (List Mon)} {n : Nat}
theorem addK_comm (a b : Key) : addK a b = addK b a := by unfold addK; rw [Int.add_comm a.1, Int.add_comm a.2.1, Int.add_comm a.2.2]
end
end Go.Proofs.YtbeekabpflaihaaGreat


namespace Go.Proofs.YtbeekabpflaihaaGreat
open Go.Abs
set_option linter.unusedSectionVars false
set_option linter.unusedVariables false
set_option linter.unusedSimpArgs false
set_option maxHeartbeats 1000000
noncomputable def mulM (c d : Key → Option Int) : Key → Option Int := mapT (prT (enE c) (enE d))
structure Mok (B : Int) (c : Key → Option Int) : Prop where
  en : ∃ es, Enum c es
  pw : ∀ k x, c k = some x → isN x ∧ 0 ≤ k.1 ∧ k.1 ≤ B ∧ 0 ≤ k.2.1 ∧ k.2.1 ≤ B ∧ 0 ≤ k.2.2 ∧ k.2.2 ≤ B
theorem Mok.le {B C : Int} {c : Key → Option Int} (h : Mok B c) (hBC : B ≤ C) : Mok C c := ⟨h.en, fun k x hk => by
  obtain ⟨a, b, b2, d, d2, e, e2⟩ := h.pw k x hk
  exact ⟨a, b, by omega, d, by omega, e, by omega⟩⟩
theorem mapT_en (T : List (Key × Int)) : ∃ es, Enum (mapT T) es := enum_exists (T.map (·.1)) _ fun k x h => by
  unfold mapT at h
  split at h
  · rename_i h2
    obtain ⟨e, he, hk⟩ := hasK_iff.1 h2
    exact List.mem_map.2 ⟨e, he, hk⟩
  · simp at h
theorem Mok.mul {B C : Int} {c d : Key → Option Int} (h : Mok B c) (h2 : Mok C d) : Mok (B + C) (mulM c d) := ⟨mapT_en _, fun k x hk => by
  unfold mulM mapT at hk
  split at hk
  · rename_i h3
    obtain ⟨e, he, e1⟩ := hasK_iff.1 h3
    obtain ⟨a, ha, he⟩ := List.mem_flatMap.1 he
    obtain ⟨b, hb, rfl⟩ := List.mem_map.1 he
    have va := h.pw _ _ ((enE_is h.en).val a ha)
    have vb := h2.pw _ _ ((enE_is h2.en).val b hb)
    subst e1
    simp only [Option.some.injEq] at hk
    rw [← hk]
    refine ⟨isN_mod _, ?_⟩
    simp only [addK]
    omega
  · simp at hk⟩
theorem Mok.one {x : Int} (hx : isN x) : Mok 0 (mset mzero (0, 0, 0) x) := by
  have key : ∀ k y, mset mzero (0, 0, 0) x k = some y → k = (0, 0, 0) ∧ y = x := fun k y h => by
    unfold mset at h
    split at h
    · rename_i e; exact ⟨e, by simpa using h.symm⟩
    · simp [mzero] at h
  refine ⟨enum_exists [(0, 0, 0)] _ fun k y h => by simp [(key k y h).1], fun k y h => ?_⟩
  obtain ⟨rfl, rfl⟩ := key k y h
  exact ⟨hx, by simp, by simp, by simp, by simp, by simp, by simp⟩
theorem Mok.zero (B : Int) : Mok B mzero := ⟨⟨[], .nil, by simp, fun _ _ => rfl⟩, fun k x h => by simp [mzero] at h⟩
theorem Mok.add {B x : Int} {o q : Key → Option Int} (h : Mok B o) (h2 : Mok B q) : Mok B (addM o q x) := by
  have key : ∀ k y, addM o q x k = some y → isN y ∧ ((∃ a, q k = some a) ∨ ∃ a, o k = some a) := fun k y hk => by
    unfold addM at hk
    cases hq : q k with
    | none => rw [hq] at hk; exact ⟨(h.pw k y hk).1, .inr ⟨y, hk⟩⟩
    | some a => rw [hq] at hk; simp at hk; rw [← hk]; exact ⟨isN_mod _, .inl ⟨a, rfl⟩⟩
  obtain ⟨e1, h3⟩ := h.en
  obtain ⟨e2, h4⟩ := h2.en
  refine ⟨enum_exists (e1.map (·.1) ++ e2.map (·.1)) _ fun k y hk => ?_, fun k y hk => ?_⟩
  · rcases (key k y hk).2 with ⟨a, ha⟩ | ⟨a, ha⟩
    · exact List.mem_append_right _ (List.mem_map.2 ⟨(k, a), (enum_mem h4).2 ha, rfl⟩)
    · exact List.mem_append_left _ (List.mem_map.2 ⟨(k, a), (enum_mem h3).2 ha, rfl⟩)
  · refine ⟨(key k y hk).1, ?_⟩
    rcases (key k y hk).2 with ⟨a, ha⟩ | ⟨a, ha⟩
    · exact (h2.pw k a ha).2
    · exact (h.pw k a ha).2
structure Rlt (n : Nat) (B : Int) (c : Key → Option Int) (L : List Mon) : Prop where
  ok : Mok B c
  wok : ∀ m ∈ L, WOk n B m
  cf : ∀ K, gv c K % 10007 = cfL L K % 10007
theorem Rlt.le {n : Nat} {B C : Int} {c : Key → Option Int} {L : List Mon} (h : Rlt n B c L) (hBC : B ≤ C) : Rlt n C c L := ⟨h.ok.le hBC, fun m hm => (h.wok m hm).le hBC, h.cf⟩
theorem Rlt.mul {n : Nat} (hn : n ≤ 3) {B C : Int} {c d : Key → Option Int} {L l : List Mon} (h : Rlt n B c L) (h2 : Rlt n C d l) : Rlt n (B + C) (mulM c d) (prodL L l) := by
  refine ⟨h.ok.mul h2.ok, prodL_wok h.wok h2.wok, fun K => ?_⟩
  have hE := enE_is h.ok.en
  have hD := enE_is h2.ok.en
  have e0 : gv (mulM c d) K % 10007 = cfT (prT (enE c) (enE d)) K % 10007 := by
    show (mapT (prT (enE c) (enE d)) K).getD 0 % 10007 = _
    rw [mapT_get, Int.emod_emod_of_dvd _ (Int.dvd_refl _)]
  rw [e0, prodL_cf, cfT_prT]
  have s1 : sumI (fun e : Key × Int => sumI (fun b : Key × Int => if K = addK e.1 b.1 then e.2 * b.2 else 0) (enE d)) (enE c) % 10007 = sumI (fun e : Key × Int => sumI (fun b : Mon => if K = addK e.1 (keyOf b.2) then e.2 * b.1 else 0) l) (enE c) % 10007 := by
    refine sumI_mod fun e he => ?_
    have a1 := coef_sub K e.1 e.2 Prod.fst Prod.snd (enE d)
    have a2 := coef_sub K e.1 e.2 (fun m : Mon => keyOf m.2) (fun m => m.1) l
    rw [a1, a2, coef_enum hD]
    exact mod_mul _ (h2.cf _)
  rw [s1, sumI_swap]
  have s2 : sumI (fun b : Mon => sumI (fun e : Key × Int => if K = addK e.1 (keyOf b.2) then e.2 * b.1 else 0) (enE c)) l % 10007 = sumI (fun b : Mon => sumI (fun a : Mon => if K = addK (keyOf b.2) (keyOf a.2) then b.1 * a.1 else 0) L) l % 10007 := by
    refine sumI_mod fun b hb => ?_
    have e1 : sumI (fun e : Key × Int => if K = addK e.1 (keyOf b.2) then e.2 * b.1 else 0) (enE c) = sumI (fun e : Key × Int => if K = addK (keyOf b.2) e.1 then b.1 * e.2 else 0) (enE c) := sumI_congr fun e _ => by rw [addK_comm, Int.mul_comm]
    have a1 := coef_sub K (keyOf b.2) b.1 Prod.fst Prod.snd (enE c)
    have a2 := coef_sub K (keyOf b.2) b.1 (fun m : Mon => keyOf m.2) (fun m => m.1) L
    rw [e1, a1, a2, coef_enum hE]
    exact mod_mul _ (h.cf _)
  rw [s2, sumI_swap]
  unfold pcf
  refine congrArg (· % 10007) (sumI_congr fun a ha => sumI_congr fun b hb => ?_)
  rw [keyOf_add (by rw [(h.wok a ha).len, (h2.wok b hb).len]) (by rw [(h.wok a ha).len]; exact hn), addK_comm, Int.mul_comm]
theorem Rlt.add {n : Nat} {B x : Int} {o q : Key → Option Int} {L l : List Mon} (h : Rlt n B o L) (h2 : Rlt n B q l) : Rlt n B (addM o q x) (plusL L x l) :=
  ⟨h.ok.add h2.ok, plusL_wok _ _ h2.wok h.wok, fun K => by
    have a1 := h.cf K
    have a2 := mod_mul x (h2.cf K)
    rw [addM_gv, plusL_cf]
    generalize x * gv q K = t1 at *
    generalize x * cfL l K = t2 at *
    omega⟩
theorem keyOf_rep (n : Nat) : keyOf (List.replicate n 0) = (0, 0, 0) := by
  unfold keyOf
  have : ∀ i : Nat, (List.replicate n (0 : Int))[i]?.getD 0 = 0 := fun i => by
    rw [List.getElem?_replicate]; split <;> rfl
  rw [this, this, this]
theorem Rlt.one {n : Nat} {x : Int} (hx : isN x) : Rlt n 0 (mset mzero (0, 0, 0) x) [(x, List.replicate n 0)] := by
  refine ⟨Mok.one hx, fun m hm => ?_, fun K => ?_⟩
  · simp at hm
    subst hm
    refine ⟨hx, by simp, fun y hy => ?_⟩
    have := (List.mem_replicate.1 hy).2
    omega
  · rw [cfL_cons, keyOf_rep]
    unfold gv mset
    by_cases e : K = (0, 0, 0)
    · rw [if_pos e, if_pos e]; simp [cfL, coef, sumI]
    · rw [if_neg e, if_neg e]; simp [cfL, coef, sumI, mzero]
end Go.Proofs.YtbeekabpflaihaaGreat


namespace Go.Proofs.YtbeekabpflaihaaGreat
open Go.Abs CR
set_option linter.unusedSectionVars false
set_option linter.unusedVariables false
set_option linter.unusedSimpArgs false
set_option maxHeartbeats 1000000
section
variable {α : Type} [CR α]
def tq (k : Nat) (a : α) : Ser α := fun n => if n = k then a else ofI 0
theorem cmul_z (b : Ser α) : ∀ n, cmul n (fun _ => ofI 0) b = ofI 0
  | 0 => zmul _
  | n + 1 => by
    have : sh (fun _ => (ofI 0 : α)) = fun _ => ofI 0 := rfl
    rw [cmul, this, cmul_z b n, zmul, add0]
theorem tq_mul (a b : α) (k : Nat) : ∀ i, (tq i a * tq k b : Ser α) = tq (i + k) (a * b) := by
  intro i
  funext n
  show cmul n (tq i a) (tq k b) = tq (i + k) (a * b) n
  induction n generalizing i with
  | zero =>
    show tq i a 0 * tq k b 0 = _
    unfold tq
    by_cases h1 : 0 = i
    · rw [if_pos h1]
      by_cases h2 : 0 = k
      · rw [if_pos h2, if_pos (by omega)]
      · rw [if_neg h2, if_neg (by omega), mul0]
    · rw [if_neg h1, zmul, if_neg (by omega)]
  | succ n ih =>
    rw [cmul]
    cases i with
    | zero =>
      have e1 : sh (tq 0 a) = fun _ => ofI 0 := by
        funext m
        show (if m + 1 = 0 then a else ofI 0) = ofI 0
        rw [if_neg (by omega)]
      rw [e1, cmul_z, add0]
      unfold tq
      rw [if_pos rfl]
      by_cases h : n + 1 = k
      · rw [if_pos h, if_pos (by omega)]
      · rw [if_neg h, if_neg (by omega), mul0]
    | succ i =>
      have e1 : sh (tq (i + 1) a) = tq i a := by
        funext m
        show (if m + 1 = i + 1 then a else ofI 0) = if m = i then a else ofI 0
        by_cases h : m = i
        · rw [if_pos h, if_pos (by omega)]
        · rw [if_neg h, if_neg (by omega)]
      have e2 : tq (i + 1) a 0 = ofI 0 := if_neg (by omega)
      rw [e1, e2, zmul, zadd, ih]
      unfold tq
      by_cases h : n = i + k
      · rw [if_pos h, if_pos (by omega)]
      · rw [if_neg h, if_neg (by omega)]
theorem tq_of (x : Int) : (ofI x : Ser α) = tq 0 (ofI x) := rfl
theorem tq_pwr (k : Nat) : (pwr (tq 1 (ofI 1)) k : Ser α) = tq k (ofI 1) := by
  induction k with
  | zero => rfl
  | succ k ih => rw [pwr, ih, tq_mul, mul1]
theorem tq_pwr0 (a : α) (k : Nat) : (pwr (tq 0 a) k : Ser α) = tq 0 (pwr a k) := by
  induction k with
  | zero => rfl
  | succ k ih => rw [pwr, ih, tq_mul]; rfl
theorem mon_pad (U : Nat → α) {e : Nat → Nat} {n : Nat} (h : ∀ j, n ≤ j → e j = 0) : ∀ k, mon U e (n + k) = mon U e n
  | 0 => rfl
  | k + 1 => by
    show mon U e (n + k) * pwr (U (n + k)) (e (n + k)) = _
    rw [h _ (by omega), mon_pad U h k, pwr, mul1]
end
abbrev S3 := Ser (Ser (Ser Int))
def gen3 (j : Nat) : S3 := if j = 0 then tq 1 (ofI 1) else if j = 1 then tq 0 (tq 1 (ofI 1)) else tq 0 (tq 0 (tq 1 (ofI 1)))
theorem mon_gen (e : Nat → Nat) : mon gen3 e 3 = tq (e 0) (tq (e 1) (tq (e 2) 1)) := by
  have g0 : gen3 0 = tq 1 (ofI 1) := rfl
  have g1 : gen3 1 = tq 0 (tq 1 (ofI 1)) := rfl
  have g2 : gen3 2 = tq 0 (tq 0 (tq 1 (ofI 1))) := rfl
  rw [mon, mon, mon, mon, g0, g1, g2, tq_pwr, tq_pwr0, tq_pwr, tq_pwr0, tq_pwr0, tq_pwr, omul, tq_mul, omul, tq_mul, tq_mul]
  rw [tq_of (α := Int) 1, tq_mul]
  simp only [Nat.add_zero, Nat.zero_add]
  rfl
theorem evM_gen {n : Nat} (hn : n ≤ 3) (a b c : Nat) : ∀ L : List Mon, LOk n L → (evM n gen3 L) a b c = cfL L ((a : Int), (b : Int), (c : Int))
  | [], _ => by
    rw [evM_nil]
    show (if a = 0 then (ofI 0 : Ser (Ser Int)) else ofI 0) b c = 0
    rw [ite_self]
    show (if b = 0 then (ofI 0 : Ser Int) else ofI 0) c = 0
    rw [ite_self]
    show (if c = 0 then (0 : Int) else 0) = 0
    rw [ite_self]
  | m :: L, h => by
    have ih := evM_gen hn a b c L h.tl
    obtain ⟨h1, h2⟩ := h.hd
    have hz : ∀ j, n ≤ j → ex m.2 j = 0 := fun j hj => by unfold ex; simp [show m.2.length ≤ j by omega]
    have e1 : mon gen3 (ex m.2) n = mon gen3 (ex m.2) 3 := by
      have := mon_pad gen3 hz (3 - n)
      rw [← this, show n + (3 - n) = 3 by omega]
    rw [evM_cons, cfL_cons, e1, mon_gen]
    show ((ofI m.1 * tq (ex m.2 0) (tq (ex m.2 1) (tq (ex m.2 2) (1 : Int))) : S3)) a b c + evM n gen3 L a b c = _
    rw [ih, tq_of, tq_mul, tq_of, tq_mul, tq_of, tq_mul]
    congr 1
    have g : ∀ i : Nat, 0 ≤ m.2[i]?.getD 0 := fun i => by
      rcases Nat.lt_or_ge i m.2.length with hi | hi
      · simp [hi]; exact h2 _ (List.getElem_mem hi)
      · simp [hi]
    have t : ∀ i : Nat, ((ex m.2 i : Nat) : Int) = m.2[i]?.getD 0 := fun i => by unfold ex; have := g i; omega
    have k : keyOf m.2 = (((ex m.2 0 : Nat) : Int), ((ex m.2 1 : Nat) : Int), ((ex m.2 2 : Nat) : Int)) := by unfold keyOf; rw [t, t, t]
    rw [k]
    simp only [Nat.zero_add]
    unfold tq
    by_cases ha : a = ex m.2 0
    · rw [if_pos ha]
      by_cases hb : b = ex m.2 1
      · rw [if_pos hb]
        by_cases hc : c = ex m.2 2
        · rw [if_pos hc, if_pos (by rw [ha, hb, hc])]
          exact Int.mul_one _
        · rw [if_neg hc, if_neg (fun e => hc (by simp at e; omega))]; rfl
      · rw [if_neg hb, if_neg (fun e => hb (by simp at e; omega))]
        show (if c = 0 then (0 : Int) else 0) = 0
        rw [ite_self]
    · rw [if_neg ha, if_neg (fun e => ha (by simp at e; omega))]
      show (if b = 0 then (ofI 0 : Ser Int) else ofI 0) c = 0
      rw [ite_self]
      show (if c = 0 then (0 : Int) else 0) = 0
      rw [ite_self]
theorem cfL_neg {n : Nat} {L : List Mon} (h : LOk n L) {K : Key} (hK : ¬ NN K) : cfL L K = 0 := by
  refine sumI_zero fun m hm => if_neg fun e => hK ?_
  have h2 := (h m hm).2
  have g : ∀ i : Nat, 0 ≤ m.2[i]?.getD 0 := fun i => by
    rcases Nat.lt_or_ge i m.2.length with hi | hi
    · simp [hi]; exact h2 _ (List.getElem_mem hi)
    · simp [hi]
  rw [e]
  exact ⟨g 0, g 1, g 2⟩
theorem Alk.cf {n : Nat} (hn : n ≤ 3) {p q : List Mon} (hp : LOk n p) (hq : LOk n q) (h : Alk (polM n p) (polM n q)) (K : Key) : cfL p K % 10007 = cfL q K % 10007 := by
  by_cases hK : NN K
  · obtain ⟨x, y, z⟩ := K
    obtain ⟨h1, h2, h3⟩ := hK
    simp only at h1 h2 h3
    have e := h S3 (cgS (cgS (cgS cgI (z.toNat + 1)) (y.toNat + 1)) (x.toNat + 1)) gen3 x.toNat (by omega) y.toNat (by omega) z.toNat (by omega)
    have e : (evM n gen3 p) x.toNat y.toNat z.toNat % 10007 = (evM n gen3 q) x.toNat y.toNat z.toNat % 10007 := e
    rw [evM_gen hn _ _ _ p hp, evM_gen hn _ _ _ q hq, Int.toNat_of_nonneg h1, Int.toNat_of_nonneg h2, Int.toNat_of_nonneg h3] at e
    exact e
  · rw [cfL_neg hp hK, cfL_neg hq hK]
theorem mon_unit {α : Type} [CR α] (U : Nat → α) {n k : Nat} (hk : k < n) : mon U (ex (oneE n k)) n = U k := by
  have e0 : ∀ j, j < n → ex (oneE n k) j = if k = j then 1 else 0 := fun j hj => by unfold ex; rw [oneE_get hj]; split <;> rfl
  have gen : ∀ d, d ≤ n → mon U (ex (oneE n k)) d = if k < d then U k else ofI 1 := by
    intro d
    induction d with
    | zero => intro _; rfl
    | succ d ih =>
      intro hd
      rw [mon, ih (by omega), e0 d (by omega)]
      by_cases h : k = d
      · subst h
        rw [if_neg (by omega), if_pos rfl, if_pos (by omega), pwr, pwr, omul, omul]
      · rw [if_neg h, pwr, mul1]
        by_cases h2 : k < d
        · rw [if_pos h2, if_pos (by omega)]
        · rw [if_neg h2, if_neg (by omega)]
  rw [gen n (Nat.le_refl _), if_pos hk]
theorem linK_ev {α : Type} [CR α] (c : Cg α) (U : Nat → α) {n : Nat} {row : List Int} (hl : row.length = n) : ∀ k, k ≤ n → c.r (evM n U (linK row k)) (sT (fun j => ofI (row[j]?.getD 0) * U j) k)
  | 0, _ => c.refl _
  | k + 1, hk => by
    refine c.trans (putL_ev c n U _ _ _) (c.trans (c.add (linK_ev c U hl k (by omega)) (c.eq ?_)) (c.eq rfl))
    rw [hl, mon_unit U (by omega)]
end Go.Proofs.YtbeekabpflaihaaGreat


namespace Go.Proofs.YtbeekabpflaihaaGreat
open Go.Abs CR
set_option linter.unusedSectionVars false
set_option linter.unusedVariables false
set_option linter.unusedSimpArgs false
set_option maxHeartbeats 1000000
theorem dsum_sT (f : Nat → Int) : ∀ n, dsum f n = sT f n
  | 0 => rfl
  | n + 1 => by rw [dsum, dsum_sT f n]; rfl
section
variable {α : Type} [CR α]
end
end Go.Proofs.YtbeekabpflaihaaGreat


namespace Go.Proofs.YtbeekabpflaihaaGreat
open Go.Abs
set_option linter.unusedSectionVars false
set_option linter.unusedVariables false
set_option linter.unusedSimpArgs false
set_option maxHeartbeats 1000000
set_option maxRecDepth 100000 in
theorem checkSeriesNumber_c (z : Int) (f : List (List Mon)) (L : List (List Int)) (k : Int) (hs : Small f) (hf : fieldB z f = true) (hl : L.length ≤ 1048576) (hr : ∀ y ∈ L, y.length ≤ 1048576) (hL : serB z L = true) (hk : isN k) :
    Con Tryz.prog 83 [.agg [.int z, .sl f.length (prt f)], .sl L.length (mat L), .int k] (.int 0) := by
  have cI := IsField_c z f hs
  have cV := isVectorSeries_c z f.length (prt f) L (by omega) (fun y hy => by have := hr y hy; omega)
  have cN := IsNumber_c k
  rw [hf] at cI
  rw [hL] at cV
  rw [decide_eq_true (show 0 ≤ k ∧ k ≤ 10006 from ⟨hk.1, by have := hk.2; omega⟩)] at cN
  refine con_of_vc Tryz.mixed ⟨7, [], [], []⟩ Tryz.func83 (by decide) rfl (by simp) (by decide) (by simp [freshOK, freshL, go_sem]) ?_
  rw [Tryz.ntmps83]
  simp [go_sem]
  refine CallVC.of (cI) (by decide) ?_
  simp [go_sem]
  refine CallVC.of (cV) (by decide) ?_
  simp [go_sem]
  refine CallVC.of (cN) (by decide) ?_
  simp [go_sem]
def evV (k : Int) (L : List (List Int)) (n : Nat) : Nat → List Int
  | 0 => List.replicate n 0
  | i + 1 => plusS (evV k L n i) (L[i]?.getD []) (pw k i)
@[simp] theorem evV_len (k : Int) (L : List (List Int)) (n : Nat) : ∀ i, (evV k L n i).length = n
  | 0 => by simp [evV]
  | i + 1 => by simp [evV, evV_len k L n i]
theorem evV_N (k : Int) (L : List (List Int)) (n : Nat) : ∀ i, Ns (evV k L n i)
  | 0 => fun x hx => by have := List.eq_of_mem_replicate hx; subst this; exact ⟨by omega, by omega⟩
  | i + 1 => plusS_N _ _ _
theorem serB_un {z : Int} {L : List (List Int)} (h : serB z L = true) : L.length = 7 ∧ ∀ y ∈ L, (y.length : Int) = z ∧ Ns y := by
  unfold serB at h
  simp at h
  exact ⟨h.1, fun y hy => vecB_iff.1 (h.2 y hy)⟩
theorem fits_N {x : Int} (h : isN x) : fits x := ⟨by have := h.1; omega, by have := h.2; omega⟩
set_option maxRecDepth 100000 in
theorem EvaluateVectors_c (n : Nat) (f : List (List Mon)) (L : List (List Int)) (k : Int) (hn : n ≤ 3) (hs : Small f) (hf : fieldB n f = true) (hl : L.length ≤ 1048576) (hr : ∀ y ∈ L, y.length ≤ 1048576) (hL : serB n L = true) (hk : isN k) :
    Con Tryz.prog 29 [.agg [.int n, .sl f.length (prt f)], .sl L.length (mat L), .int k] (.tup [.own 2 n (avs (evV k L n L.length)), .int 0]) := by
  have cC := checkSeriesNumber_c n f L k hs hf hl hr hL hk
  obtain ⟨l7, lr⟩ := serB_un hL
  refine con_of_vc Tryz.mixed ⟨12, [], [], []⟩ Tryz.func29 (by decide) rfl (by simp) (by decide) (by simp [freshOK, freshL, go_sem]) ?_
  rw [Tryz.ntmps29]
  simp [go_sem]
  refine CallVC.of (cC) (by decide) ?_
  simp [go_sem]
  refine ⟨⟨by omega, by omega⟩, ?_⟩
  refine loop_inv (List.range' 9 3 ++ List.range' 24 12) (fun i : Nat => [(9, .own 2 n (avs (evV k L n i))), (24, .int i)]) (fun i => i ≤ L.length) (fun i => L.length - i) 0 (by simp) (by simp [go_sem, evV, avs]) (by simp [go_sem]) ?_
  intro i hi
  simp [go_sem]
  refine ⟨fun h => ?_, fun h => ?_⟩ <;> simp at h
  · have hiL : i < L.length := by omega
    have hM := mat_drop hiL
    have hrow := lr (L[i]?.getD []) (by simp [hiL])
    have cP := pow_c k i hk (by omega) (by omega)
    have cS := plus_c (evV k L n i) (L[i]?.getD []) (pw k i) (evV_N k L n i) hrow.2 (fits_N (isN_mod _)) (by rw [evV_len]; omega) (by rw [evV_len]; omega)
    have nL : ¬ L = [] := by rintro rfl; simp at hiL
    have hsn : evV k L n (i + 1) = plusS (evV k L n i) (L[i]?.getD []) (pw k i) := rfl
    rw [← hsn, evV_len] at cS
    generalize pw k i = p at *
    generalize L[i]?.getD [] = r at *
    simp [go_sem, hM]
    refine ⟨⟨hiL, nL⟩, ?_⟩
    refine CallVC.of (cP) (by decide) ?_
    simp [go_sem]
    refine CallVC.of (cS) (by decide) ?_
    simp [go_sem]
    exact ⟨⟨by omega, by omega⟩, i + 1, by omega, by omega, Off_reset _ _ _ (by simp), rfl, by omega⟩
  · have e : i = L.length := by omega
    subst e
    simp [go_sem]
end Go.Proofs.YtbeekabpflaihaaGreat


namespace Go.Proofs.YtbeekabpflaihaaGreat
open Go.Abs CR
set_option linter.unusedSectionVars false
set_option linter.unusedVariables false
set_option linter.unusedSimpArgs false
set_option maxHeartbeats 1000000
theorem sTd_at (f : Nat → Ser Int) (k : Nat) : ∀ n, sT f n k = dsum (fun j => f j k) n
  | 0 => by cases k <;> rfl
  | n + 1 => by rw [sT, ser_add, sTd_at f k n]; rfl
theorem of_mul (a : Int) (s : Ser Int) (k : Nat) : ((ofI a : Ser Int) * s) k = a * s k := by
  cases k with
  | zero => rfl
  | succ k =>
    have h : ((ofI a : Ser Int) * s) (k + 1) = (ofI a : Ser Int) 0 * s (k + 1) + (ofI a : Ser Int) 1 * s k := cmul_lin (fun i => rfl) s k
    rw [h]
    show a * s (k + 1) + 0 * s k = _
    rw [Int.zero_mul, Int.add_zero]
theorem vo_lin {n : Nat} {L : List (List Int)} {row : List Int} (hl : row.length = n) (hL : L.length = n) {k : Nat} (hk : k < 7) :
    voS L k (linK row n) % 10007 = dsum (fun j => row[j]?.getD 0 * (L[j]?.getD [])[k]?.getD 0) n % 10007 := by
  have h1 := voS_ser L (linK row n) k hk
  have h2 := linK_ev c7 (toU L) hl n (Nat.le_refl _) k hk
  rw [hL] at h1
  have e1 : voS L k (linK row n) % 10007 = (evM n (toU L) (linK row n) : Ser Int) k % 10007 := h1
  have e2 : (evM n (toU L) (linK row n) : Ser Int) k % 10007 = (sT (fun j => ofI (row[j]?.getD 0) * toU L j) n : Ser Int) k % 10007 := h2
  rw [e1, e2, sTd_at]
  congr 1
  exact dsum_congr fun j hj => by rw [of_mul]; rfl
theorem vs_lin {n : Nat} {y row : List Int} (hl : row.length = n) (hy : y.length = n) : vsum y (linK row n) % 10007 = dsum (fun j => row[j]?.getD 0 * y[j]?.getD 0) n % 10007 := by
  have h2 : (evM n (yat y) (linK row n) : Int) % 10007 = (sT (fun j => ofI (row[j]?.getD 0) * yat y j) n : Int) % 10007 := linK_ev cgI (yat y) hl n (Nat.le_refl _)
  rw [vsum_ev, hy, h2, ← dsum_sT]
  rfl
theorem raiS_at {a : List Int} {j : Nat} (h : j + 1 < a.length) : (raiS a)[j + 1]?.getD 0 = a[j]?.getD 0 := by
  unfold raiS
  rw [tb_get _ h, if_neg (by omega)]; rfl
theorem mv_at {y c : List Int} {L : List (List (List Int))} (hy : Ns y) {k : Nat} (hk : k < y.length) {j : Nat} (hj : j < 6) : ∀ i, (∀ q, q < i → ((L[q]?.getD [])[k]?.getD []).length = 7) →
    ((mvS (poS y) c L i)[k]?.getD [])[j + 1]?.getD 0 % 10007 = dsum (fun q => c[q]?.getD 0 * ((L[q]?.getD [])[k]?.getD [])[j]?.getD 0) i % 10007
  | 0, _ => by
    rw [mvS, poS_at hk]
    have e : (unS (y[k]?.getD 0))[j + 1]?.getD 0 = 0 := by
      have : j = 0 ∨ j = 1 ∨ j = 2 ∨ j = 3 ∨ j = 4 ∨ j = 5 := by omega
      rcases this with rfl | rfl | rfl | rfl | rfl | rfl <;> rfl
    rw [e]; rfl
  | i + 1, hL => by
    have ih := mv_at (c := c) hy hk hj i (fun q hq => hL q (by omega))
    have hk2 : k < (poS y).length := by rw [poS_len]; exact hk
    have hm := mvS_row (c := c) (L := L) (poS_row hy) i _ (memD [] (show k < (mvS (poS y) c L i).length by rw [mvS_len]; exact hk2))
    have e : (mvS (poS y) c L (i + 1))[k]?.getD [] = plusS ((mvS (poS y) c L i)[k]?.getD []) (raiS ((L[i]?.getD [])[k]?.getD [])) (c[i]?.getD 0) := by
      simp only [mvS]
      simp [hk]
    have l7 := hL i (by omega)
    rw [e]
    unfold plusS
    rw [tb_get _ (by omega), raiS_at (by omega), Int.emod_emod_of_dvd _ (Int.dvd_refl _)]
    show _ = (dsum _ i + c[i]?.getD 0 * ((L[i]?.getD [])[k]?.getD [])[j]?.getD 0) % 10007
    refine mod_addc ih ?_
    rw [Int.mul_emod, Int.emod_emod_of_dvd _ (Int.dvd_refl _), ← Int.mul_emod]
theorem dd1 (a : Nat → Int) (e : Nat → Nat → Int) (u : Nat → Int) (i J : Nat) : dsum (fun q => a q * dsum (fun j => e j q * u j) J) i = dsum (fun j => dsum (fun q => a q * e j q) i * u j) J := by
  rw [dsum_congr (g := fun q => dsum (fun j => a q * (e j q * u j)) J) (fun q _ => dsum_mul _ _ _), dsum_swap (fun q j => a q * (e j q * u j))]
  refine dsum_congr fun j _ => ?_
  rw [Int.mul_comm, dsum_mul]
  exact dsum_congr fun q _ => by ac_rfl
theorem dd2 (a : Nat → Int) (E : Nat → Int) (u : Nat → Nat → Int) (n J : Nat) : dsum (fun c => a c * dsum (fun j => E j * u j c) J) n = dsum (fun j => E j * dsum (fun c => a c * u j c) n) J := by
  rw [dsum_congr (g := fun c => dsum (fun j => a c * (E j * u j c)) J) (fun c _ => dsum_mul _ _ _), dsum_swap (fun c j => a c * (E j * u j c))]
  refine dsum_congr fun j _ => ?_
  rw [dsum_mul]
  exact dsum_congr fun q _ => by ac_rfl
section
variable {A : List (List Int)} {B : List Int} {m : List (List Int)} {y : List Int}
theorem Tab.row (hT : Tab A B) {i : Nat} (hi : i < B.length) : (A[i]?.getD []).length = B.length := (hT.rws.at (by rw [hT.len]; exact hi)).1
theorem slo_len (hr : Rws m.length m) (hyl : y.length = m.length) {t i k : Nat} (hi : i < A.length) (hk : k < m.length) : (((sloS A (linF m) (poS y) t)[i]?.getD [])[k]?.getD []).length = 7 := by
  have h := sloS_row (A := A) (f := linF m) (start := poS y) (by rw [linF_len, poS_len, hyl]) t _ (memD [] (show i < (sloS A (linF m) (poS y) t).length by rw [sloS_len]; exact hi))
  exact (h.2 _ (memD [] (show k < ((sloS A (linF m) (poS y) t)[i]?.getD []).length by rw [h.1, poS_len]; omega))).1
theorem slo_lin (hT : Tab A B) (hr : Rws m.length m) (hyl : y.length = m.length) (hy : Ns y) : ∀ (t i k j : Nat), i < B.length → k < m.length → j < t → j < 7 →
    (((sloS A (linF m) (poS y) t)[i]?.getD [])[k]?.getD [])[j]?.getD 0 % 10007 = evN B.length (mx A) j i * pwM m.length m (fun c => y[c]?.getD 0) (j + 1) k % 10007
  | 0, i, k, j, _, _, hj, _ => by omega
  | t + 1, i, k, j, hi, hk, hj, h7 => by
    have hiA : i < A.length := by rw [hT.len]; exact hi
    have rl := hT.row hi
    have q := hr.at hk
    rw [sloS_at (linF m) (poS y) t hiA]
    have fk : (linF m)[k]?.getD [] = linK (m[k]?.getD []) m.length := by rw [linF_get hk, q.1]
    have hkf : k < (linF m).length := by rw [linF_len]; exact hk
    generalize hM : mvS (poS y) (A[i]?.getD []) (sloS A (linF m) (poS y) t) (A[i]?.getD []).length = M
    have Ml : M.length = m.length := by rw [← hM, mvS_len, poS_len, hyl]
    have e1 : (fdS M (linF m))[k]?.getD [] = evS M ((linF m)[k]?.getD []) := by simp [fdS, hkf]
    rw [e1, fk]
    unfold evS
    rw [tb_get _ h7, Int.emod_emod_of_dvd _ (Int.dvd_refl _), vo_lin q.1 Ml h7]
    cases j with
    | zero =>
      show _ = 1 * act m.length m (fun c => y[c]?.getD 0) k % 10007
      rw [Int.one_mul]
      congr 1
      refine dsum_congr fun c hc => ?_
      rw [← hM, mvS_first (poS_row hy) _ c (by rw [poS_len]; omega), poS_at (by omega)]
      rfl
    | succ j =>
      have st : ∀ c, c < m.length → (m[k]?.getD [])[c]?.getD 0 * (M[c]?.getD [])[j + 1]?.getD 0 % 10007 = evN B.length (mx A) (j + 1) i * ((m[k]?.getD [])[c]?.getD 0 * pwM m.length m (fun c => y[c]?.getD 0) (j + 1) c) % 10007 := fun c hc => by
        have e2 := mv_at (y := y) (c := A[i]?.getD []) (L := sloS A (linF m) (poS y) t) hy (show c < y.length by omega) (show j < 6 by omega) (A[i]?.getD []).length (fun q hq => slo_len hr hyl (by rw [hT.len]; omega) hc)
        rw [hM, rl] at e2
        have e3 : dsum (fun q => (A[i]?.getD [])[q]?.getD 0 * (((sloS A (linF m) (poS y) t)[q]?.getD [])[c]?.getD [])[j]?.getD 0) B.length % 10007 = evN B.length (mx A) (j + 1) i * pwM m.length m (fun c => y[c]?.getD 0) (j + 1) c % 10007 := by
          rw [dsum_mod (g := fun q => (A[i]?.getD [])[q]?.getD 0 * (evN B.length (mx A) j q * pwM m.length m (fun c => y[c]?.getD 0) (j + 1) c)) (fun q hq => mod_mulc rfl (slo_lin hT hr hyl hy t q c j hq hc (by omega) (by omega)))]
          congr 1
          show _ = dsum (fun q => mx A i q * evN B.length (mx A) j q) B.length * _
          rw [Int.mul_comm, dsum_mul]
          exact dsum_congr fun q _ => by
            show mx A i q * _ = _
            ac_rfl
        rw [mod_mulc rfl (e2.trans e3)]
        congr 1
        ac_rfl
      rw [dsum_mod st, ← dsum_mul]
      rfl
theorem ste_lin (hT : Tab A B) (hr : Rws m.length m) (hyl : y.length = m.length) (hy : Ns y) {k j : Nat} (hk : k < m.length) (hj : j < 7) :
    ((steS A B (linF m) (poS y))[k]?.getD [])[j]?.getD 0 % 10007 = rsS B.length (mx A) (fun r => B[r]?.getD 0) j * pwM m.length m (fun c => y[c]?.getD 0) j k % 10007 := by
  unfold steS
  cases j with
  | zero =>
    rw [mvS_first (poS_row hy) _ k (by rw [poS_len]; omega), poS_at (by omega), rsS_0, Int.one_mul]
    rfl
  | succ j =>
    have e2 := mv_at (y := y) (c := B) (L := sloS A (linF m) (poS y) 7) hy (show k < y.length by omega) (show j < 6 by omega) B.length (fun q hq => slo_len hr hyl (by rw [hT.len]; omega) hk)
    rw [e2, rs_dot, dsum_mod (g := fun q => B[q]?.getD 0 * (evN B.length (mx A) j q * pwM m.length m (fun c => y[c]?.getD 0) (j + 1) k)) (fun q hq => mod_mulc rfl (slo_lin hT hr hyl hy 7 q k j hq hk (by omega) (by omega)))]
    congr 1
    rw [Int.mul_comm, dsum_mul]
    exact dsum_congr fun q _ => by ac_rfl
theorem evV_at (h : Int) (L : List (List Int)) (n : Nat) {k : Nat} (hk : k < n) : ∀ i, (evV h L n i)[k]?.getD 0 % 10007 = dsum (fun j => (L[j]?.getD [])[k]?.getD 0 * h ^ j) i % 10007
  | 0 => by simp [evV, hk]; rfl
  | i + 1 => by
    rw [evV]
    unfold plusS
    rw [tb_get _ (by rw [evV_len]; exact hk), Int.emod_emod_of_dvd _ (Int.dvd_refl _)]
    show _ = (dsum _ i + (L[i]?.getD [])[k]?.getD 0 * h ^ i) % 10007
    refine mod_addc (evV_at h L n hk i) ?_
    unfold pw
    rw [Int.toNat_natCast, Int.emod_emod_of_dvd _ (Int.dvd_refl _), mul_mod_l, Int.mul_comm]
theorem Ns.mod {l : List Int} (h : Ns l) (k : Nat) : l[k]?.getD 0 % 10007 = l[k]?.getD 0 := by
  have q := h.get k
  exact Int.emod_eq_of_lt q.1 (by have := q.2; omega)
theorem list_mod {l : List Int} {n : Nat} {F : Nat → Int} (hl : l.length = n) (hN : Ns l) (h : ∀ k, k < n → l[k]?.getD 0 % 10007 = F k % 10007) : l = tb (fun k => F k % 10007) n := by
  refine List.ext_getElem (by simp [hl]) fun k h1 h2 => ?_
  have e := h k (by omega)
  rw [hN.mod, List.getElem?_eq_getElem h1, Option.getD_some] at e
  rw [e]; simp [tb]
theorem ser_is (h : Int) (hT : Tab A B) (hr : Rws m.length m) (h0 : 0 < m.length) (hyl : y.length = m.length) (hy : Ns y) : evV h (turnS (steS A B (linF m) (poS y))) m.length 7 = tb (xpF A B m y h) m.length := by
  have St := steS_row (A := A) (B := B) (f := linF m) (poS_row hy)
  have Sl : (steS A B (linF m) (poS y)).length = m.length := by rw [steS_len, poS_len, hyl]
  refine list_mod (by simp) (evV_N _ _ _ _) fun k hk => ?_
  rw [evV_at h _ _ hk]
  refine dsum_mod fun j hj => ?_
  have l0 := (St _ (memD [] (show 0 < (steS A B (linF m) (poS y)).length by omega))).1
  have e1 : (turnS (steS A B (linF m) (poS y)))[j]?.getD [] = colS (steS A B (linF m) (poS y)) j := by
    have : j < ((steS A B (linF m) (poS y))[0]?.getD []).length := by omega
    simp [turnS, this]
  have e2 : (colS (steS A B (linF m) (poS y)) j)[k]?.getD 0 = ((steS A B (linF m) (poS y))[k]?.getD [])[j]?.getD 0 := by
    unfold colS; exact tb_get _ (by omega)
  rw [e1, e2, mod_mulc (ste_lin hT hr hyl hy hk hj) rfl]
  congr 1
  ac_rfl
theorem plF_at (h : Int) (row : List Int) (vs : List (List Int)) {c : Nat} (hc : c < y.length) : ∀ k, (plF h row vs y k)[c]?.getD 0 % 10007 = (y[c]?.getD 0 + h * dsum (fun q => row[q]?.getD 0 * (vs[q]?.getD [])[c]?.getD 0) k) % 10007
  | 0 => by
    show _ = (y[c]?.getD 0 + h * 0) % 10007
    rw [Int.mul_zero, Int.add_zero]; rfl
  | k + 1 => by
    have ih := plF_at h row vs hc k
    rw [plF]
    unfold plusS
    rw [tb_get _ (by rw [plF_len]; exact hc), Int.emod_emod_of_dvd _ (Int.dvd_refl _)]
    show _ = (y[c]?.getD 0 + h * (dsum _ k + row[k]?.getD 0 * (vs[k]?.getD [])[c]?.getD 0)) % 10007
    rw [Int.mul_add, ← Int.add_assoc]
    refine mod_addc ih ?_
    rw [Int.emod_emod_of_dvd _ (Int.dvd_refl _), mul_mod_l, Int.mul_assoc]
def sgF (A : List (List Int)) (s : Nat) (m : List (List Int)) (y : List Int) (h : Int) (q k : Nat) : Int :=
  dsum (fun j => evN s (mx A) j q * (h ^ j * pwM m.length m (fun c => y[c]?.getD 0) (j + 1) k)) 6
theorem sg_next (h : Int) (hT : Tab A B) (hlow : Low B.length (mx A)) (h6 : B.length ≤ 6) {i k : Nat} (hi : i < B.length) (hk : k < m.length) :
    dsum (fun c => (m[k]?.getD [])[c]?.getD 0 * (y[c]?.getD 0 + h * dsum (fun q => (A[i]?.getD [])[q]?.getD 0 * sgF A B.length m y h q c) i)) m.length = sgF A B.length m y h i k := by
  have e1 : ∀ c, dsum (fun q => (A[i]?.getD [])[q]?.getD 0 * sgF A B.length m y h q c) i = dsum (fun j => evN B.length (mx A) (j + 1) i * (h ^ j * pwM m.length m (fun c => y[c]?.getD 0) (j + 1) c)) 6 := fun c => by
    unfold sgF
    rw [dd1 (fun q => (A[i]?.getD [])[q]?.getD 0) (fun j q => evN B.length (mx A) j q)]
    refine dsum_congr fun j hj => ?_
    congr 1
    have sp := dsum_split (fun q => (A[i]?.getD [])[q]?.getD 0 * evN B.length (mx A) j q) i (B.length - i)
    rw [show i + (B.length - i) = B.length by omega, dsum_zero (n := B.length - i) (fun q hq => by
      have z : (A[i]?.getD [])[i + q]?.getD 0 = 0 := hlow i (i + q) hi (by omega) (by omega)
      rw [z, Int.zero_mul]), Int.add_zero] at sp
    exact sp.symm
  rw [dsum_congr (g := fun c => (m[k]?.getD [])[c]?.getD 0 * y[c]?.getD 0 + (m[k]?.getD [])[c]?.getD 0 * dsum (fun j => evN B.length (mx A) (j + 1) i * (h * (h ^ j * pwM m.length m (fun c => y[c]?.getD 0) (j + 1) c))) 6) (fun c _ => by
    rw [e1, dsum_mul, Int.mul_add]
    congr 2
    exact dsum_congr fun j _ => by ac_rfl), dsum_plus, dd2 (fun c => (m[k]?.getD [])[c]?.getD 0) (fun j => evN B.length (mx A) (j + 1) i)]
  have sh := dsum_shift (fun j => evN B.length (mx A) j i * (h ^ j * pwM m.length m (fun c => y[c]?.getD 0) (j + 1) k)) 6
  have la : dsum (fun j => evN B.length (mx A) j i * (h ^ j * pwM m.length m (fun c => y[c]?.getD 0) (j + 1) k)) (6 + 1) = sgF A B.length m y h i k + evN B.length (mx A) 6 i * (h ^ 6 * pwM m.length m (fun c => y[c]?.getD 0) (6 + 1) k) := rfl
  rw [ev_low hlow 6 i hi (by omega), Int.zero_mul, Int.add_zero] at la
  rw [← la, sh]
  congr 1
  · show _ = 1 * (h ^ 0 * act m.length m (fun c => y[c]?.getD 0) k)
    rw [Int.one_mul, Int.pow_zero, Int.one_mul]
    rfl
  · refine dsum_congr fun j _ => ?_
    congr 1
    show _ = h ^ (j + 1) * act m.length m (pwM m.length m (fun c => y[c]?.getD 0) (j + 1)) k
    rw [act, dsum_mul]
    refine dsum_congr fun c _ => ?_
    rw [Int.pow_succ]
    show mx m k c * _ = _
    ac_rfl
theorem ex_lin (h : Int) (hT : Tab A B) (hlow : Low B.length (mx A)) (h6 : B.length ≤ 6) (hr : Rws m.length m) (hyl : y.length = m.length) : ∀ i, i ≤ B.length →
    (∀ q k, q < i → k < m.length → ((exF A B (linF m) y h i).1[q]?.getD [])[k]?.getD 0 % 10007 = sgF A B.length m y h q k % 10007) ∧
    ∀ k, k < m.length → (exF A B (linF m) y h i).2[k]?.getD 0 % 10007 = (y[k]?.getD 0 + h * dsum (fun q => B[q]?.getD 0 * sgF A B.length m y h q k) i) % 10007
  | 0, _ => ⟨fun q k hq => by omega, fun k hk => by
    show _ = (y[k]?.getD 0 + h * 0) % 10007
    rw [Int.mul_zero, Int.add_zero]; rfl⟩
  | i + 1, hi => by
    obtain ⟨i1, i2⟩ := ex_lin h hT hlow h6 hr hyl i (by omega)
    have v1 := exF_len1 A B (linF m) y h i
    have v2 := exF_len2 A B (linF m) y h i
    have hN : ∀ k, k < m.length → (evL (plF h (A[i]?.getD []) (exF A B (linF m) y h i).1 y i) (linF m))[k]?.getD 0 % 10007 = sgF A B.length m y h i k % 10007 := fun k hk => by
      have q := hr.at hk
      rw [evL_at (by rw [linF_len]; exact hk), linF_get hk, q.1, Int.emod_emod_of_dvd _ (Int.dvd_refl _), vs_lin q.1 (by rw [plF_len, hyl]), ← sg_next (y := y) h hT hlow h6 (show i < B.length by omega) hk]
      refine dsum_mod fun c hc => mod_mulc rfl ?_
      rw [plF_at h _ _ (show c < y.length by omega)]
      refine mod_addc rfl (mod_mulc rfl (dsum_mod fun q hq => mod_mulc rfl (i1 q c hq hc)))
    have hE : exF A B (linF m) y h (i + 1) = ((exF A B (linF m) y h i).1 ++ [evL (plF h (A[i]?.getD []) (exF A B (linF m) y h i).1 y i) (linF m)], plusS (exF A B (linF m) y h i).2 (evL (plF h (A[i]?.getD []) (exF A B (linF m) y h i).1 y i) (linF m)) (h * B[i]?.getD 0 % 10007)) := rfl
    rw [hE]
    refine ⟨fun q k hq hk => ?_, fun k hk => ?_⟩
    · by_cases e : q < i
      · have : ((exF A B (linF m) y h i).1 ++ [evL (plF h (A[i]?.getD []) (exF A B (linF m) y h i).1 y i) (linF m)])[q]? = (exF A B (linF m) y h i).1[q]? := List.getElem?_append_left (by omega)
        show ((((exF A B (linF m) y h i).1 ++ [evL (plF h (A[i]?.getD []) (exF A B (linF m) y h i).1 y i) (linF m)])[q]?).getD [])[k]?.getD 0 % 10007 = _
        rw [this]
        exact i1 q k e hk
      · have e2 : q = i := by omega
        subst e2
        have : ((exF A B (linF m) y h q).1 ++ [evL (plF h (A[q]?.getD []) (exF A B (linF m) y h q).1 y q) (linF m)])[q]? = some (evL (plF h (A[q]?.getD []) (exF A B (linF m) y h q).1 y q) (linF m)) := by
          rw [List.getElem?_append_right (by omega), v1, Nat.sub_self]; rfl
        show ((((exF A B (linF m) y h q).1 ++ [evL (plF h (A[q]?.getD []) (exF A B (linF m) y h q).1 y q) (linF m)])[q]?).getD [])[k]?.getD 0 % 10007 = _
        rw [this]
        exact hN k hk
    · show (plusS (exF A B (linF m) y h i).2 (evL (plF h (A[i]?.getD []) (exF A B (linF m) y h i).1 y i) (linF m)) (h * B[i]?.getD 0 % 10007))[k]?.getD 0 % 10007 = (y[k]?.getD 0 + h * (dsum _ i + B[i]?.getD 0 * sgF A B.length m y h i k)) % 10007
      unfold plusS
      rw [tb_get _ (by omega), Int.emod_emod_of_dvd _ (Int.dvd_refl _), Int.emod_emod_of_dvd _ (Int.dvd_refl _), Int.mul_add, ← Int.add_assoc]
      refine mod_addc (i2 k hk) ?_
      rw [mul_mod_l, mod_mulc rfl (hN k hk), Int.mul_assoc]
theorem ex_is (h : Int) (hT : Tab A B) (hlow : Low B.length (mx A)) (h6 : B.length ≤ 6) (hr : Rws m.length m) (hyl : y.length = m.length) (hy : Ns y) : (exF A B (linF m) y h A.length).2 = tb (xpF A B m y h) m.length := by
  rw [hT.len]
  refine list_mod (by rw [exF_len2, hyl]) (exF_N2 hy _) fun k hk => ?_
  rw [(ex_lin (y := y) h hT hlow h6 hr hyl B.length (Nat.le_refl _)).2 k hk]
  congr 1
  unfold sgF
  rw [dd1 (fun q => B[q]?.getD 0) (fun j q => evN B.length (mx A) j q), dsum_mul, dsum_shift _ 6, rsS_0]
  congr 1
  · show _ = 1 * (h ^ 0 * y[k]?.getD 0)
    rw [Int.one_mul, Int.pow_zero, Int.one_mul]
  · refine dsum_congr fun j _ => ?_
    rw [rs_dot, Int.pow_succ]
    ac_rfl
end
end Go.Proofs.YtbeekabpflaihaaGreat


namespace Go.Proofs.YtbeekabpflaihaaGreat
open Go.Abs
set_option linter.unusedSectionVars false
set_option linter.unusedVariables false
set_option linter.unusedSimpArgs false
set_option maxHeartbeats 1000000
structure TfOk (z : Int) (f : List (List Mon)) (m : List (List Int)) : Prop where
  hF : FieldOk z f
  n1 : 1 ≤ m.length
  n3 : m.length ≤ 3
  zm : (m.length : Int) = z
  fl : f.length = m.length
  hr : Rws m.length m
theorem TfOk.of {z : Int} {f : List (List Mon)} {m : List (List Int)} (h1 : fieldB z f = true) (h2 : sqB z m = true) : TfOk z f m := by
  have hF := fieldB_iff.1 h1
  obtain ⟨a, b, c⟩ := sqB_iff.1 h2
  have := hF.lo
  have := hF.hi
  have := hF.len
  exact ⟨hF, by omega, by omega, b, by omega, fun r hr => ⟨by have := (c r hr).1; omega, (c r hr).2⟩⟩
section
variable {z : Int} {f : List (List Mon)} {m : List (List Int)}
end
end Go.Proofs.YtbeekabpflaihaaGreat


namespace Go.Proofs.YtbeekabpflaihaaGreat
open Go.Abs
set_option linter.unusedSectionVars false
set_option linter.unusedVariables false
set_option linter.unusedSimpArgs false
set_option maxHeartbeats 2000000
end Go.Proofs.YtbeekabpflaihaaGreat


namespace Go.Proofs.YtbeekabpflaihaaGreat
open Go.Abs
set_option linter.unusedSectionVars false
set_option linter.unusedVariables false
set_option linter.unusedSimpArgs false
set_option maxHeartbeats 2000000
section
variable {z : Int} {f : List (List Mon)} {m : List (List Int)}
end
end Go.Proofs.YtbeekabpflaihaaGreat


namespace Go.Proofs.YtbeekabpflaihaaGreat
open Go.Abs
set_option linter.unusedSectionVars false
set_option linter.unusedVariables false
set_option linter.unusedSimpArgs false
set_option maxHeartbeats 1000000
def DgL (d : Int) (L : List Mon) : Prop := ∀ a ∈ L, a.2.sum ≤ d
theorem DgL.le {d e : Int} {L : List Mon} (h : DgL d L) (hde : d ≤ e) : DgL e L := fun a ha => by have := h a ha; omega
theorem putGo_dg {d x : Int} {e : List Int} {L : List Mon} (h : DgL d L) (he : e.sum ≤ d) (b : Bool) : DgL d (putGo x e L b) := fun a ha => by
  rcases putGo_keys L b a ha with ⟨m, hm, e1⟩ | ⟨_, e1⟩
  · rw [e1]; exact h m hm
  · rw [e1]; exact he
theorem oneE_sum (n k : Nat) : (oneE n k).sum ≤ 1 := by
  have gen : ∀ n k : Nat, ((List.replicate n (0 : Int)).set k 1).sum ≤ 1 ∧ (List.replicate n (0 : Int)).sum = 0 := by
    intro n
    induction n with
    | zero => intro k; simp
    | succ n ih =>
      intro k
      cases k with
      | zero => have := (ih 0).2; simp [List.replicate_succ, this]
      | succ k => have := (ih k).1; have := (ih k).2; simp [List.replicate_succ]; omega
  exact (gen n k).1
theorem linK_dg (row : List Int) : ∀ k, DgL 1 (linK row k)
  | 0 => by intro a ha; simp [linK] at ha
  | k + 1 => putGo_dg (linK_dg row k) (oneE_sum _ _) _
section
variable {z : Int} {f : List (List Mon)} {m : List (List Int)}
theorem degL_of : ∀ (xs : List Int) (s : Int), (∀ x ∈ xs, 0 ≤ x ∧ x ≤ 100) → degL xs s = s + xs.sum
  | [], s, _ => by simp [degL]
  | x :: xs, s, h => by
    have h1 := h x (by simp)
    rw [degL, if_neg (by omega), degL_of xs _ (fun y hy => h y (by simp [hy])), List.sum_cons]
    omega
end
end Go.Proofs.YtbeekabpflaihaaGreat


namespace Go.Proofs.YtbeekabpflaihaaGreat
open Go.Abs
set_option linter.unusedSectionVars false
set_option linter.unusedVariables false
set_option linter.unusedSimpArgs false
set_option maxHeartbeats 2000000
end Go.Proofs.YtbeekabpflaihaaGreat


namespace Go.Proofs.YtbeekabpflaihaaGreat
open Go.Abs
set_option linter.unusedSectionVars false
set_option linter.unusedVariables false
set_option linter.unusedSimpArgs false
set_option maxHeartbeats 2000000
def plcL (m : List (List Int)) (i : Nat) : List AV := (m.take i).map fun r => AV.mp (polF (linL r))
theorem plcL_snoc {m : List (List Int)} {i : Nat} (h : i < m.length) : plcL m (i + 1) = plcL m i ++ [.mp (polF (linL (m[i]?.getD [])))] := by
  unfold plcL
  rw [List.take_add_one, List.map_append]; simp [h]
theorem plcL_all (m : List (List Int)) : frzL (plcL m m.length) = m.map (AV.fmp ∘ fun r => polF (linL r)) := by
  unfold plcL
  rw [List.take_length]
  have := mps_frz (m.map fun r => polF (linL r))
  rw [List.map_map, List.map_map] at this
  exact this
end Go.Proofs.YtbeekabpflaihaaGreat


namespace Go.Proofs.YtbeekabpflaihaaGreat
open Go.Abs
set_option linter.unusedSectionVars false
set_option linter.unusedVariables false
set_option linter.unusedSimpArgs false
set_option maxHeartbeats 4000000
theorem linK_cf (row : List Int) (K : Key) : ∀ k, k ≤ row.length → cfL (linK row k) K % 10007 = cfL ((linL row).take k) K % 10007
  | 0, _ => by rw [linK, List.take_zero]
  | k + 1, hk => by
    have ih := linK_cf row K k (by omega)
    have hk' : k < (linL row).length := by rw [linL_len]; omega
    have e : (linL row)[k] = (row[k]?.getD 0, oneE row.length k) := by simp [linL]
    rw [linK, putL_cf, List.take_add_one, cfL_app, List.getElem?_eq_getElem hk']
    rw [e, Option.toList_some, cfL_cons]
    have e0 : cfL [] K = 0 := rfl
    rw [e0]
    dsimp only
    omega
theorem linK_srt {n : Nat} {row : List Int} (hl : row.length = n) (hN : Ns row) : ∀ k, k ≤ n → Srt (linK row k) ∧ Nzl (linK row k)
  | 0, _ => ⟨List.Pairwise.nil, fun m hm => by simp [linK] at hm⟩
  | k + 1, hk => by
    have ih := linK_srt hl hN k (by omega)
    have ok := linK_ok hl hN k (by omega)
    rw [linK]
    exact ⟨putGo_srt (n := n) (by simp; omega) _ _ (fun m hm => (ok.2 m hm).len) ih.1, putL_nz (hN.get k) ih.2⟩
theorem part_lin {n : Nat} {row : List Int} (hl : row.length = n) (h1 : 1 ≤ n) (h3 : n ≤ 3) (hN : Ns row) :
    Con Tryz.prog 133 [.fmp (polF (linL row)), .int n] (.own 127 (linK row row.length).length (omons (linK row row.length))) := by
  have ok := linK_ok hl hN row.length (by omega)
  have st := linK_srt hl hN row.length (by omega)
  refine part_c2 h1 h3 (fun k x hk => (linL_eok (by omega) hN hk).1) st.1 st.2 (fun m hm => (ok.2 m hm).len) (by omega) (fun K => ?_)
  rw [polF_gv (linL_nd (by omega)), linK_cf row K row.length (Nat.le_refl _), List.take_of_length_le (by simp)]
set_option maxRecDepth 100000 in
theorem LinearField_c (m : List (List Int)) (h1 : 1 ≤ m.length) (h3 : m.length ≤ 3) (hr : Rws m.length m) :
    Con Tryz.prog 26 [.sl m.length (mat m)] (.tup [.agg [.int m.length, .own 125 m.length (oprt (linF m))], .int 0]) := by
  have h0 : 0 < m.length := by omega
  have r0 := hr.at h0
  have cM := isMatrix_c m (by omega) (fun r h => by have := (hr r h).1; omega)
  have hM : matB m = true := matB_iff.2 ⟨by omega, by omega, fun r h => ⟨by have := (hr r h).1; omega, (hr r h).2⟩⟩
  rw [hM] at cM
  have m0 := mat_drop (xss := m) (k := 0) h0
  simp only [List.drop_zero] at m0
  have m1 : AV.sl (m[0]?.getD []).length (avs (m[0]?.getD [])) :: mat m.tail = mat m := by cases m with | nil => simp at h0 | cons x l => simp [mat]
  have ne : ¬ m = [] := by rintro rfl; simp at h0
  have r0l : (m[0]?.getD []).length = m.length := r0.1
  have ll := linF_len m
  have n3 : ¬ (3 : Int) < m.length := by omega
  have cF := fieldOf_c m.length (m.map fun r => polF (linL r)) (linF m) (by simp [ll]) (by simpa using h0) (by simpa using h3) (fun i hi => by
    have hi' : i < m.length := by simpa using hi
    have q := hr.at hi'
    have := part_lin q.1 h1 h3 q.2
    rw [linF_get hi']
    have e : (m.map fun r => polF (linL r))[i]?.getD mzero = polF (linL (m[i]?.getD [])) := by simp [hi']
    rw [e]
    exact this)
  rw [ll, List.length_map, List.map_map] at cF
  refine con_of_vc Tryz.mixed ⟨7, [], [], []⟩ Tryz.func26 (by decide) rfl (by simp) (by decide) (by simp [freshOK, freshL, go_sem]) ?_
  rw [Tryz.ntmps26]
  simp [go_sem]
  refine CallVC.of (cM) (by decide) ?_
  simp [go_sem]
  simp [go_sem, m0]
  simp only [m1]
  refine ⟨⟨h0, ne⟩, ?_⟩
  simp [go_sem, r0l, n3]
  have pa := plcL_all m
  refine loop_inv ([4, 6] ++ List.range' 29 10) (fun i : Nat => [(4, .own 95 i (plcL m i)), (29, .int i)]) (fun i => i ≤ m.length) (fun i => m.length - i) 0 (by simp) (by simp [go_sem, plcL]) (by simp [go_sem]) ?_
  intro i hi
  by_cases hin : i < m.length
  · have hii : (i : Int) < m.length := by omega
    have q := hr.at hin
    have cL := linear_c (m[i]?.getD []) (by omega)
    have ps := plcL_snoc hin
    have pl : (plcL m i).length = i := by simp [plcL]; omega
    simp [go_sem, hii, mat_drop hin]
    refine ⟨ne, ?_⟩
    refine CallVC.of (cL) (by decide) ?_
    simp [go_sem]
    exact ⟨⟨pl, by omega, by omega⟩, ⟨by omega, by omega⟩, i + 1, by omega, by omega, Off_reset _ _ _ (by simp), ⟨rfl, ps.symm⟩, by omega⟩
  · have e : i = m.length := by omega
    subst e
    have hii : ¬ (m.length : Int) < m.length := by omega
    simp [go_sem, hii]
    refine CallVC.of (lengthR_c m.length (mat m) (by omega)) (by decide) ?_
    simp [go_sem]
    simp [go_sem, pa]
    refine CallVC.of (cF) (by decide) ?_
    simp [go_sem]
end Go.Proofs.YtbeekabpflaihaaGreat


namespace Go.Proofs.YtbeekabpflaihaaGreat
open Go.Abs
set_option linter.unusedSectionVars false
set_option linter.unusedVariables false
set_option linter.unusedSimpArgs false
set_option maxHeartbeats 1000000
theorem linF_fld {m : List (List Int)} (h1 : 1 ≤ m.length) (h3 : m.length ≤ 3) (hr : Rws m.length m) : fieldB m.length (linF m) = true := by
  refine fieldB_iff.2 ⟨by omega, by omega, by rw [linF_len], fun p hp => ?_⟩
  obtain ⟨r, h, rfl⟩ := List.mem_map.1 hp
  have q := hr r h
  have ok := linK_ok q.1 q.2 r.length (by rw [q.1]; exact Nat.le_refl _)
  have st := linK_srt q.1 q.2 r.length (by rw [q.1]; exact Nat.le_refl _)
  have dg := linK_dg r r.length
  rw [partB_deg (fun a ha => by have := (ok.2 a ha).len; omega) st.1 st.2]
  refine List.all_eq_true.2 fun a ha => ?_
  have w := ok.2 a ha
  rw [degL_of _ _ (fun x hx => ⟨(w.pw x hx).1, by have := (w.pw x hx).2; omega⟩)]
  have := dg a ha
  simp
  omega
theorem linF_small {m : List (List Int)} (h3 : m.length ≤ 3) (hr : Rws m.length m) : Small (linF m) := by
  refine ⟨by rw [linF_len]; omega, fun p hp => ?_⟩
  have q := linF_ok hr h3 p hp
  exact ⟨by have := q.1; omega, fun a ha => by have := (q.2 a ha).len; omega⟩
theorem lowB_Low {A : List (List Int)} {B : List Int} (hT : Tab A B) (h : lowB A 0 = true) : Low B.length (mx A) := by
  intro r c hr hc hrc
  have hrA : r < A.length := by rw [hT.len]; exact hr
  have hl := (hT.rws.at hrA).1
  refine Classical.byContradiction fun hne => ?_
  have := lowB_no (A := A) (d := 0) hrA (show c < (A[r]?.getD []).length by omega) (by omega) hne
  rw [this] at h
  cases h
section
variable {A : List (List Int)} {B : List Int} {z : Int} {f : List (List Mon)} {y : List Int} {h : Int}
theorem rsE_ok {n : Int} (e : rsE A B z f y h n = 0) : stE A B z f y = 0 ∧ isN h ∧ lowB A 0 = true := by
  unfold rsE at e
  by_cases h1 : stE A B z f y = 0
  · rw [if_pos h1] at e
    by_cases h2 : (0 ≤ h ∧ h ≤ 10006) ∧ 0 ≤ n ∧ n ≤ 1000
    · rw [if_pos h2] at e
      by_cases h3 : lowB A 0 = true
      · exact ⟨h1, ⟨h2.1.1, by have := h2.1.2; omega⟩, h3⟩
      · rw [if_neg h3] at e; omega
    · rw [if_neg h2] at e; omega
  · rw [if_neg h1] at e; exact (h1 e).elim
theorem rsE_mk {n : Int} (h1 : stE A B z f y = 0) (h2 : isN h) (h3 : lowB A 0 = true) (n0 : 0 ≤ n) (n1 : n ≤ 1000) : rsE A B z f y h n = 0 := by
  unfold rsE
  rw [if_pos h1, if_pos ⟨⟨h2.1, by have := h2.2; omega⟩, n0, n1⟩, if_pos h3]
theorem stE_mk (h1 : tabB A B = true) (h2 : fieldB z f = true) (h3 : (y.length : Int) = z) (h4 : Ns y) : stE A B z f y = 0 := by
  unfold stE
  rw [h1, h2, vecB_iff.2 ⟨h3, h4⟩]
  rfl
theorem itF_N2 (hy : Ns y) : ∀ i, Ns (itF A B f y h i)
  | 0 => hy
  | i + 1 => exF_N2 (itF_N2 hy i) _
theorem rs_more (e : rsE A B z f y h 1 = 0) : rsE A B z f (itF A B f y h 1) h 2 = 0 ∧ rsE A B z f y h 3 = 0 ∧ rsE A B z f y h 0 = 0 ∧
    rsX A B z f (itF A B f y h 1) h 2 = itF A B f y h 3 ∧ rsX A B z f y h 3 = itF A B f y h 3 ∧ rsX A B z f y h 0 = y ∧ rsX A B z f y h 1 = itF A B f y h 1 := by
  obtain ⟨e1, e2, e3⟩ := rsE_ok e
  obtain ⟨hT, hF, hl, hN⟩ := stE_ok e1
  have s1 : stE A B z f (itF A B f y h 1) = 0 := stE_mk (tabB_iff.2 hT) (fieldB_iff.2 hF) (by rw [itF_len]; exact hl) (itF_N2 hN 1)
  have r1 := rsE_mk (n := 2) s1 e2 e3 (by omega) (by omega)
  have r2 := rsE_mk (n := 3) e1 e2 e3 (by omega) (by omega)
  have r3 := rsE_mk (n := 0) e1 e2 e3 (by omega) (by omega)
  refine ⟨r1, r2, r3, ?_, ?_, ?_, ?_⟩
  · unfold rsX; rw [if_pos r1]; rfl
  · unfold rsX; rw [if_pos r2]; rfl
  · unfold rsX; rw [if_pos r3]; rfl
  · unfold rsX; rw [if_pos e]; rfl
end
theorem steps_same {A : List (List Int)} {B : List Int} {m : List (List Int)} {y : List Int} {h : Int} (hT : Tab A B) (hlow : lowB A 0 = true) (h6 : B.length ≤ 6) (hh : isN h) (h1 : 1 ≤ m.length) (h3 : m.length ≤ 3) (hr : Rws m.length m) (hyl : y.length = m.length) (hy : Ns y) :
    ∃ S : List Int, S.length = m.length ∧ rsR A B m.length (linF m) y h 1 = .tup [.own 2 m.length (avs S), .int 0] ∧ linR A B m y h = .tup [.own 2 m.length (avs S), .int 0] ∧ evV h (turnS (steS A B (linF m) (poS y))) m.length 7 = S := by
  have lo := lowB_Low hT hlow
  have x1 := ex_is h hT lo h6 hr hyl hy
  have x2 := lin_is h hT lo h6 (show 0 < m.length by omega) hr hyl hy
  have x3 := ser_is h hT hr (show 0 < m.length by omega) hyl hy
  have s1 : stE A B m.length (linF m) y = 0 := stE_mk (tabB_iff.2 hT) (linF_fld h1 h3 hr) (by omega) hy
  have r1 := rsE_mk (n := 1) s1 hh hlow (by omega) (by omega)
  have r0 := (hr.at (show 0 < m.length by omega)).1
  have hM : matB m = true := matB_iff.2 ⟨by omega, by omega, fun r h => ⟨by have := (hr r h).1; omega, (hr r h).2⟩⟩
  have lc : linC A B m y h = 0 := by
    unfold linC
    rw [if_pos (tabB_iff.2 hT), if_pos hM, if_pos r0.symm, if_pos hyl, if_pos (numsB_N.2 hy), if_pos ⟨hh.1, by have := hh.2; omega⟩, if_neg x2.1]
  refine ⟨tb (xpF A B m y h) m.length, by simp, ?_, ?_, x3⟩
  · have e : rsX A B m.length (linF m) y h 1 = tb (xpF A B m y h) m.length := by
      unfold rsX; rw [if_pos r1]; exact x1
    unfold rsR
    rw [e, r1, tb_len]
  · have e : linV A B m y h = tb (xpF A B m y h) m.length := by
      unfold linV; rw [if_pos lc]; exact x2.2
    unfold linR
    rw [e, lc, tb_len]
end Go.Proofs.YtbeekabpflaihaaGreat


namespace Go.Proofs.YtbeekabpflaihaaGreat
open Go.ChangeShapes Go.WideShapes Go.ChangeAt Go.RowKit Go.Abs Go.Deep
set_option linter.unusedSectionVars false
set_option linter.unusedVariables false
section
variable {H : Type} {enc : TypeId × Value → H} {w : World} {sp : Nat → Bool} {held : Bool} {base : Nat}
theorem kids : Kids Tryz.prog (· < Tryz.prog.types.size) := kids_rows (by kernel_rfl) (by kernel_rfl)
theorem full : ∀ t e, t < Tryz.prog.types.size → Tryz.prog.underlying t = some (.slice e) → 0 < Tryz.prog.cellsOf e := slices_full_of Tryz.prog (by kernel_rfl)
theorem flat1 {α β : Type} (g : α → β) : ∀ qs : List α, qs.flatMap (fun a => [g a]) = qs.map g
  | [] => rfl
  | a :: qs => by rw [List.flatMap_cons, flat1 g qs]; rfl
theorem rep_one {F : Nat → Prop} {tm : Nat → Value} {oss : Nat → List Nat} {c : AV} {v : Value} (h : RepL Tryz.prog w F [c] [v] []) : RepT Tryz.prog w F tm oss c v [] := .cell _ _ _ (RepL.one h)
set_option maxRecDepth 100000 in
theorem repV {F : Nat → Prop} {tm : Nat → Value} {oss : Nat → List Nat} {t e : TypeId} {v : Value} {c : AV} {r : Reach} {b0 : Nat} (ht : Tryz.prog.underlying t = some (.slice e)) (hv : Value.okWide Tryz.prog w r b0 t v) (h : RepL Tryz.prog w F [c] v.cells.toList []) :
    RepT Tryz.prog w F tm oss c v [] := by
  have hc : v.cells.toList = [v] := by
    simp only [Value.okWide, ht] at hv
    cases v <;> simp_all [Value.cells, Cell.okWide, Cell.ok]
  rw [hc] at h
  exact rep_one h
end
end Go.Proofs.YtbeekabpflaihaaGreat


namespace Go.Proofs.YtbeekabpflaihaaGreat
open Go.Abs
set_option linter.unusedSectionVars false
set_option linter.unusedVariables false
set_option linter.unusedSimpArgs false
set_option maxHeartbeats 1000000
open Go.ChangeShapes Go.WideShapes Go.ChangeAt Go.RowKit Go.Deep
theorem big_c (c : List Int) (hl : c.length ≤ 9223372036854775807) : Con Tryz.prog 18 [.sl c.length (bys c)] (.bool (decide (4096 < c.length))) := by
  refine con_of_vc Tryz.mixed ⟨3, [], [], []⟩ Tryz.func18 (by decide) rfl (by simp) (by decide) (by simp [freshOK, freshL, go_sem]) ?_
  rw [Tryz.ntmps18]
  simp [go_sem]
  omega
section
variable {H : Type} {enc : TypeId × Value → H} {w : World} {sp : Nat → Bool} {held : Bool} {base : Nat}
theorem open_bys {n : Nat} {cs : List Value} {x : DataW H × List MemPlace} (h : DataW.trod enc Tryz.prog w base sp held n 42 cs = some x) :
    ∃ xs : List Int, (∀ z ∈ xs, 0 ≤ z ∧ z ≤ 255) ∧ xs.length ≤ 9223372036854775807 ∧ RepL Tryz.prog w (fun b => b < w.heap.size) [.sl xs.length (bys xs)] cs [] ∧ cs.length = 1 := by
  obtain ⟨qs, h1, h2, h3, h4⟩ := open_sl (f := fun z : Int => [AV.val (.int .u8 z)]) (Good := fun z => (Lit.int .u8 z).wf = true) Tryz.underlying42 (s := 1) (by kernel_rfl) (by decide) (fun _ => rfl)
    (fun n cs y hy => by obtain ⟨z, k1, k2, _⟩ := open_i Tryz.underlying5 hy; exact ⟨z, k1, k2⟩) h
  refine ⟨qs, fun z hz => ?_, h2, by rw [flat1] at h3; exact h3, h4⟩
  have := h1 z hz
  simp [Lit.wf, IntKind.min, IntKind.max, IntKind.signed, IntKind.bits] at this
  omega
end
end Go.Proofs.YtbeekabpflaihaaGreat

