/- Texts of the own layer and contracts, part 7: R7 R8 R9 E9 R4 C14 W16 W17 O W2 L15. -/
import Derived.Test.YtmojbncbbnjblaaRows
import Derived.WalkKit
import Derived.ProofKit
import Derived.OpenShut
import Derived.Test.YtmojbncbbnjblaaM6
namespace Go.Proofs.Ytmojbncbbnjblaa
open Go.Abs
set_option linter.unusedVariables false
set_option linter.unusedSimpArgs false
set_option maxHeartbeats 4000000
theorem colS_is {n : Nat} {b : List (List Int)} (hr : Rws n b) (k : Nat) : Ns (colS b k) := tb_N fun i hi => (hr.at hi).2.get k
set_option maxRecDepth 100000 in
theorem timesMatrix_c {n : Nat} (a b : List (List Int)) (ha : a.length ≤ 64) (hn : n ≤ 64) (hr : Rws n a) (h0 : 0 < b.length) (hb : b.length = n) {w : Nat} (hw : w ≤ 64) (hrb : Rws w b) :
    Con Try.prog 107 [.sl a.length (mat a), .sl b.length (mat b)] (.own 27 a.length (omat (tmM a b))) := by
  have q0 := (hrb.at h0).1
  have m0 := mat_drop (xss := b) (k := 0) h0
  simp only [List.drop_zero] at m0
  have m1 : AV.sl (b[0]?.getD []).length (avs (b[0]?.getD [])) :: mat b.tail = mat b := by cases b with | nil => simp at h0 | cons x l => simp [mat]
  have hd : tmM a b = (List.range a.length).map fun i => tb (fun k => dotI (a[i]?.getD []) (colS b k) % 10007) w := by unfold tmM; rw [q0]
  have bne : ¬ b = [] := by rintro rfl; simp at h0
  rw [hd]
  refine con_of_vc Try.mixed ⟨10, [], [], []⟩ Try.func107 (by decide) rfl (by simp) (by decide) (by simp [freshOK, freshL, go_sem]) ?_
  rw [Try.ntmps107]
  simp [go_sem]
  refine loop_inv ([5, 7, 8, 9] ++ List.range' 13 26) (fun i : Nat => [(5, .own 27 i (omat ((List.range i).map fun i => tb (fun k => dotI (a[i]?.getD []) (colS b k) % 10007) w))), (13, .int i)]) (fun i => i ≤ a.length) (fun i => a.length - i) 0 (by simp) (by simp [go_sem, omat]) (by simp [go_sem]) ?_
  intro i hi
  by_cases hin : i < a.length
  · have hii : (i : Int) < a.length := by omega
    have ri := hr.at hin
    have os := omat_range_succ (fun i => tb (fun k => dotI (a[i]?.getD []) (colS b k) % 10007) w) i
    have ane : ¬ a = [] := by rintro rfl; simp at hin
    rw [tb_len] at os
    generalize hrow : a[i]?.getD [] = row at *
    simp [go_sem, hii, mat_drop hin, hrow, m0]
    simp only [m1]
    refine ⟨ane, h0, ?_⟩
    have ex : ∀ k, tb (fun k => dotI row (colS b k) % 10007) (k + 1) = tb (fun k => dotI row (colS b k) % 10007) k ++ [dotI row (colS b k) % 10007] := fun k => tb_succ _ k
    refine loop_inv ([8, 9] ++ List.range' 22 12) (fun k : Nat => [(8, .own 2 k (avs (tb (fun k => dotI row (colS b k) % 10007) k))), (22, .int k)]) (fun k => k ≤ w) (fun k => w - k) 0 (by simp) (by simp [go_sem]) (by simp [go_sem]) ?_
    intro k hk
    by_cases hkw : k < w
    · have hki : (k : Int) < (b[0]?.getD []).length := by omega
      have cC := column_c b k (by omega) (fun r h => by have := (hrb r h).1; omega) (by omega)
      have cD := dot_c row (colS b k) (by rw [colS_len]; omega) (by omega) ri.2 (colS_is hrb k)
      rw [colS_len] at cD
      simp [go_sem, hki]
      refine CallVC.of (cC) (by decide) ?_
      simp [go_sem]
      refine CallVC.of (cD) (by decide) ?_
      simp [go_sem]
      exact ⟨⟨by omega, by omega⟩, by omega, k + 1, by omega, by omega, Off_reset _ _ _ (by simp), by rw [ex, avs_snoc]; exact ⟨rfl, rfl⟩, by omega⟩
    · have e : k = w := by omega
      subst e
      have hki : ¬ (k : Int) < (b[0]?.getD []).length := by omega
      simp [go_sem, hki]
      exact ⟨⟨by omega, by omega⟩, by omega, i + 1, by omega, by omega, (Off.reset (by intro x hx; simp at hx ⊢; omega) (by simp) (by simp [go_sem, Off_reset])), by rw [os]; exact ⟨rfl, rfl⟩, by omega⟩
  · have e : i = a.length := by omega
    subst e
    simp [go_sem]
theorem zeroMatrix_c (n : Nat) (hn : n ≤ 64) : Con Try.prog 170 [.int n] (.own 27 n (omat (zeM n))) := by
  have hd : zeM n = (List.range n).map fun _ => List.replicate n 0 := rfl
  rw [hd]
  refine con_of_vc Try.mixed ⟨4, [], [], []⟩ Try.func170 (by decide) rfl (by simp) (by decide) (by simp [freshOK, freshL, go_sem]) ?_
  rw [Try.ntmps170]
  simp [go_sem]
  refine loop_inv ([3] ++ List.range' 6 8) (fun i : Nat => [(3, .own 27 i (omat ((List.range i).map fun _ => List.replicate n 0))), (6, .int i)]) (fun i => i ≤ n) (fun i => n - i) 0 (by simp) (by simp [go_sem, omat]) (by simp [go_sem]) ?_
  intro i hi
  by_cases hin : i < n
  · have hii : (i : Int) < n := by omega
    have os := omat_range_succ (fun _ => List.replicate n 0) i
    have rp := avs_repl n 0
    rw [List.length_replicate] at os
    simp [go_sem, hii, hin]
    exact ⟨⟨by omega, by omega⟩, ⟨by omega, by omega⟩, ⟨by omega, by omega⟩, i + 1, by omega, by omega, Off_reset _ _ _ (by simp), by rw [os, rp]; exact ⟨rfl, rfl⟩, by omega⟩
  · have e : i = n := by omega
    subst e
    simp [go_sem]
set_option maxRecDepth 100000 in
theorem addUnit_c {n : Nat} (a : List (List Int)) (k : Int) (hl : a.length = n) (hn : n ≤ 64) (hr : Rws n a) (hk : isN k) : Con Try.prog 171 [.sl a.length (mat a), .int k] (.own 27 a.length (omat (adU a k))) := by
  have cC := cloneRows_c a (by omega) (fun r h => by have := (hr r h).1; omega)
  have al := adU_len a k
  refine con_of_vc Try.mixed ⟨7, [], [], []⟩ Try.func171 (by decide) rfl (by simp) (by decide) (by simp [freshOK, freshL, go_sem]) ?_
  rw [Try.ntmps171]
  simp [go_sem]
  refine CallVC.of (cC) (by decide) ?_
  simp [go_sem]
  refine loop_inv ([5, 6] ++ List.range' 11 20) (fun i : Nat => [(5, .own 27 a.length (omat (mxR a (adU a k) i))), (11, .int i)]) (fun i => i ≤ a.length) (fun i => a.length - i) 0 (by simp) (by simp [go_sem, mxR_zero]) (by simp [go_sem, omat_kl]) ?_
  intro i hi
  by_cases hin : i < a.length
  · have hii : (i : Int) < a.length := by omega
    have hg := omat_get (A := mxR a (adU a k) i) (k := i) (by rw [mxR_len al hi]; exact hin)
    have hgi : (mxR a (adU a k) i)[i]?.getD [] = a[i]?.getD [] := by rw [mxR_get al hi, if_neg (by omega)]
    rw [hgi] at hg
    have hset := omat_set (mxR a (adU a k) i) i ((adU a k)[i]?.getD [])
    rw [mxR_set al hin] at hset
    have hnew := adU_row (k := k) hin
    have ri := hr.at hin
    have hkr : i < (a[i]?.getD []).length := by omega
    have nN := ri.2.get i
    have f1 := add_fits nN hk
    generalize mxR a (adU a k) i = M at *
    generalize (adU a k)[i]?.getD [] = new at *
    generalize a[i]?.getD [] = old at *
    simp [go_sem, hii, hg, avs_at hkr, avs_drop hkr]
    refine ⟨by kernel_rfl, hkr, f1, ?_⟩
    refine CallD.of (num_c _ f1.1 f1.2) (by simp [roots, rootsL]) (by decide) ?_
    simp [go_sem]
    simp [go_sem, hg]
    refine ⟨hkr, ?_⟩
    refine ⟨by kernel_rfl, ?_⟩
    simp [go_sem]
    exact ⟨by omega, i + 1, by omega, by omega, Off_reset _ _ _ (by simp), by rw [← hset, hnew, List.length_set, avs_set], by omega⟩
  · have e : i = a.length := by omega
    subst e
    rw [mxR_all al]
    simp [go_sem]
theorem lengthM_c (n : Nat) (cs : List AV) (hn : n ≤ 9223372036854775807) : Con Try.prog 163 [.sl n cs] (.int n) := by
  refine con_of_vc Try.mixed ⟨3, [], [], []⟩ Try.func163 (by decide) rfl (by simp) (by decide) (by simp [freshOK, freshL, go_sem]) ?_
  rw [Try.ntmps163]
  simp [go_sem]
set_option maxRecDepth 100000 in
theorem unitLess_c {n : Nat} (a : List (List Int)) (h0 : 0 < n) (h8 : n ≤ 8) (hl : a.length = n) (hr : Rws n a) : Con Try.prog 142 [.sl a.length (mat a)] (.own 2 (n + 1) (avs (chL n a))) := by
  have cZ := zeroMatrix_c n (by omega)
  have z := zeM_ok n
  have cU := addUnit_c (n := n) (zeM n) 1 z.1 (by omega) z.2 ⟨by omega, by omega⟩
  rw [z.1, fl_start n (mx a)] at cU
  have ad := adM_ok n (mx a)
  have cd : chL n a = tb (fun k => chS n (mx a) k % 10007) (n + 1) := rfl
  have c0 : tb (fun k => chS n (mx a) k % 10007) (0 + 1) = [1] := by rw [tb_succ]; simp [ch_0]
  have tl : ∀ k, (tmM a (adM n (mx a) k)).length = n := fun k => by rw [tmM_len]; exact hl
  have tr : ∀ k, Rws n (tmM a (adM n (mx a) k)) := fun k => by
    have := tmM_ok a (adM n (mx a) k)
    rwa [((ad k).2.at (show 0 < (adM n (mx a) k).length by rw [(ad k).1]; exact h0)).1] at this
  rw [cd]
  refine con_of_vc Try.mixed ⟨9, [], [], []⟩ Try.func142 (by decide) rfl (by simp) (by decide) (by simp [freshOK, freshL, go_sem]) ?_
  rw [Try.ntmps142]
  simp [go_sem]
  simp [go_sem, hl]
  refine CallVC.of (cZ) (by decide) ?_
  simp [go_sem]
  refine CallVC.of (cU) (by decide) ?_
  simp [go_sem]
  refine loop_inv ([3, 4, 5, 6, 7, 8] ++ List.range' 14 38) (fun k : Nat => [(3, .own 2 (k + 1) (avs (tb (fun k => chS n (mx a) k % 10007) (k + 1)))), (4, .own 27 n (omat (adM n (mx a) k))), (5, .int (k + 1))]) (fun k => k ≤ n) (fun k => n - k) 0 (by simp) (by simp [go_sem, c0]; rfl) (by simp [go_sem, omat_kl]) ?_
  intro k hk
  have cL := lengthM_c a.length (mat a) (by omega)
  simp [go_sem, hl]
  rw [hl] at cL
  refine CallVC.of (cL) (by decide) ?_
  simp [go_sem]
  by_cases hkn : k < n
  · have hki : (k : Int) + 1 ≤ n := by omega
    have cT := timesMatrix_c a (adM n (mx a) k) (by omega) (show n ≤ 64 by omega) hr (by rw [(ad k).1]; exact h0) (ad k).1 (show n ≤ 64 by omega) (ad k).2
    rw [(ad k).1, hl] at cT
    have tb' := trS_bound (tl k) (tr k) n (Nat.le_refl _)
    have fc := fl_coef h8 hl hr k hkn
    have fn := fl_next h0 hl hr k
    have cA := addUnit_c (n := n) (tmM a (adM n (mx a) k)) (chS n (mx a) (k + 1) % 10007) (tl k) (by omega) (tr k) (isN_mod _)
    rw [fn, tl k] at cA
    have ts := tb_succ (fun k => chS n (mx a) k % 10007) (k + 1)
    have trN := fun i hi => trS_bound (tl k) (tr k) i hi
    have mN := fun i (hi : i < n) => mx_N (tr k) (show i < (tmM a (adM n (mx a) k)).length by rw [tl k]; exact hi) i
    have tlk := tl k
    have trk := tr k
    generalize tmM a (adM n (mx a) k) = T at *
    have cI := inv_c ((k : Int) + 1) ⟨by omega, by omega⟩
    simp [go_sem, hki]
    refine CallVC.of (cT) (by decide) ?_
    simp [go_sem]
    refine loop_inv ([6, 7] ++ List.range' 25 13) (fun i : Nat => [(6, .int (trS T i)), (25, .int i)]) (fun i => i ≤ n) (fun i => n - i) 0 (by simp) (by simp [go_sem, trS]) (by simp [go_sem]) ?_
    intro i hi
    by_cases hin : i < n
    · have hii : (i : Int) < n := by omega
      have ri := trk.at (show i < T.length by omega)
      have hkr : i < (T[i]?.getD []).length := by omega
      have hg := omat_get (A := T) (k := i) (by omega)
      have mm : (T[i]?.getD [])[i]?.getD 0 = mx T i i := rfl
      have b1 := trN i hi
      have b2 := mN i hin
      obtain ⟨b3, b4⟩ := b2
      have ps : trS T (i + 1) = trS T i + mx T i i := rfl
      simp [go_sem, hii, hg, avs_at hkr, avs_drop hkr, mm]
      exact ⟨hkr, ⟨by omega, by omega⟩, ⟨by omega, by omega⟩, i + 1, by omega, by omega, Off_reset _ _ _ (by simp), by rw [ps], by omega⟩
    · have e : i = n := by omega
      subst e
      have hii : ¬ (i : Int) < i := by omega
      have hb := mul_bound (isN_mod (trS T i)) (show isN (pw ((k : Int) + 1) 10005) from isN_mod _)
      have f1 : fits (-(trS T i % 10007) * pw ((k : Int) + 1) 10005) := by
        rw [Int.neg_mul]
        exact ⟨by omega, by omega⟩
      have tn := isN_mod (trS T i)
      simp [go_sem, hii]
      refine CallVC.of (num_c _ (by omega) (by omega)) (by decide) ?_
      simp [go_sem]
      refine ⟨⟨by have := tn.2; omega, by have := tn.1; omega⟩, ?_⟩
      refine CallVC.of (cI) (by decide) ?_
      simp [go_sem]
      refine ⟨f1, ?_⟩
      refine CallVC.of (num_c _ f1.1 f1.2) (by decide) ?_
      simp [go_sem]
      rw [fc]
      refine ⟨⟨by omega, by omega⟩, ?_⟩
      refine CallVC.of (cA) (by decide) ?_
      simp [go_sem]
      exact ⟨⟨by omega, by omega⟩, k + 1, by omega, by omega, (Off.reset (by intro x hx; simp at hx ⊢; omega) (by simp) (by simp [go_sem, Off_reset])), by rw [ts, avs_snoc]; exact ⟨rfl, rfl⟩, rfl, by omega⟩
  · have e : k = n := by omega
    subst e
    have hki : ¬ (k : Int) + 1 ≤ k := by omega
    simp [go_sem, hki]
end Go.Proofs.Ytmojbncbbnjblaa


namespace Go.Proofs.Ytmojbncbbnjblaa
open Go.Abs
set_option linter.unusedVariables false
set_option linter.unusedSimpArgs false
set_option maxHeartbeats 4000000
end Go.Proofs.Ytmojbncbbnjblaa


namespace Go.Proofs.Ytmojbncbbnjblaa
open Go.Abs
set_option linter.unusedVariables false
set_option linter.unusedSimpArgs false
set_option maxHeartbeats 4000000
def lesM (A : List (List Int)) (B : List Int) : List (List Int) := (List.range A.length).map fun i => plusS (A[i]?.getD []) B (-1)
theorem Tab.rws {A : List (List Int)} {B : List Int} (h : Tab A B) : Rws B.length A := h.a
theorem lesM_ok {A : List (List Int)} {B : List Int} (h : Tab A B) : (lesM A B).length = B.length ∧ Rws B.length (lesM A B) := by
  refine ⟨by simp [lesM, h.len], fun x hx => ?_⟩
  obtain ⟨i, hi, rfl⟩ := List.mem_map.1 hx
  exact ⟨by rw [plusS_len]; exact (h.rws.at (show i < A.length by simpa using hi)).1, plusS_N _ _ _⟩
set_option maxRecDepth 100000 in
theorem fraction_c (A : List (List Int)) (B : List Int) (h : Tab A B) : Con Try.prog 78 [.agg [.sl A.length (mat A), .sl B.length (avs B)]]
    (.tup [.own 2 (B.length + 1) (avs (chL B.length (lesM A B))), .own 2 (B.length + 1) (avs (chL B.length A))]) := by
  have b1 := h.pos
  have b8 := h.le
  have ab := h.len
  have rw1 := h.rws
  have lo := lesM_ok h
  have c1 := unitLess_c (n := B.length) (lesM A B) (by omega) b8 lo.1 lo.2
  have c2 := unitLess_c (n := B.length) A (by omega) b8 ab rw1
  have c1 : Con Try.prog 142 [.sl A.length (mat (lesM A B))] (.own 2 (B.length + 1) (avs (chL B.length (lesM A B)))) := by rw [lo.1] at c1; rw [ab]; exact c1
  have hd : lesM A B = (List.range A.length).map fun i => plusS (A[i]?.getD []) B (-1) := rfl
  have bN := h.b
  refine con_of_vc Try.mixed ⟨7, [], [], []⟩ Try.func78 (by decide) rfl (by simp) (by decide) (by simp [freshOK, freshL, go_sem]) ?_
  rw [Try.ntmps78]
  simp [go_sem]
  refine loop_inv ([4, 6] ++ List.range' 11 12) (fun i : Nat => [(4, .own 27 i (omat ((List.range i).map fun i => plusS (A[i]?.getD []) B (-1)))), (11, .int i)]) (fun i => i ≤ A.length) (fun i => A.length - i) 0 (by simp) (by simp [go_sem, omat]) (by simp [go_sem]) ?_
  intro i hi
  by_cases hin : i < A.length
  · have hii : (i : Int) < A.length := by omega
    have ri := rw1.at hin
    have ane : ¬ A = [] := by rintro rfl; simp at hin
    have cP := plus_c (A[i]?.getD []) B (-1) ri.2 bN ⟨by omega, by omega⟩ (by omega) (by omega)
    have os := omat_range_succ (fun i => plusS (A[i]?.getD []) B (-1)) i
    rw [plusS_len] at os
    simp [go_sem, hii, mat_drop hin]
    refine ⟨ane, ?_⟩
    refine CallVC.of (cP) (by decide) ?_
    simp [go_sem]
    exact ⟨⟨by omega, by omega⟩, by omega, i + 1, by omega, by omega, Off_reset _ _ _ (by simp), by rw [os]; exact ⟨rfl, rfl⟩, by omega⟩
  · have e : i = A.length := by omega
    subst e
    rw [← hd]
    simp [go_sem]
    refine ⟨by kernel_rfl, ?_⟩
    refine CallD.of (c1) (by simp [roots, rootsL]) (by decide) ?_
    simp [go_sem]
    refine CallD.of (c2) (by simp [roots, rootsL]) (by decide) ?_
    simp [go_sem]
    refine ⟨by kernel_rfl, ?_⟩
    simp [go_sem]
def sfE (A : List (List Int)) (B : List Int) : Int := if tabB A B = true then 0 else 1
def sfP (A : List (List Int)) (B : List Int) : List Int := if tabB A B = true then chL B.length (lesM A B) else []
def sfQ (A : List (List Int)) (B : List Int) : List Int := if tabB A B = true then chL B.length A else []
def sfR (A : List (List Int)) (B : List Int) : AV := .tup [.own 2 (sfP A B).length (avs (sfP A B)), .own 2 (sfQ A B).length (avs (sfQ A B)), .int (sfE A B)]
theorem StabilityFraction_c (A : List (List Int)) (B : List Int) (hA : A.length ≤ 1048576) (hr : ∀ r ∈ A, r.length ≤ 1048576) (hB : B.length ≤ 1048576) :
    Con Try.prog 23 [.agg [.sl A.length (mat A), .sl B.length (avs B)]] (sfR A B) := by
  have cI := IsTableau_c A B (by omega) (by omega) (fun r h => by have := hr r h; omega)
  unfold sfR sfP sfQ sfE
  by_cases h : tabB A B = true
  · have cF := fraction_c A B (tabB_iff.1 h)
    rw [h] at cI
    rw [if_pos h, if_pos h, if_pos h, chL_len, chL_len]
    refine con_of_vc Try.mixed ⟨6, [], [], []⟩ Try.func23 (by decide) rfl (by simp) (by decide) (by simp [freshOK, freshL, go_sem]) ?_
    rw [Try.ntmps23]
    simp [go_sem]
    refine CallVC.of (cI) (by decide) ?_
    simp [go_sem]
    refine CallVC.of (cF) (by decide) ?_
    simp [go_sem]
  · rw [if_neg h, if_neg h, if_neg h]
    have hf : tabB A B = false := by simpa using h
    rw [hf] at cI
    refine Con.n2 _ _ ?_
    refine con_of_vc Try.mixed ⟨6, [], [], []⟩ Try.func23 (by decide) rfl (by simp) (by decide) (by simp [freshOK, freshL, go_sem]) ?_
    rw [Try.ntmps23]
    simp [go_sem]
    refine CallVC.of (cI) (by decide) ?_
    simp [go_sem]
end Go.Proofs.Ytmojbncbbnjblaa


namespace Go.Proofs.Ytmojbncbbnjblaa
open Go.Abs CR
set_option linter.unusedVariables false
set_option linter.unusedSimpArgs false
set_option maxHeartbeats 1000000
theorem cmul_dsum (n : Nat) : ∀ (a b : Ser Int), cmul n a b = dsum (fun i => a i * b (n - i)) (n + 1) := by
  induction n with
  | zero => intro a b; show a 0 * b 0 = 0 + a 0 * b (0 - 0); rw [Int.zero_add]
  | succ n ih =>
    intro a b
    rw [cmul, ih, dsum_shift _ (n + 1)]
    congr 1
    exact dsum_congr fun i hi => by rw [show n + 1 - (i + 1) = n - i by omega]; rfl
theorem dsum_mod {f g : Nat → Int} : ∀ {n : Nat}, (∀ i, i < n → f i % 10007 = g i % 10007) → dsum f n % 10007 = dsum g n % 10007
  | 0, _ => rfl
  | n + 1, h => mod_addc (dsum_mod (n := n) (fun i hi => h i (by omega))) (h n (by omega))
theorem ch_far {n k : Nat} (M : Mx) (h : n < k) : chS n M k = 0 := (Ev.det (z := 0) n (ulS M) (ulS_lin M)).1 k h
theorem chL_get (n : Nat) (a : List (List Int)) (k : Nat) : (chL n a)[k]?.getD 0 = chS n (mx a) k % 10007 := by
  by_cases h : k < n + 1
  · exact tb_get _ h
  · have : (chL n a)[k]? = none := List.getElem?_eq_none (by rw [chL_len]; omega)
    rw [this, ch_far _ (by omega)]; rfl
theorem wts_ev {A : List (List Int)} {s : Nat} (hl : A.length = s) (hr : Rws s A) : ∀ (k r : Nat), r < s → (wts A s k)[r]?.getD 0 % 10007 = evN s (mx A) k r % 10007 := by
  intro k
  induction k with
  | zero => intro r h; simp [wts, evN, h]
  | succ k ih =>
    intro r h
    have e : (wts A s (k + 1))[r]?.getD 0 = dotI (A[r]?.getD []) (wts A s k) % 10007 := by
      have h2 : r < A.length := by omega
      show (tim A (wts A s k))[r]?.getD 0 = _
      simp [tim, h2]
    rw [e, Int.emod_emod_of_dvd _ (Int.dvd_refl _), dotI_dsum _ _ s ((hr.at (by omega)).1) (wts_len hl k)]
    show _ = dsum (fun c => mx A r c * evN s (mx A) k c) s % 10007
    exact dsum_mod fun c hc => mod_mulc rfl (ih c hc)
theorem serL_get {A : List (List Int)} {B : List Int} (h : Tab A B) {n k : Nat} (hk : k ≤ n) : (serL A B n)[k]?.getD 0 = rsS B.length (mx A) (fun r => B[r]?.getD 0) k % 10007 := by
  cases k with
  | zero => rw [rsS_0]; rfl
  | succ k =>
    rw [rs_dot]
    have e : (serL A B n)[k + 1]?.getD 0 = dotI B (wts A B.length k) % 10007 := by
      unfold serL
      have : k < n := by omega
      simp [this]
    rw [e, dotI_dsum B (wts A B.length k) B.length rfl (wts_len h.len k)]
    exact dsum_mod fun r hr => mod_mulc rfl (wts_ev h.len h.rws k r hr)
theorem les_mod {A : List (List Int)} {B : List Int} (h : Tab A B) {r c : Nat} (hr : r < B.length) (hc : c < B.length) :
    mx (lesM A B) r c % 10007 = lessM (mx A) (fun r => B[r]?.getD 0) r c % 10007 := by
  have hr2 : r < A.length := by rw [h.len]; exact hr
  have e : (lesM A B)[r]?.getD [] = plusS (A[r]?.getD []) B (-1) := by simp [lesM, hr2]
  have hl : (A[r]?.getD []).length = B.length := (h.rws.at hr2).1
  have e2 : mx (lesM A B) r c = ((A[r]?.getD [])[c]?.getD 0 + (-1) % 10007 * B[c]?.getD 0) % 10007 := by
    show ((lesM A B)[r]?.getD [])[c]?.getD 0 = _
    rw [e]
    exact tb_get _ (by omega)
  rw [e2]
  show _ = ((A[r]?.getD [])[c]?.getD 0 - B[c]?.getD 0) % 10007
  omega
theorem ser_prod {A : List (List Int)} {B : List Int} (h : Tab A B) {n k : Nat} (hk : k ≤ n) :
    dsum (fun i => (serL A B n)[i]?.getD 0 * (chL B.length A)[k - i]?.getD 0) (k + 1) % 10007 = (chL B.length (lesM A B))[k]?.getD 0 := by
  have e1 : chS B.length (mx (lesM A B)) k % 10007 = chS B.length (lessM (mx A) (fun r => B[r]?.getD 0)) k % 10007 := ch_mod (fun r c hr hc => les_mod h hr hc) k
  rw [chL_get, e1, ch_less, ser_mul, cmul_dsum]
  refine dsum_mod fun i hi => mod_mulc ?_ ?_
  · rw [serL_get h (by omega), Int.emod_emod_of_dvd _ (Int.dvd_refl _)]
  · rw [chL_get, Int.emod_emod_of_dvd _ (Int.dvd_refl _)]
theorem chL_0 (n : Nat) (a : List (List Int)) : (chL n a)[0]?.getD 0 = 1 := by rw [chL_get, ch_0]; rfl
theorem serL_N (A : List (List Int)) (B : List Int) (n : Nat) : Ns (serL A B n) := by
  intro x hx
  unfold serL at hx
  rcases List.mem_cons.1 hx with rfl | hx
  · exact ⟨by omega, by omega⟩
  · obtain ⟨i, _, rfl⟩ := List.mem_map.1 hx
    exact isN_mod _
def topL (xs : List Int) (n : Nat) : List Int := tb (fun i => xs[i]?.getD 0) (n + 1)
theorem topL_get (xs : List Int) {n k : Nat} (h : k ≤ n) : (topL xs n)[k]?.getD 0 = xs[k]?.getD 0 := tb_get _ (by omega)
def Quo (a b c : List Int) : Prop := c.length = a.length ∧ Ns c ∧ b[0]?.getD 0 = 1 ∧ ∀ k, k < a.length → (a[k]?.getD 0 - dsum (fun i => c[i]?.getD 0 * b[k - i]?.getD 0) k) % 10007 = c[k]?.getD 0
theorem ser_quo {A : List (List Int)} {B : List Int} (h : Tab A B) (n : Nat) : Quo (topL (chL B.length (lesM A B)) n) (topL (chL B.length A) n) (serL A B n) := by
  refine ⟨by simp [topL], serL_N A B n, by rw [topL_get _ (by omega), chL_0], fun k hk => ?_⟩
  have hk : k ≤ n := by simp [topL] at hk; omega
  rw [topL_get _ hk]
  have p := ser_prod h hk
  have e : dsum (fun i => (serL A B n)[i]?.getD 0 * (chL B.length A)[k - i]?.getD 0) (k + 1) = dsum (fun i => (serL A B n)[i]?.getD 0 * (topL (chL B.length A) n)[k - i]?.getD 0) k + (serL A B n)[k]?.getD 0 := by
    rw [dsum, Nat.sub_self, chL_0, Int.mul_one]
    congr 1
    exact dsum_congr fun i hi => by rw [topL_get _ (by omega)]
  rw [e] at p
  have hn : isN ((serL A B n)[k]?.getD 0) := (serL_N A B n).get k
  obtain ⟨h1, h2⟩ := hn
  generalize dsum (fun i => (serL A B n)[i]?.getD 0 * (topL (chL B.length A) n)[k - i]?.getD 0) k = d at *
  rw [← p]
  omega
end Go.Proofs.Ytmojbncbbnjblaa


namespace Go.Proofs.Ytmojbncbbnjblaa
open Go.Abs
set_option linter.unusedVariables false
set_option linter.unusedSimpArgs false
set_option maxHeartbeats 4000000
def serOk (a : List Int) : Bool := decide (1 ≤ (a.length : Int)) && decide ((a.length : Int) ≤ 16) && numsB a
theorem IsSeries_c (a : List Int) (hl : a.length ≤ 9223372036854775807) : Con Try.prog 143 [.sl a.length (avs a)] (.bool (serOk a)) := by
  have cN := areNumbers_c a hl
  unfold serOk
  generalize numsB a = b at *
  refine con_of_vc Try.mixed ⟨3, [], [], []⟩ Try.func143 (by decide) rfl (by simp) (by decide) (by simp [freshOK, freshL, go_sem]) ?_
  rw [Try.ntmps143]
  simp [go_sem]
  refine CallVC.of (length_c _ _ hl) (by decide) ?_
  simp [go_sem]
  refine CallVC.of (inRange_c _ _ _) (by decide) ?_
  simp [go_sem]
  by_cases h1 : 1 ≤ (a.length : Int) <;> by_cases h2 : (a.length : Int) ≤ 16
  · simp [go_sem, h1, h2]
    refine CallVC.of (cN) (by decide) ?_
    simp [go_sem]
  all_goals simp [go_sem, h1, h2]
end Go.Proofs.Ytmojbncbbnjblaa


namespace Go.Proofs.Ytmojbncbbnjblaa
open Go.Abs
set_option linter.unusedVariables false
set_option linter.unusedSimpArgs false
set_option maxHeartbeats 1000000
end Go.Proofs.Ytmojbncbbnjblaa


namespace Go.Proofs.Ytmojbncbbnjblaa
open Go.Abs
set_option linter.unusedVariables false
set_option linter.unusedSimpArgs false
set_option maxHeartbeats 4000000
theorem quo_bound {b c : List Int} (hb : Ns b) (hc : Ns c) (n k : Nat) : ∀ i : Nat, -(100120036 * (i : Int)) ≤ - dsum (fun i => c[i]?.getD 0 * b[n - i]?.getD 0) i ∧ 0 ≤ dsum (fun i => c[i]?.getD 0 * b[n - i]?.getD 0) i
  | 0 => by simp [dsum]
  | i + 1 => by
    have ih := quo_bound hb hc n k i
    have h1 := hc.get i
    have h2 := hb.get (n - i)
    have h3 := mul_bound h1 h2
    rw [dsum]
    omega
theorem inv_one : pw 1 10005 = 1 := by decide +kernel
theorem avs_pad (c : List Int) (k : Nat) (h : k < c.length) : (avs (c.take k ++ List.replicate (c.length - k) 0)).set k (.val (.int .i64 (c[k]?.getD 0))) = avs (c.take (k + 1) ++ List.replicate (c.length - (k + 1)) 0) := by
  rw [avs_set]
  congr 1
  have e : c.length - k = (c.length - (k + 1)) + 1 := by omega
  rw [e, List.replicate_succ, List.set_append_right _ _ (by simp; omega)]
  have e2 : k - (c.take k).length = 0 := by simp; omega
  rw [e2, List.set_cons_zero, List.take_add_one, List.getElem?_eq_getElem h]
  simp only [Option.toList_some, Option.getD_some, List.append_assoc, List.cons_append, List.nil_append]
theorem pad_get {c : List Int} {k i : Nat} (h : i < k) (hk : k ≤ c.length) : (c.take k ++ List.replicate (c.length - k) 0)[i]?.getD 0 = c[i]?.getD 0 := by
  rw [List.getElem?_append_left (by simp; omega), List.getElem?_take, if_pos h]
theorem pad_len (c : List Int) {k : Nat} (hk : k ≤ c.length) : (c.take k ++ List.replicate (c.length - k) 0).length = c.length := by simp; omega
set_option maxRecDepth 100000 in
theorem divideSeries_c (a b c : List Int) (h : Quo a b c) (ha : Ns a) (hb : Ns b) (hl : b.length = a.length) (h1 : 1 ≤ a.length) (h16 : a.length ≤ 16) :
    Con Try.prog 80 [.sl a.length (avs a), .sl b.length (avs b)] (.own 2 a.length (avs c)) := by
  obtain ⟨q1, q2, q3, q4⟩ := h
  have cI := inv_c (b[0]?.getD 0) (hb.get 0)
  rw [q3, inv_one] at cI
  have hb0 : 0 < b.length := by omega
  have db := avs_drop hb0
  rw [List.getD_eq_getElem?_getD, q3, List.drop_zero, Nat.zero_add, List.drop_one] at db
  have ab := avs_at hb0
  rw [q3] at ab
  refine con_of_vc Try.mixed ⟨10, [], [], []⟩ Try.func80 (by decide) rfl (by simp) (by decide) (by simp [freshOK, freshL, go_sem]) ?_
  rw [Try.ntmps80]
  simp [go_sem, db]
  refine ⟨by kernel_rfl, ?_⟩
  refine ⟨⟨by omega, by omega⟩, by omega, ?_⟩
  refine CallD.of (cI) (by simp [roots, rootsL]) (by decide) ?_
  simp [go_sem]
  refine ⟨by kernel_rfl, ?_⟩
  simp [go_sem]
  refine loop_inv ([5, 7, 8, 9] ++ List.range' 19 34) (fun k : Nat => [(5, .own 2 a.length (avs (c.take k ++ List.replicate (c.length - k) 0))), (19, .int k)]) (fun k => k ≤ a.length) (fun k => a.length - k) 0 (by simp) (by simp [go_sem, avs_repl, q1]) (by simp [go_sem]) ?_
  intro k hk
  by_cases hka : k < a.length
  · have hki : (k : Int) < a.length := by omega
    have nea : ¬ a = [] := by rintro rfl; simp at hka
    have neb : ¬ b = [] := by rintro rfl; simp at hb0
    have da := avs_drop hka
    rw [List.getD_eq_getElem?_getD] at da
    have na := ha.get k
    have q4k := q4 k hka
    have qb := quo_bound hb q2 k k
    have hpad := avs_pad c k (by omega)
    have hpl := pad_len c (k := k) (by omega)
    have hpg := fun i (h : i < k) => pad_get (c := c) h (by omega)
    have nc := q2.get k
    generalize c.take k ++ List.replicate (c.length - k) 0 = O at *
    generalize a[k]?.getD 0 = x at *
    simp [go_sem, hki, da]
    refine ⟨nea, ?_⟩
    refine loop_inv ([8, 9] ++ List.range' 27 17) (fun i : Nat => [(8, .int (x - dsum (fun i => c[i]?.getD 0 * b[k - i]?.getD 0) i)), (27, .int i)]) (fun i => i ≤ k) (fun i => k - i) 0 (by simp) (by simp [go_sem, dsum]) (by simp [go_sem]) ?_
    intro i hi
    by_cases hik : i < k
    · have hii : (i : Int) < k := by omega
      have ek : (k : Int) - (i : Int) = ((k - i : Nat) : Int) := by omega
      have hkb : k - i < b.length := by omega
      have dbk := avs_drop hkb
      rw [List.getD_eq_getElem?_getD, db] at dbk
      have hiO : i < O.length := by omega
      have aO := avs_at hiO
      rw [hpg i hik] at aO
      have nci := q2.get i
      have nbi := hb.get (k - i)
      have fm := mul_bound nci nbi
      have q1' := qb i
      have q2' := qb (i + 1)
      have ds : dsum (fun i => c[i]?.getD 0 * b[k - i]?.getD 0) (i + 1) = dsum (fun i => c[i]?.getD 0 * b[k - i]?.getD 0) i + c[i]?.getD 0 * b[k - i]?.getD 0 := rfl
      generalize hd2 : dsum (fun i => c[i]?.getD 0 * b[k - i]?.getD 0) (i + 1) = d2 at *
      generalize dsum (fun i => c[i]?.getD 0 * b[k - i]?.getD 0) i = d1 at *
      generalize c[i]?.getD 0 = u at *
      generalize b[k - i]?.getD 0 = v at *
      simp [go_sem, hii, ek, dbk, aO]
      have nx := na.1
      have nx2 := na.2
      refine ⟨by kernel_rfl, by omega, by omega, by omega, ⟨by omega, by omega⟩, ⟨by omega, by omega⟩, ?_⟩
      refine ⟨by kernel_rfl, ?_⟩
      simp [go_sem]
      exact ⟨⟨by omega, by omega⟩, i + 1, by omega, by omega, Off_reset _ _ _ (by simp), by rw [hd2]; omega, by omega⟩
    · have e : i = k := by omega
      have hii : ¬ (i : Int) < k := by omega
      rw [e] at hii ⊢
      have qk := qb k
      generalize dsum (fun i => c[i]?.getD 0 * b[k - i]?.getD 0) k = d at *
      have cN := num_c (x - d) (by have := na.1; omega) (by have := na.2; omega)
      rw [q4k] at cN
      have cM := num_c (c[k]?.getD 0) (by have := nc.1; omega) (by have := nc.2; omega)
      rw [Int.emod_eq_of_lt nc.1 (by have := nc.2; omega)] at cM
      generalize c[k]?.getD 0 = y at *
      simp [go_sem, hii]
      refine CallVC.of (cN) (by decide) ?_
      simp [go_sem]
      refine ⟨⟨by have := nc.1; omega, by have := nc.2; omega⟩, ?_⟩
      refine CallVC.of (cM) (by decide) ?_
      simp [go_sem]
      exact ⟨by omega, by omega, ⟨by omega, by omega⟩, k + 1, by omega, by omega, (Off.reset (by intro x hx; simp at hx ⊢; omega) (by simp) (by simp [go_sem, Off_reset])), hpad, by omega⟩
  · have e : k = a.length := by omega
    have hki : ¬ (k : Int) < a.length := by omega
    rw [e] at hki ⊢
    have ec : c.take a.length ++ List.replicate (c.length - a.length) 0 = c := by rw [← q1]; simp
    rw [ec]
    simp [go_sem, hki]
theorem serOk_of {a : List Int} (h1 : 1 ≤ a.length) (h16 : a.length ≤ 16) (hN : Ns a) : serOk a = true := by
  unfold serOk
  rw [numsB_N.2 hN]
  simp
  omega
set_option maxRecDepth 100000 in
theorem checkSeries2_c (a b : List Int) (ha : Ns a) (hb : Ns b) (hl : b.length = a.length) (h1 : 1 ≤ a.length) (h16 : a.length ≤ 16) :
    Con Try.prog 79 [.sl 2 [.sl a.length (avs a), .sl b.length (avs b)], .sl 0 []] (.int 0) := by
  have cA := IsSeries_c a (by omega)
  have cB := IsSeries_c b (by omega)
  rw [serOk_of h1 h16 ha] at cA
  rw [serOk_of (by omega) (by omega) hb] at cB
  refine con_of_vc Try.mixed ⟨7, [], [], []⟩ Try.func79 (by decide) rfl (by simp) (by decide) (by simp [freshOK, freshL, go_sem]) ?_
  rw [Try.ntmps79]
  simp [go_sem]
  refine loop_inv ([4, 6] ++ List.range' 9 17) (fun i : Nat => [(9, .int i)]) (fun i => i ≤ 2) (fun i => 2 - i) 0 (by simp) (by simp [go_sem]) (by simp [go_sem]) ?_
  intro i hi
  have h3 : i = 0 ∨ i = 1 ∨ i = 2 := by omega
  rcases h3 with rfl | rfl | rfl
  · simp [go_sem]
    refine CallVC.of (cA) (by decide) ?_
    simp [go_sem]
    exact ⟨1, by omega, by omega, Off_reset _ _ _ (by simp), rfl⟩
  · simp [go_sem]
    refine CallVC.of (cB) (by decide) ?_
    simp [go_sem]
    have e : (b.length : Int) = a.length := by omega
    simp [go_sem, e]
    exact ⟨2, by omega, by omega, Off_reset _ _ _ (by simp), rfl⟩
  · have cN : Con Try.prog 104 [.sl 0 []] (.bool true) := areNumbers_c [] (by simp)
    simp [go_sem]
    refine CallVC.of (cN) (by decide) ?_
    simp [go_sem]
set_option maxRecDepth 100000 in
theorem DivideSeries_c (a b c : List Int) (h : Quo a b c) (ha : Ns a) (hb : Ns b) (hl : b.length = a.length) (h1 : 1 ≤ a.length) (h16 : a.length ≤ 16) :
    Con Try.prog 24 [.sl a.length (avs a), .sl b.length (avs b)] (.tup [.own 2 a.length (avs c), .int 0]) := by
  have cC := checkSeries2_c a b ha hb hl h1 h16
  have cD := divideSeries_c a b c h ha hb hl h1 h16
  have hb0 : 0 < b.length := by omega
  have db := avs_drop hb0
  rw [List.getD_eq_getElem?_getD, h.2.2.1, List.drop_zero, Nat.zero_add, List.drop_one] at db
  have nb : ¬ b = [] := by rintro rfl; simp at hb0
  refine con_of_vc Try.mixed ⟨7, [], [], []⟩ Try.func24 (by decide) rfl (by simp) (by decide) (by simp [freshOK, freshL, go_sem]) ?_
  rw [Try.ntmps24]
  simp [go_sem]
  refine CallVC.of (cC) (by decide) ?_
  simp [go_sem, db]
  rw [db] at cD
  refine ⟨by omega, ?_⟩
  refine CallVC.of (cD) (by decide) ?_
  simp [go_sem]
end Go.Proofs.Ytmojbncbbnjblaa


namespace Go.Proofs.Ytmojbncbbnjblaa
open Go.Abs
set_option linter.unusedVariables false
set_option linter.unusedSimpArgs false
set_option maxHeartbeats 4000000
def hadS (s : Nat) (a v : List Int) : List Int := tb (fun j => a[j]?.getD 0 * v[j]?.getD 0 % 10007) s
@[simp] theorem hadS_len (s : Nat) (a v : List Int) : (hadS s a v).length = s := by simp [hadS]
theorem hadS_N (s : Nat) (a v : List Int) : Ns (hadS s a v) := tb_N fun j _ => isN_mod _
def hadL (s : Nat) (a : List Int) : List (List Int) → List Int
  | [] => a
  | v :: l => hadL s (hadS s a v) l
theorem hadL_app (s : Nat) (l r : List (List Int)) : ∀ a, hadL s a (l ++ r) = hadL s (hadL s a l) r := by
  induction l with
  | nil => intro a; rfl
  | cons v l ih => intro a; exact ih _
theorem hadL_take {s : Nat} {a : List Int} {l : List (List Int)} {i : Nat} (h : i < l.length) : hadL s a (l.take (i + 1)) = hadS s (hadL s a (l.take i)) (l[i]?.getD []) := by
  rw [List.take_add_one, List.getElem?_eq_getElem h, Option.toList_some, hadL_app]; rfl
theorem hadL_ok {s : Nat} {a : List Int} (h : a.length = s ∧ Ns a) (l : List (List Int)) : (hadL s a l).length = s ∧ Ns (hadL s a l) := by
  induction l generalizing a with
  | nil => exact h
  | cons v l ih => exact ih ⟨hadS_len _ _ _, hadS_N _ _ _⟩
def stwF (A : List (List Int)) (s : Nat) : Nat → List Int → List Int
  | 0, _ => List.replicate s 1
  | m + 1, t => hadL s (List.replicate s 1) ((brs t).map fun b => tim A (stwF A s m b))
theorem ones_ok (s : Nat) : (List.replicate s (1 : Int)).length = s ∧ Ns (List.replicate s (1 : Int)) := ⟨by simp, fun x hx => by
  rw [List.mem_replicate] at hx
  rw [hx.2]; exact ⟨by omega, by omega⟩⟩
theorem stwF_ok (A : List (List Int)) (s : Nat) : ∀ n t, (stwF A s n t).length = s ∧ Ns (stwF A s n t)
  | 0, t => ones_ok s
  | n + 1, t => hadL_ok (ones_ok s) _
def tlL (k : Nat) : List Int := tb (fun i => (i : Int)) k
@[simp] theorem tlL_len (k : Nat) : (tlL k).length = k := by simp [tlL]
theorem brs_tl : ∀ k, k < 7 → brs (tlL (k + 2)) = [tlL (k + 1)] := by decide
theorem tlL_Lv {k : Nat} (h : 1 ≤ k) : Lv (tlL k) := by
  refine ⟨by simp; omega, ?_, fun j h1 h2 => ?_⟩
  · unfold tlL; rw [tb_get _ (by omega)]; rfl
  · simp at h2
    unfold tlL
    rw [tb_get _ h2, tb_get _ (by omega)]
    omega
theorem stwF_tl (A : List (List Int)) {s : Nat} (hA : A.length = s) : ∀ (k n : Nat), k < 8 → k < n → stwF A s n (tlL (k + 1)) = wts A s k
  | 0, n, _, h => by
    obtain ⟨m, rfl⟩ : ∃ m, n = m + 1 := ⟨n - 1, by omega⟩
    rfl
  | k + 1, n, h8, h => by
    obtain ⟨m, rfl⟩ : ∃ m, n = m + 1 := ⟨n - 1, by omega⟩
    rw [stwF, brs_tl k (by omega), List.map_cons, List.map_nil, hadL, hadL, stwF_tl A hA k m (by omega) (by omega)]
    have e : wts A s (k + 1) = tim A (wts A s k) := rfl
    have hn : Ns (tim A (wts A s k)) := tim_N _ _
    have hl : (tim A (wts A s k)).length = s := by simp [hA]
    rw [e]
    generalize tim A (wts A s k) = v at *
    refine List.ext_getElem (by simp [hl]) fun j h1 h2 => ?_
    have hj : j < s := by omega
    have e1 : (hadS s (List.replicate s 1) v)[j]?.getD 0 = (List.replicate s (1 : Int))[j]?.getD 0 * v[j]?.getD 0 % 10007 := tb_get _ hj
    have e2 : (List.replicate s (1 : Int))[j]?.getD 0 = 1 := by simp [hj]
    have e3 := hn.get j
    rw [e2, Int.one_mul, Int.emod_eq_of_lt e3.1 (by have := e3.2; omega)] at e1
    rw [List.getElem?_eq_getElem h1, List.getElem?_eq_getElem h2] at e1
    exact e1
def ovL (new old : List Int) (s j : Nat) : List Int := tb (fun k => if k < j then new[k]?.getD 0 else old[k]?.getD 0) s
@[simp] theorem ovL_len (new old : List Int) (s j : Nat) : (ovL new old s j).length = s := by simp [ovL]
theorem ovL_get {new old : List Int} {s j : Nat} (h : j < s) : (ovL new old s j)[j]?.getD 0 = old[j]?.getD 0 := by
  unfold ovL; rw [tb_get _ h, if_neg (by omega)]
theorem ovL_zero {new old : List Int} {s : Nat} (h : old.length = s) : ovL new old s 0 = old := by
  refine List.ext_getElem (by simp [h]) fun k h1 h2 => ?_
  simp [ovL, tb, h2]
theorem ovL_all {new old : List Int} {s : Nat} (h : new.length = s) : ovL new old s s = new := by
  refine List.ext_getElem (by simp [h]) fun k h1 h2 => ?_
  have : k < s := by omega
  simp [ovL, tb, h2, this]
theorem ovL_set {new old : List Int} {s j : Nat} (h : j < s) : (ovL new old s j).set j (new[j]?.getD 0) = ovL new old s (j + 1) := by
  refine List.ext_getElem (by simp) fun k h1 h2 => ?_
  have hk : k < s := by simpa using h2
  rw [List.getElem_set]
  by_cases e : j = k
  · subst e
    rw [if_pos rfl]
    simp [ovL, tb]
  · rw [if_neg e]
    have : k < j + 1 ↔ k < j := by omega
    simp [ovL, tb, this]
set_option maxRecDepth 100000 in
theorem stageWeights_c (A : List (List Int)) (B : List Int) (hT : Tab A B) :
    ∀ (n : Nat) (t : List Int), Lv t → t.length ≤ n → t.length ≤ 1048576 → Con Try.prog 145 [.agg [.sl A.length (mat A), .sl B.length (avs B)], .sl t.length (avs t)] (.own 2 B.length (avs (stwF A B.length n t)))
  | 0, t, hL, hn, _ => by have := hL.1; omega
  | n + 1, t, hL, hn, hl => by
    have hp := hT.pos
    have hle := hT.le
    have hAB := hT.len
    have cB := branchesOf_c t hl hL
    have ih := fun b (hb : b ∈ brs t) => stageWeights_c A B hT n b (brs_ok hL hb).1 (by have := (brs_ok hL hb).2; omega) (by have := (brs_ok hL hb).2; omega)
    have hcnt : (brs t).length < t.length := by
      have h := brs_many hL (i := t.length) hL.1 (Nat.le_refl _)
      rwa [List.take_of_length_le (Nat.le_refl _)] at h
    have hd : stwF A B.length (n + 1) t = hadL B.length (List.replicate B.length 1) ((brs t).map fun b => tim A (stwF A B.length n b)) := rfl
    rw [hd]
    refine con_of_vc Try.mixed ⟨10, [], [], []⟩ Try.func145 (by decide) rfl (by simp) (by decide) (by simp [freshOK, freshL, go_sem]) ?_
    rw [Try.ntmps145]
    simp [go_sem]
    refine CallVC.of (tab_c _ _ _ _) (by decide) ?_
    simp [go_sem]
    refine CallVC.of (Repeat_c 1 B.length hp (by omega)) (by decide) ?_
    simp [go_sem]
    refine CallVC.of (cB) (by decide) ?_
    simp [go_sem]
    generalize brs t = L at *
    refine loop_inv ([5, 7, 8, 9, 15] ++ List.range' 17 27) (fun i : Nat => [(5, .own 2 B.length (avs (hadL B.length (List.replicate B.length 1) ((L.map fun b => tim A (stwF A B.length n b)).take i)))), (15, .own 27 L.length (omat L)), (17, .int i)]) (fun i => i ≤ L.length) (fun i => L.length - i) 0 (by simp) (by simp [go_sem, hadL]) (by simp [go_sem]) ?_
    intro i hi
    by_cases hiL : i < L.length
    · have hii : (i : Int) < L.length := by omega
      have hb : L[i]?.getD [] ∈ L := by simp [hiL]
      have cS := ih _ hb
      have ok := stwF_ok A B.length n (L[i]?.getD [])
      have cA := applied_c A B (stwF A B.length n (L[i]?.getD [])) (by rw [ok.1]; exact hT.a) (by omega) (by omega) ok.2
      rw [ok.1] at cA
      have hm : i < (L.map fun b => tim A (stwF A B.length n b)).length := by simpa using hiL
      have ht := hadL_take (s := B.length) (a := List.replicate B.length 1) hm
      have hg : (L.map fun b => tim A (stwF A B.length n b))[i]?.getD [] = tim A (stwF A B.length n (L[i]?.getD [])) := by simp [hiL]
      rw [hg] at ht
      have o1 := hadL_ok (ones_ok B.length) ((L.map fun b => tim A (stwF A B.length n b)).take i)
      have o2 : (tim A (stwF A B.length n (L[i]?.getD []))).length = B.length ∧ Ns (tim A (stwF A B.length n (L[i]?.getD []))) := ⟨by simp [hAB], tim_N _ _⟩
      have hgt := omat_get hiL
      generalize tim A (stwF A B.length n (L[i]?.getD [])) = w at *
      generalize stwF A B.length n (L[i]?.getD []) = u at *
      generalize hadL B.length (List.replicate B.length 1) ((L.map fun b => tim A (stwF A B.length n b)).take i) = old at *
      generalize hnw : hadL B.length (List.replicate B.length 1) ((L.map fun b => tim A (stwF A B.length n b)).take (i + 1)) = new at *
      have hw : w.length = A.length := by omega
      simp [go_sem, hii, hgt]
      refine ⟨by kernel_rfl, ?_⟩
      refine CallD.of (cS) (by simp [roots, rootsL]) (by decide) ?_
      simp [go_sem]
      refine CallD.of (cA) (by simp [roots, rootsL]) (by decide) ?_
      simp [go_sem]
      refine ⟨by kernel_rfl, ?_⟩
      simp [go_sem]
      refine loop_inv ([5, 8, 9] ++ List.range' 27 16) (fun j : Nat => [(5, .own 2 B.length (avs (ovL new old B.length j))), (27, .int j)]) (fun j => j ≤ B.length) (fun j => B.length - j) 0 (by simp) (by simp [go_sem, ovL_zero o1.1]) (by simp [go_sem]) ?_
      intro j hj
      by_cases hjs : j < B.length
      · have hji : (j : Int) < A.length := by omega
        have hjw : j < w.length := by omega
        have hjo : j < (ovL new old B.length j).length := by simpa using hjs
        have g1 := avs_at hjo
        have g2 := avs_at hjw
        rw [ovL_get hjs] at g1
        have n1 := o1.2.get j
        have n2 := o2.2.get j
        have hs := ovL_set (new := new) (old := old) hjs
        have hnew : new[j]?.getD 0 = old[j]?.getD 0 * w[j]?.getD 0 % 10007 := by rw [ht]; exact tb_get _ hjs
        have fm := mul_fits n1 n2
        have cN := num_c _ fm.1 fm.2
        rw [← hnew] at cN
        have hset := avs_set (ovL new old B.length j) j (new[j]?.getD 0)
        rw [hs] at hset
        generalize old[j]?.getD 0 = x at *
        generalize w[j]?.getD 0 = y at *
        generalize new[j]?.getD 0 = z at *
        generalize ovL new old B.length j = O at *
        simp [go_sem, hji, g1, g2]
        refine ⟨by omega, fm, ?_⟩
        refine CallVC.of (cN) (by decide) ?_
        simp [go_sem]
        exact ⟨by omega, by omega, ⟨by omega, by omega⟩, j + 1, by omega, by omega, Off_reset _ _ _ (by simp), hset, by omega⟩
      · have e : j = B.length := by omega
        have hji : ¬ (j : Int) < A.length := by omega
        have nl : new.length = B.length := by rw [ht]; simp
        rw [e] at hji
        rw [e, ovL_all nl]
        simp [go_sem, hji]
        exact ⟨⟨by omega, by omega⟩, i + 1, by omega, by omega, (Off.reset (by intro x hx; simp at hx ⊢; omega) (by simp) (by simp [go_sem, Off_reset])), hnw.symm, by omega⟩
    · have e : i = L.length := by omega
      have e2 : (L.map fun b => tim A (stwF A B.length n b)).take i = L.map fun b => tim A (stwF A B.length n b) := List.take_of_length_le (by simp; omega)
      rw [e2]
      simp [go_sem, e]
set_option maxRecDepth 100000 in
theorem weight_c (A : List (List Int)) (B : List Int) (hT : Tab A B) (n : Nat) (t : List Int) (hL : Lv t) (hn : t.length ≤ n) (hl : t.length ≤ 1048576) :
    Con Try.prog 82 [.agg [.sl A.length (mat A), .sl B.length (avs B)], .sl t.length (avs t)] (.int (dotI B (stwF A B.length n t) % 10007)) := by
  have cS := stageWeights_c A B hT n t hL hn hl
  have ok := stwF_ok A B.length n t
  have hle := hT.le
  have cD := dot_c B (stwF A B.length n t) (by omega) (by omega) hT.b ok.2
  rw [ok.1] at cD
  refine con_of_vc Try.mixed ⟨5, [], [], []⟩ Try.func82 (by decide) rfl (by simp) (by decide) (by simp [freshOK, freshL, go_sem]) ?_
  rw [Try.ntmps82]
  simp [go_sem]
  refine ⟨by kernel_rfl, ?_⟩
  refine CallD.of (cS) (by simp [roots, rootsL]) (by decide) ?_
  simp [go_sem]
  refine CallD.of (cD) (by simp [roots, rootsL]) (by decide) ?_
  simp [go_sem]
  refine ⟨by kernel_rfl, ?_⟩
  simp [go_sem]
theorem Lv_lvB {t : List Int} (h : Lv t) (h8 : t.length ≤ 8) : lvB t = true := by
  unfold lvB
  rw [decide_eq_true h8, Bool.and_true]
  refine lv0_yes h.1 h.2.1 (fun j h1 h2 => ?_)
  have := h.2.2 j h1 h2
  unfold okB
  rw [decide_eq_true this.1, decide_eq_true this.2]; rfl
theorem checkTableauTree_c (A : List (List Int)) (B : List Int) (hT : Tab A B) (t : List Int) (hL : Lv t) (h8 : t.length ≤ 8) :
    Con Try.prog 81 [.agg [.sl A.length (mat A), .sl B.length (avs B)], .sl t.length (avs t)] (.int 0) := by
  have hle := hT.le
  have hAB := hT.len
  have cT := IsTableau_c A B (by omega) (by omega) (fun r hr => by have := (hT.a r hr).1; omega)
  rw [tabB_iff.2 hT] at cT
  have cL := IsLevels_c t (by omega)
  rw [Lv_lvB hL h8] at cL
  refine con_of_vc Try.mixed ⟨5, [], [], []⟩ Try.func81 (by decide) rfl (by simp) (by decide) (by simp [freshOK, freshL, go_sem]) ?_
  rw [Try.ntmps81]
  simp [go_sem]
  refine CallVC.of (cT) (by decide) ?_
  simp [go_sem]
  refine CallVC.of (cL) (by decide) ?_
  simp [go_sem]
theorem WeightOf_c (A : List (List Int)) (B : List Int) (hT : Tab A B) (t : List Int) (hL : Lv t) (h8 : t.length ≤ 8) :
    Con Try.prog 26 [.agg [.sl A.length (mat A), .sl B.length (avs B)], .sl t.length (avs t)] (.tup [.int (dotI B (stwF A B.length t.length t) % 10007), .int 0]) := by
  have cC := checkTableauTree_c A B hT t hL h8
  have cW := weight_c A B hT t.length t hL (Nat.le_refl _) (by omega)
  refine con_of_vc Try.mixed ⟨7, [], [], []⟩ Try.func26 (by decide) rfl (by simp) (by decide) (by simp [freshOK, freshL, go_sem]) ?_
  rw [Try.ntmps26]
  simp [go_sem]
  refine CallVC.of (cC) (by decide) ?_
  simp [go_sem]
  refine CallVC.of (cW) (by decide) ?_
  simp [go_sem]
theorem tl_weight {A : List (List Int)} {B : List Int} (hT : Tab A B) {k : Nat} (hk : k < 8) {n : Nat} (hn : k < n) : dotI B (stwF A B.length (tlL (k + 1)).length (tlL (k + 1))) % 10007 = (serL A B n)[k + 1]?.getD 0 := by
  rw [tlL_len, stwF_tl A hT.len k (k + 1) hk (by omega)]
  unfold serL
  simp [hn]
theorem upTo_tl : ∀ k, k ≤ 8 → upTo k = tlL k := by decide
end Go.Proofs.Ytmojbncbbnjblaa


namespace Go.Proofs.Ytmojbncbbnjblaa
open Go.ChangeShapes Go.WideShapes Go.ChangeAt Go.RowKit Go.Abs Go.Deep
set_option linter.unusedVariables false
section
variable {H : Type} {enc : TypeId × Value → H} {w : World} {sp : Nat → Bool} {held : Bool} {base : Nat}
theorem kids : Kids Try.prog (· < Try.prog.types.size) := kids_rows (by kernel_rfl) (by kernel_rfl)
theorem full : ∀ t e, t < Try.prog.types.size → Try.prog.underlying t = some (.slice e) → 0 < Try.prog.cellsOf e := slices_full_of Try.prog (by kernel_rfl)
theorem flat1 {α β : Type} (g : α → β) : ∀ qs : List α, qs.flatMap (fun a => [g a]) = qs.map g
  | [] => rfl
  | a :: qs => by rw [List.flatMap_cons, flat1 g qs]; rfl
theorem rep_one {F : Nat → Prop} {tm : Nat → Value} {oss : Nat → List Nat} {c : AV} {v : Value} (h : RepL Try.prog w F [c] [v] []) : RepT Try.prog w F tm oss c v [] := .cell _ _ _ (RepL.one h)
set_option maxRecDepth 100000 in
theorem repV {F : Nat → Prop} {tm : Nat → Value} {oss : Nat → List Nat} {t e : TypeId} {v : Value} {c : AV} {r : Reach} {b0 : Nat} (ht : Try.prog.underlying t = some (.slice e)) (hv : Value.okWide Try.prog w r b0 t v) (h : RepL Try.prog w F [c] v.cells.toList []) :
    RepT Try.prog w F tm oss c v [] := by
  have hc : v.cells.toList = [v] := by
    simp only [Value.okWide, ht] at hv
    cases v <;> simp_all [Value.cells, Cell.okWide, Cell.ok]
  rw [hc] at h
  exact rep_one h
end
end Go.Proofs.Ytmojbncbbnjblaa


namespace Go.Proofs.Ytmojbncbbnjblaa
open Go.Abs
set_option linter.unusedVariables false
set_option linter.unusedSimpArgs false
set_option maxHeartbeats 1000000
open Go.ChangeShapes Go.WideShapes Go.ChangeAt Go.RowKit Go.Deep
theorem big_c (c : List Int) (hl : c.length ≤ 9223372036854775807) : Con Try.prog 8 [.sl c.length (bys c)] (.bool (decide (4096 < c.length))) := by
  refine con_of_vc Try.mixed ⟨3, [], [], []⟩ Try.func8 (by decide) rfl (by simp) (by decide) (by simp [freshOK, freshL, go_sem]) ?_
  rw [Try.ntmps8]
  simp [go_sem]
  omega
section
variable {H : Type} {enc : TypeId × Value → H} {w : World} {sp : Nat → Bool} {held : Bool} {base : Nat}
theorem open_bys {n : Nat} {cs : List Value} {x : DataW H × List MemPlace} (h : DataW.trod enc Try.prog w base sp held n 22 cs = some x) :
    ∃ xs : List Int, (∀ z ∈ xs, 0 ≤ z ∧ z ≤ 255) ∧ xs.length ≤ 9223372036854775807 ∧ RepL Try.prog w (fun b => b < w.heap.size) [.sl xs.length (bys xs)] cs [] ∧ cs.length = 1 := by
  obtain ⟨qs, h1, h2, h3, h4⟩ := open_sl (f := fun z : Int => [AV.val (.int .u8 z)]) (Good := fun z => (Lit.int .u8 z).wf = true) Try.underlying22 (s := 1) (by kernel_rfl) (by decide) (fun _ => rfl)
    (fun n cs y hy => by obtain ⟨z, k1, k2, _⟩ := open_i Try.underlying5 hy; exact ⟨z, k1, k2⟩) h
  refine ⟨qs, fun z hz => ?_, h2, by rw [flat1] at h3; exact h3, h4⟩
  have := h1 z hz
  simp [Lit.wf, IntKind.min, IntKind.max, IntKind.signed, IntKind.bits] at this
  omega
end
end Go.Proofs.Ytmojbncbbnjblaa


namespace Go.Proofs.Ytmojbncbbnjblaa
open Go.Abs
set_option linter.unusedVariables false
set_option linter.unusedSimpArgs false
set_option maxHeartbeats 4000000
theorem ovL_top {P : List Int} {N i : Nat} (h : i = P.length ∨ i = N + 1) : ovL P (List.replicate (N + 1) 0) (N + 1) i = topL P N := by
  refine List.ext_getElem (by simp [topL]) fun k h1 h2 => ?_
  have hk : k < N + 1 := by simpa using h1
  have e : (ovL P (List.replicate (N + 1) 0) (N + 1) i)[k]?.getD 0 = (topL P N)[k]?.getD 0 := by
    unfold ovL
    rw [topL_get _ (by omega), tb_get _ hk]
    split
    · rfl
    · rename_i hn
      rw [List.getElem?_eq_none (l := P) (by omega)]
      simp [hk]
  rw [List.getElem?_eq_getElem h1, List.getElem?_eq_getElem h2] at e
  exact e
set_option maxRecDepth 100000 in
theorem FnStabilitySeries_c (c : List Int) (hl : c.length ≤ 9223372036854775807) (hb : ∀ x ∈ c, 0 ≤ x ∧ x ≤ 255) : Con Try.prog 4 [.sl c.length (bys c)] (.bool true) := by
  have cB := big_c c hl
  by_cases hc4 : 4096 < c.length
  · refine con_of_vc Try.mixed ⟨22, [], [2000000 + 20], []⟩ Try.func4 (by decide) rfl (by simp) (by decide) (by simp [freshOK, freshL, go_sem]) ?_
    rw [Try.ntmps4]
    simp [go_sem]
    refine CallVC.of (cB) (by decide) ?_
    simp [go_sem]
    simp [go_sem, hc4]
  · have hc : Byt c := ⟨by omega, hb⟩
    have cD := DrawStabilitySeries_r c hc
    refine con_of_vc Try.mixed ⟨22, [], [2000000 + 20], []⟩ Try.func4 (by decide) rfl (by simp) (by decide) (by simp [freshOK, freshL, go_sem]) ?_
    rw [Try.ntmps4]
    simp [go_sem]
    refine CallVC.of (cB) (by decide) ?_
    simp [go_sem]
    simp [go_sem, hc4]
    refine ⟨_, cD, ?_⟩
    rintro _ _ ⟨rfl, A, B, n, hz, n1, n2, rfl⟩
    obtain ⟨z1, z2, z3⟩ := hz
    have c1 := StabilitySeries_c A B n (by omega) (by omega) (fun r h => by have := z3 r h; omega)
    have c2 := specStabilitySeries_c A B n (by omega) (by omega) (fun r h => by have := z3 r h; omega)
    have c3 := StabilityFraction_c A B (by omega) (fun r h => by have := z3 r h; omega) (by omega)
    unfold stabR at c1 c2
    unfold sfR at c3
    have xl : (stabX A B n).length ≤ 16 := by
      unfold stabX; split
      · simp; omega
      · simp
    simp [go_sem]
    refine CallVC.of (c1) (by decide) ?_
    simp [go_sem]
    refine CallVC.of (c2) (by decide) ?_
    simp [go_sem]
    refine CallVC.of (likeInts_c _ _ (by omega)) (by decide) ?_
    simp [go_sem]
    by_cases hE : stabE A B n = 0
    · have hT : tabB A B = true ∧ 0 ≤ n ∧ n ≤ 15 := by
        unfold stabE at hE
        by_cases h1 : tabB A B = true
        · rw [if_pos h1] at hE
          by_cases h2 : 0 ≤ n ∧ n ≤ 15
          · exact ⟨h1, h2⟩
          · rw [if_neg h2] at hE; simp at hE
        · rw [if_neg h1] at hE; simp at hE
      obtain ⟨N, rfl⟩ : ∃ N : Nat, n = N := ⟨n.toNat, by omega⟩
      have eX : stabX A B N = serL A B N := by unfold stabX; rw [if_pos hT, Int.toNat_natCast]
      have tab := tabB_iff.1 hT.1
      have hq := ser_quo tab N
      have e1 : sfP A B = chL B.length (lesM A B) := by unfold sfP; rw [if_pos hT.1]
      have e2 : sfQ A B = chL B.length A := by unfold sfQ; rw [if_pos hT.1]
      have e3 : sfE A B = 0 := by unfold sfE; rw [if_pos hT.1]
      rw [e1, e2, e3] at c3
      have lP := chL_len B.length (lesM A B)
      have lQ := chL_len B.length A
      have p0 := chL_0 B.length (lesM A B)
      have q0 := chL_0 B.length A
      have nP := chL_N B.length (lesM A B)
      have nQ := chL_N B.length A
      rw [eX]
      generalize chL B.length (lesM A B) = P at *
      generalize chL B.length A = Q at *
      have gP := avs_at (xs := P) (k := 0) (by omega)
      have gQ := avs_at (xs := Q) (k := 0) (by omega)
      rw [p0] at gP
      rw [q0] at gQ
      simp [go_sem, hE]
      have lPi : (P.length : Int) = B.length + 1 := by omega
      have lQi : (Q.length : Int) = P.length := by omega
      have hP0 : 0 < P.length := by omega
      have hQ0 : 0 < Q.length := by omega
      refine CallVC.of (c3) (by decide) ?_
      simp [go_sem]
      simp [go_sem, lPi, lQi, gP, gQ, -getElem?_pos]
      refine ⟨⟨by omega, by omega⟩, ?_⟩
      refine ⟨by kernel_rfl, ⟨by omega, by omega⟩, ⟨by omega, by omega, by omega⟩, ⟨by omega, by omega⟩, ⟨by omega, by omega, by omega⟩, ?_⟩
      refine ⟨by kernel_rfl, ?_⟩
      simp [go_sem]
      refine loop_inv ([12, 13, 14] ++ List.range' 94 25) (fun i : Nat => [(12, .own 2 (N + 1) (avs (ovL P (List.replicate (N + 1) 0) (N + 1) i))), (13, .own 2 (N + 1) (avs (ovL Q (List.replicate (N + 1) 0) (N + 1) i))), (14, .int i)]) (fun i => i ≤ P.length ∧ i ≤ N + 1) (fun i => P.length - i) 0 (by simp) (by simp [go_sem, ovL_zero, avs_repl]) (by simp [go_sem]) ?_
      rintro i ⟨hi1, hi2⟩
      by_cases hiP : i < P.length
      · by_cases hiN : i < N + 1
        · have f1 : (i : Int) < P.length := by omega
          have f2 : (i : Int) ≤ N := by omega
          have a1 := avs_at hiP
          have a2 := avs_at (show i < Q.length by omega)
          have s1 := ovL_set (new := P) (old := List.replicate (N + 1) 0) hiN
          have s2 := ovL_set (new := Q) (old := List.replicate (N + 1) 0) hiN
          have t1 := avs_set (ovL P (List.replicate (N + 1) 0) (N + 1) i) i (P[i]?.getD 0)
          have t2 := avs_set (ovL Q (List.replicate (N + 1) 0) (N + 1) i) i (Q[i]?.getD 0)
          rw [s1] at t1
          rw [s2] at t2
          have l1 := ovL_len P (List.replicate (N + 1) 0) (N + 1) i
          have l2 := ovL_len Q (List.replicate (N + 1) 0) (N + 1) i
          generalize P[i]?.getD 0 = x at *
          generalize Q[i]?.getD 0 = y at *
          generalize ovL P (List.replicate (N + 1) 0) (N + 1) i = O1 at *
          generalize ovL Q (List.replicate (N + 1) 0) (N + 1) i = O2 at *
          simp [go_sem, f1, f2, a1, a2, -getElem?_pos]
          exact ⟨by omega, by omega, by omega, by omega, by omega, ⟨by omega, by omega⟩, i + 1, ⟨by omega, by omega⟩, by omega, Off_reset _ _ _ (by simp), t1, t2, by omega⟩
        · have e : i = N + 1 := by omega
          have f1 : (i : Int) < P.length := by omega
          have f2 : ¬ (i : Int) ≤ N := by omega
          have o1 := ovL_top (P := P) (N := N) (i := i) (.inr e)
          have o2 := ovL_top (P := Q) (N := N) (i := i) (.inr e)
          rw [o1, o2]
          simp [go_sem, f1, f2]
          have tl1 : (topL P N).length = N + 1 := by simp [topL]
          have tl2 : (topL Q N).length = N + 1 := by simp [topL]
          have sl : (serL A B N).length = N + 1 := by simp
          have tn1 : Ns (topL P N) := tb_N fun k _ => nP.get k
          have tn2 : Ns (topL Q N) := tb_N fun k _ => nQ.get k
          have cQ := DivideSeries_c _ _ _ hq tn1 tn2 (by omega) (by omega) (by omega)
          have cL := likeInts_c (serL A B N) (serL A B N) (by omega)
          rw [tl1, tl2] at cQ
          rw [sl] at cL
          simp only [decide_true] at cL
          refine CallVC.of (cQ) (by decide) ?_
          simp [go_sem]
          refine CallVC.of (cL) (by decide) ?_
          simp [go_sem]
          refine loop_inv (2 :: List.range' 17 5 ++ List.range' 133 34) (fun i : Nat => [(17, .int i)]) (fun i => 1 ≤ i ∧ i ≤ N + 1 ∧ i ≤ 9) (fun i => 9 - i) 1 (by omega) (by simp [go_sem]) (by simp [go_sem]) ?_
          rintro i ⟨i1, i2, i3⟩
          by_cases hiN : i ≤ N
          · by_cases hi8 : i ≤ 8
            · have f3 : (i : Int) ≤ N := by omega
              have f4 : (i : Int) ≤ 8 := by omega
              obtain ⟨j, rfl⟩ : ∃ j, i = j + 1 := ⟨i - 1, by omega⟩
              have cT := TallTree_c ((j + 1 : Nat) : Int)
              unfold tall at cT
              rw [if_pos (by omega), Int.toNat_natCast, upTo_tl (j + 1) hi8] at cT
              have cW := WeightOf_c A B tab (tlL (j + 1)) (tlL_Lv (by omega)) (by simp; omega)
              rw [tl_weight tab (n := N) (by omega) (by omega), tlL_len] at cW
              have gS := avs_at (xs := serL A B N) (k := j + 1) (by omega)
              have hjl : j + 1 < (serL A B N).length := by omega
              generalize serL A B N = S at *
              generalize S[j + 1]?.getD 0 = w at *
              generalize hI : j + 1 = I at *
              simp [go_sem, f3, f4]
              refine CallVC.of (cT) (by decide) ?_
              simp [go_sem]
              refine CallVC.of (cW) (by decide) ?_
              simp [go_sem]
              simp [go_sem, gS, -getElem?_pos]
              exact ⟨by omega, ⟨by omega, by omega⟩, I + 1, ⟨by omega, by omega, by omega⟩, by omega, Off_reset _ _ _ (by simp), by omega⟩
            · have f3 : (i : Int) ≤ N := by omega
              have f4 : ¬ (i : Int) ≤ 8 := by omega
              simp [go_sem, f3, f4]
          · have f3 : ¬ (i : Int) ≤ N := by omega
            simp [go_sem, f3]
      · have e : i = P.length := by omega
        have f1 : ¬ (i : Int) < P.length := by omega
        have o1 := ovL_top (P := P) (N := N) (i := i) (.inl e)
        have o2 := ovL_top (P := Q) (N := N) (i := i) (.inl (by omega))
        rw [o1, o2]
        simp [go_sem, f1]
        have tl1 : (topL P N).length = N + 1 := by simp [topL]
        have tl2 : (topL Q N).length = N + 1 := by simp [topL]
        have sl : (serL A B N).length = N + 1 := by simp
        have tn1 : Ns (topL P N) := tb_N fun k _ => nP.get k
        have tn2 : Ns (topL Q N) := tb_N fun k _ => nQ.get k
        have cQ := DivideSeries_c _ _ _ hq tn1 tn2 (by omega) (by omega) (by omega)
        have cL := likeInts_c (serL A B N) (serL A B N) (by omega)
        rw [tl1, tl2] at cQ
        rw [sl] at cL
        simp only [decide_true] at cL
        refine CallVC.of (cQ) (by decide) ?_
        simp [go_sem]
        refine CallVC.of (cL) (by decide) ?_
        simp [go_sem]
        refine loop_inv (2 :: List.range' 17 5 ++ List.range' 133 34) (fun i : Nat => [(17, .int i)]) (fun i => 1 ≤ i ∧ i ≤ N + 1 ∧ i ≤ 9) (fun i => 9 - i) 1 (by omega) (by simp [go_sem]) (by simp [go_sem]) ?_
        rintro i ⟨i1, i2, i3⟩
        by_cases hiN : i ≤ N
        · by_cases hi8 : i ≤ 8
          · have f3 : (i : Int) ≤ N := by omega
            have f4 : (i : Int) ≤ 8 := by omega
            obtain ⟨j, rfl⟩ : ∃ j, i = j + 1 := ⟨i - 1, by omega⟩
            have cT := TallTree_c ((j + 1 : Nat) : Int)
            unfold tall at cT
            rw [if_pos (by omega), Int.toNat_natCast, upTo_tl (j + 1) hi8] at cT
            have cW := WeightOf_c A B tab (tlL (j + 1)) (tlL_Lv (by omega)) (by simp; omega)
            rw [tl_weight tab (n := N) (by omega) (by omega), tlL_len] at cW
            have gS := avs_at (xs := serL A B N) (k := j + 1) (by omega)
            have hjl : j + 1 < (serL A B N).length := by omega
            generalize serL A B N = S at *
            generalize S[j + 1]?.getD 0 = w at *
            generalize hI : j + 1 = I at *
            simp [go_sem, f3, f4]
            refine CallVC.of (cT) (by decide) ?_
            simp [go_sem]
            refine CallVC.of (cW) (by decide) ?_
            simp [go_sem]
            simp [go_sem, gS, -getElem?_pos]
            exact ⟨by omega, ⟨by omega, by omega⟩, I + 1, ⟨by omega, by omega, by omega⟩, by omega, Off_reset _ _ _ (by simp), by omega⟩
          · have f3 : (i : Int) ≤ N := by omega
            have f4 : ¬ (i : Int) ≤ 8 := by omega
            simp [go_sem, f3, f4]
        · have f3 : ¬ (i : Int) ≤ N := by omega
          simp [go_sem, f3]
    · simp [go_sem, hE]
end Go.Proofs.Ytmojbncbbnjblaa

