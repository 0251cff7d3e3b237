/- Texts of the own layer and contracts, part 6: R8 R9 N2 LK L9. -/
import Derived.Test.YtmojbncbbnjblaaM5
namespace Go.Proofs.Ytmojbncbbnjblaa
open Go.Abs
set_option linter.unusedVariables false
set_option linter.unusedSimpArgs false
set_option maxHeartbeats 4000000
def unR (n i : Nat) : List Int := tb (fun c => if c = i then 1 else 0) n
def unM (n : Nat) : List (List Int) := (List.range n).map (unR n)
theorem unR_set {n i : Nat} (h : i < n) : (List.replicate n (0 : Int)).set i 1 = unR n i := by
  refine List.ext_getElem (by simp [unR]) fun c h1 h2 => ?_
  rw [List.getElem_set]
  simp only [unR, tb, List.getElem_map, List.getElem_range]
  by_cases e : i = c
  · subst e; simp
  · rw [if_neg e, if_neg (fun x => e x.symm)]; simp
theorem unM_ok (n : Nat) : (unM n).length = n ∧ Rws n (unM n) := by
  refine ⟨by simp [unM], fun x hx => ?_⟩
  obtain ⟨i, _, rfl⟩ := List.mem_map.1 hx
  exact ⟨by simp [unR], tb_N fun k _ => by split <;> exact ⟨by omega, by omega⟩⟩
theorem unM_row {n i : Nat} (h : i < n) : (unM n)[i]?.getD [] = unR n i := by simp [unM, h]
theorem l19Unit_c (n : Nat) (hn : n ≤ 64) : Con Try.prog 99 [.int n] (.own 27 n (omat (unM n))) := by
  have hd : unM n = (List.range n).map (unR n) := rfl
  rw [hd]
  refine con_of_vc Try.mixed ⟨6, [], [], []⟩ Try.func99 (by decide) rfl (by simp) (by decide) (by simp [freshOK, freshL, go_sem]) ?_
  rw [Try.ntmps99]
  simp [go_sem]
  refine loop_inv ([3, 4, 5] ++ List.range' 7 14) (fun i : Nat => [(3, .own 27 i (omat ((List.range i).map (unR n)))), (4, .int i)]) (fun i => i ≤ n) (fun i => n - i) 0 (by simp) (by simp [go_sem, omat]) (by simp [go_sem]) ?_
  intro i hi
  by_cases hin : i < n
  · have hii : (i : Int) < n := by omega
    have os := omat_range_succ (unR n) i
    have rp := avs_repl n 0
    have rs := unR_set hin
    have ul : (unR n i).length = n := by simp [unR]
    rw [ul] at os
    simp [go_sem, hii, hin, rp]
    exact ⟨⟨by omega, by omega⟩, ⟨by omega, by omega⟩, ⟨by omega, by omega⟩, i + 1, by omega, by omega, Off_reset _ _ _ (by simp), by rw [os, avs_set, rs]; exact ⟨rfl, rfl⟩, by omega⟩
  · have e : i = n := by omega
    subst e
    simp [go_sem]
theorem unlR_is {n : Nat} {a : List (List Int)} {i : Nat} (ha : (a[i]?.getD []).length = n) (z : Nat) :
    tb (fun c => ((unR n i)[c]?.getD 0 + (tb (fun c => (a[i]?.getD [])[c]?.getD 0 * ((0 - (z : Int)) % 10007) % 10007) n)[c]?.getD 0) % 10007) n = unlR n a z i := by
  unfold unlR tb
  refine List.map_congr_left fun c hc => ?_
  have hc : c < n := by simpa using hc
  have e1 : (unR n i)[c]?.getD 0 = if c = i then 1 else 0 := tb_get (fun c => if c = i then 1 else 0) hc
  have e2 := tb_get (fun c => (a[i]?.getD [])[c]?.getD 0 * ((0 - (z : Int)) % 10007) % 10007) hc
  unfold tb at e2
  rw [e1, e2]
theorem unlL_row {n : Nat} {a : List (List Int)} {z i : Nat} (h : i < n) : (unlL n a z)[i]?.getD [] = unlR n a z i := by simp [unlL, h]
theorem interp_X {n : Nat} (h8 : n ≤ 8) (a : List (List Int)) : solX (n + 1) (vanL n) (valL n a) = chL n a := by
  unfold solX
  rw [if_neg (van_ne h8)]
  refine List.ext_getElem (by simp) fun k h1 h2 => ?_
  have hk : k < n + 1 := by simpa using h2
  have e := interp_is h8 a k hk
  simp only [tb, List.getElem_map, List.getElem_range]
  show sysF (n + 1) (vanL n) (valL n a) k = _
  unfold sysF
  rw [e, List.getElem?_eq_getElem h2]; rfl
set_option maxRecDepth 100000 in
theorem l19Det_c {n : Nat} (a : List (List Int)) (h8 : n ≤ 8) (hl : a.length = n) (hr : Rws n a) : Con Try.prog 155 [.sl a.length (mat a)] (.own 2 (n + 1) (avs (chL n a))) := by
  have cU := l19Unit_c n (by omega)
  have cS := l01Solve_c (n := n + 1) (vanL n) (valL n a) (vanL_len n) (by omega) (vanL_ok n) (valL_N n a) (by simp [valL])
  have vl : (valL n a).length = n + 1 := by simp [valL]
  have ie := interp_X h8 a
  unfold solR at cS
  rw [ie, vanL_len, vl, chL_len] at cS
  have hv : vanL n = (List.range (n + 1)).map fun (z : Nat) => tb (fun k => pw (z : Int) (k : Int)) (n + 1) := rfl
  have hw : valL n a = tb (fun z => ldet n (unlL n a z)) (n + 1) := rfl
  refine con_of_vc Try.mixed ⟨13, [], [], []⟩ Try.func155 (by decide) rfl (by simp) (by decide) (by simp [freshOK, freshL, go_sem]) ?_
  rw [Try.ntmps155]
  simp [go_sem]
  simp [go_sem, hl]
  refine loop_inv ([4, 5, 6, 7, 8, 9, 10] ++ List.range' 17 48) (fun z : Nat => [(4, .own 27 z (omat ((List.range z).map fun (z : Nat) => tb (fun k => pw (z : Int) (k : Int)) (n + 1)))), (5, .own 2 z (avs (tb (fun z => ldet n (unlL n a z)) z))), (6, .int z)]) (fun z => z ≤ n + 1) (fun z => n + 1 - z) 0 (by simp) (by simp [go_sem, omat]) (by simp [go_sem]) ?_
  intro z hz
  by_cases hzn : z ≤ n
  · have hzi : (z : Int) ≤ n := by omega
    have uo := unlL_ok n a z
    have cD := l01Det_c n (unlL n a z) uo.1 (by omega) uo.2
    rw [uo.1] at cD
    have dN := ldet_isN n (unlL n a z) uo.1 uo.2
    have ts := tb_succ (fun z => ldet n (unlL n a z)) z
    have os := omat_range_succ (fun (z : Nat) => tb (fun k => pw (z : Int) (k : Int)) (n + 1)) z
    rw [tb_len] at os
    have uM := unM_ok n
    have ur := fun i (h : i < n) => unlL_row (a := a) (z := z) h
    generalize hU : unlL n a z = U at *
    simp [go_sem, hzi, hzn]
    refine CallVC.of (cU) (by decide) ?_
    simp [go_sem]
    refine loop_inv ([8] ++ List.range' 24 20 ++ [7]) (fun i : Nat => [(7, .own 27 n (omat (mxR (unM n) U i))), (8, .int i)]) (fun i => i ≤ n) (fun i => n - i) 0 (by simp) (by simp [go_sem, mxR_zero]) (by simp [go_sem, omat_kl]) ?_
    intro i hi
    by_cases hin : i < n
    · have hii : (i : Int) < n := by omega
      have hia : i < a.length := by omega
      have ane : ¬ a = [] := by rintro rfl; simp at hia
      have hg := omat_get (A := mxR (unM n) U i) (k := i) (by rw [mxR_len (by omega) (by omega)]; omega)
      have Ml := mxR_len (A := unM n) (C := U) (by omega) (show i ≤ (unM n).length by omega)
      have hgi : (mxR (unM n) U i)[i]?.getD [] = unR n i := by rw [mxR_get (by omega) (by omega), if_neg (by omega), unM_row hin]
      rw [hgi] at hg
      have hset := omat_set (mxR (unM n) U i) i (U[i]?.getD [])
      rw [mxR_set (by omega) (by omega), ur i hin] at hset
      have ul : (unR n i).length = n := by simp [unR]
      have rl : (unlR n a z i).length = n := by simp [unlR]
      have ri := hr.at hia
      have uN : Ns (unR n i) := by rw [← unM_row hin]; exact (uM.2.at (by omega)).2
      have hRi := unlR_is ri.1 z
      have cT := l02Times_c (a[i]?.getD []) ((0 - (z : Int)) % 10007) ri.2 (isN_mod _) (by omega)
      have cA := l02Add_c (unR n i) (tb (fun c => (a[i]?.getD [])[c]?.getD 0 * ((0 - (z : Int)) % 10007) % 10007) n) uN (tb_N fun k _ => isN_mod _) (by omega) (by rw [ul, tb_len]; omega)
      rw [ri.1] at cT
      rw [ul, tb_len, hRi] at cA
      rw [rl] at hset
      generalize tb (fun c => (a[i]?.getD [])[c]?.getD 0 * ((0 - (z : Int)) % 10007) % 10007) n = tt at *
      generalize mxR (unM n) U i = M at *
      generalize unlR n a z i = new at *
      generalize unR n i = old at *
      have f1 := sub_fits (show isN 0 from ⟨by omega, by omega⟩) (show isN (z : Int) from ⟨by omega, by omega⟩)
      rw [ul] at hg
      rw [Int.zero_sub] at cT
      rw [← ri.1] at cT
      simp [go_sem, hii, hg, mat_drop hia]
      refine ⟨by kernel_rfl, ane, ?_⟩
      have cA2 : Con Try.prog 126 [.sl n (avs old), .sl (a[i]?.getD []).length (avs tt)] (.own 2 n (avs new)) := by rw [ri.1]; exact cA
      refine CallD.of (l01Sub_c _ _ f1) (by simp [roots, rootsL]) (by decide) ?_
      simp [go_sem]
      refine CallD.of (cT) (by simp [roots, rootsL]) (by decide) ?_
      simp [go_sem]
      simp [go_sem, hg]
      refine CallD.of (cA2) (by simp [roots, rootsL]) (by decide) ?_
      simp [go_sem]
      refine ⟨by omega, by omega, ?_⟩
      refine ⟨by kernel_rfl, ?_⟩
      simp [go_sem]
      exact ⟨by omega, i + 1, by omega, by omega, Off_reset _ _ _ (by simp), by rw [← hset], by omega⟩
    · have e : n = i := by omega
      subst e
      have hii : ¬ (n : Int) < n := by omega
      have hall := mxR_all (A := unM n) (C := U) (by omega)
      rw [uM.1] at hall
      rw [hall]
      simp [go_sem, hii]
      refine CallVC.of (cD) (by decide) ?_
      simp [go_sem]
      refine ⟨⟨by omega, by omega⟩, ?_⟩
      have zN : isN (z : Int) := ⟨by omega, by omega⟩
      refine loop_inv ([9, 10] ++ List.range' 50 11) (fun k : Nat => [(9, .own 2 k (avs (tb (fun k => pw (z : Int) (k : Int)) k))), (10, .int k)]) (fun k => k ≤ n + 1) (fun k => n + 1 - k) 0 (by simp) (by simp [go_sem]) (by simp [go_sem]) ?_
      intro k hk
      by_cases hkn : k ≤ n
      · have hki : (k : Int) ≤ n := by omega
        have ps := tb_succ (fun k => pw (z : Int) (k : Int)) k
        simp [go_sem, hki, hkn]
        refine CallVC.of (l01Pow_c _ _ zN (by omega) (by omega)) (by decide) ?_
        simp [go_sem]
        exact ⟨⟨by omega, by omega⟩, ⟨by omega, by omega⟩, k + 1, by omega, by omega, Off_reset _ _ _ (by simp), by rw [ps, avs_snoc]; exact ⟨rfl, rfl⟩, by omega⟩
      · have e : k = n + 1 := by omega
        subst e
        have hki : ¬ ((n : Int) + 1) ≤ n := by omega
        simp [go_sem, hki]
        exact ⟨⟨by omega, by omega⟩, ⟨by omega, by omega⟩, z + 1, by omega, by omega, (by repeat (first | exact Off_reset _ _ _ (by simp) | (refine Off.reset (by intro x hx; simp at hx ⊢; omega) (by simp) ?_; simp -failIfUnchanged [go_sem, Off_reset]))), by rw [os]; exact ⟨rfl, rfl⟩, by rw [ts, avs_snoc]; exact ⟨rfl, rfl⟩, by omega⟩
  · have e : z = n + 1 := by omega
    subst e
    have hzi : ¬ ((n : Int) + 1) ≤ n := by omega
    rw [← hv, ← hw]
    simp [go_sem, hzi]
    refine CallVC.of (cS) (by decide) ?_
    simp [go_sem]
end Go.Proofs.Ytmojbncbbnjblaa


namespace Go.Proofs.Ytmojbncbbnjblaa
open Go.Abs
set_option linter.unusedVariables false
set_option linter.unusedSimpArgs false
set_option maxHeartbeats 4000000
def lesM (A : List (List Int)) (B : List Int) : List (List Int) := (List.range A.length).map fun i => plusS (A[i]?.getD []) B (-1)
theorem Tab.rws {A : List (List Int)} {B : List Int} (h : Tab A B) : Rws B.length A := h.a
theorem lesM_ok {A : List (List Int)} {B : List Int} (h : Tab A B) : (lesM A B).length = B.length ∧ Rws B.length (lesM A B) := by
  refine ⟨by simp [lesM, h.len], fun x hx => ?_⟩
  obtain ⟨i, hi, rfl⟩ := List.mem_map.1 hx
  exact ⟨by rw [plusS_len]; exact (h.rws.at (show i < A.length by simpa using hi)).1, plusS_N _ _ _⟩
theorem les_row {a b : List Int} (hl : a.length = b.length) : tb (fun i => (a[i]?.getD 0 + (tb (fun i => b[i]?.getD 0 * 10006 % 10007) b.length)[i]?.getD 0) % 10007) a.length = plusS a b (-1) := by
  unfold plusS
  rw [show (-1 : Int) % 10007 = 10006 by decide]
  have : ∀ i, i < a.length → (a[i]?.getD 0 + (tb (fun i => b[i]?.getD 0 * 10006 % 10007) b.length)[i]?.getD 0) % 10007 = (a[i]?.getD 0 + 10006 * b[i]?.getD 0) % 10007 := fun i hi => by
    rw [tb_get _ (show i < b.length by omega), Int.mul_comm 10006]
    omega
  unfold tb at this ⊢
  exact List.map_congr_left fun i hi => this i (by simpa using hi)
set_option maxRecDepth 100000 in
theorem fraction_c (A : List (List Int)) (B : List Int) (h : Tab A B) : Con Try.prog 78 [.agg [.sl A.length (mat A), .sl B.length (avs B)]]
    (.tup [.own 2 (B.length + 1) (avs (chL B.length (lesM A B))), .own 2 (B.length + 1) (avs (chL B.length A))]) := by
  have b1 := h.pos
  have b8 := h.le
  have ab := h.len
  have rw1 := h.rws
  have lo := lesM_ok h
  have c1 := unitLess_c (n := B.length) (lesM A B) (by omega) b8 lo.1 lo.2
  have c2 := unitLess_c (n := B.length) A (by omega) b8 ab rw1
  have c1 : Con Try.prog 142 [.sl A.length (mat (lesM A B))] (.own 2 (B.length + 1) (avs (chL B.length (lesM A B)))) := by rw [lo.1] at c1; rw [ab]; exact c1
  have hd : lesM A B = (List.range A.length).map fun i => plusS (A[i]?.getD []) B (-1) := rfl
  have bN := h.b
  refine con_of_vc Try.mixed ⟨7, [], [], []⟩ Try.func78 (by decide) rfl (by simp) (by decide) (by simp [freshOK, freshL, go_sem]) ?_
  rw [Try.ntmps78]
  simp [go_sem]
  refine loop_inv ([4, 6] ++ List.range' 11 12) (fun i : Nat => [(4, .own 27 i (omat ((List.range i).map fun i => plusS (A[i]?.getD []) B (-1)))), (11, .int i)]) (fun i => i ≤ A.length) (fun i => A.length - i) 0 (by simp) (by simp [go_sem, omat]) (by simp [go_sem]) ?_
  intro i hi
  by_cases hin : i < A.length
  · have hii : (i : Int) < A.length := by omega
    have ri := rw1.at hin
    have ane : ¬ A = [] := by rintro rfl; simp at hin
    have cP := plus_c (A[i]?.getD []) B (-1) ri.2 bN ⟨by omega, by omega⟩ (by omega) (by omega)
    have os := omat_range_succ (fun i => plusS (A[i]?.getD []) B (-1)) i
    rw [plusS_len] at os
    simp [go_sem, hii, mat_drop hin]
    refine ⟨ane, ?_⟩
    refine CallVC.of (cP) (by decide) ?_
    simp [go_sem]
    exact ⟨⟨by omega, by omega⟩, by omega, i + 1, by omega, by omega, Off_reset _ _ _ (by simp), by rw [os]; exact ⟨rfl, rfl⟩, by omega⟩
  · have e : i = A.length := by omega
    subst e
    rw [← hd]
    simp [go_sem]
    refine ⟨by kernel_rfl, ?_⟩
    refine CallD.of (c1) (by simp [roots, rootsL]) (by decide) ?_
    simp [go_sem]
    refine CallD.of (c2) (by simp [roots, rootsL]) (by decide) ?_
    simp [go_sem]
    refine ⟨by kernel_rfl, ?_⟩
    simp [go_sem]
set_option maxRecDepth 100000 in
theorem l10Inverse_c (A : List (List Int)) (B : List Int) (h : Tab A B) : Con Try.prog 156 [.agg [.sl A.length (mat A), .sl B.length (avs B)]]
    (.agg [.own 27 B.length (omat (lesM A B)), .own 2 B.length (avs (tb (fun i => B[i]?.getD 0 * 10006 % 10007) B.length))]) := by
  have b1 := h.pos
  have b8 := h.le
  have ab := h.len
  have rw1 := h.rws
  have hd : lesM A B = (List.range A.length).map fun i => plusS (A[i]?.getD []) B (-1) := rfl
  have bN := h.b
  have cT := l02Times_c B 10006 bN ⟨by omega, by omega⟩ (by omega)
  have les := fun (a : List Int) (hl : a.length = B.length) => les_row (a := a) (b := B) hl
  have zN : Ns (tb (fun i => B[i]?.getD 0 * 10006 % 10007) B.length) := tb_N fun k _ => isN_mod _
  have zl : (tb (fun i => B[i]?.getD 0 * 10006 % 10007) B.length).length = B.length := by simp
  generalize tb (fun i => B[i]?.getD 0 * 10006 % 10007) B.length = Z at *
  refine con_of_vc Try.mixed ⟨5, [], [], []⟩ Try.func156 (by decide) rfl (by simp) (by decide) (by simp [freshOK, freshL, go_sem]) ?_
  rw [Try.ntmps156]
  simp [go_sem]
  refine CallVC.of (cT) (by decide) ?_
  simp [go_sem]
  refine loop_inv ([3, 4] ++ List.range' 9 20) (fun i : Nat => [(3, .box 45 [if i = 0 then .val (.slice none 0 0) else .own 27 i (omat ((List.range i).map fun i => plusS (A[i]?.getD []) B (-1))), .own 2 B.length (avs Z)]), (4, .int i)]) (fun i => i ≤ A.length) (fun i => A.length - i) 0 (by simp) (by simp [go_sem]) (by simp [go_sem]) ?_
  intro i hi
  by_cases hin : i < A.length
  · have hii : (i : Int) < A.length := by omega
    have ri := rw1.at hin
    have ane : ¬ A = [] := by rintro rfl; simp at hin
    have cA := l02Add_c (A[i]?.getD []) Z ri.2 zN (by omega) (by omega)
    rw [les _ ri.1, zl] at cA
    have os := omat_range_succ (fun i => plusS (A[i]?.getD []) B (-1)) i
    rw [plusS_len] at os
    by_cases h0 : i = 0
    · have ox : omat ((List.range (i + 1)).map fun i => plusS (A[i]?.getD []) B (-1)) = [.own 2 (A[i]?.getD []).length (avs (plusS (A[i]?.getD []) B (-1)))] := by rw [os, h0]; simp [omat]
      rw [if_pos h0]
      simp [go_sem, hii, mat_drop hin]
      refine ⟨by kernel_rfl, ane, ?_⟩
      refine CallD.of (cA) (by simp [roots, rootsL]) (by decide) ?_
      simp [go_sem]
      refine ⟨by kernel_rfl, ?_⟩
      simp [go_sem]
      exact ⟨by omega, i + 1, by omega, by omega, Off_reset _ _ _ (by simp), by rw [if_neg (by omega), ox, h0], by omega⟩
    · rw [if_neg h0]
      simp [go_sem, hii, mat_drop hin]
      refine ⟨by kernel_rfl, ane, ?_⟩
      refine CallD.of (cA) (by simp [roots, rootsL]) (by decide) ?_
      simp [go_sem]
      refine ⟨⟨by omega, by omega⟩, ?_⟩
      refine ⟨by kernel_rfl, ?_⟩
      simp [go_sem]
      exact ⟨by omega, i + 1, by omega, by omega, Off_reset _ _ _ (by simp), by rw [if_neg (by omega), os], by omega⟩
  · have e : i = A.length := by omega
    subst e
    rw [← hd, if_neg (show ¬ A.length = 0 by omega)]
    simp [go_sem]
    exact ab
set_option maxRecDepth 100000 in
theorem l19Fraction_c (A : List (List Int)) (B : List Int) (h : Tab A B) : Con Try.prog 90 [.agg [.sl A.length (mat A), .sl B.length (avs B)]]
    (.tup [.own 2 (B.length + 1) (avs (chL B.length (lesM A B))), .own 2 (B.length + 1) (avs (chL B.length A))]) := by
  have lo := lesM_ok h
  have c0 := l10Inverse_c A B h
  have c1 := l19Det_c (n := B.length) (lesM A B) h.le lo.1 lo.2
  have c2 := l19Det_c (n := B.length) A h.le h.len h.rws
  rw [lo.1] at c1
  generalize tb (fun i => B[i]?.getD 0 * 10006 % 10007) B.length = Z at *
  refine con_of_vc Try.mixed ⟨4, [], [], []⟩ Try.func90 (by decide) rfl (by simp) (by decide) (by simp [freshOK, freshL, go_sem]) ?_
  rw [Try.ntmps90]
  simp [go_sem]
  refine ⟨by kernel_rfl, ?_⟩
  refine CallD.of (c0) (by simp [roots, rootsL]) (by decide) ?_
  simp [go_sem]
  refine CallD.of (c1) (by simp [roots, rootsL]) (by decide) ?_
  simp [go_sem]
  refine CallD.of (c2) (by simp [roots, rootsL]) (by decide) ?_
  simp [go_sem]
  refine ⟨by kernel_rfl, ?_⟩
  simp [go_sem]
end Go.Proofs.Ytmojbncbbnjblaa


namespace Go.Proofs.Ytmojbncbbnjblaa
open Go.Abs
set_option linter.unusedVariables false
set_option linter.unusedSimpArgs false
set_option maxHeartbeats 4000000
theorem RepL_avs {P : Program} {w : World} {F : Nat → Prop} : ∀ {zs : List Int} {vs : List Value} {os : List Nat}, RepL P w F (avs zs) vs os → ∀ j, j < zs.length → vs[j]? = some (.int .i64 (zs[j]?.getD 0))
  | [], _, _, _, j, hj => by simp at hj
  | z :: zs, vs, os, h, j, hj => by
    have e : avs (z :: zs) = .val (.int .i64 z) :: avs zs := rfl
    rw [e] at h
    cases h with
    | cons c v o cs vs os' h t =>
      cases h with
      | val _ _ =>
        cases j with
        | zero => rfl
        | succ j => exact RepL_avs t j (by simpa using hj)
theorem back_list {zs : List Int} (hN : Ns zs) : (upto (bkF hN zs.length) zs.length).map (·.2.1) = zs.reverse := by
  refine List.ext_getElem (by simp [upto]) fun k h1 h2 => ?_
  have hk : k < zs.length := by simpa using h2
  have h3 : zs.length - 1 - k < zs.length := by omega
  simp [upto, bkF, h3]
theorem valueOfPolynomial_c (zs : List Int) (z : Int) (h1 : 1 ≤ zs.length) (h2 : zs.length ≤ 1000) (hN : Ns zs) (hz : isN z) :
    Con Try.prog 95 [.sl zs.length (avs zs), .int z] (.int (hor z zs.reverse)) := by
  refine ⟨⟨_, Try.func95, by decide, rfl⟩, fun w vs hl ha => ?_⟩
  have k := ha (fun _ => undef) (fun _ => [])
  generalize hoz : ([] : List Nat) = oz at k
  cases k with
  | cons c v o cs vs os hc ht =>
    cases ht with
    | cons c2 v2 o2 cs2 vs2 os2 hc2 ht2 =>
      have e2 : vs2 = [] := by simpa using hl
      subst e2
      cases hc2 with
      | cell _ _ _ hc2 =>
        cases hc2 with
        | val _ _ =>
          generalize hn : zs.length = n at hc
          generalize hcs : avs zs = ac at hc
          cases hc with
          | cell _ _ _ hc =>
            cases hc with
            | sl0 base cap => omega
            | sl b off n cap cc e fr cs hF hb hlr hn2 =>
              subst hn; subst hcs
              have cells : ∀ j, j < zs.length → w.cell? ⟨b, off + j, none⟩ = some (.int .i64 (zs[j]?.getD 0)) := fun j hj => by
                have := RepL_avs hlr j hj
                rw [List.getElem?_drop, Array.getElem?_toList] at this
                simp [World.cell?, hb, this]
              refine (valueOfPolynomial_calls zs z b off cap w (by omega) hF cells hN hz).mono ?_
              rintro e w' ⟨rfl, hB⟩
              rw [back_list]
              exact ⟨_, [], rfl, ⟨hB.os, hB.tape, hB.output, hB.size, hB.block, by unfold dK; omega⟩, fun tm oss => .cell _ _ _ (.val _ rfl), List.nodup_nil, by simp⟩
def atS (z : Int) (p : List Int) : Nat → Int
  | 0 => 0
  | k + 1 => (atS z p k + p[k]?.getD 0 * pw z k % 10007) % 10007
theorem atS_N (z : Int) (p : List Int) : ∀ k, isN (atS z p k)
  | 0 => ⟨by simp [atS], by simp [atS]⟩
  | k + 1 => isN_mod _
theorem hor_dsum (z : Int) : ∀ l : List Int, hor z l.reverse % 10007 = dsum (fun i => l[i]?.getD 0 * z ^ i) l.length % 10007
  | [] => rfl
  | a :: l => by
    have ih := hor_dsum z l
    rw [List.reverse_cons, hor_snoc, List.length_cons, dsum_shift, Int.emod_emod_of_dvd _ (Int.dvd_refl _)]
    have e : dsum (fun i => (a :: l)[i + 1]?.getD 0 * z ^ (i + 1)) l.length = z * dsum (fun i => l[i]?.getD 0 * z ^ i) l.length := by
      rw [dsum_mul]
      refine dsum_congr fun i _ => ?_
      rw [Int.pow_succ]
      show l[i]?.getD 0 * (z ^ i * z) = z * (l[i]?.getD 0 * z ^ i)
      ac_rfl
    rw [e]
    show _ = (a * z ^ 0 + _) % 10007
    rw [Int.pow_zero, Int.mul_one, Int.add_comm a, Int.add_emod, Int.mul_comm, Int.mul_emod, ih, ← Int.mul_emod, ← Int.add_emod]
theorem at_dsum (z : Int) (p : List Int) : ∀ k, atS z p k % 10007 = dsum (fun i => p[i]?.getD 0 * z ^ i) k % 10007
  | 0 => rfl
  | k + 1 => by
    have ih := at_dsum z p k
    rw [atS, dsum, Int.emod_emod_of_dvd _ (Int.dvd_refl _), Int.add_emod, ih, Int.emod_emod_of_dvd _ (Int.dvd_refl _)]
    have e : p[k]?.getD 0 * pw z k % 10007 = p[k]?.getD 0 * z ^ k % 10007 := by
      unfold pw
      rw [Int.toNat_natCast, mul_mod_r]
    rw [e, ← Int.add_emod]
theorem at_hor (z : Int) (p : List Int) : hor z p.reverse = atS z p p.length := by
  have h1 := hor_dsum z p
  rw [← at_dsum] at h1
  have n1 := hor_N z p.reverse
  have n2 := atS_N z p p.length
  have := n1.1; have := n1.2; have := n2.1; have := n2.2
  omega
set_option maxRecDepth 100000 in
theorem l19At_c (p : List Int) (z : Int) (hp : p.length ≤ 1000) (hN : Ns p) (hz : isN z) : Con Try.prog 91 [.sl p.length (avs p), .int z] (.int (atS z p p.length)) := by
  refine con_of_vc Try.mixed ⟨7, [], [], []⟩ Try.func91 (by decide) rfl (by simp) (by decide) (by simp [freshOK, freshL, go_sem]) ?_
  rw [Try.ntmps91]
  simp [go_sem]
  refine loop_inv ([5, 6] ++ List.range' 7 16) (fun k : Nat => [(5, .int (atS z p k)), (6, .int k)]) (fun k => k ≤ p.length) (fun k => p.length - k) 0 (by simp) (by simp [go_sem, atS]) (by simp [go_sem]) ?_
  intro k hk
  by_cases hkp : k < p.length
  · have hki : (k : Int) < p.length := by omega
    have dk := avs_drop hkp
    rw [List.getD_eq_getElem?_getD] at dk
    have np := hN.get k
    have ne : ¬ p = [] := by rintro rfl; simp at hkp
    have cP := l01Pow_c z k hz (by omega) (by omega)
    have hw : isN (pw z k) := isN_mod _
    have fm := mul_fits np hw
    have cM := l01Mul_c _ _ fm
    have ns := atS_N z p k
    have nm : isN (p[k]?.getD 0 * pw z k % 10007) := isN_mod _
    have fa := add_fits ns nm
    have cA := l01Add_c _ _ fa
    have ea : atS z p (k + 1) = (atS z p k + p[k]?.getD 0 * pw z k % 10007) % 10007 := rfl
    rw [← ea] at cA
    generalize atS z p k = s at *
    generalize hs' : atS z p (k + 1) = s' at *
    simp [go_sem, hki, dk]
    refine ⟨by kernel_rfl, ne, ?_⟩
    refine CallD.of (cP) (by simp [roots, rootsL]) (by decide) ?_
    simp [go_sem]
    refine CallD.of (cM) (by simp [roots, rootsL]) (by decide) ?_
    simp [go_sem]
    refine CallD.of (cA) (by simp [roots, rootsL]) (by decide) ?_
    simp [go_sem]
    refine ⟨by kernel_rfl, ?_⟩
    simp [go_sem]
    exact ⟨⟨by omega, by omega⟩, k + 1, by omega, by omega, Off_reset _ _ _ (by simp), hs'.symm, by omega⟩
  · have e : k = p.length := by omega
    simp [go_sem, e]
def saB (A : List (List Int)) (B : List Int) (z : Int) : Int := hor z (chL B.length A).reverse
def saE (A : List (List Int)) (B : List Int) (z : Int) : Int := if tabB A B = true then (if 0 ≤ z ∧ z ≤ 10006 then (if saB A B z = 0 then 5 else 0) else 2) else 1
def saX (A : List (List Int)) (B : List Int) (z : Int) : Int := if saE A B z = 0 then hor z (chL B.length (lesM A B)).reverse * pw (saB A B z) 10005 % 10007 else 0
def saR (A : List (List Int)) (B : List Int) (z : Int) : AV := .tup [.int (saX A B z), .int (saE A B z)]
set_option maxRecDepth 100000 in
theorem StabilityAt_c (A : List (List Int)) (B : List Int) (z : Int) (hA : A.length ≤ 1048576) (hr : ∀ r ∈ A, r.length ≤ 1048576) (hB : B.length ≤ 1048576) :
    Con Try.prog 35 [.agg [.sl A.length (mat A), .sl B.length (avs B)], .int z] (saR A B z) := by
  have cI := IsTableau_c A B (by omega) (by omega) (fun r h => by have := hr r h; omega)
  have cN := IsNumber_c z
  unfold saR saX saE
  by_cases h : tabB A B = true
  · have hT := tabB_iff.1 h
    rw [h] at cI
    by_cases hz : 0 ≤ z ∧ z ≤ 10006
    · have zN : isN z := ⟨hz.1, by omega⟩
      rw [decide_eq_true hz] at cN
      have cF := fraction_c A B hT
      have b8 := hT.le
      have cQ := valueOfPolynomial_c (chL B.length A) z (by simp) (by simp; omega) (chL_N _ _) zN
      have cP := valueOfPolynomial_c (chL B.length (lesM A B)) z (by simp) (by simp; omega) (chL_N _ _) zN
      rw [chL_len] at cQ cP
      have nQ := hor_N z (chL B.length A).reverse
      have nP := hor_N z (chL B.length (lesM A B)).reverse
      have cV := inv_c _ nQ
      have hw : isN (pw (hor z (chL B.length A).reverse) 10005) := isN_mod _
      have fm := mul_fits nP hw
      have cM := num_c _ fm.1 fm.2
      have hs : saB A B z = hor z (chL B.length A).reverse := rfl
      rw [if_pos h, if_pos hz, hs]
      generalize hor z (chL B.length A).reverse = q at *
      generalize hor z (chL B.length (lesM A B)).reverse = p at *
      by_cases q0 : q = 0
      · rw [if_pos q0]
        refine con_of_vc Try.mixed ⟨9, [], [], []⟩ Try.func35 (by decide) rfl (by simp) (by decide) (by simp [freshOK, freshL, go_sem]) ?_
        rw [Try.ntmps35]
        simp [go_sem]
        refine CallVC.of (cI) (by decide) ?_
        simp [go_sem]
        refine CallVC.of (cN) (by decide) ?_
        simp [go_sem]
        refine CallVC.of (cF) (by decide) ?_
        simp [go_sem]
        refine CallVC.of (cQ) (by decide) ?_
        simp [go_sem]
        simp [go_sem, q0]
      · rw [if_neg q0]
        refine con_of_vc Try.mixed ⟨9, [], [], []⟩ Try.func35 (by decide) rfl (by simp) (by decide) (by simp [freshOK, freshL, go_sem]) ?_
        rw [Try.ntmps35]
        simp [go_sem]
        refine CallVC.of (cI) (by decide) ?_
        simp [go_sem]
        refine CallVC.of (cN) (by decide) ?_
        simp [go_sem]
        refine CallVC.of (cF) (by decide) ?_
        simp [go_sem]
        refine CallVC.of (cQ) (by decide) ?_
        simp [go_sem]
        simp [go_sem, q0]
        refine CallVC.of (cP) (by decide) ?_
        simp [go_sem]
        refine CallVC.of (cV) (by decide) ?_
        simp [go_sem]
        refine ⟨fm, ?_⟩
        refine CallVC.of (cM) (by decide) ?_
        simp [go_sem]
    · rw [decide_eq_false hz] at cN
      rw [if_pos h, if_neg hz]
      refine con_of_vc Try.mixed ⟨9, [], [], []⟩ Try.func35 (by decide) rfl (by simp) (by decide) (by simp [freshOK, freshL, go_sem]) ?_
      rw [Try.ntmps35]
      simp [go_sem]
      refine CallVC.of (cI) (by decide) ?_
      simp [go_sem]
      refine CallVC.of (cN) (by decide) ?_
      simp [go_sem]
  · have hf : tabB A B = false := by simpa using h
    rw [hf] at cI
    rw [if_neg h]
    refine con_of_vc Try.mixed ⟨9, [], [], []⟩ Try.func35 (by decide) rfl (by simp) (by decide) (by simp [freshOK, freshL, go_sem]) ?_
    rw [Try.ntmps35]
    simp [go_sem]
    refine CallVC.of (cI) (by decide) ?_
    simp [go_sem]
set_option maxRecDepth 100000 in
theorem specStabilityAt_c (A : List (List Int)) (B : List Int) (z : Int) (hA : A.length ≤ 1048576) (hr : ∀ r ∈ A, r.length ≤ 1048576) (hB : B.length ≤ 1048576) :
    Con Try.prog 33 [.agg [.sl A.length (mat A), .sl B.length (avs B)], .int z] (saR A B z) := by
  have cI := l09Is_c A B (by omega) (by omega) (fun r h => by have := hr r h; omega)
  have cN := specIsNumber_c z
  unfold saR saX saE
  by_cases h : tabB A B = true
  · have hT := tabB_iff.1 h
    rw [h] at cI
    by_cases hz : 0 ≤ z ∧ z ≤ 10006
    · have zN : isN z := ⟨hz.1, by omega⟩
      rw [decide_eq_true hz] at cN
      have cF := l19Fraction_c A B hT
      have b8 := hT.le
      have cQ := l19At_c (chL B.length A) z (by simp; omega) (chL_N _ _) zN
      have cP := l19At_c (chL B.length (lesM A B)) z (by simp; omega) (chL_N _ _) zN
      rw [← at_hor, chL_len] at cQ cP
      have nQ := hor_N z (chL B.length A).reverse
      have nP := hor_N z (chL B.length (lesM A B)).reverse
      have cV := l01Inv_c _ nQ
      have hw : isN (pw (hor z (chL B.length A).reverse) 10005) := isN_mod _
      have fm := mul_fits nP hw
      have cM := l01Mul_c _ _ fm
      have hs : saB A B z = hor z (chL B.length A).reverse := rfl
      rw [if_pos h, if_pos hz, hs]
      generalize hor z (chL B.length A).reverse = q at *
      generalize hor z (chL B.length (lesM A B)).reverse = p at *
      by_cases q0 : q = 0
      · rw [if_pos q0]
        refine con_of_vc Try.mixed ⟨9, [], [], []⟩ Try.func33 (by decide) rfl (by simp) (by decide) (by simp [freshOK, freshL, go_sem]) ?_
        rw [Try.ntmps33]
        simp [go_sem]
        refine CallVC.of (cI) (by decide) ?_
        simp [go_sem]
        refine CallVC.of (cN) (by decide) ?_
        simp [go_sem]
        refine CallVC.of (cF) (by decide) ?_
        simp [go_sem]
        refine CallVC.of (cQ) (by decide) ?_
        simp [go_sem]
        simp [go_sem, q0]
      · rw [if_neg q0]
        refine con_of_vc Try.mixed ⟨9, [], [], []⟩ Try.func33 (by decide) rfl (by simp) (by decide) (by simp [freshOK, freshL, go_sem]) ?_
        rw [Try.ntmps33]
        simp [go_sem]
        refine CallVC.of (cI) (by decide) ?_
        simp [go_sem]
        refine CallVC.of (cN) (by decide) ?_
        simp [go_sem]
        refine CallVC.of (cF) (by decide) ?_
        simp [go_sem]
        refine CallVC.of (cQ) (by decide) ?_
        simp [go_sem]
        simp [go_sem, q0]
        refine CallVC.of (cP) (by decide) ?_
        simp [go_sem]
        refine CallVC.of (cV) (by decide) ?_
        simp [go_sem]
        refine CallVC.of (cM) (by decide) ?_
        simp [go_sem]
    · rw [decide_eq_false hz] at cN
      rw [if_pos h, if_neg hz]
      refine con_of_vc Try.mixed ⟨9, [], [], []⟩ Try.func33 (by decide) rfl (by simp) (by decide) (by simp [freshOK, freshL, go_sem]) ?_
      rw [Try.ntmps33]
      simp [go_sem]
      refine CallVC.of (cI) (by decide) ?_
      simp [go_sem]
      refine CallVC.of (cN) (by decide) ?_
      simp [go_sem]
  · have hf : tabB A B = false := by simpa using h
    rw [hf] at cI
    rw [if_neg h]
    refine con_of_vc Try.mixed ⟨9, [], [], []⟩ Try.func33 (by decide) rfl (by simp) (by decide) (by simp [freshOK, freshL, go_sem]) ?_
    rw [Try.ntmps33]
    simp [go_sem]
    refine CallVC.of (cI) (by decide) ?_
    simp [go_sem]
end Go.Proofs.Ytmojbncbbnjblaa


namespace Go.Proofs.Ytmojbncbbnjblaa
open Go.Abs
set_option linter.unusedVariables false
theorem szT_hi {A : List (List Int)} {B : List Int} {left : Int} (h0 : 0 ≤ left) : szT A B left ≤ left := by
  unfold szT
  split
  · omega
  · rename_i h
    have := (szM_ok h0 (by omega : 0 ≤ szM left A)).2.1
    have := szR_le (left := szM left A) (n := (B.length : Int)) (by omega) (by omega)
    omega
end Go.Proofs.Ytmojbncbbnjblaa


namespace Go.Proofs.Ytmojbncbbnjblaa
open Go.Abs
set_option linter.unusedVariables false
set_option linter.unusedSimpArgs false
set_option maxHeartbeats 4000000
set_option maxRecDepth 100000 in
theorem law9_c (A0 : List (List Int)) (B0 : List Int) (z : Int) (hA0 : A0.length ≤ 9223372036854775807) (hr0 : ∀ r ∈ A0, r.length ≤ 9223372036854775807) (hB0 : B0.length ≤ 9223372036854775807) :
    Con Try.prog 6 [.agg [.sl A0.length (mat A0), .sl B0.length (avs B0)], .int z] (.bool true) := by
  refine con_of_vc Try.mixed ⟨11, [], [], []⟩ Try.func6 (by decide) rfl (by simp) (by decide) (by simp [freshOK, freshL, go_sem]) ?_
  rw [Try.ntmps6]
  simp [go_sem]
  have cS0 := szTableau_c A0 B0 (1048576) hA0 hr0 hB0 (by omega) (by omega)
  refine CallVC.of (cS0) (by decide) ?_
  simp [go_sem]
  by_cases hs0 : szT A0 B0 (1048576) < 0
  · simp [go_sem, hs0]
  simp [go_sem, hs0]
  have hc0 := szT_ok (A := A0) (B := B0) (left := 1048576) (by omega) (by omega)
  have hh0 := szT_hi (A := A0) (B := B0) (left := 1048576) (by omega)
  generalize hL0 : szT A0 B0 (1048576) = L0 at *
  have A0l : A0.length ≤ 1048576 := by omega
  have A0r : ∀ r ∈ A0, r.length ≤ 1048576 := fun r hr => by have := hc0.2 r hr; omega
  have B0l : B0.length ≤ 1048576 := by omega
  have cT0 := toTableau_c A0 B0 A0l A0r B0l
  have cQ0 := eqTableau_c A0 A0 B0 B0 hA0 hr0 hB0
  simp at cQ0
  have cSp := specStabilityAt_c A0 B0 z A0l A0r B0l
  have cIm := StabilityAt_c A0 B0 z A0l A0r B0l
  unfold saR at cSp cIm
  generalize saX A0 B0 z = x at cSp cIm
  generalize saE A0 B0 z = e at cSp cIm
  refine CallVC.of (cT0) (by decide) ?_
  simp [go_sem]
  refine CallVC.of (cSp) (by decide) ?_
  simp [go_sem]
  refine CallVC.of (cT0) (by decide) ?_
  simp [go_sem]
  refine CallVC.of (cIm) (by decide) ?_
  simp [go_sem]
  refine ⟨by kernel_rfl, ?_⟩
  refine CallD.of (cT0) (by simp [roots, rootsL]) (by decide) ?_
  simp [go_sem]
  refine CallD.of (cQ0) (by simp [roots, rootsL]) (by decide) ?_
  simp [go_sem]
  refine ⟨by kernel_rfl, ?_⟩
  simp [go_sem]
end Go.Proofs.Ytmojbncbbnjblaa

