/- Texts of the own layer and contracts, part 8: E40 Q34 E43 E44 E45 E50 W44 E41 E42 N3 W45 W46 N9 W48 W47 N10 W49 E46 E47 W51 W50 W52 LK W35 O W2 W8 V2 V1 W1 W3 W6 W7 W9 W10 W12 W13 W14 W15 W19 U4 L46. -/
import Derived.Lib.AppendZerosOnto
import Derived.Lib.Walk
import Derived.WalkKit
import Derived.Shelf.Abstract
import Derived.Shelf.RegionOpenPlain
import Derived.Lib.SliceRun
import Derived.Test.YtiikdbomhkbdlaaGreatRows
import Derived.ProofKit
import Derived.OpenShut
import Derived.Test.YtiikdbomhkbdlaaGreatM7
set_option linter.unusedSectionVars false
set_option linter.unusedVariables false
set_option linter.unusedSimpArgs false
set_option maxHeartbeats 4000000
set_option maxRecDepth 100000
namespace Go.Proofs.YtiikdbomhkbdlaaGreat
open Go.Abs CR
def mapW (a0 : Int) (W : List Int → Int) : List Int := a0 :: (trN 6).map W
theorem mapW_at (a0 : Int) (W : List Int → Int) {i : Nat} (h : i < 37) : (mapW a0 W)[i + 1]?.getD 0 = W ((trN 6)[i]?.getD []) := by
 have hl : i < (trN 6).length := by rw [trN_len6]; exact h
 unfold mapW
 rw [List.getElem?_cons_succ, List.getElem?_map, List.getElem?_eq_getElem hl]; rfl
theorem isgT_pw (t : List Int) : isgT t = pw (symF 6 t % 10007) 10005 := by
 unfold isgT
 rw [fp_pw, Int.toNat_of_nonneg (Int.emod_nonneg _ (by decide))]
theorem facT_W (a0 : Int) (W : List Int → Int) {i : Nat} (h : i < 37) : facT (mapW a0 W) i % 10007 = isgT ((trN 6)[i]?.getD []) * W ((trN 6)[i]?.getD []) % 10007 := by
 unfold facT
 rw [mapW_at a0 W h, Int.emod_emod_of_dvd _ (Int.dvd_refl _), ← isgT_pw, Int.mul_comm]
section
variable {f : List (List Mon)} {y : List Int} {n : Nat}
theorem rowT_sum (a0 : Int) (W : List Int → Int) {m : Nat} {k : Nat} (hk : k < y.length) (hy : Ns y) : ∀ i, i ≤ 37 → (rowT f y (mapW a0 W) m i)[k]?.getD 0 % 10007
   = ((if m = 0 then y[k]?.getD 0 * a0 else 0) + sumL2 (fun t => if t.length = m then isgT t * W t * (FT f y t)[k]?.getD 0 else 0) ((trN 6).take i)) % 10007
 | 0, _ => by
  rw [rowT, List.take_zero]
  by_cases h : m = 0
  ·rw [if_pos h, if_pos h]
   have e : (scalS y ((mapW a0 W)[0]?.getD 0))[k]?.getD 0 = y[k]?.getD 0 * (a0 % 10007) % 10007 := tb_get (fun i => y[i]?.getD 0 * (a0 % 10007) % 10007) hk
   rw [e, Int.emod_emod_of_dvd _ (Int.dvd_refl _), mul_mod_r]
   show _ = (_ + 0) % 10007
   rw [Int.add_zero]
  ·rw [if_neg h, if_neg h]
   simp [hk, sumL2]
 | i + 1, hi => by
  have ih := rowT_sum a0 W (m := m) hk hy i (by omega)
  have hl : i < (trN 6).length := by rw [trN_len6]; omega
  have e1 : (trN 6).take (i + 1) = (trN 6).take i ++ [(trN 6)[i]?.getD []] := by
   rw [List.take_succ_eq_append_getElem hl, List.getElem?_eq_getElem hl]; rfl
  rw [rowT, e1, sumL2_app]
  have e2 : sumL2 (fun t => if t.length = m then isgT t * W t * (FT f y t)[k]?.getD 0 else 0) [(trN 6)[i]?.getD []] = if ((trN 6)[i]?.getD []).length = m then isgT ((trN 6)[i]?.getD []) * W ((trN 6)[i]?.getD []) * (FT f y ((trN 6)[i]?.getD []))[k]?.getD 0 else 0 := Int.add_zero _
  rw [e2]
  have fw := facT_W a0 W (i := i) (by omega)
  generalize (trN 6)[i]?.getD [] = t at *
  generalize sumL2 (fun t => if t.length = m then isgT t * W t * (FT f y t)[k]?.getD 0 else 0) ((trN 6).take i) = S at *
  by_cases h : t.length = m
  ·rw [if_pos h, if_pos h]
   have e3 : (plusS (rowT f y (mapW a0 W) m i) (edF f y 6 t) (facT (mapW a0 W) i))[k]?.getD 0 = ((rowT f y (mapW a0 W) m i)[k]?.getD 0 + facT (mapW a0 W) i % 10007 * (edF f y 6 t)[k]?.getD 0) % 10007 :=
    tb_get (fun j => ((rowT f y (mapW a0 W) m i)[j]?.getD 0 + facT (mapW a0 W) i % 10007 * (edF f y 6 t)[j]?.getD 0) % 10007) (by rw [rowT_len]; exact hk)
   rw [e3, Int.emod_emod_of_dvd _ (Int.dvd_refl _), ← Int.add_assoc]
   refine mod_addc ih ?_
   rw [mul_mod_l]
   exact mod_mulc fw rfl
  ·rw [if_neg h, if_neg h, Int.add_zero]
   exact ih
theorem series_row (a0 : Int) (W : List Int → Int) {j k : Nat} (hk : k < y.length) (hy : Ns y) (hj : j < 6) : (rowT f y (mapW a0 W) (j + 1) 37)[k]?.getD 0 % 10007 = sumL2 (fun t => isgT t * W t * (FT f y t)[k]?.getD 0) (genN (j + 1)) % 10007 := by
 rw [rowT_sum a0 W hk hy 37 (Nat.le_refl _), if_neg (by omega), Int.zero_add, List.take_of_length_le (by rw [trN_len6]; exact Nat.le_refl _), ← sumL2_perm _ (mem_at hj).2.1, sumL2_filter]
 refine congrArg (· % 10007) (sumL2_congr fun t _ => ?_)
 by_cases e : t.length = j + 1
 ·rw [if_pos e, if_pos (by simpa using e)]
 ·rw [if_neg e, if_neg (by simpa using e)]
theorem series_first (a0 : Int) (W : List Int → Int) {k : Nat} (hk : k < y.length) (hy : Ns y) : (rowT f y (mapW a0 W) 0 37)[k]?.getD 0 % 10007 = y[k]?.getD 0 * a0 % 10007 := by
 have e : rowT f y (mapW a0 W) 0 (0 + 37) = rowT f y (mapW a0 W) 0 0 := rowT_same f y (mapW a0 W) 0 0 37 fun j _ h => (trN_pos (by omega)).1
 rw [Nat.zero_add] at e
 rw [e, rowT_sum a0 W hk hy 0 (by omega), if_pos rfl, List.take_zero]
 show (_ + 0) % 10007 = _
 rw [Int.add_zero]
theorem series_is (W : List Int → Int) {X : List (List Int)} (hy : y.length = n) (hN : Ns y) (n1 : 1 ≤ n) (hX : R7 n X) (h0 : ∀ k, k < n → en X k 0 = y[k]?.getD 0)
  (hS : ∀ k, k < n → ∀ j, j < 6 → en X k (j + 1) % 10007 = sumL2 (fun t => isgT t * W t * (FT f y t)[k]?.getD 0) (genN (j + 1)) % 10007) : tsX f y (mapW 1 W) 7 37 = turnS X := by
 have r0 := hX.row (k := 0) (by omega)
 refine List.ext_getElem (by rw [tsX_len, turnS_len, r0.1]) fun j h1 h2 => ?_
 have hj : j < 7 := by simpa using h1
 have e1 := tsX_get f y (mapW 1 W) 37 hj
 have e2 := turnS_at (a := X) (k := j) (by rw [r0.1]; exact hj)
 rw [List.getElem?_eq_getElem h1, Option.getD_some] at e1
 rw [List.getElem?_eq_getElem h2, Option.getD_some] at e2
 rw [e1, e2]
 refine List.ext_getElem (by rw [rowT_len]; simp [colS, hX.1, hy]) fun k k1 k2 => ?_
 have hk : k < n := by rw [rowT_len] at k1; omega
 have nA := (rowT_N f y (mapW 1 W) j 37).get k
 have nB := ((hX.row hk).2).get j
 have e3 := colS_at (a := X) (k := j) (i := k) (by rw [hX.1]; exact hk)
 rw [List.getElem?_eq_getElem k2, Option.getD_some] at e3
 rw [e3]
 have e4 : (rowT f y (mapW 1 W) j 37)[k]?.getD 0 % 10007 = en X k j % 10007 := by
  cases j with
  | zero => rw [series_first 1 W (by omega) hN, Int.mul_one, h0 k hk]
  | succ j => rw [series_row 1 W (by omega) hN (by omega), hS k hk j (by omega)]
 have e5 : en X k j = (X[k]?.getD [])[j]?.getD 0 := rfl
 rw [e5, Int.emod_eq_of_lt nA.1 (by have := nA.2; omega), Int.emod_eq_of_lt nB.1 (by have := nB.2; omega), List.getElem?_eq_getElem k1, Option.getD_some] at e4
 exact e4
variable {A : List (List Int)} {B : List Int}
theorem flo_first (hy : y.length = n) {k : Nat} (hk : k < n) : en (floS f y 6) k 0 = y[k]?.getD 0 := by
 have := floS_keep (f := f) (show k < y.length by omega) 0 (Nat.le_refl 0) 6
 rw [Nat.zero_add] at this
 show ((floS f y 6)[k]?.getD [])[0]?.getD 0 = y[k]?.getD 0
 rw [this, floS, poS_at (by omega)]; rfl
theorem flo_R7 (hy : y.length = n) (hN : Ns y) : R7 n (floS f y 6) := ⟨by rw [floS_len, hy], floS_row hN 6⟩
theorem series_flow (hf : FieldOk (n : Int) f) (hy : y.length = n) (hN : Ns y) (hfl : f.length = n) : tsX f y (mapW 1 exN) 7 37 = turnS (floS f y 6) :=
 series_is exN hy hN (by have := hf.lo; omega) (flo_R7 hy hN) (fun k hk => flo_first hy hk) fun k hk j hj => flow_trees hf hy hN hfl j hj k hk
theorem turn_row {X : List (List Int)} (n1 : 1 ≤ n) (hX : R7 n X) {j : Nat} (hj : j < 7) : (turnS X)[j]?.getD [] = colS X j ∧ (colS X j).length = n ∧ ∀ k, k < n → (colS X j)[k]?.getD 0 = en X k j := by
 have r0 := hX.row (k := 0) (by omega)
 refine ⟨turnS_at (by rw [r0.1]; exact hj), by simp [colS, hX.1], fun k hk => colS_at (by rw [hX.1]; exact hk)⟩
end
end Go.Proofs.YtiikdbomhkbdlaaGreat


namespace Go.Proofs.YtiikdbomhkbdlaaGreat
open Go.Abs
def deS (L : List (List Int)) : List (List Int) := (List.range L.length).map fun n => scalS (L[n]?.getD []) (fact n)
@[simp] theorem deS_len (L : List (List Int)) : (deS L).length = L.length := by simp [deS]
theorem deS_at {L : List (List Int)} {n : Nat} (h : n < L.length) : (deS L)[n]?.getD [] = scalS (L[n]?.getD []) (fact n) := by simp [deS, h]
theorem fact_6 {n : Nat} (h : n ≤ 6) : 0 ≤ fact n ∧ fact n ≤ 720 := ⟨by have := fact_pos n; omega, Int.le_trans (fact_le h) (by decide)⟩
def dvX (z : Int) (f : List (List Mon)) (y : List Int) : List (List Int) := deS (fsX z f y)
def dvR (z : Int) (f : List (List Mon)) (y : List Int) : AV := .tup [.own 25 (dvX z f y).length (omat (dvX z f y)), .int (fpE z f y)]
theorem fsX_bad {z : Int} {f : List (List Mon)} {y : List Int} (h : fpE z f y ≠ 0) : fsX z f y = [] := by unfold fsX; rw [if_neg h]
theorem DerivativesOf_c (z : Int) (f : List (List Mon)) (y : List Int) (hs : Small f) (hy : y.length ≤ 1048576) :
  Con Tryz.prog 44 [.agg [.int z, .sl f.length (prt f)], .sl y.length (avs y)] (dvR z f y) := by
 have c := FlowSeries_c z f y hs hy
 unfold fsR at c
 unfold dvR dvX
 by_cases he : fpE z f y = 0
 ·obtain ⟨l7, hr⟩ := fsX_row he
  obtain ⟨_, r3⟩ := fsX_ok z f y
  rw [deS_len]
  rw [he] at c ⊢
  generalize fsX z f y = L at *
  refine con_of_vc Tryz.mixed ⟨9, [], [], []⟩ Tryz.func44 (by decide) rfl (by simp) (by decide) (by simp [freshOK, freshL, go_sem]) ?_
  rw [Tryz.ntmps44]
  simp [go_sem]
  refine CallVC.of (c) (by decide) ?_
  simp [go_sem]
  refine loop_inv (6 :: 8 :: List.range' 20 14) (fun n : Nat => [(6, .own 25 L.length (omat (mxS L (deS L) n))), (20, .int n)]) (fun n => n ≤ L.length) (fun n => L.length - n) 0 (by simp) (by simp [go_sem, mxS_zero]) (by simp [go_sem]) ?_
  intro n hn
  simp [go_sem]
  refine ⟨fun h => ?_, fun h => ?_⟩ <;> simp at h
  ·have hnl := h
   have hM : n < (mxS L (deS L) n).length := by rw [mxS_len]; exact hnl
   have hg := omat_get hM
   rw [mxS_get hnl] at hg
   have hset := omat_set (mxS L (deS L) n) n ((deS L)[n]?.getD [])
   rw [mxS_set hnl, deS_at hnl, scalS_len] at hset
   have hx := hr _ (memD [] hnl)
   have hx3 := r3 _ (memD [] hnl)
   have f6 := fact_6 (n := n) (by omega)
   have cF := factorial_c n (by omega)
   have cS := scaled_c (L[n]?.getD []) (fact n) hx.2 ⟨by omega, by omega⟩ (by omega)
   generalize mxS L (deS L) n = M at *
   generalize eM : mxS L (deS L) (n + 1) = M2 at *
   simp [go_sem, hg]
   refine ⟨by kernel_rfl, hnl, ?_⟩
   refine CallD.of (cF) (by simp [roots, rootsL]) (by decide) ?_
   simp [go_sem]
   simp [go_sem, hg]
   refine CallD.of (cS) (by simp [roots, rootsL]) (by decide) ?_
   simp [go_sem]
   refine ⟨hnl, hM, ?_⟩
   refine ⟨by kernel_rfl, ?_⟩
   simp [go_sem]
   refine ⟨by omega, n + 1, by omega, by omega, Off_reset _ _ _ (by simp), ?_⟩
   rw [eM, ← hset]
   exact ⟨rfl, by omega⟩
  ·have e : n = L.length := by omega
   have hall := mxS_all (A := L) (C := deS L) (by simp)
   subst e
   simp [go_sem]
   rw [hall]
 ·rw [fsX_bad he] at c ⊢
  generalize fpE z f y = e at *
  refine Con.n1 _ ?_
  refine con_of_vc Tryz.mixed ⟨9, [], [], []⟩ Tryz.func44 (by decide) rfl (by simp) (by decide) (by simp [freshOK, freshL, go_sem]) ?_
  rw [Tryz.ntmps44]
  simp [go_sem]
  refine CallVC.of (c) (by decide) ?_
  simp [go_sem]
  simp [go_sem, he]
end Go.Proofs.YtiikdbomhkbdlaaGreat


namespace Go.Proofs.YtiikdbomhkbdlaaGreat
abbrev Mo := Nat × List Nat
abbrev Py := List Mo
end Go.Proofs.YtiikdbomhkbdlaaGreat


namespace Go.Proofs.YtiikdbomhkbdlaaGreat
def cutT : List (List (Nat × List Nat × Nat)) := [[(1, [], 1), (1, [1], 0)],
 [(1, [], 2), (1, [1], 1), (1, [2], 0)],
 [(1, [], 3), (1, [1], 2), (1, [2], 1), (1, [3], 0)],
 [(1, [], 4), (2, [1], 2), (1, [1, 1], 1), (1, [4], 0)],
 [(1, [], 5), (1, [1], 3), (1, [2], 2), (1, [3], 1), (1, [5], 0)],
 [(1, [], 6), (2, [1], 3), (1, [1, 1], 2), (1, [4], 1), (1, [6], 0)],
 [(1, [], 7), (1, [1], 3), (1, [1], 4), (1, [2], 2), (1, [1, 1], 2), (1, [1, 2], 1), (1, [7], 0)],
 [(1, [], 8), (3, [1], 4), (3, [1, 1], 2), (1, [1, 1, 1], 1), (1, [8], 0)],
 [(1, [], 9), (1, [1], 5), (1, [2], 3), (1, [3], 2), (1, [5], 1), (1, [9], 0)],
 [(1, [], 10), (2, [1], 5), (1, [1, 1], 3), (1, [4], 2), (1, [6], 1), (1, [10], 0)],
 [(1, [], 11), (1, [1], 5), (1, [1], 6), (1, [2], 3), (1, [1, 1], 3), (1, [1, 2], 2), (1, [7], 1), (1, [11], 0)],
 [(1, [], 12), (1, [1], 5), (1, [1], 7), (1, [2], 4), (1, [1, 1], 3), (1, [3], 2), (1, [1, 2], 2), (1, [1, 3], 1), (1, [12], 0)],
 [(1, [], 13), (3, [1], 6), (3, [1, 1], 3), (1, [1, 1, 1], 2), (1, [8], 1), (1, [13], 0)],
 [(1, [], 14), (1, [1], 6), (2, [1], 7), (2, [1, 1], 3), (1, [1, 1], 4), (1, [4], 2), (1, [1, 1, 1], 2), (1, [1, 4], 1), (1, [14], 0)],
 [(1, [], 15), (2, [1], 7), (2, [2], 3), (1, [1, 1], 4), (2, [1, 2], 2), (1, [2, 2], 1), (1, [15], 0)],
 [(1, [], 16), (2, [1], 7), (1, [1], 8), (1, [2], 4), (1, [1, 1], 3), (2, [1, 1], 4), (2, [1, 2], 2), (1, [1, 1, 1], 2), (1, [1, 1, 2], 1), (1, [16], 0)],
 [(1, [], 17), (4, [1], 8), (6, [1, 1], 4), (4, [1, 1, 1], 2), (1, [1, 1, 1, 1], 1), (1, [17], 0)],
 [(1, [], 18), (1, [1], 9), (1, [2], 5), (1, [3], 3), (1, [5], 2), (1, [9], 1), (1, [18], 0)],
 [(1, [], 19), (2, [1], 9), (1, [1, 1], 5), (1, [4], 3), (1, [6], 2), (1, [10], 1), (1, [19], 0)],
 [(1, [], 20), (1, [1], 9), (1, [1], 10), (1, [2], 5), (1, [1, 1], 5), (1, [1, 2], 3), (1, [7], 2), (1, [11], 1), (1, [20], 0)],
 [(1, [], 21), (1, [1], 9), (1, [1], 11), (1, [2], 6), (1, [1, 1], 5), (1, [3], 3), (1, [1, 2], 3), (1, [1, 3], 2), (1, [12], 1), (1, [21], 0)],
 [(1, [], 22), (1, [1], 9), (1, [1], 12), (1, [2], 7), (1, [1, 1], 5), (1, [3], 4), (1, [1, 2], 3), (1, [5], 2), (1, [1, 3], 2), (1, [1, 5], 1), (1, [22], 0)],
 [(1, [], 23), (3, [1], 10), (3, [1, 1], 5), (1, [1, 1, 1], 3), (1, [8], 2), (1, [13], 1), (1, [23], 0)],
 [(1, [], 24), (1, [1], 10), (2, [1], 11), (2, [1, 1], 5), (1, [1, 1], 6), (1, [4], 3), (1, [1, 1, 1], 3), (1, [1, 4], 2), (1, [14], 1), (1, [24], 0)],
 [(1, [], 25), (1, [1], 10), (2, [1], 12), (2, [1, 1], 5), (1, [1, 1], 7), (1, [4], 4), (1, [1, 1, 1], 3), (1, [6], 2), (1, [1, 4], 2), (1, [1, 6], 1), (1, [25], 0)],
 [(1, [], 26), (2, [1], 11), (2, [2], 5), (1, [1, 1], 6), (2, [1, 2], 3), (1, [2, 2], 2), (1, [15], 1), (1, [26], 0)],
 [(1, [], 27), (2, [1], 11), (1, [1], 13), (1, [2], 6), (1, [1, 1], 5), (2, [1, 1], 6), (2, [1, 2], 3), (1, [1, 1, 1], 3), (1, [1, 1, 2], 2), (1, [16], 1), (1, [27], 0)],
 [(1, [], 28), (1, [1], 11), (1, [1], 12), (1, [1], 14), (1, [2], 7), (1, [1, 1], 5), (1, [1, 1], 6), (1, [1, 1], 7), (1, [1, 2], 3), (1, [1, 2], 4), (1, [1, 1, 1], 3), (1, [7], 2), (1, [1, 1, 2], 2), (1, [1, 7], 1), (1, [28], 0)],
 [(1, [], 29), (1, [1], 12), (1, [1], 15), (1, [2], 5), (1, [2], 7), (1, [1, 1], 7), (1, [3], 3), (1, [1, 2], 3), (1, [1, 2], 4), (1, [1, 3], 2), (1, [2, 2], 2), (1, [2, 3], 1), (1, [29], 0)],
 [(1, [], 30), (2, [1], 12), (1, [1], 16), (1, [2], 8), (1, [1, 1], 5), (2, [1, 1], 7), (1, [3], 4), (2, [1, 2], 4), (1, [1, 1, 1], 3), (2, [1, 3], 2), (1, [1, 1, 2], 2), (1, [1, 1, 3], 1), (1, [30], 0)],
 [(1, [], 31), (4, [1], 13), (6, [1, 1], 6), (4, [1, 1, 1], 3), (1, [1, 1, 1, 1], 2), (1, [17], 1), (1, [31], 0)],
 [(1, [], 32), (1, [1], 13), (3, [1], 14), (3, [1, 1], 6), (3, [1, 1], 7), (3, [1, 1, 1], 3), (1, [1, 1, 1], 4), (1, [8], 2), (1, [1, 1, 1, 1], 2), (1, [1, 8], 1), (1, [32], 0)],
 [(1, [], 33), (1, [1], 14), (2, [1], 15), (1, [2], 6), (3, [1, 1], 7), (1, [4], 3), (2, [1, 2], 3), (1, [1, 1, 1], 4), (1, [1, 4], 2), (1, [1, 1, 2], 2), (1, [2, 4], 1), (1, [33], 0)],
 [(1, [], 34), (2, [1], 14), (2, [1], 16), (1, [1, 1], 6), (4, [1, 1], 7), (1, [1, 1], 8), (1, [4], 4), (2, [1, 1, 1], 3), (2, [1, 1, 1], 4), (2, [1, 4], 2), (1, [1, 1, 1, 1], 2), (1, [1, 1, 4], 1), (1, [34], 0)],
 [(1, [], 35), (1, [1], 15), (2, [1], 16), (2, [2], 7), (2, [1, 1], 7), (1, [1, 1], 8), (2, [1, 2], 3), (2, [1, 2], 4), (1, [1, 1, 1], 4), (1, [2, 2], 2), (2, [1, 1, 2], 2), (1, [1, 2, 2], 1), (1, [35], 0)],
 [(1, [], 36), (3, [1], 16), (1, [1], 17), (1, [2], 8), (3, [1, 1], 7), (3, [1, 1], 8), (3, [1, 2], 4), (1, [1, 1, 1], 3), (3, [1, 1, 1], 4), (3, [1, 1, 2], 2), (1, [1, 1, 1, 1], 2), (1, [1, 1, 1, 2], 1), (1, [36], 0)],
 [(1, [], 37), (5, [1], 17), (10, [1, 1], 8), (10, [1, 1, 1], 4), (5, [1, 1, 1, 1], 2), (1, [1, 1, 1, 1, 1], 1), (1, [37], 0)]]
abbrev Ctp := Nat × List Nat × Nat
def v0 (k i : Nat) : Py := [(1, [k + i])]
def iat (a : List Int) (i : Nat) : Int := a[i]?.getD 0
def N38 (a : List Int) : Prop := a.length = 38 ∧ ∀ x ∈ a, 0 ≤ x ∧ x < 10007
def Ch (a : List Int) : Prop := N38 a ∧ iat a 0 = 1
theorem N38.at {a : List Int} (h : N38 a) (i : Nat) : 0 ≤ iat a i ∧ iat a i < 10007 := by
 unfold iat
 by_cases e : i < a.length
 ·rw [List.getElem?_eq_getElem e]; exact h.2 _ (List.getElem_mem e)
 ·rw [List.getElem?_eq_none (by omega)]; simp
def mk38 (f : Nat → Int) : List Int := (List.range 38).map fun i => f i % 10007
theorem mk38_N (f : Nat → Int) : N38 (mk38 f) := by
 refine ⟨by simp [mk38], fun x hx => ?_⟩
 obtain ⟨i, _, rfl⟩ := List.mem_map.1 hx
 exact ⟨Int.emod_nonneg _ (by decide), Int.emod_lt_of_pos _ (by decide)⟩
theorem mk38_at (f : Nat → Int) {i : Nat} (h : i < 38) : iat (mk38 f) i = f i % 10007 := by
 unfold iat mk38
 rw [List.getElem?_map, List.getElem?_range h]; rfl
def unitS : List Int := mk38 fun i => if i = 0 then 1 else 0
end Go.Proofs.YtiikdbomhkbdlaaGreat


namespace Go.Proofs.YtiikdbomhkbdlaaGreat
def ndT : List Nat := [0, 1, 2, 3, 3, 4, 4, 4, 4, 5, 5, 5, 5, 5, 5, 5, 5, 5, 6, 6, 6, 6, 6, 6, 6, 6, 6, 6, 6, 6, 6, 6, 6, 6, 6, 6, 6, 6]
def exT : List Nat := [1, 1, 5004, 1668, 3336, 417, 834, 1251, 2502, 8089, 6171, 4253, 2335, 8506, 4670, 8506, 7005, 4003, 3016, 6032, 9048, 2057, 5073, 8089, 4114, 139, 8089, 6171, 5212, 139, 278, 2335, 417, 278, 556, 417, 834, 1668]
def nd (i : Nat) : Nat := ndT[i]?.getD 0
def exI (i : Nat) : Int := ((exT[i]?.getD 0 : Nat) : Int)
def exaS : List Int := mk38 exI
theorem exaS_ch : Ch exaS := ⟨mk38_N _, by unfold exaS; rw [mk38_at _ (by decide)]; decide⟩
end Go.Proofs.YtiikdbomhkbdlaaGreat


namespace Go.Proofs.YtiikdbomhkbdlaaGreat
open Go.Abs CR
def lbF (t : List Int) : Int := fact t.length / symF 6 t / denF 8 t
def lbB (t : List Int) : Bool := decide (0 ≤ lbF t) && decide (lbF t ≤ 720) && decide (lbF t % 10007 = fact t.length * (isgT t * exN t) % 10007) && decide (0 < symF 6 t) && decide (symF 6 t ≤ 1000000) && decide (0 < denF 8 t) && decide (denF 8 t ≤ 1000000)
theorem lb_all : (trN 6).all lbB = true := by decide +kernel
theorem lb_at {t : List Int} (h : t ∈ trN 6) : (0 ≤ lbF t ∧ lbF t ≤ 720) ∧ lbF t % 10007 = fact t.length * (isgT t * exN t) % 10007 ∧ (0 < symF 6 t ∧ symF 6 t ≤ 1000000) ∧ 0 < denF 8 t ∧ denF 8 t ≤ 1000000 := by
 have k := List.all_eq_true.1 lb_all t h
 simp only [lbB, Bool.and_eq_true, decide_eq_true_eq] at k
 exact ⟨⟨k.1.1.1.1.1.1, k.1.1.1.1.1.2⟩, k.1.1.1.1.2, ⟨k.1.1.1.2, k.1.1.2⟩, k.1.2, k.2⟩
theorem tr_fil {j : Nat} (h : j < 6) : (trN 6).filter (fun t => decide (t.length = j + 1)) = genT 200 (upTo (j + 1)) := by
 have ok : (List.range 6).all (fun j => decide ((trN 6).filter (fun t => decide (t.length = j + 1)) = genT 200 (upTo (j + 1)))) = true := by decide +kernel
 exact of_decide_eq_true (List.all_eq_true.1 ok j (List.mem_range.2 h))
theorem gen_mem {j : Nat} (h : j < 6) {t : List Int} (ht : t ∈ genT 200 (upTo (j + 1))) : t ∈ trN 6 ∧ t.length = j + 1 := by
 rw [← tr_fil h] at ht
 have := List.mem_filter.1 ht
 exact ⟨this.1, by simpa using this.2⟩
section
variable {f : List (List Mon)} {y : List Int} {n : Nat}
def acV (f : List (List Mon)) (y : List Int) (n : Nat) (T : List (List Int)) (i : Nat) : List Int := (List.range n).map fun k => sumL2 (fun t => lbF t * (FT f y t)[k]?.getD 0) (T.take i) % 10007
theorem acV_len (T : List (List Int)) (i : Nat) : (acV f y n T i).length = n := by simp [acV]
theorem acV_N (T : List (List Int)) (i : Nat) : Ns (acV f y n T i) := fun x hx => by
 obtain ⟨k, _, rfl⟩ := List.mem_map.1 hx
 exact isN_mod _
theorem acV_get (T : List (List Int)) (i : Nat) {k : Nat} (h : k < n) : (acV f y n T i)[k]?.getD 0 = sumL2 (fun t => lbF t * (FT f y t)[k]?.getD 0) (T.take i) % 10007 := by simp [acV, h]
theorem acV_zero (T : List (List Int)) : acV f y n T 0 = List.replicate n 0 := by
 refine List.ext_getElem (by simp [acV]) fun k h1 h2 => ?_
 simp [acV, sumL2]
theorem acV_step {T : List (List Int)} {i : Nat} (h : i < T.length) (hl : (FT f y (T[i]?.getD [])).length = n) : pl5 (acV f y n T i) (tm5 (FT f y (T[i]?.getD [])) (lbF (T[i]?.getD []) % 10007)) = acV f y n T (i + 1) := by
 refine List.ext_getElem (by rw [pl5_len, acV_len, acV_len]) fun k h1 h2 => ?_
 have hk : k < n := by rw [acV_len] at h2; exact h2
 have e1 := pl5_get (a := acV f y n T i) (b := tm5 (FT f y (T[i]?.getD [])) (lbF (T[i]?.getD []) % 10007)) (i := k) (by rw [acV_len]; exact hk)
 have e2 := acV_get (f := f) (y := y) T (i + 1) hk
 rw [List.getElem?_eq_getElem h1, Option.getD_some, acV_get T i hk] at e1
 rw [List.getElem?_eq_getElem h2, Option.getD_some] at e2
 rw [e1, e2]
 have t1 : T.take (i + 1) = T.take i ++ [T[i]?.getD []] := by
  rw [List.take_succ_eq_append_getElem h, List.getElem?_eq_getElem h]; rfl
 have e3 : (tm5 (FT f y (T[i]?.getD [])) (lbF (T[i]?.getD []) % 10007))[k]?.getD 0 = (FT f y (T[i]?.getD []))[k]?.getD 0 * (lbF (T[i]?.getD []) % 10007) % 10007 := by
  have hk2 : k < (FT f y (T[i]?.getD [])).length := by omega
  unfold tm5
  rw [List.getElem?_map, List.getElem?_eq_getElem hk2]; rfl
 rw [e3, t1, sumL2_app]
 have e4 : sumL2 (fun t => lbF t * (FT f y t)[k]?.getD 0) [T[i]?.getD []] = lbF (T[i]?.getD []) * (FT f y (T[i]?.getD []))[k]?.getD 0 := Int.add_zero _
 rw [e4]
 have e5 : (FT f y (T[i]?.getD []))[k]?.getD 0 * (lbF (T[i]?.getD []) % 10007) % 10007 = lbF (T[i]?.getD []) * (FT f y (T[i]?.getD []))[k]?.getD 0 % 10007 := by
  rw [Int.mul_comm (lbF _)]
  exact mod_mulc rfl (Int.emod_emod_of_dvd _ (Int.dvd_refl _))
 rw [e5]
 omega
theorem acV_all (hf : FieldOk (n : Int) f) (hy : y.length = n) (hN : Ns y) (hfl : f.length = n) {j : Nat} (hj : j < 6) :
  acV f y n (genT 200 (upTo (j + 1))) (genT 200 (upTo (j + 1))).length = scalS ((turnS (floS f y 6))[j + 1]?.getD []) (fact (j + 1)) := by
 have n1 : 1 ≤ n := by have := hf.lo; omega
 obtain ⟨r1, r2, r3⟩ := turn_row n1 (flo_R7 (f := f) hy hN) (j := j + 1) (by omega)
 rw [r1]
 refine List.ext_getElem (by rw [acV_len, scalS_len, r2]) fun k h1 h2 => ?_
 have hk : k < n := by rw [acV_len] at h1; exact h1
 have e1 := acV_get (f := f) (y := y) (genT 200 (upTo (j + 1))) (genT 200 (upTo (j + 1))).length hk
 rw [List.getElem?_eq_getElem h1, Option.getD_some, List.take_length] at e1
 have e2 : (scalS (colS (floS f y 6) (j + 1)) (fact (j + 1)))[k]?.getD 0 = (colS (floS f y 6) (j + 1))[k]?.getD 0 * (fact (j + 1) % 10007) % 10007 :=
  tb_get (fun i => (colS (floS f y 6) (j + 1))[i]?.getD 0 * (fact (j + 1) % 10007) % 10007) (by rw [r2]; exact hk)
 rw [List.getElem?_eq_getElem h2, Option.getD_some, r3 k hk] at e2
 rw [e1, e2]
 have ft : toU (floS f y 6) k (j + 1) % 10007 = flT f y k j % 10007 := flow_trees hf hy hN hfl j hj k hk
 have e3 : en (floS f y 6) k (j + 1) * (fact (j + 1) % 10007) % 10007 = flT f y k j * fact (j + 1) % 10007 := mod_mulc ft (Int.emod_emod_of_dvd _ (Int.dvd_refl _))
 rw [e3, ← tr_fil hj, sumL2_perm _ (mem_at hj).2.1, Int.mul_comm (flT f y k j)]
 unfold flT
 rw [← sumL2_mul]
 refine sumL2_mod fun t ht => ?_
 have htr := (List.mem_filter.1 ((mem_at hj).2.1.symm.subset ht)).1
 have hl := ((mem_at hj).1 t ht).2
 have e := (lb_at htr).2.1
 rw [hl] at e
 have e5 : fact (j + 1) * (isgT t * exN t * (FT f y t)[k]?.getD 0) = fact (j + 1) * (isgT t * exN t) * (FT f y t)[k]?.getD 0 := (Int.mul_assoc _ _ _).symm
 rw [e5]
 exact mod_mulc e rfl
end
theorem exa_mapW : exT.map (fun (v : Nat) => (v : Int)) = mapW 1 exN := by kernel_rfl
end Go.Proofs.YtiikdbomhkbdlaaGreat


namespace Go.Proofs.YtiikdbomhkbdlaaGreat
open Go.Abs
theorem nodesIn_c [DrawK] (F : List (List Int)) (hl : F.length ≤ 1000) (hr : ∀ r ∈ F, r.length ≤ 1000) : Con Tryz.prog 374 [.sl F.length (mat F)] (.int (sumN F)) := by
 have bd : ∀ i, i ≤ F.length → sumN (F.take i) ≤ 1000 * i := fun i => by
  induction i with
  | zero => intro _; simp [sumN]
  | succ i ih =>
   intro hi
   have h1 := ih (by omega)
   have h2 : F.take (i + 1) = F.take i ++ [F[i]?.getD []] := by
    rw [List.take_succ_eq_append_getElem (by omega), List.getElem?_eq_getElem (by omega)]; rfl
   rw [h2, sumN_app]
   have h3 := hr _ (memD [] (show i < F.length by omega))
   have h4 : sumN [F[i]?.getD []] = (F[i]?.getD []).length := by simp [sumN]
   omega
 refine con_of_vc Tryz.mixed ⟨6, [], [], []⟩ Tryz.func374 (by decide) rfl (by simp) (by decide) (by simp [freshOK, freshL, go_sem]) ?_
 rw [Tryz.ntmps374]
 simp [go_sem]
 refine loop_inv (3 :: 5 :: List.range' 8 9) (fun i : Nat => [(3, .int (sumN (F.take i))), (8, .int i)]) (fun i => i ≤ F.length) (fun i => F.length - i) 0 (by simp) (by simp [go_sem, sumN]) (by simp [go_sem]) ?_
 intro i hi
 by_cases h : i < F.length
 ·have hii : (i : Int) < F.length := by omega
  have ne : ¬ F = [] := by rintro rfl; simp at h
  have b1 := bd i hi
  have b2 := bd (i + 1) h
  have h2 : F.take (i + 1) = F.take i ++ [F[i]?.getD []] := by
   rw [List.take_succ_eq_append_getElem h, List.getElem?_eq_getElem h]; rfl
  have h4 : sumN (F.take (i + 1)) = sumN (F.take i) + (F[i]?.getD []).length := by rw [h2, sumN_app]; simp [sumN]
  simp [go_sem, hii, mat_drop h]
  exact ⟨ne, ⟨by omega, by omega⟩, ⟨by omega, by omega⟩, i + 1, by omega, by omega, Off_reset _ _ _ (by simp), by rw [h4]; omega, by omega⟩
 ·have e : i = F.length := by omega
  subst e
  rw [List.take_length]
  simp [go_sem]
def cmpFs : List (List Int) → List (List Int) → Int
 | [], [] => 0
 | [], _ :: _ => -1
 | _ :: _, [] => 1
 | a :: f, b :: g => if cmpT a b = 0 then cmpFs f g else cmpT a b
theorem cmpFs_skip : ∀ (f g : List (List Int)) (i : Nat), i ≤ f.length → i ≤ g.length → (∀ j, j < i → cmpT (f[j]?.getD []) (g[j]?.getD []) = 0) → cmpFs f g = cmpFs (f.drop i) (g.drop i)
 | f, g, 0, _, _, _ => rfl
 | a :: f, b :: g, i + 1, h1, h2, h => by
  have h0 : cmpT a b = 0 := h 0 (by omega)
  rw [cmpFs, if_pos h0, List.drop_succ_cons, List.drop_succ_cons]
  exact cmpFs_skip f g i (by simpa using h1) (by simpa using h2) (fun j hj => by simpa using h (j + 1) (by omega))
theorem CompareFunc_c [DrawK] (f g : List (List Int)) (hf : f.length ≤ 1000) (hg : g.length ≤ 1000) (rf : ∀ r ∈ f, r.length ≤ 1000) (rg : ∀ r ∈ g, r.length ≤ 1000) :
  Con Tryz.prog 296 [.sl f.length (mat f), .sl g.length (mat g), .val (.func (.func 234) #[] #[])] (.int (cmpFs f g)) := by
 refine con_of_vc Tryz.mixed ⟨11, [], [], []⟩ Tryz.func296 (by decide) rfl (by simp) (by decide) (by simp [freshOK, freshL, go_sem]) ?_
 rw [Tryz.ntmps296]
 simp [go_sem]
 refine loop_inv (List.range' 6 5 ++ List.range' 13 21) (fun i : Nat => [(13, .int i)]) (fun i => i ≤ f.length ∧ i ≤ g.length ∧ ∀ j, j < i → cmpT (f[j]?.getD []) (g[j]?.getD []) = 0) (fun i => f.length - i) 0 (by simp) (by simp [go_sem]) (by simp [go_sem]) ?_
 rintro i ⟨hi, hg2, hz⟩
 have sk := cmpFs_skip f g i hi hg2 hz
 by_cases h : i < f.length
 ·have hii : (i : Int) < f.length := by omega
  have nf : ¬ f = [] := by rintro rfl; simp at h
  have df : f.drop i = f[i]?.getD [] :: f.drop (i + 1) := by rw [List.drop_eq_getElem_cons h]; simp [h]
  by_cases h2 : i < g.length
  ·have ng : ¬ g = [] := by rintro rfl; simp at h2
   have hgi : ¬ (g.length : Int) ≤ i := by omega
   have dg : g.drop i = g[i]?.getD [] :: g.drop (i + 1) := by rw [List.drop_eq_getElem_cons h2]; simp [h2]
   have cT := compareTrees_c (f[i]?.getD []) (g[i]?.getD []) (by have := rf _ (memD [] h); omega) (by have := rg _ (memD [] h2); omega)
   rw [df, dg, cmpFs] at sk
   have m1 := mat_drop h
   have m2 := mat_drop h2
   by_cases c0 : cmpT (f[i]?.getD []) (g[i]?.getD []) = 0
   ·rw [c0] at cT
    rw [if_pos c0] at sk
    simp [go_sem, hii, m1, m2, hgi]
    repeat refine ⟨by first | omega | exact nf | exact ng | exact ⟨h, nf⟩ | exact ⟨h2, ng⟩, ?_⟩
    refine CallVC.of (cT) (by decide) ?_
    simp [go_sem]
    refine ⟨⟨by omega, by omega⟩, i + 1, ⟨by omega, by omega, fun j hj => ?_⟩, by omega, Off_reset _ _ _ (by simp), by omega⟩
    rcases Nat.lt_or_ge j i with hji | hji
    ·exact hz j hji
    ·have : j = i := by omega
     subst this; exact c0
   ·rw [if_neg c0] at sk
    rw [sk]
    generalize cmpT (f[i]?.getD []) (g[i]?.getD []) = e at *
    simp [go_sem, hii, m1, m2, hgi]
    repeat refine ⟨by first | omega | exact nf | exact ng | exact ⟨h, nf⟩ | exact ⟨h2, ng⟩, ?_⟩
    refine CallVC.of (cT) (by decide) ?_
    simp [go_sem]
    simp [go_sem, c0]
  ·have hgi : (g.length : Int) ≤ i := by omega
   rw [df, show g.drop i = [] from List.drop_eq_nil_of_le (by omega), cmpFs] at sk
   rw [sk]
   simp [go_sem, hii, mat_drop h, hgi]
   repeat refine ⟨by first | omega | exact nf | exact ⟨h, nf⟩, ?_⟩
   exact nf
 ·have e : i = f.length := by omega
  subst e
  rw [List.drop_eq_nil_of_le (Nat.le_refl _)] at sk
  by_cases h2 : f.length < g.length
  ·have dg : g.drop f.length = g[f.length]?.getD [] :: g.drop (f.length + 1) := by rw [List.drop_eq_getElem_cons h2]; simp [h2]
   rw [dg, cmpFs] at sk
   rw [sk]
   simp [go_sem, h2]
  ·rw [List.drop_eq_nil_of_le (by omega), cmpFs] at sk
   rw [sk]
   simp [go_sem, h2]
theorem compareTrunks_c [DrawK] (f g : List (List Int)) (hf : f.length ≤ 1000) (hg : g.length ≤ 1000) (rf : ∀ r ∈ f, r.length ≤ 1000) (rg : ∀ r ∈ g, r.length ≤ 1000) :
  Con Tryz.prog 335 [.sl f.length (mat f), .sl g.length (mat g)] (.int (if f.length = g.length then cmpFs f g else (f.length : Int) - g.length)) := by
 have cC := CompareFunc_c f g hf hg rf rg
 by_cases e : f.length = g.length
 ·rw [if_pos e]
  rw [e] at cC
  refine con_of_vc Tryz.mixed ⟨5, [], [], []⟩ Tryz.func335 (by decide) rfl (by simp) (by decide) (by simp [freshOK, freshL, go_sem]) ?_
  rw [Tryz.ntmps335]
  simp [go_sem]
  simp [go_sem, e]
  refine CallVC.of (cC) (by decide) ?_
  simp [go_sem]
 ·rw [if_neg e]
  have ei : ¬ (f.length : Int) = g.length := by omega
  refine con_of_vc Tryz.mixed ⟨5, [], [], []⟩ Tryz.func335 (by decide) rfl (by simp) (by decide) (by simp [freshOK, freshL, go_sem]) ?_
  rw [Tryz.ntmps335]
  simp [go_sem]
  simp [go_sem, ei]
  omega
def cmpTr (f g : List (List Int)) : Int := if f.length = g.length then cmpFs f g else (f.length : Int) - g.length
def cmpFo (f g : List (List Int)) : Int := if (sumN f : Int) - sumN g = 0 then cmpTr f g else (sumN f : Int) - sumN g
theorem sumN_le {F : List (List Int)} {b : Nat} (hr : ∀ r ∈ F, r.length ≤ b) : sumN F ≤ b * F.length := by
 induction F with
 | nil => simp [sumN]
 | cons r F ih =>
  have h1 := ih (fun s hs => hr s (by simp [hs]))
  have h2 := hr r (by simp)
  simp only [sumN, List.length_cons, Nat.mul_succ]
  omega
theorem compareForests_c [DrawK] (f g : List (List Int)) (hf : f.length ≤ 1000) (hg : g.length ≤ 1000) (rf : ∀ r ∈ f, r.length ≤ 1000) (rg : ∀ r ∈ g, r.length ≤ 1000) :
  Con Tryz.prog 334 [.sl f.length (mat f), .sl g.length (mat g)] (.int (cmpFo f g)) := by
 have c1 := nodesIn_c f hf rf
 have c2 := nodesIn_c g hg rg
 have c3 := compareTrunks_c f g hf hg rf rg
 have b1 := sumN_le rf
 have b2 := sumN_le rg
 unfold cmpFo
 have e3 : (if f.length = g.length then cmpFs f g else (f.length : Int) - g.length) = cmpTr f g := rfl
 rw [e3] at c3
 generalize cmpTr f g = w at *
 generalize sumN f = a at *
 generalize sumN g = b at *
 by_cases e : (a : Int) - b = 0
 ·rw [if_pos e]
  refine con_of_vc Tryz.mixed ⟨6, [], [], []⟩ Tryz.func334 (by decide) rfl (by simp) (by decide) (by simp [freshOK, freshL, go_sem]) ?_
  rw [Tryz.ntmps334]
  simp [go_sem]
  refine CallVC.of (c1) (by decide) ?_
  simp [go_sem]
  refine CallVC.of (c2) (by decide) ?_
  simp [go_sem]
  refine ⟨⟨by omega, by omega⟩, ?_⟩
  simp [go_sem, e]
  refine CallVC.of (c3) (by decide) ?_
  simp [go_sem]
 ·rw [if_neg e]
  refine con_of_vc Tryz.mixed ⟨6, [], [], []⟩ Tryz.func334 (by decide) rfl (by simp) (by decide) (by simp [freshOK, freshL, go_sem]) ?_
  rw [Tryz.ntmps334]
  simp [go_sem]
  refine CallVC.of (c1) (by decide) ?_
  simp [go_sem]
  refine CallVC.of (c2) (by decide) ?_
  simp [go_sem]
  refine ⟨⟨by omega, by omega⟩, ?_⟩
  simp [go_sem, e]
abbrev Spl := List (List Int) × List (List Int) × Int
def cmpSp (s r : Spl) : Int := if cmpFo s.1 r.1 = 0 then cmpTr s.2.1 r.2.1 else cmpFo s.1 r.1
def spA (s : Spl) : List AV := [.own 25 s.1.length (omat s.1), .own 25 s.2.1.length (omat s.2.1), .int s.2.2]
def spF (s : Spl) : List AV := [.sl s.1.length (mat s.1), .sl s.2.1.length (mat s.2.1), .int s.2.2]
theorem spA_frz (s : Spl) : frzL (spA s) = spF s := by simp [spA, spF, frzL, frz]
def SpOk (s : Spl) : Prop := (s.1.length ≤ 100 ∧ ∀ r ∈ s.1, r.length ≤ 100) ∧ (s.2.1.length ≤ 100 ∧ ∀ r ∈ s.2.1, r.length ≤ 100)
theorem gathered1_c [DrawK] (s r : Spl) (hs : SpOk s) (hr : SpOk r) : Con Tryz.prog 333 [.agg (spF s), .agg (spF r)] (.int (cmpSp s r)) := by
 obtain ⟨⟨s1, s2⟩, s3, s4⟩ := hs
 obtain ⟨⟨r1, r2⟩, r3, r4⟩ := hr
 have c1 := compareForests_c s.1 r.1 (by omega) (by omega) (fun x hx => by have := s2 x hx; omega) (fun x hx => by have := r2 x hx; omega)
 have c2 := compareTrunks_c s.2.1 r.2.1 (by omega) (by omega) (fun x hx => by have := s4 x hx; omega) (fun x hx => by have := r4 x hx; omega)
 have e3 : (if s.2.1.length = r.2.1.length then cmpFs s.2.1 r.2.1 else (s.2.1.length : Int) - r.2.1.length) = cmpTr s.2.1 r.2.1 := rfl
 rw [e3] at c2
 unfold cmpSp spF
 generalize cmpTr s.2.1 r.2.1 = w at *
 generalize cmpFo s.1 r.1 = v at *
 by_cases v0 : v = 0
 ·rw [if_pos v0]
  refine con_of_vc Tryz.mixed ⟨6, [], [], []⟩ Tryz.func333 (by decide) rfl (by simp) (by decide) (by simp [freshOK, freshL, go_sem]) ?_
  rw [Tryz.ntmps333]
  simp [go_sem]
  refine CallVC.of (c1) (by decide) ?_
  simp [go_sem]
  simp [go_sem, v0]
  refine CallVC.of (c2) (by decide) ?_
  simp [go_sem]
 ·rw [if_neg v0]
  refine con_of_vc Tryz.mixed ⟨6, [], [], []⟩ Tryz.func333 (by decide) rfl (by simp) (by decide) (by simp [freshOK, freshL, go_sem]) ?_
  rw [Tryz.ntmps333]
  simp [go_sem]
  refine CallVC.of (c1) (by decide) ?_
  simp [go_sem]
  simp [go_sem, v0]
end Go.Proofs.YtiikdbomhkbdlaaGreat


namespace Go.Proofs.YtiikdbomhkbdlaaGreat
open Go.Abs Go.Shelf Go.Sort
structure LinC {α : Type} (c : α → α → Int) : Prop where
 zero : ∀ a b, c a b = 0 ↔ a = b
 anti : ∀ a b, c a b < 0 ↔ 0 < c b a
 trans : ∀ a b d, c a b < 0 → c b d < 0 → c a d < 0
theorem LinC.self {α : Type} {c : α → α → Int} (h : LinC c) (a : α) : c a a = 0 := (h.zero a a).2 rfl
theorem cmpL_zero : ∀ a b : List Int, cmpL a b = 0 ↔ a = b
 | [], [] => by simp [cmpL]
 | [], _ :: _ => by simp [cmpL]
 | _ :: _, [] => by simp [cmpL]
 | x :: xs, y :: ys => by
  rw [cmpL]
  by_cases h : x = y
  ·rw [if_pos h, cmpL_zero xs ys]; simp [h]
  ·rw [if_neg h]; simp [h, cmpI_ne h]
theorem cmpL_anti : ∀ a b : List Int, cmpL a b < 0 ↔ 0 < cmpL b a
 | [], [] => by simp [cmpL]
 | [], _ :: _ => by simp [cmpL]
 | _ :: _, [] => by simp [cmpL]
 | x :: xs, y :: ys => by
  rw [cmpL, cmpL]
  by_cases h : x = y
  ·rw [if_pos h, if_pos h.symm]; exact cmpL_anti xs ys
  ·rw [if_neg h, if_neg (fun e => h e.symm)]
   by_cases h1 : x < y
   ·have h2 : ¬ y < x := by omega
    simp [cmpI, h1, h2]
   ·have h2 : y < x := by omega
    simp [cmpI, h1, h2]
theorem linLx : LinC cmpL where
 zero := cmpL_zero
 anti := cmpL_anti
 trans a b d h1 h2 := by
  have := ltL_trans (a := a) (b := b) (c := d) (by rw [← cmpL_neg]; simpa using h1) (by rw [← cmpL_neg]; simpa using h2)
  rw [← cmpL_neg] at this; simpa using this
theorem LinC.flip {α : Type} {c : α → α → Int} (h : LinC c) : LinC (fun a b => c b a) :=
 ⟨fun a b => (h.zero b a).trans eq_comm, fun a b => h.anti b a, fun a b d h1 h2 => h.trans d b a h2 h1⟩
theorem LinC.key {α : Type} {c : α → α → Int} (h : LinC c) (k : α → Nat) : LinC (fun a b => if k a = k b then c a b else (k a : Int) - k b) where
 zero a b := by
  by_cases e : k a = k b
  ·simp only [if_pos e]; exact h.zero a b
  ·simp only [if_neg e]; exact ⟨fun x => by omega, fun x => (e (by rw [x])).elim⟩
 anti a b := by
  by_cases e : k a = k b
  ·simp only [if_pos e, if_pos e.symm]; exact h.anti a b
  ·have e2 : ¬ k b = k a := fun x => e x.symm
   simp only [if_neg e, if_neg e2]; omega
 trans a b d h1 h2 := by
  by_cases e : k a = k b
  ·by_cases e2 : k b = k d
   ·simp only [if_pos e] at h1; simp only [if_pos e2] at h2; simp only [if_pos (e.trans e2)]; exact h.trans _ _ _ h1 h2
   ·simp only [if_neg e2] at h2; have e3 : ¬ k a = k d := by omega
    simp only [if_neg e3]; omega
  ·simp only [if_neg e] at h1
   by_cases e2 : k b = k d
   ·have e3 : ¬ k a = k d := by omega
    simp only [if_neg e3]; omega
   ·simp only [if_neg e2] at h2; have e3 : ¬ k a = k d := by omega
    simp only [if_neg e3]; omega
theorem LinC.pair {α β : Type} {c : α → α → Int} {d : β → β → Int} (h : LinC c) (k : LinC d) : LinC (fun p q : α × β => if c p.1 q.1 = 0 then d p.2 q.2 else c p.1 q.1) where
 zero p q := by
  obtain ⟨a, x⟩ := p; obtain ⟨b, y⟩ := q
  by_cases e : c a b = 0
  ·have e1 := (h.zero a b).1 e
   simp only [if_pos e]; rw [k.zero]; simp [e1]
  ·have e1 : ¬ a = b := fun x => e ((h.zero a b).2 x)
   simp only [if_neg e]; simp [e, e1]
 anti p q := by
  obtain ⟨a, x⟩ := p; obtain ⟨b, y⟩ := q
  by_cases e : c a b = 0
  ·have e2 : c b a = 0 := (h.zero b a).2 ((h.zero a b).1 e).symm
   simp only [if_pos e, if_pos e2]; exact k.anti x y
  ·have e2 : ¬ c b a = 0 := fun x => e ((h.zero a b).2 ((h.zero b a).1 x).symm)
   simp only [if_neg e, if_neg e2]; exact h.anti a b
 trans p q r h1 h2 := by
  obtain ⟨a, x⟩ := p; obtain ⟨b, y⟩ := q; obtain ⟨d, z⟩ := r
  by_cases e : c a b = 0
  ·have e1 := (h.zero a b).1 e
   simp only [if_pos e] at h1
   by_cases e2 : c b d = 0
   ·simp only [if_pos e2] at h2; rw [← e1] at e2; simp only [if_pos e2]; exact k.trans _ _ _ h1 h2
   ·simp only [if_neg e2] at h2; rw [← e1] at e2 h2; simp only [if_neg e2]; exact h2
  ·simp only [if_neg e] at h1
   by_cases e2 : c b d = 0
   ·have e3 := (h.zero b d).1 e2
    rw [e3] at h1 e; simp only [if_neg e]; exact h1
   ·simp only [if_neg e2] at h2
    have h3 := h.trans a b d h1 h2
    have e3 : ¬ c a d = 0 := by omega
    simp only [if_neg e3]; exact h3
theorem LinC.swo {α β : Type} {c : β → β → Int} (h : LinC c) (k : α → β) : SWO (Go.Proofs.ltOf fun a b => c (k a) (k b)) := by
 refine ⟨fun a => ?_, fun x y z h1 h2 => ?_, fun x y z h1 h2 => ?_⟩
 ·show decide (c (k a) (k a) < 0) = false
  rw [h.self]; rfl
 ·have h1 : decide (c (k x) (k y) < 0) = true := h1
  have h2 : decide (c (k y) (k z) < 0) = true := h2
  show decide (c (k x) (k z) < 0) = true
  rw [decide_eq_true_eq] at *
  exact h.trans _ _ _ h1 h2
 ·have h1 : decide (c (k x) (k y) < 0) = false := h1
  have h2 : decide (c (k y) (k z) < 0) = false := h2
  show decide (c (k x) (k z) < 0) = false
  rw [decide_eq_false_iff_not] at *
  intro h3
  by_cases e : c (k x) (k y) = 0
  ·rw [(h.zero _ _).1 e] at h3; exact h2 h3
  ·have h4 : c (k y) (k x) < 0 := (h.anti _ _).2 (by omega)
   exact h2 (h.trans _ _ _ h4 h3)
theorem linT : LinC cmpT := linLx.flip.key List.length
theorem cmpFs_zero : ∀ f g, cmpFs f g = 0 ↔ f = g
 | [], [] => by simp [cmpFs]
 | [], _ :: _ => by simp [cmpFs]
 | _ :: _, [] => by simp [cmpFs]
 | a :: f, b :: g => by
  rw [cmpFs]
  by_cases h : cmpT a b = 0
  ·rw [if_pos h, cmpFs_zero f g]; simp [(linT.zero a b).1 h]
  ·have e : ¬ a = b := fun e => h ((linT.zero a b).2 e)
   rw [if_neg h]; simp [h, e]
theorem cmpFs_anti : ∀ f g, cmpFs f g < 0 ↔ 0 < cmpFs g f
 | [], [] => by simp [cmpFs]
 | [], _ :: _ => by simp [cmpFs]
 | _ :: _, [] => by simp [cmpFs]
 | a :: f, b :: g => by
  rw [cmpFs, cmpFs]
  by_cases h : cmpT a b = 0
  ·have h2 : cmpT b a = 0 := (linT.zero b a).2 ((linT.zero a b).1 h).symm
   rw [if_pos h, if_pos h2]; exact cmpFs_anti f g
  ·have h2 : ¬ cmpT b a = 0 := fun x => h ((linT.zero a b).2 ((linT.zero b a).1 x).symm)
   rw [if_neg h, if_neg h2]; exact linT.anti a b
theorem cmpFs_trans : ∀ f g k, cmpFs f g < 0 → cmpFs g k < 0 → cmpFs f k < 0
 | [], [], k, h1, _ => by simp [cmpFs] at h1
 | [], b :: g, [], _, h2 => by simp [cmpFs] at h2
 | [], b :: g, d :: k, _, _ => by simp [cmpFs]
 | a :: f, [], k, h1, _ => by simp [cmpFs] at h1
 | a :: f, b :: g, [], _, h2 => by simp [cmpFs] at h2
 | a :: f, b :: g, d :: k, h1, h2 => by
  rw [cmpFs] at h1 h2 ⊢
  by_cases e1 : cmpT a b = 0
  ·have e := (linT.zero a b).1 e1
   rw [if_pos e1] at h1
   rw [← e] at h2
   by_cases e2 : cmpT a d = 0
   ·rw [if_pos e2] at h2 ⊢; exact cmpFs_trans f g k h1 h2
   ·rw [if_neg e2] at h2 ⊢; exact h2
  ·rw [if_neg e1] at h1
   by_cases e2 : cmpT b d = 0
   ·rw [(linT.zero b d).1 e2] at h1 e1
    rw [if_neg e1]; exact h1
   ·rw [if_neg e2] at h2
    have h3 := linT.trans a b d h1 h2
    rw [if_neg (by omega)]; exact h3
theorem linFs : LinC cmpFs := ⟨cmpFs_zero, cmpFs_anti, cmpFs_trans⟩
theorem linTr : LinC cmpTr := linFs.key List.length
theorem linFo : LinC cmpFo := by
 have e : cmpFo = fun f g => if sumN f = sumN g then cmpTr f g else (sumN f : Int) - sumN g := by
  funext f g
  unfold cmpFo
  by_cases e : sumN f = sumN g
  ·rw [if_pos (by omega), if_pos e]
  ·rw [if_neg (by omega), if_neg e]
 rw [e]; exact linTr.key sumN
theorem linSp : LinC (fun p q : List (List Int) × List (List Int) => if cmpFo p.1 q.1 = 0 then cmpTr p.2 q.2 else cmpFo p.1 q.1) := linFo.pair linTr
def keyS (s : Spl) : List (List Int) × List (List Int) := (s.1, s.2.1)
theorem swo_sp : SWO (Go.Proofs.ltOf cmpSp) := linSp.swo keyS
theorem spT {a b d : Spl} (h1 : cmpSp a b < 0) (h2 : cmpSp b d < 0) : cmpSp a d < 0 := linSp.trans (keyS a) (keyS b) (keyS d) h1 h2
theorem spI (a : Spl) : ¬ cmpSp a a < 0 := by
 have : cmpSp a a = 0 := linSp.self (keyS a)
 omega
theorem spZ {a b : Spl} : cmpSp a b = 0 ↔ keyS a = keyS b := linSp.zero (keyS a) (keyS b)
theorem spAn {a b : Spl} : cmpSp a b < 0 ↔ 0 < cmpSp b a := linSp.anti (keyS a) (keyS b)
def insS (p : Spl) : List Spl → List Spl
 | [] => [p]
 | s :: S => if cmpSp p s < 0 then p :: s :: S else s :: insS p S
def srtS : List Spl → List Spl
 | [] => []
 | s :: S => insS s (srtS S)
theorem insS_perm (p : Spl) : ∀ S, (insS p S).Perm (p :: S)
 | [] => .refl _
 | s :: S => by
  rw [insS]; split
  ·exact .refl _
  ·exact ((insS_perm p S).cons s).trans (.swap _ _ _)
theorem srtS_perm : ∀ S, (srtS S).Perm S
 | [] => .refl _
 | s :: S => (insS_perm s _).trans ((srtS_perm S).cons s)
theorem srtS_len (S : List Spl) : (srtS S).length = S.length := (srtS_perm S).length_eq
theorem insS_srt (p : Spl) : ∀ S : List Spl, S.Pairwise (fun x y => ¬ cmpSp y x < 0) → (insS p S).Pairwise (fun x y => ¬ cmpSp y x < 0)
 | [], _ => by simp [insS]
 | s :: S, h => by
  obtain ⟨h1, h2⟩ := List.pairwise_cons.1 h
  rw [insS]; split
  ·rename_i hl
   refine .cons (fun y hy => ?_) h
   rcases List.mem_cons.1 hy with e | hy
   ·rw [e]; intro hc; exact spI p (spT hl hc)
   ·intro hc; exact h1 y hy (spT hc hl)
  ·rename_i hl
   refine .cons (fun y hy => ?_) (insS_srt p S h2)
   rcases List.mem_cons.1 ((insS_perm p S).mem_iff.1 hy) with e | hy
   ·rw [e]; exact hl
   ·exact h1 y hy
theorem srtS_srt : ∀ S : List Spl, (srtS S).Pairwise (fun x y => ¬ cmpSp y x < 0)
 | [] => .nil
 | s :: S => insS_srt s _ (srtS_srt S)
theorem srtS_unique {ys X : List Spl} (hp : ys.Perm X) (h1 : ∀ s ∈ X, s.2.2 = 1) (hy : ys.Pairwise (fun x y => ¬ cmpSp y x < 0)) : ys = srtS X :=
 (hp.trans (srtS_perm X).symm).eq_of_pairwise (fun a b ha hb k1 k2 => by
  have e1 := h1 a (hp.mem_iff.1 ha)
  have e2 := h1 b ((srtS_perm X).mem_iff.1 hb)
  have z : cmpSp a b = 0 := by
   have k3 : ¬ 0 < cmpSp a b := fun x => k1 (spAn.2 x)
   omega
  have k := spZ.1 z
  obtain ⟨a1, a2, a3⟩ := a
  obtain ⟨b1, b2, b3⟩ := b
  simp only [keyS, Prod.mk.injEq] at k e1 e2
  rw [k.1, k.2, e1, e2]) hy (srtS_srt X)
def stepG (out : List Spl) (s : Spl) : List Spl := match out.getLast? with
 | some l => if cmpSp l s = 0 then out.set (out.length - 1) (l.1, l.2.1, l.2.2 + 1) else out ++ [s]
 | none => [s]
def gthS (L : List Spl) : List Spl := L.foldl stepG []
theorem gthS_snoc (L : List Spl) (s : Spl) : gthS (L ++ [s]) = stepG (gthS L) s := by simp [gthS]
theorem stepG_len (out : List Spl) (s : Spl) : (stepG out s).length ≤ out.length + 1 := by
 unfold stepG
 split
 ·split <;> simp
 ·simp
theorem gthS_inv (L : List Spl) : (gthS L).length ≤ L.length ∧ (∀ l ∈ gthS L, ∃ s ∈ L, keyS l = keyS s) ∧ ((∀ s ∈ L, s.2.2 = 1) → ∀ l ∈ gthS L, 0 ≤ l.2.2 ∧ l.2.2 ≤ L.length) := by
 refine rev_ind (P := fun L => (gthS L).length ≤ L.length ∧ (∀ l ∈ gthS L, ∃ s ∈ L, keyS l = keyS s) ∧ ((∀ s ∈ L, s.2.2 = 1) → ∀ l ∈ gthS L, 0 ≤ l.2.2 ∧ l.2.2 ≤ L.length)) ⟨by simp [gthS], by simp [gthS], by simp [gthS]⟩ (fun L s ih => ?_) L
 obtain ⟨i1, i2, i3⟩ := ih
 rw [gthS_snoc]
 have hl := stepG_len (gthS L) s
 refine ⟨by rw [List.length_append, List.length_singleton]; omega, fun l hm => ?_, fun h1 l hm => ?_⟩
 ·unfold stepG at hm
  split at hm
  ·rename_i l0 hl0
   split at hm
   ·rcases List.mem_or_eq_of_mem_set hm with hm | e
    ·obtain ⟨t, t1, t2⟩ := i2 l hm
     exact ⟨t, by simp [t1], t2⟩
    ·obtain ⟨t, t1, t2⟩ := i2 l0 (List.mem_of_getLast? hl0)
     exact ⟨t, by simp [t1], by rw [e, ← t2]; rfl⟩
   ·rcases List.mem_append.1 hm with hm | hm
    ·obtain ⟨t, t1, t2⟩ := i2 l hm
     exact ⟨t, by simp [t1], t2⟩
    ·rw [List.mem_singleton] at hm
     exact ⟨s, by simp, by rw [hm]⟩
  ·rw [List.mem_singleton] at hm
   exact ⟨s, by simp, by rw [hm]⟩
 ·have j3 := i3 (fun t ht => h1 t (by simp [ht]))
  have hs := h1 s (by simp)
  rw [List.length_append, List.length_singleton]
  unfold stepG at hm
  split at hm
  ·rename_i l0 hl0
   split at hm
   ·rcases List.mem_or_eq_of_mem_set hm with hm | e
    ·have := j3 l hm; omega
    ·have := j3 l0 (List.mem_of_getLast? hl0)
     rw [e]; simp only; omega
   ·rcases List.mem_append.1 hm with hm | hm
    ·have := j3 l hm; omega
    ·rw [List.mem_singleton] at hm; rw [hm]; omega
  ·rw [List.mem_singleton] at hm; rw [hm]; omega
end Go.Proofs.YtiikdbomhkbdlaaGreat


namespace Go.Proofs.YtiikdbomhkbdlaaGreat
open Go.Abs
def mulSp (L M : List Spl) : List Spl := L.flatMap fun s => M.map fun c => (s.1 ++ c.1, s.2.1 ++ c.2.1, (0 : Int))
def spl : Nat → List Int → List Spl
 | 0, _ => []
 | n + 1, t => ((brs t).foldl (fun L b => mulSp L (spl n b)) [([], [], 0)]).map (fun s => (s.1, [canF (n + 1) (rootL s.2.1)], s.2.2)) ++ [([canF (n + 1) t], [], 0)]
def fldS (n : Nat) (bs : List (List Int)) : List Spl := bs.foldl (fun L b => mulSp L (spl n b)) [([], [], 0)]
theorem fldS_snoc (n : Nat) (bs : List (List Int)) (b : List Int) : fldS n (bs ++ [b]) = mulSp (fldS n bs) (spl n b) := by simp [fldS]
theorem spl_succ (n : Nat) (t : List Int) : spl (n + 1) t = (fldS n (brs t)).map (fun s => (s.1, [canF (n + 1) (rootL s.2.1)], s.2.2)) ++ [([canF (n + 1) t], [], 0)] := rfl
theorem mulSp_snoc (L M : List Spl) (s : Spl) : mulSp (L ++ [s]) M = mulSp L M ++ M.map fun c => (s.1 ++ c.1, s.2.1 ++ c.2.1, (0 : Int)) := by simp [mulSp]
theorem mulSp_len (L M : List Spl) : (mulSp L M).length = L.length * M.length := by
 induction L with
 | nil => simp [mulSp]
 | cons s L ih =>
  have e : mulSp (s :: L) M = (M.map fun c => (s.1 ++ c.1, s.2.1 ++ c.2.1, (0 : Int))) ++ mulSp L M := rfl
  rw [e, List.length_append, ih, List.length_map, List.length_cons, Nat.succ_mul]; omega
def smS (s : Spl) : Bool := decide (s.1.length ≤ 100) && decide (s.2.1.length ≤ 100) && decide (s.2.2 = 0)
def rtS (n : Nat) (s : Spl) : Bool := lvC (rootL s.2.1) && decide ((rootL s.2.1).length ≤ n) && s.2.1.all (fun b => decide (b.length ≤ 100) && b.all (fun x => decide (0 ≤ x) && decide (x ≤ 100)))
def splOk : Nat → List Int → Bool
 | 0, _ => false
 | n + 1, t => decide (n + 1 ≤ 100) && lvC t && decide (t.length ≤ n + 1) && (brs t).all (splOk n) && (brs t).all (fun b => decide ((spl n b).length ≤ 100) && (spl n b).all smS) &&
   (List.range ((brs t).length + 1)).all (fun i => decide ((fldS n ((brs t).take i)).length ≤ 100) && (fldS n ((brs t).take i)).all smS) && (fldS n (brs t)).all (rtS (n + 1))
theorem smS_spec {s : Spl} (h : smS s = true) : s.1.length ≤ 100 ∧ s.2.1.length ≤ 100 ∧ s.2.2 = 0 := by
 simp [smS] at h; exact ⟨h.1.1, h.1.2, h.2⟩
theorem rtS_spec {n : Nat} {s : Spl} (h : rtS n s = true) : Lv (rootL s.2.1) ∧ (rootL s.2.1).length ≤ n ∧ ∀ b ∈ s.2.1, b.length ≤ 100 ∧ ∀ x ∈ b, 0 ≤ x ∧ x ≤ 100 := by
 simp only [rtS, Bool.and_eq_true, decide_eq_true_eq, List.all_eq_true] at h
 exact ⟨lvC_Lv h.1.1, h.1.2, h.2⟩
theorem splOk_spec {n : Nat} {t : List Int} (h : splOk (n + 1) t = true) : n + 1 ≤ 100 ∧ Lv t ∧ t.length ≤ n + 1 ∧ (∀ b ∈ brs t, splOk n b = true ∧ (spl n b).length ≤ 100 ∧ ∀ s ∈ spl n b, smS s = true) ∧
  (∀ i, i ≤ (brs t).length → (fldS n ((brs t).take i)).length ≤ 100 ∧ ∀ s ∈ fldS n ((brs t).take i), smS s = true) ∧ ∀ s ∈ fldS n (brs t), rtS (n + 1) s = true := by
 simp only [splOk, Bool.and_eq_true, decide_eq_true_eq, List.all_eq_true, List.mem_range] at h
 obtain ⟨⟨⟨⟨⟨⟨h1, h2⟩, h3⟩, h4⟩, h5⟩, h6⟩, h7⟩ := h
 exact ⟨h1, lvC_Lv h2, h3, fun b hb => ⟨h4 b hb, (h5 b hb).1, (h5 b hb).2⟩, fun i hi => h6 i (by omega), h7⟩
theorem splOk_all : (trN 6).all (splOk 6) = true := by kernel_rfl
end Go.Proofs.YtiikdbomhkbdlaaGreat


namespace Go.Proofs.YtiikdbomhkbdlaaGreat
open Go.RowKit Go.Shelf Go.Lib Go.Abs
end Go.Proofs.YtiikdbomhkbdlaaGreat


namespace Go.Proofs.YtiikdbomhkbdlaaGreat
open Go.Abs
def bsG (L : List (List Int)) (t : List Int) : Nat → Nat → Nat → Nat
 | 0, i, _ => i
 | n + 1, i, j => if i < j then (if cmpT (L[(i + j) / 2]?.getD []) t < 0 then bsG L t n ((i + j) / 2 + 1) j else bsG L t n i ((i + j) / 2)) else i
def bsI (L : List (List Int)) (t : List Int) : Nat := bsG L t (L.length + 1) 0 L.length
theorem bsG_more (L : List (List Int)) (t : List Int) : ∀ (n m i j : Nat), j - i < n → j - i < m → bsG L t n i j = bsG L t m i j
 | 0, m, i, j, h, _ => by omega
 | n + 1, 0, i, j, _, h => by omega
 | n + 1, m + 1, i, j, h1, h2 => by
  rw [bsG, bsG]
  by_cases hij : i < j
  ·rw [if_pos hij, if_pos hij]
   by_cases hc : cmpT (L[(i + j) / 2]?.getD []) t < 0
   ·rw [if_pos hc, if_pos hc]; exact bsG_more L t n m _ _ (by omega) (by omega)
   ·rw [if_neg hc, if_neg hc]; exact bsG_more L t n m _ _ (by omega) (by omega)
  ·rw [if_neg hij, if_neg hij]
theorem bsG_le (L : List (List Int)) (t : List Int) : ∀ (n i j : Nat), i ≤ j → i ≤ bsG L t n i j ∧ bsG L t n i j ≤ j
 | 0, i, j, h => ⟨Nat.le_refl _, h⟩
 | n + 1, i, j, h => by
  rw [bsG]
  by_cases hij : i < j
  ·rw [if_pos hij]
   by_cases hc : cmpT (L[(i + j) / 2]?.getD []) t < 0
   ·rw [if_pos hc]
    have := bsG_le L t n ((i + j) / 2 + 1) j (by omega)
    omega
   ·rw [if_neg hc]
    have := bsG_le L t n i ((i + j) / 2) (by omega)
    omega
  ·rw [if_neg hij]; omega
theorem shr1 {a : Nat} (h : a < 1000000000) : shrI IntKind.u64 (a : Int) 1 = ((a / 2 : Nat) : Int) := by
 have e : (2 : Int) ^ min (1 : Int).toNat IntKind.u64.bits = 2 := by decide
 unfold shrI
 rw [e, Int.fdiv_eq_ediv_of_nonneg _ (by decide)]
 omega
theorem BinarySearch_c (L : List (List Int)) (t : List Int) (hL : L.length ≤ 1000) (hr : ∀ r ∈ L, r.length ≤ 1000) (ht : t.length ≤ 1000) :
  Con Tryz.prog 233 [.sl L.length (mat L), .sl t.length (avs t), .val (.func (.func 234) #[] #[])] (.tup [.int (bsI L t), .bool (decide (bsI L t < L.length) && decide (cmpT (L[bsI L t]?.getD []) t = 0))]) := by
 refine con_of_vc Tryz.mixed ⟨12, [], [], []⟩ Tryz.func233 (by decide) rfl (by simp) (by decide) (by simp [freshOK, freshL, go_sem]) ?_
 rw [Tryz.ntmps233]
 simp [go_sem]
 refine loop_inv (List.range' 9 3 ++ List.range' 15 20) (fun x : Nat × Nat => [(9, .int x.1), (10, .int x.2)]) (fun x => x.1 ≤ x.2 ∧ x.2 ≤ L.length ∧ bsG L t (x.2 - x.1 + 1) x.1 x.2 = bsI L t) (fun x => x.2 - x.1) (0, L.length) ⟨by simp, by simp, rfl⟩ (by simp [go_sem]) (by simp [go_sem]) ?_
 rintro ⟨i, j⟩ ⟨h1, h2, h3⟩
 simp only at h1 h2 h3
 by_cases hij : i < j
 ·have hii : (i : Int) < j := by omega
  have hh : (i + j) / 2 < L.length := by omega
  have cT := compareTrees_c (L[(i + j) / 2]?.getD []) t (by have := hr _ (memD [] hh); omega) (by omega)
  rw [bsG, if_pos hij] at h3
  have hsh : shrI IntKind.u64 (IntKind.u64.wrap ((i : Int) + j)) 1 = (((i + j) / 2 : Nat) : Int) := by
   have w : IntKind.u64.wrap ((i : Int) + j) = ((i + j : Nat) : Int) := by
    rw [wrap_u64 (by omega) (by omega)]; omega
   rw [w]
   exact shr1 (by omega)
  have hnL : ¬ L = [] := by rintro rfl; simp at hh
  have md := mat_drop hh
  have k1 : i ≤ (i + j) / 2 := by omega
  have k2 : (i + j) / 2 < j := by omega
  generalize (i + j) / 2 = k at *
  by_cases c0 : cmpT (L[k]?.getD []) t < 0
  ·rw [if_pos c0, bsG_more L t (j - i) (j - (k + 1) + 1) _ _ (by omega) (by omega)] at h3
   generalize cmpT (L[k]?.getD []) t = e at *
   simp [go_sem, hii, hsh, md]
   refine ⟨⟨by omega, by omega⟩, by omega, ⟨hh, hnL⟩, ?_⟩
   refine CallVC.of (cT) (by decide) ?_
   simp [go_sem]
   simp [go_sem, c0]
   exact ⟨⟨by omega, by omega⟩, k + 1, j, ⟨by omega, h2, h3⟩, by omega, Off_reset _ _ _ (by simp), by omega, rfl⟩
  ·rw [if_neg c0, bsG_more L t (j - i) (k - i + 1) _ _ (by omega) (by omega)] at h3
   generalize cmpT (L[k]?.getD []) t = e at *
   simp [go_sem, hii, hsh, md]
   refine ⟨⟨by omega, by omega⟩, by omega, ⟨hh, hnL⟩, ?_⟩
   refine CallVC.of (cT) (by decide) ?_
   simp [go_sem]
   simp [go_sem, c0]
   exact ⟨i, k, ⟨by omega, by omega, h3⟩, by omega, Off_reset _ _ _ (by simp), rfl, rfl⟩
 ·have e : i = j := by omega
  subst e
  have hii : ¬ (i : Int) < i := by omega
  rw [bsG, if_neg (by omega)] at h3
  rw [← h3]
  by_cases hi : i < L.length
  ·have hiL : (i : Int) < L.length := by omega
   have hnL : ¬ L = [] := by rintro rfl; simp at hi
   have cT := compareTrees_c (L[i]?.getD []) t (by have := hr _ (memD [] hi); omega) (by omega)
   have md := mat_drop hi
   generalize cmpT (L[i]?.getD []) t = e at *
   simp [go_sem, hii, hiL, md]
   refine ⟨hnL, ?_⟩
   refine CallVC.of (cT) (by decide) ?_
   simp [go_sem]
   simp [hi]
  ·have hiL : ¬ (i : Int) < L.length := by omega
   simp [go_sem, hii, hiL]
   omega
def ixT (L : List (List Int)) (t : List Int) : Int := if bsI L t < L.length ∧ cmpT (L[bsI L t]?.getD []) t = 0 then bsI L t else -1
theorem bsI_le (L : List (List Int)) (t : List Int) : bsI L t ≤ L.length := (bsG_le L t _ 0 L.length (by omega)).2
theorem ixT_le (L : List (List Int)) (t : List Int) : -1 ≤ ixT L t ∧ ixT L t ≤ L.length := by
 have := bsI_le L t
 unfold ixT
 split <;> omega
theorem indexIn_c (L : List (List Int)) (t : List Int) (hL : L.length ≤ 1000) (hr : ∀ r ∈ L, r.length ≤ 1000) (ht : t.length ≤ 1000) :
  Con Tryz.prog 132 [.sl L.length (mat L), .sl t.length (avs t)] (.int (ixT L t)) := by
 have c1 := BinarySearch_c L t hL hr ht
 unfold ixT
 by_cases h : bsI L t < L.length ∧ cmpT (L[bsI L t]?.getD []) t = 0
 ·rw [if_pos h]
  rw [decide_eq_true h.1, decide_eq_true h.2] at c1
  generalize bsI L t = i at *
  refine con_of_vc Tryz.mixed ⟨7, [], [], []⟩ Tryz.func132 (by decide) rfl (by simp) (by decide) (by simp [freshOK, freshL, go_sem]) ?_
  rw [Tryz.ntmps132]
  simp [go_sem]
  refine CallVC.of (c1) (by decide) ?_
  simp [go_sem]
 ·rw [if_neg h]
  have e : (decide (bsI L t < L.length) && decide (cmpT (L[bsI L t]?.getD []) t = 0)) = false := by
   cases e1 : decide (bsI L t < L.length) with
   | false => rfl
   | true =>
    cases e2 : decide (cmpT (L[bsI L t]?.getD []) t = 0) with
    | false => rfl
    | true => exact (h ⟨of_decide_eq_true e1, of_decide_eq_true e2⟩).elim
  rw [e] at c1
  generalize bsI L t = i at *
  refine con_of_vc Tryz.mixed ⟨7, [], [], []⟩ Tryz.func132 (by decide) rfl (by simp) (by decide) (by simp [freshOK, freshL, go_sem]) ?_
  rw [Tryz.ntmps132]
  simp [go_sem]
  refine CallVC.of (c1) (by decide) ?_
  simp [go_sem]
theorem place_c (L : List (List Int)) (n : Nat) (cs : List AV) (t : List Int) (hL : L.length ≤ 1000) (hr : ∀ r ∈ L, r.length ≤ 1000) (ht : t.length ≤ 1000) :
  Con Tryz.prog 207 [.agg [.sl L.length (mat L), .sl n cs], .sl t.length (avs t)] (.int (ixT L t + 1)) := by
 have c1 := indexIn_c L t hL hr ht
 have b := ixT_le L t
 generalize ixT L t = e at *
 refine con_of_vc Tryz.mixed ⟨5, [], [], []⟩ Tryz.func207 (by decide) rfl (by simp) (by decide) (by simp [freshOK, freshL, go_sem]) ?_
 rw [Tryz.ntmps207]
 simp [go_sem]
 refine CallVC.of (c1) (by decide) ?_
 simp [go_sem]
 omega
end Go.Proofs.YtiikdbomhkbdlaaGreat


namespace Go.Proofs.YtiikdbomhkbdlaaGreat
open Go.Abs Go.Shelf Go.Sort
theorem spAs_fresh : ∀ X : List Spl, freshL (X.flatMap spA) = true
 | [] => rfl
 | s :: X => by
  have := spAs_fresh X
  simp only [List.flatMap_cons, spA, List.cons_append, List.nil_append]
  simp [freshL, freshOK, this]
theorem spAs_frz : ∀ X : List Spl, frzL (X.flatMap spA) = X.flatMap spF
 | [] => rfl
 | s :: X => by
  have := spAs_frz X
  simp only [List.flatMap_cons, spA, spF, List.cons_append, List.nil_append]
  simp [frzL, frz, this]
theorem sortSpl_c (X : List Spl) (h1 : ∀ s ∈ X, s.2.2 = 1) (hok : ∀ s ∈ X, SpOk s) (hn : X.length ≤ 1048576) :
  MCon Tryz.prog 336 [.own 215 X.length (X.flatMap spA), .val (.func (.func 333) #[] #[])] (.tup []) [.own 215 X.length ((srtS X).flatMap spA), .any] := by
 obtain ⟨ys, p1, p2, p3⟩ := sort_mcon Tryz.sortSplits 3 Tryz.isAgg215 Tryz.sizeOf215 ⟨_, Tryz.func336, by decide, rfl⟩ spA cmpSp swo_sp 333 215 (by kernel_rfl) X (fun _ _ => rfl) (spAs_fresh X)
  (fun x hx y hy => by rw [spA_frz, spA_frz]; exact @gathered1_c ⟨1⟩ x y (hok x hx) (hok y hy)) (by omega)
 have e : ys = srtS X := srtS_unique p1 h1 p2
 subst e
 exact p3
def cntF (s : Spl) : Spl := (srtT s.1, srtT s.2.1, 1)
def mixS (L : List Spl) (i : Nat) : List AV := ((L.map cntF).take i).flatMap spA ++ (L.drop i).flatMap spF
theorem spA_len (X : List Spl) : (X.flatMap spA).length = X.length * 3 := by
 induction X with
 | nil => rfl
 | cons s X ih => rw [List.flatMap_cons, List.length_append, ih]; simp [spA]; omega
theorem spF_len (X : List Spl) : (X.flatMap spF).length = X.length * 3 := by
 induction X with
 | nil => rfl
 | cons s X ih => rw [List.flatMap_cons, List.length_append, ih]; simp [spF]; omega
theorem set3 (R : List AV) (x1 x2 x3 y1 y2 y3 : AV) : ∀ P : List AV, (((P ++ x1 :: x2 :: x3 :: R).set P.length y1).set (P.length + 1) y2).set (P.length + 1 + 1) y3 = P ++ y1 :: y2 :: y3 :: R
 | [] => rfl
 | p :: P => by
  have := set3 R x1 x2 x3 y1 y2 y3 P
  simp only [List.cons_append, List.length_cons, List.set_cons_succ]
  rw [this]
theorem set3c (x1 x2 x3 y3 : AV) : ∀ P : List AV, (P ++ [x1, x2, x3]).set (P.length + 2) y3 = P ++ [x1, x2, y3]
 | [] => rfl
 | p :: P => by
  have := set3c x1 x2 x3 y3 P
  show p :: (P ++ [x1, x2, x3]).set (P.length + 2) y3 = p :: (P ++ [x1, x2, y3])
  rw [this]
theorem stepG_snoc (O : List Spl) (l s : Spl) : stepG (O ++ [l]) s = if cmpSp l s = 0 then O ++ [(l.1, l.2.1, l.2.2 + 1)] else O ++ [l] ++ [s] := by
 have e : ∀ O : List Spl, (O ++ [l]).set O.length (l.1, l.2.1, l.2.2 + 1) = O ++ [(l.1, l.2.1, l.2.2 + 1)] := fun O => by
  induction O with
  | nil => rfl
  | cons o O ih => rw [List.cons_append, List.length_cons, List.set_cons_succ, ih]; rfl
 unfold stepG
 rw [List.getLast?_concat]
 simp only [List.length_append, List.length_singleton, Nat.add_sub_cancel, e]
theorem mix_set (L : List Spl) {i : Nat} (h : i < L.length) {a b : List (List Int)} {k : Int} (hsp : L[i]?.getD ([], [], 0) = (a, b, k)) :
  (((mixS L i).set (i * 3) (AV.own 25 a.length (omat (srtT a)))).set (i * 3 + 1) (AV.own 25 b.length (omat (srtT b)))).set (i * 3 + 1 + 1) (AV.val (Value.int IntKind.i64 1)) = mixS L (i + 1) := by
 have e1 : (((L.map cntF).take i).flatMap spA).length = i * 3 := by rw [spA_len, List.length_take, List.length_map, Nat.min_eq_left (by omega)]
 have e2 : L.drop i = (a, b, k) :: L.drop (i + 1) := by rw [List.drop_eq_getElem_cons h, ← hsp]; simp [h]
 have e3 : (L.map cntF).take (i + 1) = (L.map cntF).take i ++ [cntF (a, b, k)] := by
  rw [List.take_succ_eq_append_getElem (by simpa using h), List.getElem_map]
  congr 2
  rw [← hsp]; simp [h]
 unfold mixS
 rw [e2, e3, List.flatMap_cons, List.flatMap_append, ← e1]
 refine (set3 _ _ _ _ _ _ _ _).trans ?_
 simp [cntF, spA]
theorem gathered_c (L : List Spl) (hok : ∀ s ∈ L, (s.1.length ≤ 19 ∧ ∀ r ∈ s.1, r.length ≤ 100) ∧ (s.2.1.length ≤ 19 ∧ ∀ r ∈ s.2.1, r.length ≤ 100)) (hn : L.length ≤ 1000) :
  GCon Tryz.prog 287 [.own 215 L.length (L.flatMap spF)] (.own 215 (gthS (srtS (L.map cntF))).length ((gthS (srtS (L.map cntF))).flatMap spF)) [.any] := by
 have cS := sortSpl_c (L.map cntF) (fun s hs => by obtain ⟨t, _, rfl⟩ := List.mem_map.1 hs; rfl) (fun s hs => by
  obtain ⟨t, ht, rfl⟩ := List.mem_map.1 hs
  have h := hok t ht
  refine ⟨⟨by simp [cntF]; omega, fun r hr => h.1.2 r ((srtT_perm _).mem_iff.1 hr)⟩, by simp [cntF]; omega, fun r hr => h.2.2 r ((srtT_perm _).mem_iff.1 hr)⟩) (by simp; omega)
 rw [List.length_map] at cS
 refine gcon_of_vc Tryz.mixed ⟨10, [32], [336], []⟩ [2] [] Tryz.func287 (by decide) rfl rfl (by simp) (by simp) (by decide) ?_
 rw [Tryz.ntmps287]
 simp [go_sem]
 refine loop_invA (0 :: 3 :: 4 :: 10 :: List.range' 12 16) (3 :: 4 :: List.range' 13 15) (fun i : Nat => [(0, .own 215 L.length (mixS L i)), (10, .bor 0 []), (12, .int i)]) (fun i => i ≤ L.length) (fun i => L.length - i) 0 (by intro x i h1 h2; have : i = 0 ∨ i = 10 ∨ i = 12 := (by simp at h1 h2; omega); rcases this with rfl | rfl | rfl <;> rfl) (by intro i h; simp at h ⊢; omega) (by simp) (by simp [go_sem, mixS]) (by simp [go_sem, kl]) ?_
 intro i hi
 by_cases h : i < L.length
 ·have hii : (i : Int) < L.length := by omega
  have hs := hok (L[i]?.getD ([], [], 0)) (memD _ h)
  have c1 := forestOf_c (L[i]?.getD ([], [], 0)).1 (fun m hm => by have := hs.1.2 m hm; omega) hs.1.1
  have c2 := forestOf_c (L[i]?.getD ([], [], 0)).2.1 (fun m hm => by have := hs.2.2 m hm; omega) hs.2.1
  have dr : (mixS L i).drop (i * 3) = spF (L[i]?.getD ([], [], 0)) ++ (L.drop (i + 1)).flatMap spF := by
   have e1 : (((L.map cntF).take i).flatMap spA).length = i * 3 := by rw [spA_len, List.length_take, List.length_map, Nat.min_eq_left (by omega)]
   have e2 : L.drop i = L[i]?.getD ([], [], 0) :: L.drop (i + 1) := by rw [List.drop_eq_getElem_cons h]; simp [h]
   unfold mixS
   rw [List.drop_append_of_le_length (by omega), e2, List.flatMap_cons, List.drop_eq_nil_of_le (by omega), List.nil_append]
  generalize hsp : L[i]?.getD ([], [], 0) = s at *
  obtain ⟨a, b, k⟩ := s
  simp only [spF] at dr c1 c2
  have ml : (mixS L i).length = L.length * 3 := by
   unfold mixS
   rw [List.length_append, spA_len, spF_len, List.length_take, List.length_map, List.length_drop, Nat.min_eq_left (by omega)]; omega
  have nm : ¬ mixS L i = [] := by intro e; rw [e] at ml; simp at ml; omega
  simp [go_sem, hii, dr]
  refine ⟨⟨nm, by omega⟩, by kernel_rfl, ?_⟩
  refine CallD.of (c1) (by simp [roots, rootsL]) (by decide) ?_
  simp [go_sem]
  refine CallD.of (c2) (by simp [roots, rootsL]) (by decide) ?_
  simp [go_sem]
  refine ⟨h, ⟨by omega, nm⟩, ?_⟩
  refine ⟨by kernel_rfl, ?_⟩
  simp [go_sem]
  refine ⟨⟨by omega, by omega⟩, i + 1, by omega, by omega, Off_reset _ _ _ (by simp), mix_set L h hsp, by omega⟩
 ·have e : i = L.length := by omega
  subst e
  have hii : ¬ (L.length : Int) < L.length := by omega
  have e0 : mixS L L.length = (L.map cntF).flatMap spA := by
   unfold mixS
   rw [List.take_of_length_le (by simp), List.drop_eq_nil_of_le (Nat.le_refl _)]; simp
  rw [e0]
  have sl : (srtS (L.map cntF)).length = L.length := by rw [srtS_len, List.length_map]
  have so : ∀ s ∈ srtS (L.map cntF), s.2.2 = 1 ∧ SpOk s := fun s hs => by
   obtain ⟨t, ht, rfl⟩ := List.mem_map.1 ((srtS_perm _).mem_iff.1 hs)
   have h := hok t ht
   exact ⟨rfl, ⟨by simp [cntF]; omega, fun r hr => h.1.2 r ((srtT_perm _).mem_iff.1 hr)⟩, by simp [cntF]; omega, fun r hr => h.2.2 r ((srtT_perm _).mem_iff.1 hr)⟩
  simp [go_sem, hii]
  refine ⟨_, _, cS, ?_⟩
  simp [go_sem]
  generalize srtS (L.map cntF) = S at *
  simp [go_sem, spAs_frz]
  refine loop_inv (6 :: 8 :: 9 :: List.range' 34 33) (fun i : Nat => [(6, .own 215 (gthS (S.take i)).length ((gthS (S.take i)).flatMap spF)), (34, .int i)]) (fun i => i ≤ L.length) (fun i => L.length - i) 0 (by simp) (by simp [go_sem, gthS]) (by simp [go_sem]) ?_
  intro i hi
  by_cases hi2 : i < L.length
  ·have hii : (i : Int) < L.length := by omega
   have hS : i < S.length := by omega
   have dr : (S.flatMap spF).drop (i * 3) = spF (S[i]?.getD ([], [], 0)) ++ (S.drop (i + 1)).flatMap spF := by
    have e1 : ((S.take i).flatMap spF).length = i * 3 := by rw [spF_len, List.length_take, Nat.min_eq_left (by omega)]
    have e2 : S.drop i = S[i]?.getD ([], [], 0) :: S.drop (i + 1) := by rw [List.drop_eq_getElem_cons hS]; simp [hS]
    have e3 : S.flatMap spF = (S.take i).flatMap spF ++ (S.drop i).flatMap spF := by rw [← List.flatMap_append, List.take_append_drop]
    rw [e3, List.drop_append_of_le_length (by omega), e2, List.flatMap_cons, List.drop_eq_nil_of_le (by omega), List.nil_append]
   have hs := so _ (memD ([], [], 0) hS)
   generalize hsp : S[i]?.getD ([], [], 0) = s at *
   obtain ⟨a, b, k⟩ := s
   obtain ⟨hk, hs⟩ := hs
   simp only at hk
   subst hk
   simp only [spF] at dr
   have ml : (S.flatMap spF).length = L.length * 3 := by rw [spF_len, sl]
   have nm : ¬ S.flatMap spF = [] := by intro e; rw [e] at ml; simp at ml; omega
   have gs : gthS (S.take (i + 1)) = stepG (gthS (S.take i)) (a, b, 1) := by
    rw [List.take_succ_eq_append_getElem hS, gthS_snoc]
    congr 1
    rw [← hsp, List.getElem?_eq_getElem hS]; rfl
   have iv := gthS_inv (S.take i)
   generalize S.flatMap spF = M at *
   rcases (List.eq_nil_or_concat (gthS (S.take i))) with ho | ⟨O, l, ho⟩
   ·rw [ho, show stepG [] (a, b, 1) = [(a, b, 1)] from rfl] at gs
    rw [ho]
    simp [go_sem, hii, dr]
    refine ⟨nm, by kernel_rfl, ?_⟩
    refine ⟨by kernel_rfl, ?_⟩
    simp [go_sem]
    refine ⟨⟨by omega, by omega⟩, i + 1, by omega, by omega, Off_reset _ _ _ (by simp), ?_⟩
    rw [gs]
    exact ⟨⟨rfl, by simp [spF]⟩, by omega⟩
   ·rw [List.concat_eq_append] at ho
    rw [ho] at iv
    rw [ho, stepG_snoc] at gs
    rw [ho]
    obtain ⟨i1, i2, i3⟩ := iv
    have kb := i3 (fun s hs => (so s (List.mem_of_mem_take hs)).1) l (by simp)
    have hl : SpOk l := by
     obtain ⟨t, t1, t2⟩ := i2 l (by simp)
     have := (so t (List.mem_of_mem_take t1)).2
     simp only [keyS, Prod.mk.injEq] at t2
     unfold SpOk
     rw [t2.1, t2.2]; exact this
    have cG := gathered1_c l (a, b, 1) hl hs
    have cl : ((O ++ [l]).flatMap spF).length = (O.length + 1) * 3 := by rw [spF_len]; simp
    have cd : ((O ++ [l]).flatMap spF).drop (O.length * 3) = [.sl l.1.length (mat l.1), .sl l.2.1.length (mat l.2.1), .int l.2.2] := by
     rw [List.flatMap_append, List.drop_append_of_le_length (by rw [spF_len]; omega), List.drop_eq_nil_of_le (by rw [spF_len]; omega)]
     simp [spF]
    have cs : ∀ y, ((O ++ [l]).flatMap spF).set (O.length * 3 + 2) y = O.flatMap spF ++ [.sl l.1.length (mat l.1), .sl l.2.1.length (mat l.2.1), y] := fun y => by
     have e := set3c (.sl l.1.length (mat l.1)) (.sl l.2.1.length (mat l.2.1)) (.int l.2.2) y (O.flatMap spF)
     rw [spF_len] at e
     rw [← e, List.flatMap_append]; simp [spF]
    have ol : (O ++ [l]).length = O.length + 1 := by simp
    have i1' : O.length + 1 ≤ i := by
     rw [ol, List.length_take] at i1; omega
    rw [List.length_take] at i3
    simp only [spF] at cG
    rw [ol]
    generalize hC : (O ++ [l]).flatMap spF = C at *
    have cg : C[O.length * 3 + 2]? = some (.val (.int .i64 l.2.2)) := by rw [← List.getElem?_drop, cd]; rfl
    have nC : ¬ C = [] := by intro e; rw [e] at cl; simp at cl
    have hd : 0 < O.length + 1 := by omega
    generalize hv : cmpSp l (a, b, 1) = v at *
    by_cases hz : v = 0
    ·rw [if_pos hz] at gs
     subst hz
     simp [go_sem, hii, dr, hd, cd]
     refine ⟨nm, by kernel_rfl, ?_⟩
     refine ⟨by omega, by omega, ⟨nC, by omega⟩, ?_⟩
     refine CallD.of (cG) (by simp [roots, rootsL]) (by decide) ?_
     simp [go_sem]
     refine ⟨by kernel_rfl, ?_⟩
     simp [go_sem]
     simp [go_sem, cg]
     have tl : (S.take i).length ≤ i := by rw [List.length_take]; omega
     have kk : 0 ≤ l.2.2 ∧ l.2.2 ≤ 1000 := by omega
     refine ⟨by omega, by omega, nC, ⟨by omega, by omega⟩, by omega, nC, by omega, ⟨by omega, by omega⟩, i + 1, by omega, by omega, Off_reset _ _ _ (by simp), ?_⟩
     rw [gs, cs]
     refine ⟨⟨by simp, ?_⟩, by omega⟩
     rw [List.flatMap_append]
     simp [spF]
    ·rw [if_neg hz] at gs
     simp [go_sem, hii, dr, hd, cd]
     refine ⟨nm, by kernel_rfl, ?_⟩
     refine ⟨by omega, by omega, ⟨nC, by omega⟩, ?_⟩
     refine CallD.of (cG) (by simp [roots, rootsL]) (by decide) ?_
     simp [go_sem]
     simp [go_sem, hz]
     refine ⟨by kernel_rfl, ?_⟩
     simp [go_sem]
     refine ⟨⟨by rw [cl], by omega, by omega⟩, ⟨by omega, by omega⟩, i + 1, by omega, by omega, Off_reset _ _ _ (by simp), ?_⟩
     rw [gs]
     refine ⟨⟨by simp, ?_⟩, by omega⟩
     rw [List.flatMap_append, hC]
     simp [spF]
  ·have e : i = S.length := by omega
   subst e
   have hii : ¬ (S.length : Int) < L.length := by omega
   rw [List.take_length]
   simp [go_sem, hii]
end Go.Proofs.YtiikdbomhkbdlaaGreat


namespace Go.Proofs.YtiikdbomhkbdlaaGreat
open Go.RowKit Go.Shelf Go.Lib Go.Abs
theorem Grow2_calls (n : Nat) (h0 : 0 < n) (hn : n ≤ 1048576) (i : TypeInfo) (z : Value) (hi : Tryz.prog.info? 25 = some i) (hz : i.zero = some z) (hs : 0 < i.size) (hb : i.bytes = 24) (w : World) :
  Calls Tryz.prog 376 #[.slice none 0 0, .int .i64 n] w fun e w' =>
   e = .returned (.slice (some ⟨w.heap.size, 0, none⟩) 0 (grownCap w n 0 25)) ∧
   w' = w.drew.alloc (.cells (([] : List Value).toArray ++ Builtin.zeroCells z.cells n ++ Builtin.zeroCells z.cells (grownCap w n 0 25 - n)) 25) := by
 have h1 : ¬ ((n : Int) < 0) := by omega
 have h2 : wrap64 (n : Int) = n := by unfold wrap64; omega
 have h4 : (n : Int) > 0 := by omega
 have hrz : ∀ ty, (Builtin.append_ #[24, 3] ty #[.slice none 0 0, .int .i64 (n : Int)]).run Tryz.prog w =
   .ok (.slice (some ⟨w.heap.size, 0, none⟩) n (grownCap w n 0 25)) (w.drew.alloc (.cells (([] : List Value).toArray ++ Builtin.zeroCells z.cells n ++ Builtin.zeroCells z.cells (grownCap w n 0 25 - n)) 25)) := fun ty => by
  have h := Lib.run_append_grow_zeros w 24 3 ty 25 i z .i64 .i64 Tryz.underlying24 Tryz.underlying3 hi hz none 0 0 [] (run_firstCells_none w.drew i.size 0 0 0) n h0 hs (by omega) (by omega)
   (by rw [hb]; omega) (by
    rw [hb]
    have := growslice_fits (need := 0 + n) (old := 0) (bytes := 24) (by omega) (by omega)
    exact this)
  simp only [Nat.zero_add] at h
  exact h
 have hGn : n ≤ grownCap w n 0 25 := grownCap_ge w _ _ _
 obtain ⟨G, hG⟩ : ∃ G, G = grownCap w n 0 25 := ⟨_, rfl⟩
 rw [← hG] at hrz hGn ⊢
 have hG63 : G ≤ 9223372036854775807 := by
  have := grownCap_le_maxLen w n 0 25 (by unfold maxLen; omega)
  rw [← hG] at this
  unfold maxLen at this
  omega
 clear hG
 go_enter Tryz.func376, Tryz.ntmps376
 go_wp2_with (at_builtin; refine Lib.wpList_append_run _ rfl _ _ _ _ rfl _ _ rfl rfl _ _ (hrz _) ?_)
 all_goals (go_ret; exact ⟨rfl, rfl⟩)
theorem Grow2_c (n : Nat) (h0 : 0 < n) (hn : n ≤ 1048576) : Con Tryz.prog 376 [.val (.slice none 0 0), .int n] (.own 25 0 []) := by
 refine ⟨⟨_, Tryz.func376, by decide, rfl⟩, fun w vs hl ha => ?_⟩
 have k := ha (fun _ => undef) (fun _ => [])
 generalize hoz : ([] : List Nat) = oz at k
 obtain ⟨i, z, hi, hz, hs, hb, hzs, _, hce⟩ := infoT_some Tryz.info25
 cases k with
 | cons c v o cs vs os hc ht =>
  cases ht with
  | cons c2 v2 o2 cs2 vs2 os2 hc2 ht2 =>
   have e2 : vs2 = [] := by simpa using hl
   subst e2
   cases hc2 with
   | cell _ _ _ hc2 =>
    cases hc2 with
    | val _ _ =>
     cases hc with
     | cell _ _ _ hc =>
      cases hc with
      | val _ _ =>
       refine (Grow2_calls n h0 hn i z hi hz (by omega) hb w).mono ?_
       rintro e w' ⟨rfl, rfl⟩
       have hge : n ≤ grownCap w n 0 25 := grownCap_ge w _ _ _
       have hrep : RepC Tryz.prog (w.drew.alloc (.cells (([] : List Value).toArray ++ Builtin.zeroCells z.cells n ++ Builtin.zeroCells z.cells (grownCap w n 0 25 - n)) 25)) (fun _ => False) (.own 25 0 []) (.slice (some ⟨w.heap.size, 0, none⟩) 0 (grownCap w n 0 25)) [w.heap.size] :=
        .own _ _ 0 _ _ _ _ (heapDrewNew w _) (by omega) (by rw [hce]; simp [size_zeroCells, hzs, ← Nat.add_mul]; omega) (.nil _)
       refine ⟨_, [w.heap.size], rfl, ⟨rfl, rfl, rfl, by simp, fun b hb => heapDrewOld w _ b hb, by first | exact Nat.le_refl _ | exact dr_succ _⟩, fun tm oss => .cell _ _ _ (hrep.mono (fun _ h => h.elim) (fun _ _ => rfl)), by simp, by simp⟩
inductive NW : AV → AV → Prop
 | same (c : AV) : NW c c
 | nil : NW (.val (.slice none 0 0)) (.sl 0 [])
inductive NWL : List AV → List AV → Prop
 | nil : NWL [] []
 | cons {c c' : AV} {cs cs' : List AV} (h : NW c c') (t : NWL cs cs') : NWL (c :: cs) (c' :: cs')
theorem NW.rep {P : Program} {w : World} {F : Nat → Prop} {c c' : AV} {v : Value} {os : List Nat} (h : NW c c') (hr : RepC P w F c v os) : RepC P w F c' v os := by
 cases h with
 | same => exact hr
 | nil => cases hr with
  | val _ _ => exact .sl0 none 0
theorem NWL.rep {P : Program} {w : World} {F : Nat → Prop} {cs cs' : List AV} (h : NWL cs cs') : ∀ {vs : List Value} {os : List Nat}, RepL P w F cs vs os → RepL P w F cs' vs os := by
 induction h with
 | nil => intro vs os hr; exact hr
 | cons h _ ih =>
  intro vs os hr
  cases hr with
  | cons _ v os _ vs os' h1 h2 => exact .cons _ _ _ _ _ _ (h.rep h1) (ih h2)
theorem GCon.nwArg {P : Program} {f : FuncId} {e : TypeId} {n : Nat} {cs cs' : List AV} {r : AV} {outs : List AV} (hw : NWL cs cs') (h : GCon P f [.own e n cs'] r outs) : GCon P f [.own e n cs] r outs := by
 refine ⟨h.1, fun w vs os F0 hl hnd ho hF hr => h.2 w vs os F0 hl hnd ho hF fun tm oss => ?_⟩
 have k := hr tm oss
 cases k with
 | cons c v o cs1 vs os2 hc ht =>
  refine .cons _ _ _ _ _ _ ?_ ht
  cases hc with
  | cell _ _ _ hc =>
   refine .cell _ _ _ ?_
   cases hc with
   | own0 => cases hw; exact .own0 _
   | own b _ _ cap c _ os3 hb hn2 hc2 hl2 => exact .own b _ _ cap c _ os3 hb hn2 hc2 (hw.rep hl2)
theorem GCon.own0 {P : Program} {f : FuncId} {args : List AV} {outs : List AV} (e : TypeId) (h : GCon P f args (.val (.slice none 0 0)) outs) : GCon P f args (.own e 0 []) outs := by
 refine ⟨h.1, fun w vs os F0 hl hn ho hF hr => (h.2 w vs os F0 hl hn ho hF hr).mono ?_⟩
 rintro x w' ⟨v, orr, oo, F', h1, h2, h3, h4, h5, h6⟩
 refine ⟨v, orr, oo, F', h1, h2, h3, h4, fun tm oss => ?_, h6⟩
 have k := h5 tm oss
 cases k with
 | cell _ _ _ hc => cases hc with
  | val _ _ => exact .cell _ _ _ (.own0 e)
theorem NWL.app {a b : List AV} (h : NWL a b) : ∀ p : List AV, NWL (p ++ a) (p ++ b)
 | [] => h
 | c :: p => .cons (.same c) (NWL.app h p)
theorem GCon.nwRes {P : Program} {f : FuncId} {args : List AV} {e : TypeId} {n : Nat} {cs cs' : List AV} {outs : List AV} (hw : NWL cs cs') (h : GCon P f args (.own e n cs) outs) : GCon P f args (.own e n cs') outs := by
 refine ⟨h.1, fun w vs os F0 hl hn ho hF hr => (h.2 w vs os F0 hl hn ho hF hr).mono ?_⟩
 rintro x w' ⟨v, orr, oo, F', h1, h2, h3, h4, h5, h6⟩
 refine ⟨v, orr, oo, F', h1, h2, h3, h4, fun tm oss => ?_, h6⟩
 have k := h5 tm oss
 cases k with
 | cell _ _ _ hc =>
  refine .cell _ _ _ ?_
  cases hc with
  | own0 => cases hw; exact .own0 _
  | own b _ _ cap c _ os3 hb hn2 hc2 hl2 => exact .own b _ _ cap c _ os3 hb hn2 hc2 (hw.rep hl2)
def szC (x y : List (List Int)) (i : Nat) : Nat := if i = 0 then 0 else if i = 1 then x.length else x.length + y.length
def flC (x y : List (List Int)) (i : Nat) : List (List Int) := if i = 0 then [] else if i = 1 then x else x ++ y
theorem Concat2_pos (x y : List (List Int)) (h0 : 0 < x.length + y.length) (hn : x.length + y.length ≤ 1000) :
  GCon Tryz.prog 337 [.own 24 2 [.sl x.length (mat x), .sl y.length (mat y)]] (.own 25 (x ++ y).length (mat (x ++ y))) [.any] := by
 have cG := Con.gfz (Grow2_c (x.length + y.length) h0 (by omega)) (by simp [hasOwnL, hasOwn]) rfl
 refine gcon_of_vc Tryz.mixed ⟨9, [], [1000000 + 376], []⟩ [2] [] Tryz.func337 (by decide) rfl rfl (by simp) (by simp) (by decide) ?_
 rw [Tryz.ntmps337]
 simp [go_sem]
 refine loop_inv ([3, 5] ++ List.range' 11 12) (fun i : Nat => [(3, .int (szC x y i)), (11, .int i)]) (fun i => i ≤ 2) (fun i => 2 - i) 0 (by simp) (by simp [go_sem, szC]) (by simp [go_sem]) ?_
 intro i hi
 have hc : i = 0 ∨ i = 1 ∨ i = 2 := by omega
 rcases hc with rfl | rfl | rfl
 ·have hs : ¬ ((x.length : Int) < 0) := by omega
  simp [go_sem, szC, hs]
  exact ⟨by omega, 1, by omega, by omega, Off_reset _ _ _ (by simp), by simp, by omega⟩
 ·have hs : ¬ ((x.length : Int) + y.length < 0) := by omega
  simp [go_sem, szC, hs]
  exact ⟨⟨by omega, by omega⟩, 2, by omega, by omega, Off_reset _ _ _ (by simp), by simp, by omega⟩
 ·have e2 : (x.length : Int) + y.length = ((x.length + y.length : Nat) : Int) := by omega
  simp [go_sem, szC]
  rw [e2]
  refine ⟨_, _, cG, ?_⟩
  simp [go_sem]
  refine loop_inv ([6, 8] ++ List.range' 27 8) (fun i : Nat => [(6, .own 25 (flC x y i).length (mat (flC x y i))), (27, .int i)]) (fun i => i ≤ 2) (fun i => 2 - i) 0 (by simp) (by simp [go_sem, flC, mat, frzL]) (by simp [go_sem]) ?_
  intro i hi
  have hc : i = 0 ∨ i = 1 ∨ i = 2 := by omega
  rcases hc with rfl | rfl | rfl
  ·simp [go_sem, flC, mat]
   exact ⟨⟨by omega, by omega⟩, 1, by omega, by omega, Off_reset _ _ _ (by simp), by simp, by omega⟩
  ·simp [go_sem, flC, mat]
   exact ⟨⟨by omega, by omega⟩, 2, by omega, by omega, Off_reset _ _ _ (by simp), by simp, by omega⟩
  ·simp [go_sem, flC]
theorem Grow2_calls0 (w : World) :
  Calls Tryz.prog 376 #[.slice none 0 0, .int .i64 0] w fun e w' => e = .returned (.slice none 0 0) ∧ w' = w := by
 have h2 : wrap64 (0 : Int) = 0 := by unfold wrap64; omega
 go_enter Tryz.func376, Tryz.ntmps376
 go_wp2
 all_goals (go_ret; exact ⟨rfl, rfl⟩)
theorem Grow2_nil : GCon Tryz.prog 376 [.val (.slice none 0 0), .int 0] (.val (.slice none 0 0)) [.any, .any] := by
 refine ⟨⟨_, Tryz.func376, by decide, rfl⟩, fun w vs os F0 hl hnd ho hF hr => ?_⟩
 have k := hr (fun _ => undef) (fun _ => [])
 cases k with
 | cons c v o cs vs os1 hc ht =>
  cases ht with
  | cons c2 v2 o2 cs2 vs2 os2 hc2 ht2 =>
   have e2 : vs2 = [] := by simpa using hl
   subst e2
   cases hc2 with
   | cell _ _ _ hc2 =>
    cases hc2 with
    | val _ _ =>
     cases hc with
     | cell _ _ _ hc =>
      cases hc with
      | val _ _ =>
       refine (Grow2_calls0 w).mono ?_
       rintro e w' ⟨rfl, rfl⟩
       exact ⟨_, [], [], F0, rfl, Ext.refl _ _, fun _ h => h, fun _ h => .inl h, fun tm oss => .cell _ _ _ (.val _ rfl), fun tm oss => .cons _ _ [] _ _ [] (.any _) (.cons _ _ [] _ _ [] (.any _) (.nil _)), rfl, by simp, by simp⟩
theorem Concat2_nil :
  GCon Tryz.prog 337 [.own 24 2 [.sl 0 [], .sl 0 []]] (.own 25 0 []) [.any] := by
 have cG := GCon.own0 25 Grow2_nil
 refine gcon_of_vc Tryz.mixed ⟨9, [], [1000000 + 376], []⟩ [2] [] Tryz.func337 (by decide) rfl rfl (by simp) (by simp) (by decide) ?_
 rw [Tryz.ntmps337]
 simp [go_sem]
 refine loop_inv ([3, 5] ++ List.range' 11 12) (fun i : Nat => [(3, .int 0), (11, .int i)]) (fun i => i ≤ 2) (fun i => 2 - i) 0 (by simp) (by simp [go_sem]) (by simp [go_sem]) ?_
 intro i hi
 have hc : i = 0 ∨ i = 1 ∨ i = 2 := by omega
 rcases hc with rfl | rfl | rfl
 ·simp [go_sem]
  exact ⟨1, by omega, by omega, Off_reset _ _ _ (by simp), by omega⟩
 ·simp [go_sem]
  exact ⟨2, by omega, by omega, Off_reset _ _ _ (by simp), by omega⟩
 ·simp [go_sem]
  refine ⟨_, _, cG, ?_⟩
  simp [go_sem]
  refine loop_inv ([6, 8] ++ List.range' 27 8) (fun i : Nat => [(6, .own 25 0 []), (27, .int i)]) (fun i => i ≤ 2) (fun i => 2 - i) 0 (by simp) (by simp [go_sem]) (by simp [go_sem]) ?_
  intro i hi
  have hc : i = 0 ∨ i = 1 ∨ i = 2 := by omega
  rcases hc with rfl | rfl | rfl
  ·simp [go_sem]
   exact ⟨1, by omega, by omega, Off_reset _ _ _ (by simp), by omega⟩
  ·simp [go_sem]
   exact ⟨2, by omega, by omega, Off_reset _ _ _ (by simp), by omega⟩
  ·simp [go_sem]
theorem ConcatR_c (x y : List (List Int)) (hn : x.length + y.length ≤ 1000) :
  GCon Tryz.prog 337 [.own 24 2 [.sl x.length (mat x), .sl y.length (mat y)]] (.own 25 (x ++ y).length (mat (x ++ y))) [.any] := by
 by_cases h0 : 0 < x.length + y.length
 ·exact Concat2_pos x y h0 hn
 ·have e1 : x = [] := List.length_eq_zero_iff.1 (by omega)
  have e2 : y = [] := List.length_eq_zero_iff.1 (by omega)
  subst e1 e2
  exact Concat2_nil
theorem Concat2_z (y : List (List Int)) (hn : y.length ≤ 1000) :
  GCon Tryz.prog 337 [.own 24 2 [.val (.slice none 0 0), .sl y.length (mat y)]] (.own 25 y.length (mat y)) [.any] :=
 GCon.nwArg (.cons .nil (.cons (.same _) .nil)) (ConcatR_c [] y (by simpa using hn))
end Go.Proofs.YtiikdbomhkbdlaaGreat


namespace Go.Proofs.YtiikdbomhkbdlaaGreat
open Go.Abs
def canS (n : Nat) (s : Spl) : Spl := (s.1, [canF (n + 1) (rootL s.2.1)], s.2.2)
def lfS (n : Nat) (j : Nat) : AV := .own 215 1 [.val (.slice none 0 0), if j = 0 then .val (.slice none 0 0) else .sl 1 (mat [canF (n + 1) (rootL [])]), .int 0]
theorem splitTree_leaf {n : Nat} {t : List Int} (h1 : n + 1 ≤ 100) (h2 : Lv t) (h3 : t.length ≤ n + 1) (hb : brs t = []) :
  GCon Tryz.prog 288 [.sl t.length (avs t)] (.own 215 (spl (n + 1) t).length ((spl (n + 1) t).flatMap spF)) [.any] := by
 have cB := branchesOf_c t (by omega) h2
 have cT := canonical_c (n + 1) t h1 h2 h3
 have cR := rootOn_c [] (by simp) (by simp)
 have cK := canonical_c (n + 1) (rootL []) h1 Lv_zero (by simp [rootL])
 rw [spl_succ, hb]
 rw [hb] at cB
 refine GCon.nwRes (n := 2) (cs := [.val (.slice none 0 0), .sl 1 (mat [canF (n + 1) (rootL [])]), .int 0, .sl 1 (mat [canF (n + 1) t]), .val (.slice none 0 0), .int 0]) (.cons .nil (.cons (.same _) (.cons (.same _) (.cons (.same _) (.cons .nil (.cons (.same _) .nil)))))) ?_
 refine gcon_of_vc Tryz.mixed ⟨6, [16, 23, 42, 48, 69, 76], [], []⟩ [2] [] Tryz.func288 (by decide) rfl rfl (by simp) (by simp) (by decide) ?_
 rw [Tryz.ntmps288]
 simp [go_sem]
 refine CallVC.of (cB) (by decide) ?_
 simp [go_sem]
 refine loop_inv (3 :: 5 :: 6 :: 8 :: 10 :: List.range' 18 38) (fun i : Nat => [(3, lfS n 0), (18, .int 0)]) (fun _ => True) (fun _ => 0) 0 trivial (by simp [go_sem, lfS]) (by simp [go_sem, lfS]) ?_
 intro _ _
 simp [go_sem, lfS]
 refine loop_invA (3 :: 11 :: 12 :: 56 :: List.range' 58 15) (11 :: 12 :: List.range' 59 14) (fun j : Nat => [(3, lfS n j), (56, .bor 3 []), (58, .int j)]) (fun j => j ≤ 1) (fun j => 1 - j) 0 (by intro x i h1 h2; have : i = 3 ∨ i = 56 ∨ i = 58 := (by simp at h1 h2; omega); rcases this with rfl | rfl | rfl <;> rfl) (by intro i h; simp at h ⊢; omega) (by simp) (by simp [go_sem, lfS]) (by simp [go_sem, kl, lfS]) ?_
 intro j hj
 have hj01 : j = 0 ∨ j = 1 := by omega
 rcases hj01 with rfl | rfl
 ·simp [go_sem, lfS]
  refine CallVC.of (cR) (by decide) ?_
  simp [go_sem]
  refine CallVC.of (cK) (by decide) ?_
  simp [go_sem]
  have cl : (canF (n + 1) (rootL [])).length = 1 := canF_len (n + 1) (rootL []) Lv_zero (by simp [rootL])
  refine ⟨1, by omega, by omega, Off_reset _ _ _ (by simp), ?_⟩
  have cl2 : (canF (n + 1) [0]).length = 1 := cl
  simp [lfS, mat, cl2, rootL]
 ·simp [go_sem, lfS]
  refine CallVC.of (cT) (by decide) ?_
  simp [go_sem]
  simp [mat, canF_len (n + 1) t h2 h3]
end Go.Proofs.YtiikdbomhkbdlaaGreat


namespace Go.Proofs.YtiikdbomhkbdlaaGreat
open Go.Abs
theorem spFs_frz : ∀ X : List Spl, frzL (X.flatMap spF) = X.flatMap spF
 | [] => rfl
 | s :: X => by
  have := spFs_frz X
  simp only [List.flatMap_cons, spF, List.cons_append, List.nil_append]
  simp [frzL, frz, this]
theorem spF_drop {L : List Spl} {i : Nat} (h : i < L.length) : (L.flatMap spF).drop (i * 3) = spF (L[i]?.getD ([], [], 0)) ++ (L.drop (i + 1)).flatMap spF := by
 have e1 : ((L.take i).flatMap spF).length = i * 3 := by rw [spF_len, List.length_take, Nat.min_eq_left (by omega)]
 have e2 : L.drop i = L[i]?.getD ([], [], 0) :: L.drop (i + 1) := by rw [List.drop_eq_getElem_cons h]; simp [h]
 have e3 : L.flatMap spF = (L.take i).flatMap spF ++ (L.drop i).flatMap spF := by rw [← List.flatMap_append, List.take_append_drop]
 rw [e3, List.drop_append_of_le_length (by omega), e2, List.flatMap_cons, List.drop_eq_nil_of_le (by omega), List.nil_append]
def xS (n : Nat) (bs : List (List Int)) (i : Nat) : AV := if i = 0 then .own 215 1 [.val (.slice none 0 0), .val (.slice none 0 0), .int 0] else .own 215 (fldS n (bs.take i)).length ((fldS n (bs.take i)).flatMap spF)
def mxT (n : Nat) (L : List Spl) (j : Nat) : List AV := ((L.take j).map (canS n)).flatMap spF ++ (L.drop j).flatMap spF
theorem mxT_zero (n : Nat) (L : List Spl) : mxT n L 0 = L.flatMap spF := by simp [mxT]
theorem mxT_all (n : Nat) (L : List Spl) : mxT n L L.length = (L.map (canS n)).flatMap spF := by simp [mxT]
theorem mxT_len (n : Nat) (L : List Spl) {j : Nat} (h : j ≤ L.length) : (mxT n L j).length = L.length * 3 := by
 unfold mxT
 rw [List.length_append, spF_len, spF_len, List.length_map, List.length_take, List.length_drop, Nat.min_eq_left h]; omega
theorem mxT_drop (n : Nat) {L : List Spl} {j : Nat} (h : j < L.length) : (mxT n L j).drop (j * 3) = spF (L[j]?.getD ([], [], 0)) ++ (L.drop (j + 1)).flatMap spF := by
 have e1 : (((L.take j).map (canS n)).flatMap spF).length = j * 3 := by rw [spF_len, List.length_map, List.length_take, Nat.min_eq_left (by omega)]
 have e2 : L.drop j = L[j]?.getD ([], [], 0) :: L.drop (j + 1) := by rw [List.drop_eq_getElem_cons h]; simp [h]
 unfold mxT
 rw [List.drop_append_of_le_length (by omega), e2, List.flatMap_cons, List.drop_eq_nil_of_le (by omega), List.nil_append]
theorem set1 (R : List AV) (x1 x2 y : AV) : ∀ P : List AV, (P ++ x1 :: x2 :: R).set (P.length + 1) y = P ++ x1 :: y :: R
 | [] => rfl
 | p :: P => by
  have := set1 R x1 x2 y P
  simp only [List.cons_append, List.length_cons, List.set_cons_succ]
  rw [this]
theorem mxT_set (n : Nat) {L : List Spl} {j : Nat} (h : j < L.length) : (mxT n L j).set (j * 3 + 1) (.sl 1 (mat [canF (n + 1) (rootL (L[j]?.getD ([], [], 0)).2.1)])) = mxT n L (j + 1) := by
 have e1 : (((L.take j).map (canS n)).flatMap spF).length = j * 3 := by rw [spF_len, List.length_map, List.length_take, Nat.min_eq_left (by omega)]
 have e2 : L.drop j = L[j]?.getD ([], [], 0) :: L.drop (j + 1) := by rw [List.drop_eq_getElem_cons h]; simp [h]
 have e3 : L.take (j + 1) = L.take j ++ [L[j]?.getD ([], [], 0)] := by
  rw [List.take_succ_eq_append_getElem h, List.getElem?_eq_getElem h]; rfl
 unfold mxT
 rw [e2, e3, List.flatMap_cons, List.map_append, List.flatMap_append, ← e1]
 refine (set1 _ _ _ _ _).trans ?_
 simp [canS, spF]
def zS (M : List Spl) (j : Nat) : AV := if j = 0 then .own 215 0 [] else .own 215 M.length (M.flatMap spF)
theorem splitTree_c : ∀ (n : Nat) (t : List Int), splOk n t = true →
  GCon Tryz.prog 288 [.sl t.length (avs t)] (.own 215 (spl n t).length ((spl n t).flatMap spF)) [.any] := by
 intro n
 induction n with
 | zero => intro t h; simp [splOk] at h
 | succ n ih =>
  intro t h
  obtain ⟨h1, h2, h3, h4, h5, h6⟩ := splOk_spec h
  have cB := branchesOf_c t (by omega) h2
  by_cases hb : brs t = []
  ·exact splitTree_leaf h1 h2 h3 hb
  rw [spl_succ]
  refine GCon.nwRes (cs := ((fldS n (brs t)).map (canS n)).flatMap spF ++ [.sl 1 (mat [canF (n + 1) t]), .val (.slice none 0 0), .int 0]) (by rw [List.flatMap_append]; exact NWL.app (.cons (.same _) (.cons .nil (.cons (.same _) .nil))) _) ?_
  have cT := canonical_c (n + 1) t h1 h2 h3
  refine gcon_of_vc Tryz.mixed ⟨6, [16, 23, 42, 48, 69, 76], [1000000 + 288, 1000000 + 337], []⟩ [2] [] Tryz.func288 (by decide) rfl rfl (by simp) (by simp) (by decide) ?_
  rw [Tryz.ntmps288]
  simp [go_sem]
  refine CallVC.of (cB) (by decide) ?_
  simp [go_sem]
  have bl : (brs t).length < t.length := brs_cnt h2
  generalize brs t = bs at *
  refine loop_inv (3 :: 5 :: 6 :: 8 :: 10 :: List.range' 18 38) (fun i : Nat => [(3, xS n bs i), (18, .int i)]) (fun i => i ≤ bs.length) (fun i => bs.length - i) 0 (by simp) (by simp [go_sem, xS]) (by simp [go_sem, xS]) ?_
  intro i hi
  by_cases hib : i < bs.length
  ·have hii : (i : Int) < bs.length := by omega
   have hm : bs[i]?.getD [] ∈ bs := memD [] hib
   obtain ⟨b1, b2, b3⟩ := h4 _ hm
   have cI := ih _ b1
   have md := mat_drop hib
   have sn : fldS n (bs.take (i + 1)) = mulSp (fldS n (bs.take i)) (spl n (bs[i]?.getD [])) := by
    rw [List.take_succ_eq_append_getElem hib, fldS_snoc, List.getElem?_eq_getElem hib]; rfl
   obtain ⟨l1, l2⟩ := h5 i hi
   obtain ⟨l3, l4⟩ := h5 (i + 1) (by omega)
   rw [sn] at l3 l4
   generalize bs[i]?.getD [] = b at *
   generalize spl n b = M at *
   by_cases hi0 : i = 0
   ·have hx : xS n bs i = .own 215 1 [.val (.slice none 0 0), .val (.slice none 0 0), .int 0] := by unfold xS; rw [if_pos hi0]
    rw [hx]
    have L0 : fldS n (bs.take i) = [([], [], 0)] := by rw [hi0]; simp [fldS]
    have M0 : mulSp [([], [], 0)] M = M := by
     have e : mulSp [([], [], 0)] M = M.map fun c => (c.1, c.2.1, (0 : Int)) := by simp [mulSp]
     rw [e]
     refine (List.map_congr_left (g := id) fun c hc => ?_).trans (List.map_id _)
     obtain ⟨_, _, c3⟩ := smS_spec (b3 c hc)
     obtain ⟨a, b, c⟩ := c
     simp only at c3
     subst c3; rfl
    rw [L0, M0] at sn
    have hx1 : xS n bs (i + 1) = .own 215 M.length (M.flatMap spF) := by unfold xS; rw [if_neg (by omega), sn]
    simp [go_sem, hii, md, frzL, frz]
    refine ⟨hb, ?_⟩
    refine loop_inv (6 :: 8 :: 10 :: List.range' 25 29) (fun j : Nat => [(6, zS M j), (25, .int j)]) (fun j => j ≤ 1) (fun j => 1 - j) 0 (by simp) (by simp [go_sem, zS]) (by simp [go_sem, zS]) ?_
    intro j hj
    have hj01 : j = 0 ∨ j = 1 := by omega
    rcases hj01 with rfl | rfl
    ·simp [go_sem, zS]
     refine ⟨_, _, cI, ?_⟩
     simp [go_sem]
     refine loop_inv (6 :: 10 :: List.range' 32 21) (fun k : Nat => [(6, .own 215 k ((M.take k).flatMap spF)), (32, .int k)]) (fun k => k ≤ M.length) (fun k => M.length - k) 0 (by simp) (by simp [go_sem]) (by simp [go_sem]) ?_
     intro k hk
     by_cases hkm : k < M.length
     ·have hki : (k : Int) < M.length := by omega
      have dr2 := spF_drop hkm
      have nM : ¬ M.flatMap spF = [] := by intro e; have := spF_len M; rw [e] at this; simp at this; omega
      obtain ⟨c1, c2, c3⟩ := smS_spec (b3 _ (memD ([], [], 0) hkm))
      have tk : M.take (k + 1) = M.take k ++ [M[k]?.getD ([], [], 0)] := by
       rw [List.take_succ_eq_append_getElem hkm, List.getElem?_eq_getElem hkm]; rfl
      have cA := Concat2_z (M[k]?.getD ([], [], 0)).1 (by omega)
      have cC := Concat2_z (M[k]?.getD ([], [], 0)).2.1 (by omega)
      generalize M[k]?.getD ([], [], 0) = c at *
      obtain ⟨ca, cb, cc⟩ := c
      simp only [spF] at dr2
      simp only at c1 c2 c3 tk cA cC
      subst c3
      have cl := spF_len (M.take k)
      rw [List.length_take, Nat.min_eq_left (by omega)] at cl
      have lM := spF_len M
      generalize hC : (M.take k).flatMap spF = C at *
      generalize hMC : M.flatMap spF = MC at *
      simp [go_sem, hki, dr2]
      refine ⟨⟨nM, by omega⟩, by kernel_rfl, ?_⟩
      refine ⟨_, _, cA, ?_⟩
      simp [go_sem]
      refine ⟨_, _, cC, ?_⟩
      simp [go_sem]
      refine ⟨⟨by rw [cl], by omega, by omega⟩, ?_⟩
      refine ⟨by kernel_rfl, ?_⟩
      simp [go_sem]
      refine ⟨⟨by omega, by omega⟩, k + 1, by omega, by omega, Off_reset _ _ _ (by simp), ?_⟩
      refine ⟨⟨by omega, ?_⟩, by omega⟩
      rw [tk, List.flatMap_append, hC]
      simp [spF]
     ·have e : k = M.length := by omega
      subst e
      have hki : ¬ (M.length : Int) < M.length := by omega
      rw [List.take_length]
      simp [go_sem, hki]
      exact ⟨1, by omega, by omega, (Off.reset (by intro x hx; simp at hx ⊢; omega) (by simp) (by simp [go_sem, Off_reset])), by simp [zS], by simp [zS, go_sem]⟩
    ·simp [go_sem, zS]
     exact ⟨⟨by omega, by omega⟩, i + 1, by omega, by omega, (Off.reset (by intro x hx; simp at hx ⊢; omega) (by simp) (by simp [go_sem, Off_reset])), ⟨by rw [hx1], by omega⟩, by simp [hx1, go_sem]⟩
   ·have hx : xS n bs i = .own 215 (fldS n (bs.take i)).length ((fldS n (bs.take i)).flatMap spF) := by unfold xS; rw [if_neg hi0]
    rw [hx]
    generalize fldS n (bs.take i) = L at *
    simp [go_sem, hii, md, spFs_frz]
    refine ⟨hb, ?_⟩
    refine loop_inv (6 :: 8 :: 10 :: List.range' 25 29) (fun j : Nat => [(6, .own 215 (mulSp (L.take j) M).length ((mulSp (L.take j) M).flatMap spF)), (25, .int j)]) (fun j => j ≤ L.length) (fun j => L.length - j) 0 (by simp) (by simp [go_sem, mulSp]) (by simp [go_sem]) ?_
    intro j hj
    by_cases hjl : j < L.length
    ·have hji : (j : Int) < L.length := by omega
     have dr := spF_drop hjl
     have ms : mulSp (L.take (j + 1)) M = mulSp (L.take j) M ++ M.map fun c => ((L[j]?.getD ([], [], 0)).1 ++ c.1, (L[j]?.getD ([], [], 0)).2.1 ++ c.2.1, (0 : Int)) := by
      rw [List.take_succ_eq_append_getElem hjl, mulSp_snoc, List.getElem?_eq_getElem hjl]; rfl
     have nL : ¬ L.flatMap spF = [] := by intro e; have := spF_len L; rw [e] at this; simp at this; omega
     have lL := spF_len L
     obtain ⟨s1, s2, s3⟩ := smS_spec (l2 _ (memD ([], [], 0) hjl))
     have ml : (mulSp (L.take j) M).length + M.length ≤ 10000 := by
      rw [mulSp_len, List.length_take, Nat.min_eq_left (by omega)]
      have := Nat.mul_le_mul (show j ≤ 99 by omega) b2
      omega
     generalize L[j]?.getD ([], [], 0) = s at *
     obtain ⟨sa, sb, sc⟩ := s
     simp only [spF] at dr
     simp only at s1 s2 s3 ms
     subst s3
     generalize mulSp (L.take j) M = A at *
     generalize L.flatMap spF = LC at *
     simp [go_sem, hji, dr]
     refine ⟨nL, ?_⟩
     refine ⟨_, _, cI, ?_⟩
     simp [go_sem]
     refine loop_inv (6 :: 10 :: List.range' 32 21) (fun k : Nat => [(6, .own 215 (A.length + k) ((A ++ (M.take k).map fun c => (sa ++ c.1, sb ++ c.2.1, (0 : Int))).flatMap spF)), (32, .int k)]) (fun k => k ≤ M.length) (fun k => M.length - k) 0 (by simp) (by simp [go_sem]) (by simp [go_sem]) ?_
     intro k hk
     by_cases hkm : k < M.length
     ·have hki : (k : Int) < M.length := by omega
      have dr2 := spF_drop hkm
      have nM : ¬ M.flatMap spF = [] := by intro e; have := spF_len M; rw [e] at this; simp at this; omega
      obtain ⟨c1, c2, c3⟩ := smS_spec (b3 _ (memD ([], [], 0) hkm))
      have tk : (M.take (k + 1)).map (fun c => (sa ++ c.1, sb ++ c.2.1, (0 : Int))) = (M.take k).map (fun c => (sa ++ c.1, sb ++ c.2.1, (0 : Int))) ++ [(sa ++ (M[k]?.getD ([], [], 0)).1, sb ++ (M[k]?.getD ([], [], 0)).2.1, 0)] := by
       rw [List.take_succ_eq_append_getElem hkm, List.map_append, List.getElem?_eq_getElem hkm]; rfl
      have cA := ConcatR_c sa (M[k]?.getD ([], [], 0)).1 (by omega)
      have cC := ConcatR_c sb (M[k]?.getD ([], [], 0)).2.1 (by omega)
      generalize M[k]?.getD ([], [], 0) = c at *
      obtain ⟨ca, cb, cc⟩ := c
      simp only [spF] at dr2
      simp only at c1 c2 c3 tk cA cC
      subst c3
      have al : (A ++ (M.take k).map fun c => (sa ++ c.1, sb ++ c.2.1, (0 : Int))).length = A.length + k := by rw [List.length_append, List.length_map, List.length_take]; omega
      have cl := spF_len (A ++ (M.take k).map fun c => (sa ++ c.1, sb ++ c.2.1, (0 : Int)))
      generalize hC : (A ++ (M.take k).map fun c => (sa ++ c.1, sb ++ c.2.1, (0 : Int))).flatMap spF = C at *
      have lM := spF_len M
      generalize hMC : M.flatMap spF = MC at *
      simp [go_sem, hki, dr2]
      refine ⟨⟨nM, by omega⟩, by kernel_rfl, ?_⟩
      refine ⟨_, _, cA, ?_⟩
      simp [go_sem]
      refine ⟨_, _, cC, ?_⟩
      simp [go_sem]
      refine ⟨⟨by rw [cl, al], by omega, by omega⟩, ?_⟩
      refine ⟨by kernel_rfl, ?_⟩
      simp [go_sem]
      refine ⟨⟨by omega, by omega⟩, k + 1, by omega, by omega, Off_reset _ _ _ (by simp), ?_⟩
      refine ⟨⟨by omega, ?_⟩, by omega⟩
      rw [← List.map_take, tk, List.flatMap_append, ← List.append_assoc, ← List.flatMap_append, hC]
      simp [spF]
     ·have e : k = M.length := by omega
      subst e
      have hki : ¬ (M.length : Int) < M.length := by omega
      rw [List.take_length]
      simp [go_sem, hki]
      refine ⟨⟨by omega, by omega⟩, j + 1, by omega, by omega, (Off.reset (by intro x hx; simp at hx ⊢; omega) (by simp) (by simp [go_sem, Off_reset])), ?_⟩
      rw [ms]
      exact ⟨⟨by simp, by rw [List.flatMap_append]⟩, by omega⟩
    ·have e : j = L.length := by omega
     subst e
     have hji : ¬ (L.length : Int) < L.length := by omega
     rw [List.take_length]
     have hx1 : xS n bs (i + 1) = .own 215 (mulSp L M).length ((mulSp L M).flatMap spF) := by unfold xS; rw [if_neg (by omega), sn]
     simp [go_sem, hji]
     exact ⟨⟨by omega, by omega⟩, i + 1, by omega, by omega, (Off.reset (by intro x hx; simp at hx ⊢; omega) (by simp) (by simp [go_sem, Off_reset])), ⟨by rw [hx1], by omega⟩, by simp [hx1, go_sem]⟩
  ·have e : i = bs.length := by omega
   subst e
   have hl0 : ¬ bs.length = 0 := by intro e; exact hb (List.length_eq_zero_iff.1 e)
   have hx : xS n bs bs.length = .own 215 (fldS n bs).length ((fldS n bs).flatMap spF) := by unfold xS; rw [if_neg hl0, List.take_length]
   have hii : ¬ (bs.length : Int) < bs.length := by omega
   obtain ⟨l1, l2⟩ := h5 bs.length (Nat.le_refl _)
   rw [List.take_length] at l1 l2
   rw [hx]
   generalize fldS n bs = L at *
   simp [go_sem, hii]
   refine loop_invA (3 :: 11 :: 12 :: 56 :: List.range' 58 15) (11 :: 12 :: List.range' 59 14) (fun j : Nat => [(3, .own 215 L.length (mxT n L j)), (56, .bor 3 []), (58, .int j)]) (fun j => j ≤ L.length) (fun j => L.length - j) 0 (by intro x i h1 h2; have : i = 3 ∨ i = 56 ∨ i = 58 := (by simp at h1 h2; omega); rcases this with rfl | rfl | rfl <;> rfl) (by intro i h; simp at h ⊢; omega) (by simp) (by simp [go_sem, mxT_zero]) (by simp [go_sem, kl]) ?_
   intro j hj
   by_cases hjl : j < L.length
   ·have hji : (j : Int) < L.length := by omega
    obtain ⟨s1, s2, s3⟩ := smS_spec (l2 _ (memD ([], [], 0) hjl))
    obtain ⟨r1, r2, r3⟩ := rtS_spec (h6 _ (memD ([], [], 0) hjl))
    have dr := mxT_drop n hjl
    have st := mxT_set n hjl
    have ml := mxT_len n L hj
    have nm : ¬ mxT n L j = [] := by intro e; rw [e] at ml; simp at ml; omega
    have cR := rootOn_c (L[j]?.getD ([], [], 0)).2.1 (by omega) (fun b hb => ⟨by have := (r3 b hb).1; omega, fun x hx => by have := (r3 b hb).2 x hx; omega⟩)
    have cK := canonical_c (n + 1) _ h1 r1 r2
    generalize L[j]?.getD ([], [], 0) = s at *
    obtain ⟨sa, sb, sc⟩ := s
    simp only [spF] at dr
    simp only at s1 s2 s3 cR cK st
    simp [go_sem, hji, dr]
    refine ⟨⟨nm, by omega⟩, ?_⟩
    refine CallVC.of (cR) (by decide) ?_
    simp [go_sem]
    refine CallVC.of (cK) (by decide) ?_
    simp [go_sem]
    simp only at r1 r2
    have e : mat [canF (n + 1) (rootL sb)] = [.sl (rootL sb).length (avs (canF (n + 1) (rootL sb)))] := by simp [mat, canF_len (n + 1) (rootL sb) r1 r2]
    rw [e] at st
    refine ⟨hjl, nm, by omega, ⟨by omega, by omega⟩, j + 1, by omega, by omega, Off_reset _ _ _ (by simp), ?_⟩
    first
     | exact ⟨st, by omega⟩
     | (refine ⟨?_, by omega⟩; simpa using st)
     | simp [st]
   ·have e : j = L.length := by omega
    subst e
    have hji : ¬ (L.length : Int) < L.length := by omega
    rw [mxT_all]
    simp [go_sem, hji]
    refine CallVC.of (cT) (by decide) ?_
    simp [go_sem]
    refine ⟨⟨?_, by omega, by omega⟩, by simp [mat, canF_len (n + 1) t h2 h3]⟩
    have := spF_len (L.map (canS n))
    simpa using this
end Go.Proofs.YtiikdbomhkbdlaaGreat


namespace Go.Proofs.YtiikdbomhkbdlaaGreat
open Go.Abs
mutual
inductive NX : AV → AV → Prop
 | same (c : AV) : NX c c
 | nil : NX (.val (.slice none 0 0)) (.sl 0 [])
 | sl (n : Nat) {cs cs' : List AV} (h : NXL cs cs') : NX (.sl n cs) (.sl n cs')
 | own (e : TypeId) (n : Nat) {cs cs' : List AV} (h : NXL cs cs') : NX (.own e n cs) (.own e n cs')
inductive NXL : List AV → List AV → Prop
 | nil : NXL [] []
 | cons {c c' : AV} {cs cs' : List AV} (h : NX c c') (t : NXL cs cs') : NXL (c :: cs) (c' :: cs')
end
theorem NXL.same : ∀ l : List AV, NXL l l
 | [] => .nil
 | c :: l => .cons (.same c) (NXL.same l)
theorem NXL.app {a b : List AV} (h : NXL a b) : ∀ {p q : List AV}, NXL p q → NXL (p ++ a) (q ++ b)
 | _, _, .nil => h
 | _, _, .cons k t => .cons k (NXL.app h t)
theorem NXL.ne {a b : List AV} (h : NXL a b) (e : b = []) : a = [] := by
 cases h with
 | nil => rfl
 | cons => simp at e
section
variable {P : Program} {w : World} {F : Nat → Prop}
mutual
theorem NX.rep {c c' : AV} {v : Value} {os : List Nat} (h : NX c c') (hr : RepC P w F c v os) : RepC P w F c' v os := by
 cases h with
 | same => exact hr
 | nil => cases hr with
  | val _ _ => exact .sl0 none 0
 | sl n h => cases hr with
  | sl0 base cap => cases h; exact .sl0 base cap
  | sl b off n cap c e fr cs hF hb hl hn => exact .sl b off n cap c e fr _ hF hb (NXL.rep h hl) hn
 | own e n h => cases hr with
  | own0 => cases h; exact .own0 _
  | own b _ _ cap c _ os3 hb hn hc hl => exact .own b _ _ cap c _ os3 hb hn hc (NXL.rep h hl)
theorem NXL.rep {cs cs' : List AV} {vs : List Value} {os : List Nat} (h : NXL cs cs') (hr : RepL P w F cs vs os) : RepL P w F cs' vs os := by
 cases h with
 | nil => exact hr
 | cons h t => cases hr with
  | cons _ v os _ vs os' h1 h2 => exact .cons _ _ _ _ _ _ (NX.rep h h1) (NXL.rep t h2)
end
theorem NX.repT {tm : Nat → Value} {oss : Nat → List Nat} {c c' : AV} {v : Value} {os : List Nat} (h : NX c c') (hr : RepT P w F tm oss c v os) : RepT P w F tm oss c' v os := by
 cases h with
 | same => exact hr
 | nil => cases hr with
  | cell _ _ _ hc => exact .cell _ _ _ (NX.rep .nil hc)
 | sl n h => cases hr with
  | cell _ _ _ hc => exact .cell _ _ _ (NX.rep (.sl n h) hc)
 | own e n h => cases hr with
  | cell _ _ _ hc => exact .cell _ _ _ (NX.rep (.own e n h) hc)
theorem NXL.len {cs cs' : List AV} (h : NXL cs cs') : cs'.length = cs.length := by
 induction cs generalizing cs' with
 | nil => cases h; rfl
 | cons c cs ih => cases h with
  | cons h t => rw [List.length_cons, List.length_cons, ih t]
theorem NXL.repT {tm : Nat → Value} {oss : Nat → List Nat} {cs cs' : List AV} {vs : List Value} {os : List Nat} (h : NXL cs cs') (hr : RepTL P w F tm oss cs vs os) : RepTL P w F tm oss cs' vs os := by
 induction cs generalizing cs' vs os with
 | nil => cases h; exact hr
 | cons c cs ih => cases h with
  | cons h t => cases hr with
   | cons _ v os _ vs os' h1 h2 => exact .cons _ _ _ _ _ _ (h.repT h1) (ih t h2)
end
theorem GCon.nx [DrawK] {P : Program} {f : FuncId} {args : List AV} {r r' : AV} {outs : List AV} (hw : NX r r') (h : GCon P f args r outs) : GCon P f args r' outs := by
 refine ⟨h.1, fun w vs os F0 hl hn ho hF hr => (h.2 w vs os F0 hl hn ho hF hr).mono ?_⟩
 rintro x w' ⟨v, orr, oo, F', h1, h2, h3, h4, h5, h6⟩
 exact ⟨v, orr, oo, F', h1, h2, h3, h4, fun tm oss => hw.repT (h5 tm oss), h6⟩
theorem GCon.nxA [DrawK] {P : Program} {f : FuncId} {args : List AV} {cs cs' : List AV} {outs : List AV} (hw : NXL cs cs') (h : GCon P f args (.agg cs) outs) : GCon P f args (.agg cs') outs := by
 refine ⟨h.1, fun w vs os F0 hl hn ho hF hr => (h.2 w vs os F0 hl hn ho hF hr).mono ?_⟩
 rintro x w' ⟨v, orr, oo, F', h1, h2, h3, h4, h5, h6⟩
 refine ⟨v, orr, oo, F', h1, h2, h3, h4, fun tm oss => ?_, h6⟩
 have k := h5 tm oss
 cases k with
 | cell _ _ _ hc => cases hc
 | agg _ vs2 os2 hl2 hc => exact .agg _ _ _ (by rw [hw.len]; exact hl2) (hw.repT hc)
theorem RCon.toG [DrawK] {P : Program} {f : FuncId} {args : List AV} {r : AV} {outs : List AV} (h : RCon P f args fun x o => x = r ∧ o = outs) : GCon P f args r outs := by
 refine ⟨h.1, fun w vs os F0 hl hn ho hF hr => (h.2 w vs os F0 hl hn ho hF hr).mono ?_⟩
 rintro x w' ⟨_, _, ⟨rfl, rfl⟩, k⟩
 exact k
theorem GCon.frzR [DrawK] {P : Program} {f : FuncId} {args : List AV} {r r' : AV} {outs : List AV} (h : GCon P f args r outs) (e : frz r = r') : GCon P f args r' outs := by
 subst e
 refine ⟨h.1, fun w vs os F0 hl hn ho hF hr => (h.2 w vs os F0 hl hn ho hF hr).mono ?_⟩
 rintro x w' ⟨v, orr, oo, F', h1, h2, h3, h4, h5, h6, h7, h8, h9⟩
 refine ⟨v, [], oo, fun b => F' b ∨ b ∈ orr, h1, h2, fun b hb => .inl (h3 b hb), fun b hb => ?_, fun tm oss => (h5 tm oss).frz (fun b hb => .inl hb) (fun b hb => .inr hb), fun tm oss => ?_, h7, ?_, fun b hb => ?_⟩
 ·rcases hb with hb | hb
  ·exact h4 b hb
  ·have := h9 b (.inl hb)
   exact .inr ⟨this.1, this.2.1⟩
 ·have := RepTL.kl (w' := w') (F' := fun b => F' b ∨ b ∈ orr) (tm' := tm) (oss' := oss) [] (fun b hb => .inl hb) (fun _ _ _ _ h => h) (h6 tm oss) (fun _ _ => rfl)
  rwa [klL_nil] at this
 ·exact (List.nodup_append.1 h8).2.1
 ·have hb : b ∈ oo := by simpa using hb
  obtain ⟨k1, k2, k3⟩ := h9 b (.inr hb)
  refine ⟨k1, k2, fun hf => ?_⟩
  rcases hf with hf | hf
  ·exact k3 hf
  ·exact (List.nodup_append.1 h8).2.2 b hf b hb rfl
end Go.Proofs.YtiikdbomhkbdlaaGreat


namespace Go.Proofs.YtiikdbomhkbdlaaGreat
open Go.Abs
def gokS (s : Spl) : Bool := (decide (s.1.length ≤ 19) && s.1.all fun r => decide (r.length ≤ 100)) && (decide (s.2.1.length ≤ 19) && s.2.1.all fun r => decide (r.length ≤ 100))
def cutL (t : List Int) : List Spl := gthS (srtS ((spl 6 t).map cntF))
theorem gok_all : (trN 6).all (fun t => decide ((spl 6 t).length ≤ 1000) && (spl 6 t).all gokS) = true := by kernel_rfl
theorem cutL_all : (trN 6).all (fun t => decide ((cutL t).length ≤ 100) && (cutL t).all fun s => decide (s.1.length ≤ 6) && (s.1.all (fun r => decide (r.length ≤ 6)) && (decide (s.2.1.length ≤ 1) && (s.2.1.all (fun r => decide (1 ≤ r.length) && decide (r.length ≤ 6)) && (decide (0 ≤ s.2.2) && decide (s.2.2 ≤ 100)))))) = true := by kernel_rfl
theorem gok_at {t : List Int} (h : t ∈ trN 6) : (∀ s ∈ spl 6 t, (s.1.length ≤ 19 ∧ ∀ r ∈ s.1, r.length ≤ 100) ∧ (s.2.1.length ≤ 19 ∧ ∀ r ∈ s.2.1, r.length ≤ 100)) ∧ (spl 6 t).length ≤ 1000 := by
 have k := List.all_eq_true.1 gok_all t h
 simp only [Bool.and_eq_true, decide_eq_true_eq, List.all_eq_true, gokS] at k
 exact ⟨fun s hs => k.2 s hs, k.1⟩
theorem cutL_at {t : List Int} (h : t ∈ trN 6) : (cutL t).length ≤ 100 ∧ ∀ s ∈ cutL t, s.1.length ≤ 6 ∧ (∀ r ∈ s.1, r.length ≤ 6) ∧ s.2.1.length ≤ 1 ∧ (∀ r ∈ s.2.1, 1 ≤ r.length ∧ r.length ≤ 6) ∧ 0 ≤ s.2.2 ∧ s.2.2 ≤ 100 := by
 have k := List.all_eq_true.1 cutL_all t h
 simp only [Bool.and_eq_true, decide_eq_true_eq, List.all_eq_true] at k
 exact k
def tkL (s : Spl) : List Int := s.2.1.headD []
def cuX (s : Spl) : List AV := [.sl s.1.length (mat s.1), if s.2.1 = [] then .val (.slice none 0 0) else .sl (tkL s).length (avs (tkL s)), .int s.2.2]
def cuF (s : Spl) : List AV := [.sl s.1.length (mat s.1), .sl (tkL s).length (avs (tkL s)), .int s.2.2]
theorem cu_nx : ∀ L : List Spl, NXL (L.flatMap cuX) (L.flatMap cuF)
 | [] => .nil
 | s :: L => by
  rw [List.flatMap_cons, List.flatMap_cons]
  refine NXL.app (cu_nx L) (.cons (.same _) (.cons ?_ (.cons (.same _) .nil)))
  by_cases h : s.2.1 = []
  ·rw [if_pos h]
   have e : tkL s = [] := by unfold tkL; rw [h]; rfl
   rw [e]
   exact .nil
  ·rw [if_neg h]; exact .same _
theorem cuX_len (X : List Spl) : (X.flatMap cuX).length = X.length * 3 := by
 induction X with
 | nil => rfl
 | cons s X ih => rw [List.flatMap_cons, List.length_append, ih]; simp [cuX]; omega
theorem cutsOf_c {t : List Int} (h : t ∈ trN 6) : GCon Tryz.prog 206 [.sl t.length (avs t)] (.own 162 (cutL t).length ((cutL t).flatMap cuF)) [.any] := by
 have cS := splitTree_c 6 t (List.all_eq_true.1 splOk_all t h)
 have cG := gathered_c (spl 6 t) (gok_at h).1 (gok_at h).2
 obtain ⟨b1, b2⟩ := cutL_at h
 refine GCon.nx (.own _ _ (cu_nx _)) ?_
 unfold cutL at *
 generalize spl 6 t = Z at *
 generalize gthS (srtS (Z.map cntF)) = L at *
 refine gcon_of_vc Tryz.mixed ⟨7, [], [1000000 + 288, 1000000 + 287], []⟩ [2] [] Tryz.func206 (by decide) rfl rfl (by simp) (by simp) (by decide) ?_
 rw [Tryz.ntmps206]
 simp [go_sem]
 refine ⟨_, _, cS, ?_⟩
 simp [go_sem]
 refine ⟨_, _, cG, ?_⟩
 simp [go_sem]
 refine loop_inv (3 :: 5 :: 6 :: List.range' 12 23) (fun i : Nat => [(3, .own 162 i ((L.take i).flatMap cuX)), (12, .int i)]) (fun i => i ≤ L.length) (fun i => L.length - i) 0 (by simp) (by simp [go_sem]) (by simp [go_sem]) ?_
 intro i hi
 by_cases hib : i < L.length
 ·have hii : (i : Int) < L.length := by omega
  have dr := spF_drop hib
  have nL : ¬ L.flatMap spF = [] := by intro e; have := spF_len L; rw [e] at this; simp at this; omega
  have hm := memD ([], [], 0) hib
  obtain ⟨c1, c2, c3, c4, c5, c6⟩ := b2 _ hm
  have tk : L.take (i + 1) = L.take i ++ [L[i]?.getD ([], [], 0)] := by
   rw [List.take_succ_eq_append_getElem hib, List.getElem?_eq_getElem hib]; rfl
  have cl := cuX_len (L.take i)
  rw [List.length_take, Nat.min_eq_left (by omega)] at cl
  have lL := spF_len L
  generalize L[i]?.getD ([], [], 0) = s at *
  obtain ⟨a, b, k⟩ := s
  simp only [spF] at dr
  simp only at c1 c2 c3 c4 c5 c6
  generalize hC : (L.take i).flatMap cuX = C at *
  generalize hMC : L.flatMap spF = MC at *
  cases b with
  | nil =>
   simp [go_sem, hii, dr]
   refine ⟨⟨nL, by omega⟩, ?_⟩
   refine ⟨⟨by rw [cl], by omega, by omega⟩, ⟨by omega, by omega⟩, i + 1, by omega, by omega, Off_reset _ _ _ (by simp), ?_⟩
   rw [tk, List.flatMap_append, hC]
   refine ⟨⟨by omega, ?_⟩, by omega⟩
   simp [cuX, tkL]
  | cons r b =>
   have e : b = [] := List.length_eq_zero_iff.1 (by simpa using c3)
   subst e
   simp [go_sem, hii, dr, mat]
   refine ⟨⟨nL, by omega⟩, ?_⟩
   refine ⟨⟨by rw [cl], by omega, by omega⟩, ⟨by omega, by omega⟩, i + 1, by omega, by omega, Off_reset _ _ _ (by simp), ?_⟩
   rw [tk, List.flatMap_append, hC]
   refine ⟨⟨by omega, ?_⟩, by omega⟩
   simp [cuX, tkL, mat]
 ·have e : i = L.length := by omega
  subst e
  have hii : ¬ (L.length : Int) < L.length := by omega
  rw [List.take_length]
  simp [go_sem, hii]
end Go.Proofs.YtiikdbomhkbdlaaGreat


namespace Go.Proofs.YtiikdbomhkbdlaaGreat
end Go.Proofs.YtiikdbomhkbdlaaGreat


namespace Go.Proofs.YtiikdbomhkbdlaaGreat
def T2 (n : Nat) (g : List Int) : Int := g.foldl (fun (p : Int × Int) x => (p.1 + p.2 * x ^ n, p.2 + x)) (0, 0) |>.1
end Go.Proofs.YtiikdbomhkbdlaaGreat


namespace Go.Proofs.YtiikdbomhkbdlaaGreat
open Go.Abs
def nvs (l : List Nat) : List Int := l.map fun (v : Nat) => (v : Int)
theorem nvs_len (l : List Nat) : (nvs l).length = l.length := by simp [nvs]
theorem N38.Ns {a : List Int} (h : N38 a) : Ns a := fun x hx => by have := h.2 x hx; exact ⟨this.1, by have := this.2; omega⟩
theorem N38.mapB {a : List Int} (h : N38 a) : mapB a = true := by
 unfold Go.Proofs.YtiikdbomhkbdlaaGreat.mapB
 rw [h.1, numsB_N.2 h.Ns]; rfl
def ctF (c : Ctp) : List AV := [.int c.1, .sl c.2.1.length (avs (nvs c.2.1)), .int c.2.2]
def fcF : List AV := cutT.map fun r => .sl r.length (r.flatMap ctF)
end Go.Proofs.YtiikdbomhkbdlaaGreat


namespace Go.Proofs.YtiikdbomhkbdlaaGreat
open Go.Abs
def cp (s : Spl) : List Int := s.1.map fun c => ixT (trN 6) c + 1
def tp (s : Spl) : Int := if tkL s = [] then 0 else ixT (trN 6) (tkL s) + 1
theorem tab_eq : (trN 6).map (fun t => (cutL t).map fun s => (s.2.2, cp s, tp s)) = cutT.map fun r => r.map fun c => ((c.1 : Int), nvs c.2.1, (c.2.2 : Int)) := by kernel_rfl
def crX (s : Spl) (j : Nat) : AV := if j = 0 then .val (.slice none 0 0) else .own 3 j (avs ((cp s).take j))
def mcX (s : Spl) : List AV := [.int s.2.2, if s.1 = [] then .val (.slice none 0 0) else .own 3 s.1.length (avs (cp s)), .int (tp s)]
def rwX (t : List Int) : AV := .own 165 (cutL t).length ((cutL t).flatMap mcX)
def fcX (i : Nat) : AV := if i = 0 then .val (.slice none 0 0) else .own 158 i (((trN 6).take i).map rwX)
theorem flat3_len {α : Type} (F : α → List AV) (hF : ∀ s, (F s).length = 3) (X : List α) : (X.flatMap F).length = X.length * 3 := by
 induction X with
 | nil => rfl
 | cons s X ih => rw [List.flatMap_cons, List.length_append, ih, hF, List.length_cons]; omega
theorem flat3_drop {α : Type} (F : α → List AV) (hF : ∀ s, (F s).length = 3) (d : α) {L : List α} {i : Nat} (h : i < L.length) : (L.flatMap F).drop (i * 3) = F (L[i]?.getD d) ++ (L.drop (i + 1)).flatMap F := by
 have e1 : ((L.take i).flatMap F).length = i * 3 := by rw [flat3_len F hF, List.length_take, Nat.min_eq_left (by omega)]
 have e2 : L.drop i = L[i]?.getD d :: L.drop (i + 1) := by rw [List.drop_eq_getElem_cons h]; simp [h]
 have e3 : L.flatMap F = (L.take i).flatMap F ++ (L.drop i).flatMap F := by rw [← List.flatMap_append, List.take_append_drop]
 rw [e3, List.drop_append_of_le_length (by omega), e2, List.flatMap_cons, List.drop_eq_nil_of_le (by omega), List.nil_append]
theorem newForms_x : GCon Tryz.prog 98 [] (.agg [.sl 37 (mat (trN 6)), .own 158 37 ((trN 6).map rwX)]) [] := by
 have cT := treesTo_c 6 (by omega)
 have l6 := trN_len6
 have at6 := fun t h => trN_at (t := t) h
 have e6 : ((6 : Nat) : Int) = 6 := rfl
 rw [e6] at cT
 rw [l6] at cT
 refine RCon.toG ?_
 refine rcon_of_vcH Tryz.mixed ⟨10, [10, 56], [1000000 + 206], []⟩ [] Tryz.func98 (by decide) rfl (by simp) (by simp) (by decide) ?_
 rw [Tryz.ntmps98]
 simp [go_sem]
 refine CallVC.of (cT) (by decide) ?_
 simp [go_sem]
 refine loop_inv (1 :: 3 :: 4 :: 6 :: 7 :: 9 :: List.range' 15 52) (fun i : Nat => [(1, .box 94 [.sl 37 (mat (trN 6)), fcX i]), (15, .int i)]) (fun i => i ≤ 37) (fun i => 37 - i) 0 (by simp) (by simp [go_sem, fcX]) (by simp [go_sem, fcX]) ?_
 intro i hi
 by_cases hil : i < 37
 ·have hii : (i : Int) < 37 := by omega
  have hl : i < (trN 6).length := by omega
  have dm := mat_drop hl
  have hm := memD [] hl
  have cC := cutsOf_c hm
  obtain ⟨b1, b2⟩ := cutL_at hm
  have nm : ¬ trN 6 = [] := by intro e; rw [e] at l6; simp at l6
  have tki : (trN 6).take (i + 1) = (trN 6).take i ++ [(trN 6)[i]?.getD []] := by
   rw [List.take_succ_eq_append_getElem hl, List.getElem?_eq_getElem hl]; rfl
  have x1 : fcX (i + 1) = .own 158 (i + 1) (((trN 6).take i).map rwX ++ [rwX ((trN 6)[i]?.getD [])]) := by
   unfold fcX
   rw [if_neg (by omega), tki, List.map_append]; rfl
  have hrw : rwX ((trN 6)[i]?.getD []) = .own 165 (cutL ((trN 6)[i]?.getD [])).length ((cutL ((trN 6)[i]?.getD [])).flatMap mcX) := rfl
  have lti : (((trN 6).take i).map rwX).length = i := by rw [List.length_map, List.length_take]; omega
  by_cases i0 : i = 0
  ·have x0 : fcX i = .val (.slice none 0 0) := by unfold fcX; rw [if_pos i0]
   rw [x0]
   generalize (trN 6)[i]?.getD [] = t at *
   generalize cutL t = L at *
   have xf : AV.own 158 1 [AV.own 165 L.length (L.flatMap mcX)] = fcX (i + 1) := by rw [x1, ← hrw, i0]; simp
   simp [go_sem, hii, dm]
   refine ⟨nm, ?_⟩
   refine ⟨_, _, cC, ?_⟩
   simp [go_sem]
   refine loop_inv (4 :: 6 :: 7 :: 9 :: List.range' 23 37) (fun j : Nat => [(4, .own 165 j ((L.take j).flatMap mcX)), (23, .int j)]) (fun j => j ≤ L.length) (fun j => L.length - j) 0 (by simp) (by simp [go_sem]) (by simp [go_sem]) ?_
   intro j hj
   by_cases hjl : j < L.length
   ·have hji : (j : Int) < L.length := by omega
    have dr := flat3_drop cuF (fun _ => rfl) ([], [], 0) hjl
    have nL : ¬ L.flatMap cuF = [] := by intro e; have := flat3_len cuF (fun _ => rfl) L; rw [e] at this; simp at this; omega
    have lL := flat3_len cuF (fun _ => rfl) L
    have hms := memD ([], [], 0) hjl
    obtain ⟨c1, c2, c3, c4, c5, c6⟩ := b2 _ hms
    have tkj : L.take (j + 1) = L.take j ++ [L[j]?.getD ([], [], 0)] := by
     rw [List.take_succ_eq_append_getElem hjl, List.getElem?_eq_getElem hjl]; rfl
    have clj := flat3_len mcX (fun _ => rfl) (L.take j)
    rw [List.length_take, Nat.min_eq_left (by omega)] at clj
    generalize L[j]?.getD ([], [], 0) = s at *
    obtain ⟨sa, sb, sc⟩ := s
    simp only [cuF] at dr
    simp only at c1 c2 c3 c4 c5 c6
    have tk1 : (tkL (sa, sb, sc)).length ≤ 6 := by
     unfold tkL
     cases sb with
     | nil => simp
     | cons r b => exact (c4 r (by simp)).2
    have hMX : mcX (sa, sb, sc) = [.int sc, if sa = [] then .val (.slice none 0 0) else .own 3 sa.length (avs (cp (sa, sb, sc))), .int (tp (sa, sb, sc))] := rfl
    have htp : tp (sa, sb, sc) = if tkL (sa, sb, sc) = [] then 0 else ixT (trN 6) (tkL (sa, sb, sc)) + 1 := rfl
    have hcp : cp (sa, sb, sc) = sa.map fun c => ixT (trN 6) c + 1 := rfl
    have hcr : ∀ k, crX (sa, sb, sc) k = if k = 0 then .val (.slice none 0 0) else .own 3 k (avs ((cp (sa, sb, sc)).take k)) := fun k => rfl
    have hcl : (cp (sa, sb, sc)).length = sa.length := by rw [hcp, List.length_map]
    have cPt := place_c (trN 6) 0 [] (tkL (sa, sb, sc)) (by omega) (fun r hr => by have := (at6 r hr).2.1; omega) (by omega)
    have btp := ixT_le (trN 6) (tkL (sa, sb, sc))
    rw [l6] at cPt btp
    generalize tkL (sa, sb, sc) = tk at *
    generalize tp (sa, sb, sc) = tpv at *
    generalize hCP : cp (sa, sb, sc) = cps at *
    generalize hMC : L.flatMap cuF = MC at *
    generalize hC : (L.take j).flatMap mcX = C at *
    simp [go_sem, hji, dr]
    refine ⟨⟨nL, by omega⟩, ?_⟩
    refine loop_inv (7 :: 9 :: List.range' 33 13) (fun k : Nat => [(7, .box 165 [.int sc, crX (sa, sb, sc) k, .int 0]), (33, .int k)]) (fun k => k ≤ sa.length) (fun k => sa.length - k) 0 (by simp) (by simp [go_sem, crX]) (by simp [go_sem, crX]) ?_
    intro k hk
    by_cases hkl : k < sa.length
    ·have hki : (k : Int) < sa.length := by omega
     have dk := mat_drop hkl
     have hmk := memD [] hkl
     have hk6 := c2 _ hmk
     have na : ¬ sa = [] := by rintro rfl; simp at hkl
     have cP := place_c (trN 6) 0 [] (sa[k]?.getD []) (by omega) (fun r hr => by have := (at6 r hr).2.1; omega) (by omega)
     rw [l6] at cP
     have bp := ixT_le (trN 6) (sa[k]?.getD [])
     rw [l6] at bp
     have tkk : cps.take (k + 1) = cps.take k ++ [ixT (trN 6) (sa[k]?.getD []) + 1] := by
      rw [List.take_succ_eq_append_getElem (by omega)]
      congr 2
      subst hcp
      rw [List.getElem_map, List.getElem?_eq_getElem hkl]; rfl
     have lk : (cps.take k).length = k := by rw [List.length_take]; omega
     have x1 : crX (sa, sb, sc) (k + 1) = .own 3 (k + 1) (avs (cps.take k ++ [ixT (trN 6) (sa[k]?.getD []) + 1])) := by rw [hcr, if_neg (by omega), tkk]
     generalize sa[k]?.getD [] = r at *
     generalize ixT (trN 6) r + 1 = v at *
     by_cases k0 : k = 0
     ·have x0 : crX (sa, sb, sc) k = .val (.slice none 0 0) := by rw [hcr, if_pos k0]
      rw [x0]
      simp [go_sem, hki, dk]
      refine ⟨na, by kernel_rfl, ?_⟩
      refine CallD.of (cP) (by simp [roots, rootsL]) (by decide) ?_
      simp [go_sem]
      refine ⟨by kernel_rfl, ?_⟩
      simp [go_sem]
      refine ⟨⟨by omega, by omega⟩, k + 1, by omega, by omega, Off_reset _ _ _ (by simp), ?_⟩
      rw [x1]
      subst k0
      exact ⟨by simp [avs], by omega⟩
     ·have x0 : crX (sa, sb, sc) k = .own 3 k (avs (cps.take k)) := by rw [hcr, if_neg k0]
      rw [x0]
      simp [go_sem, hki, dk]
      refine ⟨na, by kernel_rfl, ?_⟩
      refine CallD.of (cP) (by simp [roots, rootsL]) (by decide) ?_
      simp [go_sem]
      refine ⟨⟨by omega, by omega, by omega⟩, ?_⟩
      refine ⟨by kernel_rfl, ?_⟩
      simp [go_sem]
      refine ⟨⟨by omega, by omega⟩, k + 1, by omega, by omega, Off_reset _ _ _ (by simp), ?_⟩
      rw [x1, avs_snoc]
      exact ⟨rfl, by omega⟩
    ·have e : k = sa.length := by omega
     subst e
     have hki : ¬ (sa.length : Int) < sa.length := by omega
     by_cases s0 : sa = []
     ·have x0 : crX (sa, sb, sc) sa.length = .val (.slice none 0 0) := by rw [hcr, if_pos (by rw [s0]; rfl)]
      rw [x0]
      rw [if_pos s0] at hMX
      by_cases ht : 0 < tk.length
      ·have t0 : ¬ tk = [] := by rintro rfl; simp at ht
       rw [if_neg t0] at htp
       simp [go_sem, hki, ht]
       refine CallVC.of (cPt) (by decide) ?_
       simp [go_sem]
       refine ⟨⟨by rw [clj], by omega, by omega⟩, ⟨by omega, by omega⟩, j + 1, by omega, by omega, (Off.reset (by intro x hx; simp at hx ⊢; omega) (by simp) (by simp [go_sem, Off_reset])), ?_⟩
       rw [tkj, List.flatMap_append, hC]
       refine ⟨⟨by omega, ?_⟩, by omega⟩
       simp [hMX, htp]
      ·have t0 : tk = [] := List.length_eq_zero_iff.1 (by omega)
       rw [if_pos t0] at htp
       simp [go_sem, hki, ht]
       refine ⟨⟨by rw [clj], by omega, by omega⟩, ⟨by omega, by omega⟩, j + 1, by omega, by omega, (Off.reset (by intro x hx; simp at hx ⊢; omega) (by simp) (by simp [go_sem, Off_reset])), ?_⟩
       rw [tkj, List.flatMap_append, hC]
       refine ⟨⟨by omega, ?_⟩, by omega⟩
       simp [hMX, htp]
     ·have x0 : crX (sa, sb, sc) sa.length = .own 3 sa.length (avs cps) := by
       rw [hcr, if_neg (by intro e; exact s0 (List.length_eq_zero_iff.1 e)), List.take_of_length_le (by omega)]
      rw [x0]
      rw [if_neg s0] at hMX
      by_cases ht : 0 < tk.length
      ·have t0 : ¬ tk = [] := by rintro rfl; simp at ht
       rw [if_neg t0] at htp
       simp [go_sem, hki, ht]
       refine CallVC.of (cPt) (by decide) ?_
       simp [go_sem]
       refine ⟨⟨by rw [clj], by omega, by omega⟩, ⟨by omega, by omega⟩, j + 1, by omega, by omega, (Off.reset (by intro x hx; simp at hx ⊢; omega) (by simp) (by simp [go_sem, Off_reset])), ?_⟩
       rw [tkj, List.flatMap_append, hC]
       refine ⟨⟨by omega, ?_⟩, by omega⟩
       simp [hMX, htp]
      ·have t0 : tk = [] := List.length_eq_zero_iff.1 (by omega)
       rw [if_pos t0] at htp
       simp [go_sem, hki, ht]
       refine ⟨⟨by rw [clj], by omega, by omega⟩, ⟨by omega, by omega⟩, j + 1, by omega, by omega, (Off.reset (by intro x hx; simp at hx ⊢; omega) (by simp) (by simp [go_sem, Off_reset])), ?_⟩
       rw [tkj, List.flatMap_append, hC]
       refine ⟨⟨by omega, ?_⟩, by omega⟩
       simp [hMX, htp]
   ·have e : j = L.length := by omega
    subst e
    have hji : ¬ (L.length : Int) < L.length := by omega
    rw [List.take_length]
    simp [go_sem, hji]
    exact ⟨⟨by omega, by omega⟩, i + 1, by omega, by omega, (by repeat (first | exact Off_reset _ _ _ (by simp) | (refine Off.reset (by intro x hx; simp at hx ⊢; omega) (by simp) ?_; simp -failIfUnchanged [go_sem, Off_reset]))), xf, by omega⟩
  ·have x0 : fcX i = .own 158 i (((trN 6).take i).map rwX) := by unfold fcX; rw [if_neg i0]
   rw [x0]
   generalize (trN 6)[i]?.getD [] = t at *
   generalize cutL t = L at *
   generalize ((trN 6).take i).map rwX = FR at *
   have xf : AV.own 158 (i + 1) (FR ++ [AV.own 165 L.length (L.flatMap mcX)]) = fcX (i + 1) := by rw [x1, ← hrw]
   simp [go_sem, hii, dm]
   refine ⟨nm, ?_⟩
   refine ⟨_, _, cC, ?_⟩
   simp [go_sem]
   refine loop_inv (4 :: 6 :: 7 :: 9 :: List.range' 23 37) (fun j : Nat => [(4, .own 165 j ((L.take j).flatMap mcX)), (23, .int j)]) (fun j => j ≤ L.length) (fun j => L.length - j) 0 (by simp) (by simp [go_sem]) (by simp [go_sem]) ?_
   intro j hj
   by_cases hjl : j < L.length
   ·have hji : (j : Int) < L.length := by omega
    have dr := flat3_drop cuF (fun _ => rfl) ([], [], 0) hjl
    have nL : ¬ L.flatMap cuF = [] := by intro e; have := flat3_len cuF (fun _ => rfl) L; rw [e] at this; simp at this; omega
    have lL := flat3_len cuF (fun _ => rfl) L
    have hms := memD ([], [], 0) hjl
    obtain ⟨c1, c2, c3, c4, c5, c6⟩ := b2 _ hms
    have tkj : L.take (j + 1) = L.take j ++ [L[j]?.getD ([], [], 0)] := by
     rw [List.take_succ_eq_append_getElem hjl, List.getElem?_eq_getElem hjl]; rfl
    have clj := flat3_len mcX (fun _ => rfl) (L.take j)
    rw [List.length_take, Nat.min_eq_left (by omega)] at clj
    generalize L[j]?.getD ([], [], 0) = s at *
    obtain ⟨sa, sb, sc⟩ := s
    simp only [cuF] at dr
    simp only at c1 c2 c3 c4 c5 c6
    have tk1 : (tkL (sa, sb, sc)).length ≤ 6 := by
     unfold tkL
     cases sb with
     | nil => simp
     | cons r b => exact (c4 r (by simp)).2
    have hMX : mcX (sa, sb, sc) = [.int sc, if sa = [] then .val (.slice none 0 0) else .own 3 sa.length (avs (cp (sa, sb, sc))), .int (tp (sa, sb, sc))] := rfl
    have htp : tp (sa, sb, sc) = if tkL (sa, sb, sc) = [] then 0 else ixT (trN 6) (tkL (sa, sb, sc)) + 1 := rfl
    have hcp : cp (sa, sb, sc) = sa.map fun c => ixT (trN 6) c + 1 := rfl
    have hcr : ∀ k, crX (sa, sb, sc) k = if k = 0 then .val (.slice none 0 0) else .own 3 k (avs ((cp (sa, sb, sc)).take k)) := fun k => rfl
    have hcl : (cp (sa, sb, sc)).length = sa.length := by rw [hcp, List.length_map]
    have cPt := place_c (trN 6) i (frzL FR) (tkL (sa, sb, sc)) (by omega) (fun r hr => by have := (at6 r hr).2.1; omega) (by omega)
    have btp := ixT_le (trN 6) (tkL (sa, sb, sc))
    rw [l6] at cPt btp
    generalize tkL (sa, sb, sc) = tk at *
    generalize tp (sa, sb, sc) = tpv at *
    generalize hCP : cp (sa, sb, sc) = cps at *
    generalize hMC : L.flatMap cuF = MC at *
    generalize hC : (L.take j).flatMap mcX = C at *
    simp [go_sem, hji, dr]
    refine ⟨⟨nL, by omega⟩, ?_⟩
    refine loop_inv (7 :: 9 :: List.range' 33 13) (fun k : Nat => [(7, .box 165 [.int sc, crX (sa, sb, sc) k, .int 0]), (33, .int k)]) (fun k => k ≤ sa.length) (fun k => sa.length - k) 0 (by simp) (by simp [go_sem, crX]) (by simp [go_sem, crX]) ?_
    intro k hk
    by_cases hkl : k < sa.length
    ·have hki : (k : Int) < sa.length := by omega
     have dk := mat_drop hkl
     have hmk := memD [] hkl
     have hk6 := c2 _ hmk
     have na : ¬ sa = [] := by rintro rfl; simp at hkl
     have cP := place_c (trN 6) i (frzL FR) (sa[k]?.getD []) (by omega) (fun r hr => by have := (at6 r hr).2.1; omega) (by omega)
     rw [l6] at cP
     have bp := ixT_le (trN 6) (sa[k]?.getD [])
     rw [l6] at bp
     have tkk : cps.take (k + 1) = cps.take k ++ [ixT (trN 6) (sa[k]?.getD []) + 1] := by
      rw [List.take_succ_eq_append_getElem (by omega)]
      congr 2
      subst hcp
      rw [List.getElem_map, List.getElem?_eq_getElem hkl]; rfl
     have lk : (cps.take k).length = k := by rw [List.length_take]; omega
     have x1 : crX (sa, sb, sc) (k + 1) = .own 3 (k + 1) (avs (cps.take k ++ [ixT (trN 6) (sa[k]?.getD []) + 1])) := by rw [hcr, if_neg (by omega), tkk]
     generalize sa[k]?.getD [] = r at *
     generalize ixT (trN 6) r + 1 = v at *
     by_cases k0 : k = 0
     ·have x0 : crX (sa, sb, sc) k = .val (.slice none 0 0) := by rw [hcr, if_pos k0]
      rw [x0]
      simp [go_sem, hki, dk]
      refine ⟨na, by kernel_rfl, ?_⟩
      refine CallD.of (cP) (by simp [roots, rootsL]) (by decide) ?_
      simp [go_sem]
      refine ⟨by kernel_rfl, ?_⟩
      simp [go_sem]
      refine ⟨⟨by omega, by omega⟩, k + 1, by omega, by omega, Off_reset _ _ _ (by simp), ?_⟩
      rw [x1]
      subst k0
      exact ⟨by simp [avs], by omega⟩
     ·have x0 : crX (sa, sb, sc) k = .own 3 k (avs (cps.take k)) := by rw [hcr, if_neg k0]
      rw [x0]
      simp [go_sem, hki, dk]
      refine ⟨na, by kernel_rfl, ?_⟩
      refine CallD.of (cP) (by simp [roots, rootsL]) (by decide) ?_
      simp [go_sem]
      refine ⟨⟨by omega, by omega, by omega⟩, ?_⟩
      refine ⟨by kernel_rfl, ?_⟩
      simp [go_sem]
      refine ⟨⟨by omega, by omega⟩, k + 1, by omega, by omega, Off_reset _ _ _ (by simp), ?_⟩
      rw [x1, avs_snoc]
      exact ⟨rfl, by omega⟩
    ·have e : k = sa.length := by omega
     subst e
     have hki : ¬ (sa.length : Int) < sa.length := by omega
     by_cases s0 : sa = []
     ·have x0 : crX (sa, sb, sc) sa.length = .val (.slice none 0 0) := by rw [hcr, if_pos (by rw [s0]; rfl)]
      rw [x0]
      rw [if_pos s0] at hMX
      by_cases ht : 0 < tk.length
      ·have t0 : ¬ tk = [] := by rintro rfl; simp at ht
       rw [if_neg t0] at htp
       simp [go_sem, hki, ht]
       refine CallVC.of (cPt) (by decide) ?_
       simp [go_sem]
       refine ⟨⟨by rw [clj], by omega, by omega⟩, ⟨by omega, by omega⟩, j + 1, by omega, by omega, (Off.reset (by intro x hx; simp at hx ⊢; omega) (by simp) (by simp [go_sem, Off_reset])), ?_⟩
       rw [tkj, List.flatMap_append, hC]
       refine ⟨⟨by omega, ?_⟩, by omega⟩
       simp [hMX, htp]
      ·have t0 : tk = [] := List.length_eq_zero_iff.1 (by omega)
       rw [if_pos t0] at htp
       simp [go_sem, hki, ht]
       refine ⟨⟨by rw [clj], by omega, by omega⟩, ⟨by omega, by omega⟩, j + 1, by omega, by omega, (Off.reset (by intro x hx; simp at hx ⊢; omega) (by simp) (by simp [go_sem, Off_reset])), ?_⟩
       rw [tkj, List.flatMap_append, hC]
       refine ⟨⟨by omega, ?_⟩, by omega⟩
       simp [hMX, htp]
     ·have x0 : crX (sa, sb, sc) sa.length = .own 3 sa.length (avs cps) := by
       rw [hcr, if_neg (by intro e; exact s0 (List.length_eq_zero_iff.1 e)), List.take_of_length_le (by omega)]
      rw [x0]
      rw [if_neg s0] at hMX
      by_cases ht : 0 < tk.length
      ·have t0 : ¬ tk = [] := by rintro rfl; simp at ht
       rw [if_neg t0] at htp
       simp [go_sem, hki, ht]
       refine CallVC.of (cPt) (by decide) ?_
       simp [go_sem]
       refine ⟨⟨by rw [clj], by omega, by omega⟩, ⟨by omega, by omega⟩, j + 1, by omega, by omega, (Off.reset (by intro x hx; simp at hx ⊢; omega) (by simp) (by simp [go_sem, Off_reset])), ?_⟩
       rw [tkj, List.flatMap_append, hC]
       refine ⟨⟨by omega, ?_⟩, by omega⟩
       simp [hMX, htp]
      ·have t0 : tk = [] := List.length_eq_zero_iff.1 (by omega)
       rw [if_pos t0] at htp
       simp [go_sem, hki, ht]
       refine ⟨⟨by rw [clj], by omega, by omega⟩, ⟨by omega, by omega⟩, j + 1, by omega, by omega, (Off.reset (by intro x hx; simp at hx ⊢; omega) (by simp) (by simp [go_sem, Off_reset])), ?_⟩
       rw [tkj, List.flatMap_append, hC]
       refine ⟨⟨by omega, ?_⟩, by omega⟩
       simp [hMX, htp]
   ·have e : j = L.length := by omega
    subst e
    have hji : ¬ (L.length : Int) < L.length := by omega
    rw [List.take_length]
    simp [go_sem, hji]
    exact ⟨⟨by omega, by omega, by omega⟩, ⟨by omega, by omega⟩, i + 1, by omega, by omega, (by repeat (first | exact Off_reset _ _ _ (by simp) | (refine Off.reset (by intro x hx; simp at hx ⊢; omega) (by simp) ?_; simp -failIfUnchanged [go_sem, Off_reset]))), xf, by omega⟩
 ·have e : i = 37 := by omega
  subst e
  have x : fcX 37 = .own 158 37 ((trN 6).map rwX) := by
   unfold fcX
   rw [if_neg (by omega), List.take_of_length_le (by omega)]
  rw [x]
  simp [go_sem]
def trG (row : List (Int × List Int × Int)) : AV := .sl row.length (row.flatMap fun x => [.int x.1, .sl x.2.1.length (avs x.2.1), .int x.2.2])
theorem frzLapp : ∀ a b : List AV, frzL (a ++ b) = frzL a ++ frzL b
 | [], b => rfl
 | c :: a, b => by rw [List.cons_append, frzL, frzLapp a b, frzL]; rfl
theorem row_nx : ∀ L : List Spl, NXL (frzL (L.flatMap mcX)) ((L.map fun s => (s.2.2, cp s, tp s)).flatMap fun x => [.int x.1, .sl x.2.1.length (avs x.2.1), .int x.2.2])
 | [] => .nil
 | s :: L => by
  rw [List.map_cons, List.flatMap_cons, List.flatMap_cons, frzLapp]
  refine NXL.app (row_nx L) ?_
  by_cases h : s.1 = []
  ·have e : mcX s = [.int s.2.2, .val (.slice none 0 0), .int (tp s)] := by unfold mcX; rw [if_pos h]
   have e2 : cp s = [] := by unfold cp; rw [h]; rfl
   rw [e, e2]
   exact .cons (.same _) (.cons .nil (.cons (.same _) .nil))
  ·have e : mcX s = [.int s.2.2, .own 3 s.1.length (avs (cp s)), .int (tp s)] := by unfold mcX; rw [if_neg h]
   have e2 : (cp s).length = s.1.length := by simp [cp]
   rw [e]
   show NXL [.int s.2.2, .sl s.1.length (frzL (avs (cp s))), .int (tp s)] [.int s.2.2, .sl (cp s).length (avs (cp s)), .int (tp s)]
   rw [avs_frz, e2]
   exact NXL.same _
theorem tab_nx : ∀ T : List (List Int), NXL (frzL (T.map rwX)) (T.map fun t => trG ((cutL t).map fun s => (s.2.2, cp s, tp s)))
 | [] => .nil
 | t :: T => by
  rw [List.map_cons, List.map_cons]
  refine .cons ?_ (tab_nx T)
  show NX (.sl (cutL t).length (frzL ((cutL t).flatMap mcX))) (trG _)
  unfold trG
  rw [List.length_map]
  exact .sl _ (row_nx _)
theorem fcF_tab : ((trN 6).map fun t => trG ((cutL t).map fun s => (s.2.2, cp s, tp s))) = fcF := by
 have e := congrArg (List.map trG) tab_eq
 rw [List.map_map, List.map_map] at e
 refine (Eq.trans ?_ e).trans ?_
 ·rfl
 ·unfold fcF
  refine List.map_congr_left fun r _ => ?_
  show trG (r.map _) = _
  unfold trG
  rw [List.length_map, List.flatMap_map]
  show AV.sl r.length (r.flatMap fun c => [.int c.1, .sl (nvs c.2.1).length (avs (nvs c.2.1)), .int c.2.2]) = _
  simp only [nvs_len]
  rfl
theorem newForms_c : GCon Tryz.prog 98 [] (.agg [.sl 37 (mat (trN 6)), .sl 37 fcF]) [] := by
 refine GCon.nxA (.cons (.same _) (.cons (.sl 37 ?_) .nil)) (GCon.frzR newForms_x rfl)
 rw [← fcF_tab]
 exact tab_nx _
end Go.Proofs.YtiikdbomhkbdlaaGreat


namespace Go.Proofs.YtiikdbomhkbdlaaGreat
open Go.Abs
theorem trN_ne : ¬ trN 6 = [] := by intro e; have := trN_len6; rw [e] at this; simp at this
theorem N38.take {a : List Int} (ha : N38 a) : a.take 38 = a := List.take_of_length_le (by rw [ha.1]; exact Nat.le_refl _)
theorem UnitMap_c : Con Tryz.prog 30 [] (.own 2 38 (avs unitS)) := by
 have e : avs unitS = .int 1 :: List.replicate 37 (.int 0) := by kernel_rfl
 rw [e]
 refine con_of_vc Tryz.mixed ⟨2, [], [], []⟩ Tryz.func30 (by decide) rfl (by simp) (by decide) (by simp [freshOK, freshL, go_sem]) ?_
 rw [Tryz.ntmps30]
 simp [go_sem]
theorem den_le {t : List Int} (h : t ∈ trN 6) : 0 ≤ denF 8 t ∧ denF 8 t ≤ 1000000 := by
 have ok : (trN 6).all (fun t => decide (0 ≤ denF 8 t) && decide (denF 8 t ≤ 1000000)) = true := by decide +kernel
 have k := List.all_eq_true.1 ok t h
 simpa using k
theorem exT_eq : (trN 6).map (fun t => ((fp 15 (denF 8 t % 10007).toNat 10005 : Nat) : Int)) = exT.tail.map fun (v : Nat) => (v : Int) := by kernel_rfl
theorem exaS_eq : exaS = exT.map fun (v : Nat) => (v : Int) := by kernel_rfl
theorem exa_at {p : Nat} (h : p < 37) : pw (denF 8 ((trN 6)[p]?.getD []) % 10007) 10005 = iat exaS (p + 1) := by
 have hl : p < (trN 6).length := by rw [trN_len6]; exact h
 have e := congrArg (fun l => l[p]?) exT_eq
 simp only [List.getElem?_map] at e
 rw [List.getElem?_eq_getElem hl] at e
 have k := fp_pw (denF 8 (trN 6)[p] % 10007).toNat
 rw [Int.toNat_of_nonneg (Int.emod_nonneg _ (by decide))] at k
 rw [List.getElem?_eq_getElem hl, Option.getD_some, ← k]
 unfold iat
 rw [exaS_eq, List.getElem?_map]
 have e2 : exT[p + 1]? = exT.tail[p]? := by rw [List.getElem?_tail]
 rw [e2, ← e]; rfl
def xaX (i : Nat) : List Int := exaS.take (i + 1) ++ List.replicate (37 - i) 0
theorem set_mid (v : Int) : ∀ (P : List Int) (n : Nat), (P ++ List.replicate (n + 1) 0).set P.length v = P ++ [v] ++ List.replicate n 0
 | [], n => by simp [List.replicate_succ]
 | x :: P, n => by
  have := set_mid v P n
  simp only [List.cons_append, List.length_cons, List.set_cons_succ]
  rw [this]
theorem xaX_set {i : Nat} (h : i < 37) : (xaX i).set (i + 1) (iat exaS (i + 1)) = xaX (i + 1) := by
 have l := exaS_ch.1.1
 have tl : (exaS.take (i + 1)).length = i + 1 := by rw [List.length_take]; omega
 have t : exaS.take (i + 2) = exaS.take (i + 1) ++ [iat exaS (i + 1)] := by
  rw [List.take_succ_eq_append_getElem (by omega)]
  unfold iat
  rw [List.getElem?_eq_getElem (by omega)]; rfl
 unfold xaX
 have k := set_mid (iat exaS (i + 1)) (exaS.take (i + 1)) (36 - i)
 rw [tl, show 36 - i + 1 = 37 - i by omega] at k
 rw [k, t, show 37 - (i + 1) = 36 - i by omega]
theorem exactMap_c : Con Tryz.prog 100 [.agg [.sl 37 (mat (trN 6)), .sl 37 fcF]] (.own 2 38 (avs exaS)) := by
 have cU := UnitMap_c
 have l6 := trN_len6
 have nt := trN_ne
 have x0 : unitS = xaX 0 := by kernel_rfl
 have x37 : xaX 37 = exaS := by kernel_rfl
 have at6 := fun t h => trN_at (t := t) h
 rw [x0] at cU
 rw [← x37]
 generalize fcF = FC at *
 refine con_of_vc Tryz.mixed ⟨6, [], [], []⟩ Tryz.func100 (by decide) rfl (by simp) (by decide) (by simp [freshOK, freshL, go_sem]) ?_
 rw [Tryz.ntmps100]
 simp [go_sem]
 refine CallVC.of (cU) (by decide) ?_
 simp [go_sem]
 refine loop_inv (3 :: 4 :: 5 :: List.range' 10 14) (fun i : Nat => [(3, .own 2 38 (avs (xaX i))), (10, .int i)]) (fun i => i ≤ 37) (fun i => 37 - i) 0 (by simp) (by simp [go_sem]) (by simp [go_sem]) ?_
 intro i hi
 by_cases hil : i < 37
 ·have hii : (i : Int) < 37 := by omega
  have hl : i < (trN 6).length := by omega
  have dm := mat_drop hl
  have hm := memD [] hl
  obtain ⟨t1, t2, t3⟩ := at6 _ hm
  have cD := density_c 8 _ t1 (by omega) t3
  have xs := xaX_set hil
  rw [← exa_at hil] at xs
  have lx : (xaX i).length = 38 := by
   have l := exaS_ch.1.1
   unfold xaX
   rw [List.length_append, List.length_take, List.length_replicate]; omega
  obtain ⟨d1, d2⟩ := den_le hm
  generalize (trN 6)[i]?.getD [] = t at *
  have c1 := num_c (denF 8 t) (by omega) (by omega)
  have c2 := inv_c (denF 8 t % 10007) (isN_mod _)
  generalize hv : pw (denF 8 t % 10007) 10005 = v at *
  generalize denF 8 t = d at *
  have ls : ((xaX i).set (i + 1) v).length = 38 := by rw [List.length_set]; exact lx
  simp [go_sem, hii, dm]
  refine ⟨nt, ⟨by omega, by omega⟩, ?_⟩
  refine CallVC.of (cD) (by decide) ?_
  simp [go_sem]
  refine CallVC.of (c1) (by decide) ?_
  simp [go_sem]
  refine CallVC.of (c2) (by decide) ?_
  simp [go_sem]
  refine ⟨⟨by omega, by omega⟩, by omega, ⟨by omega, by omega⟩, i + 1, by omega, by omega, Off_reset _ _ _ (by simp), ?_⟩
  rw [← xs]
  exact ⟨by simp [avs, List.map_set], by omega⟩
 ·have e : i = 37 := by omega
  subst e
  simp [go_sem]
theorem ExactMap_c : Con Tryz.prog 21 [] (.own 2 38 (avs exaS)) := by
 have cF := newForms_c
 have cE := exactMap_c
 generalize fcF = FC at *
 refine con_of_vc Tryz.mixed ⟨1, [], [1000000 + 98], []⟩ Tryz.func21 (by decide) rfl (by simp) (by decide) (by simp [freshOK, freshL, go_sem]) ?_
 rw [Tryz.ntmps21]
 simp [go_sem]
 refine ⟨_, _, cF, ?_⟩
 simp [go_sem]
 refine CallVC.of (cE) (by decide) ?_
 simp [go_sem]
def ckC (a : List Int) : Int := if mapB a = true then (if iat a 0 = 1 then 0 else 5) else 1
theorem Ch.ck {a : List Int} (h : Ch a) : ckC a = 0 := by
 unfold ckC
 rw [if_pos h.1.mapB, if_pos h.2]
end Go.Proofs.YtiikdbomhkbdlaaGreat


namespace Go.Proofs.YtiikdbomhkbdlaaGreat
open Go.Abs
end Go.Proofs.YtiikdbomhkbdlaaGreat


namespace Go.Proofs.YtiikdbomhkbdlaaGreat
open Go.Abs
def trE (a : List Int) (z : Int) (f : List (List Mon)) (y : List Int) : Int := if (mapB a && fieldB z f) = false then 1 else if vecB z y = false then 2 else 0
def trX (a : List Int) (z : Int) (f : List (List Mon)) (y : List Int) : List (List Int) := if trE a z f y = 0 then tsX f y a 7 37 else []
def trR (a : List Int) (z : Int) (f : List (List Mon)) (y : List Int) : AV := .tup [.own 25 (trX a z f y).length (omat (trX a z f y)), .int (trE a z f y)]
theorem tsX_set (f : List (List Mon)) (y a : List Int) (k i : Nat) (h : ((trN 6)[i]?.getD []).length < k) :
  (tsX f y a k i).set ((trN 6)[i]?.getD []).length (plusS (rowT f y a ((trN 6)[i]?.getD []).length i) (edF f y 6 ((trN 6)[i]?.getD [])) (facT a i)) = tsX f y a k (i + 1) := by
 refine List.ext_getElem (by simp) fun n h1 h2 => ?_
 have hn : n < k := by simpa using h2
 rw [List.getElem_set]
 have e : (tsX f y a k (i + 1))[n] = rowT f y a n (i + 1) := by simp only [tsX, List.getElem_map, List.getElem_range]
 rw [e]
 by_cases hx : ((trN 6)[i]?.getD []).length = n
 ·subst hx
  rw [if_pos rfl, rowT, if_pos rfl]
 ·rw [if_neg hx, rowT, if_neg hx]
  simp only [tsX, List.getElem_map, List.getElem_range]
theorem TreeSeries_c (a : List Int) (z : Int) (f : List (List Mon)) (y : List Int) (ha : a.length ≤ 1048576) (hs : Small f) (hy : y.length ≤ 1048576) :
  Con Tryz.prog 19 [.sl a.length (avs a), .agg [.int z, .sl f.length (prt f)], .sl y.length (avs y)] (trR a z f y) := by
 have cM := IsMap_c a (by omega)
 have cF := IsField_c z f hs
 have cP := isVector_c z f.length (prt f) y (by omega)
 unfold trR trX trE
 cases h2 : fieldB z f with
 | false =>
  rw [h2] at cF
  rw [Bool.and_false]
  refine Con.n1 _ ?_
  refine con_of_vc Tryz.mixed ⟨13, [], [], []⟩ Tryz.func19 (by decide) rfl (by simp) (by decide) (by simp [freshOK, freshL, go_sem]) ?_
  rw [Tryz.ntmps19]
  simp [go_sem]
  refine CallVC.of (cF) (by decide) ?_
  simp [go_sem]
 | true =>
  rw [h2] at cF
  cases h1 : mapB a with
  | false =>
   rw [h1] at cM
   refine Con.n1 _ ?_
   refine con_of_vc Tryz.mixed ⟨13, [], [], []⟩ Tryz.func19 (by decide) rfl (by simp) (by decide) (by simp [freshOK, freshL, go_sem]) ?_
   rw [Tryz.ntmps19]
   simp [go_sem]
   refine CallVC.of (cF) (by decide) ?_
   simp [go_sem]
   refine CallVC.of (cM) (by decide) ?_
   simp [go_sem]
  | true =>
   rw [h1] at cM
   cases h3 : vecB z y with
   | false =>
    rw [h3] at cP
    refine Con.n1 _ ?_
    refine con_of_vc Tryz.mixed ⟨13, [], [], []⟩ Tryz.func19 (by decide) rfl (by simp) (by decide) (by simp [freshOK, freshL, go_sem]) ?_
    rw [Tryz.ntmps19]
    simp [go_sem]
    refine CallVC.of (cF) (by decide) ?_
    simp [go_sem]
    refine CallVC.of (cM) (by decide) ?_
    simp [go_sem]
    refine CallVC.of (cP) (by decide) ?_
    simp [go_sem]
   | true =>
    rw [h3] at cP
    have hF := fieldB_iff.1 h2
    have hm : a.length = 38 ∧ numsB a = true := by unfold mapB at h1; simpa using h1
    have hv : (y.length : Int) = z ∧ numsB y = true := by unfold vecB at h3; simpa using h3
    have aN := numsB_N.1 hm.2
    have yN := numsB_N.1 hv.2
    have z1 := hF.lo
    have z3 := hF.hi
    have fl := hF.len
    have hl := hv.1
    have am := hm.1
    subst hl
    have n0 := aN.get 0
    have cS := scaled_c y (a[0]?.getD 0) yN ⟨by have := n0.1; omega, by have := n0.2; omega⟩ (by omega)
    have cPl := polynomials_c y.length f hF hs
    have cTr := treesTo_c 6 (by omega)
    rw [trN_len6] at cTr
    have a0 := avs_drop (xs := a) (k := 0) (by omega)
    rw [List.drop_zero, List.getD_eq_getElem?_getD, Nat.zero_add, List.drop_one] at a0
    have b0 : AV.val (.int .i64 (a[0]?.getD 0)) :: avs a.tail = avs a := a0.symm
    have ane : ¬ a = [] := by rintro rfl; simp at am
    simp only [Bool.and_self, Bool.true_eq_false, if_false, if_true]
    rw [tsX_len]
    refine con_of_vc Tryz.mixed ⟨13, [44], [], []⟩ Tryz.func19 (by decide) rfl (by simp) (by decide) (by simp [freshOK, freshL, go_sem]) ?_
    rw [Tryz.ntmps19]
    simp [go_sem]
    refine CallVC.of (cF) (by decide) ?_
    simp [go_sem]
    refine CallVC.of (cM) (by decide) ?_
    simp [go_sem]
    refine CallVC.of (cP) (by decide) ?_
    simp [go_sem]
    rw [a0]
    simp [go_sem]
    rw [b0]
    refine ⟨⟨by omega, ane⟩, ?_⟩
    refine CallVC.of (cS) (by decide) ?_
    simp [go_sem]
    refine loop_inv ([8] ++ List.range' 33 9) (fun n : Nat => [(8, .own 25 (n + 1) (omat (tsX f y a (n + 1) 0))), (33, .int n)]) (fun n => n ≤ 6) (fun n => 6 - n) 0 (by simp) (by simp [go_sem, tsX, omat, rowT]) (by simp [go_sem]) ?_
    intro n hn
    by_cases hn6 : n < 6
    ·have hni : (n : Int) < 6 := by omega
     have hts := tsX_succ f y a (n + 1) 0
     have hr : rowT f y a (n + 1) 0 = List.replicate y.length 0 := by rw [rowT, if_neg (by omega)]
     simp [go_sem, hni]
     refine ⟨⟨by omega, by omega⟩, ⟨by omega, by omega⟩, ⟨by omega, by omega⟩, n + 1, by omega, by omega, Off_reset _ _ _ (by simp), ⟨rfl, ?_⟩, by omega⟩
     rw [hts, omat_app, omat_one, rowT_len, hr, avs_repl]
    ·have e : n = 6 := by omega
     subst e
     simp [go_sem]
     refine CallVC.of (cPl) (by decide) ?_
     simp [go_sem]
     refine CallVC.of (cTr) (by decide) ?_
     simp [go_sem]
     refine loop_inv ([8, 10, 11, 12] ++ List.range' 46 32) (fun i : Nat => [(8, .own 25 7 (omat (tsX f y a 7 i))), (46, .int i)]) (fun i => i ≤ 37) (fun i => 37 - i) 0 (by simp) (by simp [go_sem]) (by simp [go_sem]) ?_
     intro i hi
     by_cases hi37 : i < 37
     ·have hii : (i : Int) < 37 := by omega
      have hiT : i < (trN 6).length := by rw [trN_len6]; exact hi37
      have md := mat_drop hiT
      have neT : ¬ trN 6 = [] := by intro e; have := trN_len6; rw [e] at this; simp at this
      have ho := trN_okS hi37
      have hv := (trN_pos hi37).2
      have st := tsX_set f y a 7 i (by omega)
      have fN := facT_N a i
      have fa : facT a i = a[i + 1]?.getD 0 * pw (symF 6 ((trN 6)[i]?.getD []) % 10007) 10005 % 10007 := rfl
      have gt := tsX_get f y a i (show ((trN 6)[i]?.getD []).length < 7 by omega)
      have ad := avs_drop (xs := a) (k := i + 1) (by omega)
      rw [List.getD_eq_getElem?_getD] at ad
      have xN := aN.get (i + 1)
      have oB := okS_sym ho
      have cY := symmetry_c 6 _ (by omega) ho
      have cE := differential_c y.length f y hF hs yN rfl 6 ((trN 6)[i]?.getD []) hv.2 hv.1 (by omega)
      have eL := edF_len (f := f) (y := y) (n := 6) (by omega) ((trN 6)[i]?.getD [])
      have eN := edF_N (f := f) (y := y) (n := 6) ((trN 6)[i]?.getD [])
      have rL := rowT_len f y a ((trN 6)[i]?.getD []).length i
      have rN := rowT_N f y a ((trN 6)[i]?.getD []).length i
      have gm := omat_get2 (A := tsX f y a 7 i) (k := ((trN 6)[i]?.getD []).length) (by simp; omega)
      rw [gt, rL] at gm
      have cPs := plus_c (rowT f y a ((trN 6)[i]?.getD []).length i) (edF f y 6 ((trN 6)[i]?.getD [])) (facT a i) rN eN ⟨by have := fN.1; omega, by have := fN.2; omega⟩ (by omega) (by omega)
      have os := omat_set (tsX f y a 7 i) ((trN 6)[i]?.getD []).length (plusS (rowT f y a ((trN 6)[i]?.getD []).length i) (edF f y 6 ((trN 6)[i]?.getD [])) (facT a i))
      rw [st, plusS_len, rL] at os
      rw [eL] at cPs
      rw [rL] at cPs
      clear st gt ho
      have Yl := tsX_len f y a 7 i
      generalize hX : tsX f y a 7 (i + 1) = X at *
      generalize tsX f y a 7 i = Y at *
      generalize plusS (rowT f y a ((trN 6)[i]?.getD []).length i) (edF f y 6 ((trN 6)[i]?.getD [])) (facT a i) = P at *
      generalize rowT f y a ((trN 6)[i]?.getD []).length i = R at *
      generalize edF f y 6 ((trN 6)[i]?.getD []) = e at *
      generalize symF 6 ((trN 6)[i]?.getD []) = w at *
      generalize (trN 6)[i]?.getD [] = t at *
      generalize hx : a[i + 1]?.getD 0 = x at *
      have pN : isN (pw (w % 10007) 10005) := isN_mod _
      have c1 := num_c w (by omega) (by omega)
      have c2 := inv_c (w % 10007) (isN_mod w)
      have f3 := mul_fits xN pN
      have c3 := num_c (x * pw (w % 10007) 10005) f3.1 f3.2
      rw [← fa] at c3
      generalize facT a i = k at *
      generalize pw (w % 10007) 10005 = pq at *
      simp [go_sem, hii, md]
      refine ⟨neT, by kernel_rfl, ⟨by omega, by omega⟩, ⟨by omega, by omega, ane⟩, ?_⟩
      simp [go_sem, ad, hx]
      refine CallD.of cY (by simp [go_sem, roots, rootsL]) (by decide) ?_
      simp [go_sem]
      refine CallD.of (c1) (by simp [roots, rootsL]) (by decide) ?_
      simp [go_sem]
      refine CallD.of (c2) (by simp [roots, rootsL]) (by decide) ?_
      simp [go_sem]
      refine ⟨f3, ?_⟩
      refine CallD.of (c3) (by simp [roots, rootsL]) (by decide) ?_
      simp [go_sem]
      refine ⟨by kernel_rfl, ?_⟩
      simp [go_sem]
      simp [go_sem, gm]
      refine ⟨by kernel_rfl, by omega, ?_⟩
      refine CallD.of (cE) (by simp [roots, rootsL]) (by decide) ?_
      simp [go_sem]
      simp [go_sem, gm]
      refine CallD.of cPs (by simp [go_sem, roots, rootsL]) (by decide) ?_
      simp [go_sem, os]
      refine ⟨by omega, by omega, ?_⟩
      refine ⟨by kernel_rfl, ?_⟩
      simp [go_sem]
      refine ⟨⟨by omega, by omega⟩, i + 1, by omega, by omega, Off_reset _ _ _ (by simp), ?_⟩
      rw [hX]
      exact ⟨rfl, by omega⟩
     ·have e : i = 37 := by omega
      subst e
      simp [go_sem]
end Go.Proofs.YtiikdbomhkbdlaaGreat


namespace Go.Proofs.YtiikdbomhkbdlaaGreat
open Go.ChangeShapes Go.WideShapes Go.ChangeAt Go.RowKit Go.Abs Go.Deep
section
variable {H : Type} {enc : TypeId × Value → H} {w : World} {sp : Nat → Bool} {held : Bool} {base : Nat}
theorem kids : Kids Tryz.prog (· < Tryz.prog.types.size) := kids_rows (by kernel_rfl) (by kernel_rfl)
theorem full : ∀ t e, t < Tryz.prog.types.size → Tryz.prog.underlying t = some (.slice e) → 0 < Tryz.prog.cellsOf e := slices_full_of Tryz.prog (by kernel_rfl)
theorem flat1 {α β : Type} (g : α → β) : ∀ qs : List α, qs.flatMap (fun a => [g a]) = qs.map g
 | [] => rfl
 | a :: qs => by rw [List.flatMap_cons, flat1 g qs]; rfl
theorem rep_one {F : Nat → Prop} {tm : Nat → Value} {oss : Nat → List Nat} {c : AV} {v : Value} (h : RepL Tryz.prog w F [c] [v] []) : RepT Tryz.prog w F tm oss c v [] := .cell _ _ _ (RepL.one h)
theorem repV {F : Nat → Prop} {tm : Nat → Value} {oss : Nat → List Nat} {t e : TypeId} {v : Value} {c : AV} {r : Reach} {b0 : Nat} (ht : Tryz.prog.underlying t = some (.slice e)) (hv : Value.okWide Tryz.prog w r b0 t v) (h : RepL Tryz.prog w F [c] v.cells.toList []) :
  RepT Tryz.prog w F tm oss c v [] := by
 have hc : v.cells.toList = [v] := by
  simp only [Value.okWide, ht] at hv
  cases v <;> simp_all [Value.cells, Cell.okWide, Cell.ok]
 rw [hc] at h
 exact rep_one h
end
end Go.Proofs.YtiikdbomhkbdlaaGreat


namespace Go.Proofs.YtiikdbomhkbdlaaGreat
open Go.Abs
open Go.ChangeShapes Go.WideShapes Go.ChangeAt Go.RowKit Go.Deep
theorem big_c (c : List Int) (hl : c.length ≤ 9223372036854775807) : Con Tryz.prog 11 [.sl c.length (bys c)] (.bool (decide (4096 < c.length))) := by
 refine con_of_vc Tryz.mixed ⟨3, [], [], []⟩ Tryz.func11 (by decide) rfl (by simp) (by decide) (by simp [freshOK, freshL, go_sem]) ?_
 rw [Tryz.ntmps11]
 simp [go_sem]
 omega
section
variable {H : Type} {enc : TypeId × Value → H} {w : World} {sp : Nat → Bool} {held : Bool} {base : Nat}
theorem open_bys {n : Nat} {cs : List Value} {x : DataW H × List MemPlace} (h : DataW.trod enc Tryz.prog w base sp held n 22 cs = some x) :
  ∃ xs : List Int, (∀ z ∈ xs, 0 ≤ z ∧ z ≤ 255) ∧ xs.length ≤ 9223372036854775807 ∧ RepL Tryz.prog w (fun b => b < w.heap.size) [.sl xs.length (bys xs)] cs [] ∧ cs.length = 1 := by
 obtain ⟨qs, h1, h2, h3, h4⟩ := open_sl (f := fun z : Int => [AV.val (.int .u8 z)]) (Good := fun z => (Lit.int .u8 z).wf = true) Tryz.underlying22 (s := 1) (by kernel_rfl) (by decide) (fun _ => rfl)
  (fun n cs y hy => by obtain ⟨z, k1, k2, _⟩ := open_i Tryz.underlying5 hy; exact ⟨z, k1, k2⟩) h
 refine ⟨qs, fun z hz => ?_, h2, by rw [flat1] at h3; exact h3, h4⟩
 have := h1 z hz
 simp [Lit.wf, IntKind.min, IntKind.max, IntKind.signed, IntKind.bits] at this
 omega
end
end Go.Proofs.YtiikdbomhkbdlaaGreat


namespace Go.Proofs.YtiikdbomhkbdlaaGreat
open Go.Abs
theorem likeRows5_c (a b : List (List Int)) (ha : a.length ≤ 1048576) (hr : ∀ r ∈ a, r.length ≤ 1048576) : Con Tryz.prog 43 [.sl a.length (mat a), .sl b.length (mat b)] (.bool (decide (a = b))) := by
 by_cases hl : a.length = b.length
 ·have hl2 : (a.length : Int) = b.length := by omega
  refine con_of_vc Tryz.mixed ⟨5, [], [], []⟩ Tryz.func43 (by decide) rfl (by simp) (by decide) (by simp [freshOK, freshL, go_sem]) ?_
  rw [Tryz.ntmps43]
  simp [go_sem]
  simp [go_sem, hl]
  refine loop_inv (4 :: 5 :: List.range' 11 16) (fun i : Nat => [(5, .int i)]) (fun i => i ≤ b.length ∧ ∀ j, j < i → a[j]?.getD [] = b[j]?.getD []) (fun i => b.length - i) 0 (by simp) (by simp [go_sem]) (by simp [go_sem]) ?_
  rintro i ⟨hi, hj⟩
  simp [go_sem]
  refine ⟨fun h => ?_, fun h => ?_⟩ <;> simp at h
  ·have hib : i < b.length := by omega
   have hia : i < a.length := by omega
   have na : ¬ a = [] := by rintro rfl; simp at hia
   have nb : ¬ b = [] := by rintro rfl; simp at hib
   have hA := mat_drop hia
   have hB := mat_drop hib
   have hra := hr (a[i]?.getD []) (by simp [hia])
   have cL := likeInts_c (a[i]?.getD []) (b[i]?.getD []) (by omega)
   obtain ⟨x, hx⟩ : ∃ x, a[i]?.getD [] = x := ⟨_, rfl⟩
   obtain ⟨y, hy⟩ : ∃ y, b[i]?.getD [] = y := ⟨_, rfl⟩
   rw [hx] at hA cL hra
   rw [hy] at hB cL
   simp [go_sem, hA, hB]
   refine ⟨by kernel_rfl, ⟨hib, na⟩, ⟨hib, nb⟩, ?_⟩
   refine CallD.of (cL) (by simp [roots, rootsL]) (by decide) ?_
   simp [go_sem]
   refine ⟨by kernel_rfl, ?_⟩
   simp [go_sem]
   by_cases hxy : x = y
   ·simp [go_sem, hxy]
    refine ⟨⟨by omega, by omega⟩, i + 1, ⟨by omega, fun j hj2 => ?_⟩, by omega, Off_reset _ _ _ (by simp), by omega⟩
    rcases Nat.lt_or_ge j i with h3 | h3
    ·exact hj j h3
    ·have : j = i := by omega
     subst this
     rw [hx, hy, hxy]
   ·have e : ¬ a = b := fun e => hxy (by rw [← hx, ← hy, e])
    simp [go_sem, hxy, e]
  ·have e : a = b := by
    refine List.ext_getElem hl fun k h1 h2 => ?_
    have := hj k (by omega)
    simpa [h1, h2] using this
   simp [go_sem, e]
 ·have e : ¬ a = b := fun e => hl (by rw [e])
  have hl2 : ¬ (a.length : Int) = b.length := by omega
  refine con_of_vc Tryz.mixed ⟨5, [], [], []⟩ Tryz.func43 (by decide) rfl (by simp) (by decide) (by simp [freshOK, freshL, go_sem]) ?_
  rw [Tryz.ntmps43]
  simp [go_sem]
  simp [go_sem, hl2, e]
end Go.Proofs.YtiikdbomhkbdlaaGreat


namespace Go.Proofs.YtiikdbomhkbdlaaGreat
open Go.Abs
end Go.Proofs.YtiikdbomhkbdlaaGreat


namespace Go.Proofs.YtiikdbomhkbdlaaGreat
open Go.Abs
def ptA (Ls : List (List Mon)) : Nat → AV
 | 0 => .val (.slice none 0 0)
 | i + 1 => .own 63 (i + 1) (oprt (Ls.take (i + 1)))
theorem ptA_zero (Ls : List (List Mon)) : ptA Ls 0 = .val (.slice none 0 0) := rfl
theorem ptA_succ (Ls : List (List Mon)) (i : Nat) : ptA Ls (i + 1) = .own 63 (i + 1) (oprt (Ls.take (i + 1))) := rfl
end Go.Proofs.YtiikdbomhkbdlaaGreat


namespace Go.Proofs.YtiikdbomhkbdlaaGreat
open Go.Abs
def DrP (n : Nat) (p : List Mon) : Prop := p.length ≤ 3 ∧ ∀ m ∈ p, WOk n 3 m
theorem set_bump {w : List Int} {B : Int} {k : Nat} (hw : ∀ x ∈ w, 0 ≤ x ∧ x ≤ B) (hk : k < w.length) : ∀ x ∈ w.set k (w[k]?.getD 0 + 1), 0 ≤ x ∧ x ≤ B + 1 := fun x hx => by
 rcases List.mem_or_eq_of_mem_set hx with hx | rfl
 ·have := hw x hx; omega
 ·have := hw (w[k]?.getD 0) (by simp [hk])
  omega
theorem l13Draw_r (c : List Int) (σ : Src) (hc : Byt c) (hs : SOk σ) :
  RCon Tryz.prog 307 [srcA c σ] (fun r o => ∃ (τ : Src) (n : Nat) (f : List (List Mon)), SOk τ ∧ o = [srcA c τ] ∧ 1 ≤ n ∧ n ≤ 3 ∧ f.length = n ∧ (∀ p ∈ f, DrP n p) ∧ r = .agg [.int n, .own 63 n (oprt f)]) := by
 have c1 := l01Next_c c σ 3 hc hs
 have s1 := nx2_ok hc hs 3
 have b1 := nx1_b hc σ (n := 3) (by omega)
 obtain ⟨n, hn⟩ : ∃ n : Nat, 1 + nx1 c σ 3 = n := ⟨(1 + nx1 c σ 3).toNat, by omega⟩
 generalize nx1 c σ 3 = v1 at *
 generalize nx2 c σ 3 = σ1 at *
 simp only [srcA_eq] at *
 refine rcon_of_vcH Tryz.mixed ⟨10, [], [1000000 + 161, 1000000 + 125, 1000000 + 223], []⟩ [0] Tryz.func307 (by decide) rfl (by simp) (by simp) (by decide) ?_
 rw [Tryz.ntmps307]
 simp [go_sem]
 refine ⟨_, _, c1, ?_⟩
 simp [go_sem]
 refine ⟨⟨by omega, by omega⟩, ?_⟩
 rw [hn]
 refine loop_inv (0 :: 3 :: 4 :: 5 :: 6 :: 7 :: 8 :: 9 :: List.range' 14 46) (fun x : Src × List (List Mon) => [(0, .box 176 [.sl c.length (bys c), .int x.1.1, .val (.int .u64 x.1.2)]), (3, .box 30 [.int n, ptA x.2 x.2.length]), (4, .int x.2.length)]) (fun x => SOk x.1 ∧ x.2.length ≤ n ∧ ∀ p ∈ x.2, DrP n p) (fun x => n - x.2.length) (σ1, []) (by simp; exact s1) (by simp [go_sem, ptA_zero]) (by simp [go_sem]) ?_
 rintro ⟨τ, f⟩ ⟨h1, h2, h3⟩
 simp only at h1 h2 h3
 simp [go_sem]
 refine ⟨fun h => ?_, fun h => ?_⟩ <;> simp at h
 ·have c4 := l01Next_c c τ 4 hc h1
  have s4 := nx2_ok hc h1 4
  have b4 := nx1_b hc τ (n := 4) (by omega)
  obtain ⟨m, hm⟩ : ∃ m : Nat, nx1 c τ 4 = m := ⟨(nx1 c τ 4).toNat, by omega⟩
  rw [hm] at c4 b4
  generalize nx2 c τ 4 = τ1 at *
  simp only [srcA_eq] at c4
  simp [go_sem]
  refine ⟨_, _, c4, ?_⟩
  simp [go_sem]
  refine loop_inv (0 :: 5 :: 6 :: 7 :: 8 :: 9 :: List.range' 23 31) (fun x : Src × List Mon × Nat => [(0, .box 176 [.sl c.length (bys c), .int x.1.1, .val (.int .u64 x.1.2)]), (5, .own 62 x.2.1.length (omons x.2.1)), (6, .int x.2.2)]) (fun x => SOk x.1 ∧ x.2.1.length + x.2.2 ≤ 3 ∧ ∀ m ∈ x.2.1, WOk n 3 m) (fun x => x.2.2) (τ1, [], m) ⟨s4, by simp; omega, by simp⟩ (by simp [go_sem]) (by simp [go_sem]) ?_
  rintro ⟨ρ, p, k⟩ ⟨g1, g2, g3⟩
  simp only at g1 g2 g3
  simp [go_sem]
  refine ⟨fun h => ?_, fun h => ?_⟩ <;> simp at h
  ·have c5 := l01Pick_c c ρ [0, 1, 1, 2, 2, 3] hc g1 (by simp) (by simp)
   have m5 := pk_mem c hc ρ (xs := [0, 1, 1, 2, 2, 3]) (by simp)
   have s5 := nx2_ok hc g1 6
   obtain ⟨d0, hd0⟩ : ∃ d0 : Nat, pk c ρ [0, 1, 1, 2, 2, 3] = d0 := ⟨(pk c ρ [0, 1, 1, 2, 2, 3]).toNat, by simp at m5; omega⟩
   have hd3 : d0 ≤ 3 := by rw [hd0] at m5; simp at m5; omega
   have e6 : (([0, 1, 1, 2, 2, 3] : List Int).length : Int) = 6 := rfl
   rw [hd0, e6] at c5
   generalize nx2 c ρ 6 = ρ1 at *
   simp only [srcA_eq] at c5
   simp [go_sem]
   refine ⟨⟨by omega, by omega⟩, ?_⟩
   refine ⟨_, _, c5, ?_⟩
   simp [go_sem]
   rw [avs_repl]
   refine loop_inv (0 :: 7 :: 8 :: 9 :: List.range' 33 16) (fun x : Src × List Int × Nat => [(0, .box 176 [.sl c.length (bys c), .int x.1.1, .val (.int .u64 x.1.2)]), (7, .own 2 n (avs x.2.1)), (8, .int x.2.2)]) (fun x => SOk x.1 ∧ x.2.1.length = n ∧ x.2.2 ≤ 3 ∧ ∀ y ∈ x.2.1, 0 ≤ y ∧ y + x.2.2 ≤ 3) (fun x => x.2.2) (ρ1, List.replicate n 0, d0) ⟨s5, by simp, by simpa using hd3, by intro y hy; have := List.eq_of_mem_replicate hy; simp only; omega⟩ (by simp [go_sem]) (by simp [go_sem]) ?_
   rintro ⟨κ, w, d⟩ ⟨q1, q2, q3, q4⟩
   simp only at q1 q2 q3 q4
   simp [go_sem]
   refine ⟨fun h => ?_, fun h => ?_⟩ <;> simp at h
   ·obtain ⟨e, rfl⟩ : ∃ e, d = e + 1 := ⟨d - 1, by omega⟩
    have hnn : 1 ≤ n := by omega
    have c6 := l01Next_c c κ n hc q1
    have s6 := nx2_ok hc q1 n
    have b6 := nx1_b hc κ (n := n) (by omega)
    obtain ⟨j, hj⟩ : ∃ j : Nat, nx1 c κ n = j := ⟨(nx1 c κ n).toNat, by omega⟩
    rw [hj] at c6 b6
    have hjn : j < w.length := by omega
    have hA := avs_at hjn
    have hB := set_bump (B := 3 - (e + 1)) (fun y hy => by have := q4 y hy; constructor <;> omega) hjn
    have wj := q4 (w[j]?.getD 0) (by simp [hjn])
    have hS := avs_set w j (w[j]?.getD 0 + 1)
    generalize w[j]?.getD 0 = u at *
    generalize nx2 c κ n = κ1 at *
    simp only [srcA_eq] at c6
    simp [go_sem]
    refine ⟨_, _, c6, ?_⟩
    simp [go_sem]
    simp [go_sem, hA]
    refine ⟨by omega, ⟨by omega, by omega⟩, by omega, by omega, by omega, κ1.1, κ1.2, w.set j (u + 1), e, ⟨s6, by simpa using q2, by omega, fun y hy => ?_⟩, by omega, Off_reset _ _ _ (by simp), ?_⟩
    ·have := hB y hy; omega
    ·simp [hS]
   ·have e0 : d = 0 := by omega
    subst e0
    have c7 := l01Number_c c κ hc q1
    have h7 := nbV_ok hc q1
    have c8 := l13Put_c p (nbV c κ).1 w h7.1 (fun m hm => ⟨(g3 m hm).num, by have := (g3 m hm).len; omega⟩) (by omega) (by omega)
    have l8 := putL_len p (nbV c κ).1 w
    have w8 := putGo_wok (n := n) (B := 3) (c := (nbV c κ).1) (e := w) ⟨h7.1, q2, fun y hy => by have := q4 y hy; constructor <;> omega⟩ p (decide ((nbV c κ).1 = 0)) g3
    have w9 : ∀ m ∈ putL p (nbV c κ).1 w, WOk n 3 m := w8
    rw [q2] at c8
    generalize putL p (nbV c κ).1 w = p2 at *
    generalize nbV c κ = r7 at *
    simp only [srcA_eq] at c7
    simp [go_sem]
    refine ⟨_, _, c7, ?_⟩
    simp [go_sem]
    refine CallVC.of (c8) (by decide) ?_
    simp [go_sem]
    exact ⟨⟨by omega, by omega⟩, r7.2.1, r7.2.2, p2, k - 1, ⟨h7.2, by omega, fun a b hab => w9 (a, b) hab⟩, by omega, (Off.reset (by intro x hx; simp at hx ⊢; omega) (by simp) (by simp [go_sem, Off_reset])), ⟨rfl, rfl⟩, ⟨rfl, rfl⟩, by omega⟩
  ·have k0 : k = 0 := by omega
   subst k0
   have hsn : ptA (f ++ [p]) (f.length + 1) = .own 63 (f.length + 1) (oprt f ++ [.own 62 p.length (omons p)]) := by
    rw [ptA_succ, List.take_of_length_le (by simp), oprt_app]; rfl
   have hdr : DrP n p := ⟨by omega, g3⟩
   rcases f with _ | ⟨q, f⟩
   ·simp [go_sem, ptA_zero]
    refine ⟨ρ.1, ρ.2, [p], ⟨g1, by simp; omega, by simpa using hdr⟩, by simp; omega, (by repeat (first | exact Off_reset _ _ _ (by simp) | (refine Off.reset (by intro x hx; simp at hx ⊢; omega) (by simp) ?_; simp -failIfUnchanged [go_sem, Off_reset]))), ?_⟩
    exact ⟨⟨rfl, rfl⟩, rfl, by simp⟩
   ·rw [List.length_cons] at *
    simp [go_sem, ptA_succ]
    refine ⟨⟨by omega, by omega⟩, by omega, ρ.1, ρ.2, q :: f ++ [p], ⟨g1, by simp; omega, fun t ht => ?_⟩, by simp; omega, (by repeat (first | exact Off_reset _ _ _ (by simp) | (refine Off.reset (by intro x hx; simp at hx ⊢; omega) (by simp) ?_; simp -failIfUnchanged [go_sem, Off_reset]))), ?_⟩
    ·rcases List.mem_append.1 ht with ht | ht
     ·exact h3 t ht
     ·simp at ht; rw [ht]; exact hdr
    ·have e1 : (q :: f ++ [p]).length = f.length + 1 + 1 := by simp
     rw [e1, hsn]
     exact ⟨⟨rfl, rfl⟩, rfl, by omega⟩
 ·have e0 : f.length = n := by omega
  rcases f with _ | ⟨q, f⟩
  ·simp at e0; omega
  ·rw [List.length_cons] at *
   simp [go_sem, ptA_succ]
   exact ⟨τ.1, τ.2, h1, ⟨rfl, rfl⟩, n, by omega, by omega, q :: f, by simpa using e0, h3, rfl, e0, rfl⟩
def spr : Bool → List (List Mon) → List AV
 | true, p :: f => .own 62 p.length (mons p) :: oprt f
 | true, [] => []
 | false, f => oprt f
@[simp] theorem spr_len : ∀ (b : Bool) (f : List (List Mon)), (spr b f).length = f.length
 | true, p :: f => by simp [spr]
 | true, [] => rfl
 | false, f => by simp [spr]
@[simp] theorem spr_frz : ∀ (b : Bool) (f : List (List Mon)), frzL (spr b f) = prt f
 | true, p :: f => by simp [spr, frzL, frz, prt, mons_frz]
 | true, [] => rfl
 | false, f => by simp [spr]
def DrS (z : Int) (f : List (List Mon)) : Prop := -1 ≤ z ∧ z ≤ 4 ∧ f.length ≤ 4 ∧ ∀ p ∈ f, p.length ≤ 4 ∧ ∀ m ∈ p, m.2.length ≤ 3
theorem DrS.of {n : Nat} {f : List (List Mon)} (hn : n ≤ 3) (hl : f.length ≤ 3) (h : ∀ p ∈ f, DrP n p) {z : Int} (h1 : -1 ≤ z) (h2 : z ≤ 4) : DrS z f :=
 ⟨h1, h2, by omega, fun p hp => ⟨by have := (h p hp).1; omega, fun m hm => by have := ((h p hp).2 m hm).len; omega⟩⟩
end Go.Proofs.YtiikdbomhkbdlaaGreat


namespace Go.Proofs.YtiikdbomhkbdlaaGreat
open Go.Abs
theorem oprt_cons (q : List Mon) (f : List (List Mon)) : oprt (q :: f) = .own 62 q.length (omons q) :: oprt f := rfl
theorem l13Spoil_r (c : List Int) (σ : Src) (hc : Byt c) (hs : SOk σ) :
  RCon Tryz.prog 242 [srcA c σ] (fun r o => ∃ (τ : Src) (z : Int) (b : Bool) (f : List (List Mon)), SOk τ ∧ o = [srcA c τ] ∧ DrS z f ∧ r = .agg [.int z, .own 63 f.length (spr b f)]) := by
 have cD := l13Draw_r c σ hc hs
 simp only [srcA_eq] at *
 refine rcon_of_vcH Tryz.mixed ⟨5, [48], [1000000 + 161, 1000000 + 125, 2000000 + 307], [2000614000117]⟩ [0] Tryz.func242 (by decide) rfl (by simp) (by simp) (by decide) ?_
 rw [Tryz.ntmps242]
 simp [go_sem]
 refine ⟨_, cD, ?_⟩
 rintro _ _ ⟨τ, n, f, h1, rfl, h2, h3, h4, h5, rfl⟩
 have c4 := l01Next_c c τ 40 hc h1
 have s4 := nx2_ok hc h1 40
 generalize nx1 c τ 40 = v at *
 generalize nx2 c τ 40 = τ1 at *
 simp only [srcA_eq] at c4
 simp [go_sem]
 refine ⟨_, _, c4, ?_⟩
 simp [go_sem]
 rcases f with _ | ⟨q, f⟩
 ·simp at h4; omega
 ·have hq : q.length ≤ 3 := (h5 q (by simp)).1
  by_cases v0 : v = 0
  ·have c5 := l01Pick_c c τ1 [0, (n : Int) + 1, -1, 4] hc s4 (by simp) (by simp)
   have m5 := pk_mem c hc τ1 (xs := [0, (n : Int) + 1, -1, 4]) (by simp)
   have s5 := nx2_ok hc s4 4
   have e4 : (([0, (n : Int) + 1, -1, 4] : List Int).length : Int) = 4 := rfl
   rw [e4] at c5
   simp only [srcA_eq] at c5
   generalize pk c τ1 [0, (n : Int) + 1, -1, 4] = z at *
   generalize nx2 c τ1 4 = τ2 at *
   simp [go_sem, v0]
   refine ⟨⟨by omega, by omega⟩, ?_⟩
   refine ⟨_, _, c5, ?_⟩
   simp [go_sem]
   refine ⟨τ2.1, τ2.2, s5, ⟨rfl, rfl⟩, z, .inl ⟨q :: f, DrS.of h3 (by omega) h5 ?_ ?_, rfl, h4.symm, rfl⟩⟩
   all_goals (simp at m5; omega)
  ·have hfs : DrS n (q :: f) := DrS.of h3 (by omega) h5 (by omega) (by omega)
   by_cases v1 : v = 1
   ·have c5 := l01Pick_c c τ1 [0, 10007, 1] hc s4 (by simp) (by simp)
    have s5 := nx2_ok hc s4 3
    have e4 : (([0, 10007, 1] : List Int).length : Int) = 3 := rfl
    have c6 := l13One_c n 0 (by omega) (by omega)
    rw [e4] at c5
    simp only [srcA_eq] at c5
    generalize pk c τ1 [0, 10007, 1] = x at *
    generalize nx2 c τ1 3 = τ2 at *
    have fin : ∃ a b, SOk (a, b) ∧ ((τ2.1 : Int) = a ∧ τ2.2 = b) ∧ ∃ z, (∃ g, DrS z g ∧ (n : Int) = z ∧ n = g.length ∧ AV.own 62 (q.length + 1) (omons q ++ [AV.val (Value.int IntKind.i64 x), AV.own 2 n (avs (oneE n 0))]) :: oprt f = spr false g) ∨ ∃ g, DrS z g ∧ (n : Int) = z ∧ n = g.length ∧ AV.own 62 (q.length + 1) (omons q ++ [AV.val (Value.int IntKind.i64 x), AV.own 2 n (avs (oneE n 0))]) :: oprt f = spr true g := by
     refine ⟨τ2.1, τ2.2, s5, ⟨rfl, rfl⟩, n, .inl ⟨(q ++ [(x, oneE n 0)]) :: f, ⟨by omega, by omega, hfs.2.2.1, fun p hp => ?_⟩, rfl, h4.symm, ?_⟩⟩
     ·rcases List.mem_cons.1 hp with rfl | hp
      ·refine ⟨by simp; omega, fun m hm => ?_⟩
       rcases List.mem_append.1 hm with hm | hm
       ·exact (hfs.2.2.2 q (by simp)).2 m hm
       ·simp at hm; subst hm; simp [oneE]; omega
      ·exact hfs.2.2.2 p (by simp [hp])
     ·have e1 : ((oneE n 0).length : Nat) = n := by simp [oneE]
      rw [spr, oprt_cons, omons_app]
      simp [omons_cons, e1]
    simp [go_sem, v0, v1]
    rw [DrawVC4_app]
    refine ⟨fun i => if i = 8 then [.n 0 .any, .n 27 .any, .n 0 (.box 176 [.sl c.length (bys c), .int τ2.1, .val (.int .u64 τ2.2)]), .n 27 .any, .w 28 (.int x)] else [.w 31 (.own 2 n (avs (oneE n 0)))], by kernel_rfl, ?_, ?_, ?_⟩
    ·simp [go_sem, oprt_cons]
     refine ⟨by omega, ?_⟩
     refine ⟨_, _, c5, ?_⟩
     simp [go_sem]
     refine CallD.of (c6) (by simp [roots, rootsL]) (by decide) ?_
     simp [go_sem]
     refine ⟨⟨by omega, by omega⟩, by omega, by kernel_rfl, ?_⟩
     exact fin
    ·simp [go_sem, oprt_cons]
     refine ⟨by omega, ?_⟩
     refine ⟨_, _, c5, ?_⟩
     simp [go_sem]
     refine CallD.of (c6) (by simp [roots, rootsL]) (by decide) ?_
     simp [go_sem]
     refine ⟨⟨by omega, by omega⟩, by omega, by kernel_rfl, ?_⟩
     exact fin
    ·simp [go_sem, oprt_cons]
     refine ⟨by omega, ?_⟩
     refine ⟨_, _, c5, ?_⟩
     simp [go_sem]
     refine CallD.of (c6) (by simp [roots, rootsL]) (by decide) ?_
     simp [go_sem]
     refine ⟨⟨by omega, by omega⟩, by omega, by kernel_rfl, ?_⟩
     exact fin
   ·by_cases v2 : v = 2
    ·have c5 := l01Pick_c c τ1 [4, -1, 1099511627776] hc s4 (by simp) (by simp)
     have s5 := nx2_ok hc s4 3
     have e4 : (([4, -1, 1099511627776] : List Int).length : Int) = 3 := rfl
     rw [e4] at c5
     simp only [srcA_eq] at c5
     generalize pk c τ1 [4, -1, 1099511627776] = x at *
     generalize nx2 c τ1 3 = τ2 at *
     simp [go_sem, v0, v1, v2]
     refine ⟨⟨by omega, by omega⟩, ?_⟩
     refine ⟨_, _, c5, ?_⟩
     simp [go_sem]
     refine ⟨by omega, τ2.1, τ2.2, s5, ⟨rfl, rfl⟩, n, .inr ⟨[(1, (List.replicate n 0).set 0 x)] :: f, ⟨by omega, by omega, hfs.2.2.1, fun p hp => ?_⟩, rfl, h4.symm, ?_⟩⟩
     ·rcases List.mem_cons.1 hp with rfl | hp
      ·exact ⟨by simp, by simp; omega⟩
      ·exact hfs.2.2.2 p (by simp [hp])
     ·have e1 : avs ((List.replicate n 0).set 0 x) = (List.replicate n (AV.val (.int .i64 0))).set 0 (.val (.int .i64 x)) := by rw [← avs_set, avs_repl]
      have e2 := avs_frz ((List.replicate n 0).set 0 x)
      rw [e1] at e2
      rw [e2, ← e1]
      simp [spr, oprt, mons_cons]
    ·by_cases v3 : v = 3
     ·simp [go_sem, v0, v1, v2, v3]
      refine ⟨⟨by simpa using h4, by omega, by omega⟩, τ1.1, τ1.2, s4, ⟨rfl, rfl⟩, n, .inl ⟨q :: f ++ [[]], ⟨by omega, by omega, by simp at h4 ⊢; omega, fun p hp => ?_⟩, rfl, by simp at h4 ⊢; omega, ?_⟩⟩
      ·rcases List.mem_append.1 hp with hp | hp
       ·exact hfs.2.2.2 p hp
       ·simp at hp; subst hp; exact ⟨by simp, by simp⟩
      ·rw [spr, oprt_app]; rfl
     ·simp [go_sem, v0, v1, v2, v3]
      exact ⟨τ1.1, τ1.2, s4, ⟨rfl, rfl⟩, n, .inl ⟨q :: f, hfs, rfl, h4.symm, rfl⟩⟩
theorem RCon.fz {P : Program} {f : FuncId} {args : List AV} {R : AV → List AV → Prop} (h : RCon P f args R) : RCon P f args (fun r o => ∃ r0, R r0 o ∧ r = frz r0) := by
 refine ⟨h.1, fun w vs os F0 hl hn ho hF hr => (h.2 w vs os F0 hl hn ho hF hr).mono ?_⟩
 rintro e w' ⟨r, o, hR, v, orr, oo, F', k1, k2, k3, k4, k5, k6, k7, k8, k9⟩
 refine ⟨frz r, o, ⟨r, hR, rfl⟩, v, [], oo, fun b => F' b ∨ b ∈ orr, k1, k2, fun b hb => .inl (k3 b hb), fun b hb => hb.elim (k4 b) (fun hb => .inr ⟨(k9 b (.inl hb)).1, (k9 b (.inl hb)).2.1⟩), fun tm oss => (k5 tm oss).frz (fun b h => .inl h) (fun b h => .inr h), fun tm oss => ?_, k7, ?_, fun b hb => ?_⟩
 ·have := RepTL.kl (w' := w') (F' := fun b => F' b ∨ b ∈ orr) (tm' := tm) (oss' := oss) [] (fun b hb => .inl hb) (fun _ _ _ _ h => h) (k6 tm oss) (fun _ _ => rfl)
  rwa [klL_nil] at this
 ·simpa using (List.nodup_append.1 k8).2.1
 ·rcases hb with hb | hb
  ·simp at hb
  ·obtain ⟨j1, j2, j3⟩ := k9 b (.inr hb)
   exact ⟨j1, j2, fun hf => hf.elim j3 (fun hf => (List.nodup_append.1 k8).2.2 b hf b hb rfl)⟩
end Go.Proofs.YtiikdbomhkbdlaaGreat


namespace Go.Proofs.YtiikdbomhkbdlaaGreat
open Go.Abs
theorem RCon.fzi {P : Program} {f : FuncId} {args : List AV} {R : AV → List AV → Prop} (h : RCon P f args R) (hR : ∀ r o, R r o → ∃ (z : Value) (e n : Nat) (cs : List AV), r = .agg [.val z, .own e n cs]) :
  RCon P f args (fun r o => ∃ (z : Value) (e n : Nat) (cs : List AV), R (.agg [.val z, .own e n cs]) o ∧ r = .agg [.val z, .own e n (frzL cs)]) := by
 refine ⟨h.1, fun w vs os F0 hl hn ho hF hr => (h.2 w vs os F0 hl hn ho hF hr).mono ?_⟩
 rintro e0 w' ⟨r, o, hRr, v, orr, oo, F', k1, k2, k3, k4, k5, k6, k7, k8, k9⟩
 obtain ⟨z, e, n, cs, rfl⟩ := hR r o hRr
 have oouts : ∀ (F2 : Nat → Prop), (∀ b, F' b → F2 b) → ∀ tm oss, RepTL P w' F2 tm oss o vs oo := fun F2 hF2 tm oss => by
  have := RepTL.kl (w' := w') (F' := F2) (tm' := tm) (oss' := oss) [] hF2 (fun _ _ _ _ h => h) (k6 tm oss) (fun _ _ => rfl)
  rwa [klL_nil] at this
 have h1 := k5 (fun _ => undef) (fun _ => [])
 generalize hcc : AV.agg [.val z, .own e n cs] = cc at h1
 generalize hoo : orr = oq at h1
 cases h1 with
 | agg cs' vs' os' hl' hL =>
  simp only [AV.agg.injEq] at hcc
  subst hcc
  cases hL with
  | cons c1 v0 os0 cs1 vs1 os1 hA hB =>
  cases hA with
  | cell c1 v0 os0 hA =>
  cases hA with
  | val z hw =>
  cases hB with
  | cons c2 v1 osc cs2 vs2 os2 hC hD =>
  cases hD with
  | nil =>
  cases hC with
  | cell c2 v1 osc hC =>
  cases hC with
  | own0 e =>
   refine ⟨_, o, ⟨z, e, 0, [], hRr, rfl⟩, _, [], oo, F', k1, k2, k3, k4, fun tm oss => .agg _ _ [] (by simpa using hl') (.cons _ _ [] _ _ [] (.cell _ _ _ (.val _ hw)) (.cons _ _ [] _ _ [] (.cell _ _ _ (.own0 e)) (.nil _))), k6, k7, ?_, fun b hb => k9 b (.inr (by simpa using hb))⟩
   simpa using (List.nodup_append.1 k8).2.1
  | own b e n cap c cs ok hb1 hn1 hc1 hl1 =>
   have hoo' : orr = b :: ok := by simpa using hoo
   subst hoo'
   have hnd := (List.nodup_append.1 k8)
   have hnd2 := List.nodup_cons.1 hnd.1
   refine ⟨_, o, ⟨z, e, n, cs, hRr, rfl⟩, _, [b], oo, fun x => F' x ∨ x ∈ ok, k1, k2, fun x hx => .inl (k3 x hx), fun x hx => hx.elim (k4 x) (fun hx => .inr ⟨(k9 x (.inl (by simp [hx]))).1, (k9 x (.inl (by simp [hx]))).2.1⟩),
    fun tm oss => .agg _ _ [b] (by simpa using hl') (.cons _ _ [] _ _ [b] (.cell _ _ _ (.val _ hw)) (.cons _ _ [b] _ _ [] (.cell _ _ _ (.own b e n cap c _ [] hb1 hn1 hc1 ?_)) (.nil _))), fun tm oss => oouts _ (fun x hx => .inl hx) tm oss, k7, ?_, fun x hx => ?_⟩
   ·exact RepL.frz (fun x hx => .inl hx) hl1 (fun x hx => .inr hx)
   ·refine List.nodup_append.2 ⟨by simp, hnd.2.1, fun x hx y hy e => ?_⟩
    simp at hx
    exact hnd.2.2 b (by simp) y hy (hx ▸ e)
   ·rcases hx with hx | hx
    ·simp at hx
     subst hx
     obtain ⟨j1, j2, j3⟩ := k9 x (.inl (by simp))
     exact ⟨j1, j2, fun hf => hf.elim j3 hnd2.1⟩
    ·obtain ⟨j1, j2, j3⟩ := k9 x (.inr hx)
     exact ⟨j1, j2, fun hf => hf.elim j3 (fun hf => hnd.2.2 x (by simp [hf]) x hx rfl)⟩
 | cell c v os h => subst hcc; cases h
 | any v => simp at hcc
 | tup cs' vs' os' hl' hL => simp at hcc
 | fn f cs' vs' os' hl' hL => simp at hcc
 | bor s p v h => simp at hcc
 | ptr s p off u b h hb => simp at hcc
 | slp s p off n cap u b h hb hn => simp at hcc
theorem l13Spoil_i (c : List Int) (σ : Src) (hc : Byt c) (hs : SOk σ) :
  RCon Tryz.prog 242 [srcA c σ] (fun r o => ∃ (τ : Src) (z : Int) (f : List (List Mon)), SOk τ ∧ o = [srcA c τ] ∧ DrS z f ∧ r = .agg [.int z, .own 63 f.length (prt f)]) := by
 refine (RCon.fzi (l13Spoil_r c σ hc hs) ?_).mono ?_
 ·rintro r o ⟨τ, z, b, f, h1, h2, h3, rfl⟩
  exact ⟨_, _, _, _, rfl⟩
 ·rintro r o ⟨z, e, n, cs, ⟨τ, z', b, f, h1, h2, h3, h4⟩, rfl⟩
  simp only [AV.agg.injEq, List.cons.injEq, AV.val.injEq, AV.own.injEq, and_true] at h4
  obtain ⟨rfl, rfl, rfl, rfl⟩ := h4
  exact ⟨τ, z', f, h1, h2, h3, by rw [spr_frz]⟩
end Go.Proofs.YtiikdbomhkbdlaaGreat


namespace Go.Proofs.YtiikdbomhkbdlaaGreat
open Go.Abs
theorem prt_at {f : List (List Mon)} {k : Nat} (h : k < f.length) : (prt f)[k]? = some (.sl (f[k]?.getD []).length (mons (f[k]?.getD []))) := by simp [prt, h]
theorem mons_take2 : ∀ p : List Mon, mons (p.take 2) = (mons p).take 4
 | [] => rfl
 | [a] => by rw [mons_cons]; rfl
 | a :: b :: p => by simp [mons_cons]
@[simp] theorem prt_frz (f : List (List Mon)) : frzL (prt f) = prt f := by
 induction f with
 | nil => rfl
 | cons p f ih => simp only [prt, List.map_cons] at ih ⊢; simp [frzL, frz, ih]
theorem prt_set (f : List (List Mon)) (k : Nat) (p : List Mon) : (prt f).set k (.sl p.length (mons p)) = prt (f.set k p) := by simp [prt, List.map_set]
theorem l14Small_r (c : List Int) (σ : Src) (hc : Byt c) (hs : SOk σ) :
  RCon Tryz.prog 140 [srcA c σ] (fun r o => ∃ (τ : Src) (z : Int) (f : List (List Mon)), SOk τ ∧ o = [srcA c τ] ∧ DrS z f ∧ r = .agg [.int z, .own 63 f.length (prt f)]) := by
 have c1 := l13Spoil_i c σ hc hs
 simp only [srcA_eq] at *
 refine rcon_of_vcH Tryz.mixed ⟨6, [], [2000000 + 242], []⟩ [0] Tryz.func140 (by decide) rfl (by simp) (by simp) (by decide) ?_
 rw [Tryz.ntmps140]
 simp [go_sem]
 refine ⟨_, c1, ?_⟩
 rintro _ _ ⟨τ, z, f, h1, rfl, hD, rfl⟩
 simp [go_sem]
 refine loop_inv (0 :: 3 :: 4 :: List.range' 8 17) (fun x : Src × (Int × List (List Mon)) × Nat => [(0, .box 176 [.sl c.length (bys c), .int x.1.1, .val (.int .u64 x.1.2)]), (3, .box 30 [.int x.2.1.1, .own 63 x.2.1.2.length (prt x.2.1.2)]), (4, .int x.2.2)]) (fun x => SOk x.1 ∧ DrS x.2.1.1 x.2.1.2 ∧ x.2.2 ≤ 6) (fun x => 6 - x.2.2) (τ, (z, f), 0) ⟨h1, hD, by simp⟩ (by simp [go_sem]) (by simp [go_sem]) ?_
 rintro ⟨ρ, ⟨y, g⟩, n⟩ ⟨q1, q2, q3⟩
 simp only at q1 q2 q3
 have cS := l13Spoil_i c ρ hc q1
 have cI := l13Is_c y g ⟨by have := q2.2.2.1; omega, fun p hp => ⟨by have := (q2.2.2.2 p hp).1; omega, fun q hq => by have := (q2.2.2.2 p hp).2 q hq; omega⟩⟩
 simp only [srcA_eq] at cS
 by_cases hn : (n : Int) < 6
 ·by_cases hy : 2 < y
  ·simp [go_sem, hn, hy]
   refine ⟨_, cS, ?_⟩
   rintro _ _ ⟨κ, z2, f2, j1, rfl, j2, rfl⟩
   simp [go_sem]
   exact ⟨⟨by omega, by omega⟩, κ.1, κ.2, z2, f2, n + 1, ⟨j1, j2, by omega⟩, by omega, (by repeat (first | exact Off_reset _ _ _ (by simp) | (refine Off.reset (by intro x hx; simp at hx ⊢; omega) (by simp) ?_; simp -failIfUnchanged [go_sem, Off_reset]))), ⟨rfl, rfl⟩, ⟨rfl, rfl, rfl⟩, by omega⟩
  ·by_cases hg : 2 < (g.length : Int)
   ·simp [go_sem, hn, hy, hg]
    refine ⟨_, cS, ?_⟩
    rintro _ _ ⟨κ, z2, f2, j1, rfl, j2, rfl⟩
    simp [go_sem]
    exact ⟨⟨by omega, by omega⟩, κ.1, κ.2, z2, f2, n + 1, ⟨j1, j2, by omega⟩, by omega, (by repeat (first | exact Off_reset _ _ _ (by simp) | (refine Off.reset (by intro x hx; simp at hx ⊢; omega) (by simp) ?_; simp -failIfUnchanged [go_sem, Off_reset]))), ⟨rfl, rfl⟩, ⟨rfl, rfl, rfl⟩, by omega⟩
   ·simp [go_sem, hn, hy, hg]
    refine CallVC.of (cI) (by decide) ?_
    simp [go_sem]
    cases hT : fieldB y g with
    | false =>
     simp [go_sem]
     exact ⟨ρ.1, ρ.2, q1, ⟨rfl, rfl⟩, y, g, q2, rfl, rfl, rfl⟩
    | true =>
     simp [go_sem]
     refine loop_inv (3 :: 5 :: List.range' 27 24) (fun x : List (List Mon) × Nat => [(3, .box 30 [.int y, .own 63 x.1.length (prt x.1)]), (5, .int x.2)]) (fun x => DrS y x.1) (fun x => 4 - x.2) (g, 0) q2 (by simp [go_sem]) (by simp [go_sem]) ?_
     rintro ⟨e, i⟩ r1
     simp only at r1
     have r14 := r1.2.2.1
     simp [go_sem]
     refine ⟨fun h => ?_, fun h => ?_⟩ <;> simp at h
     ·have hie : i < e.length := by omega
      have hp := r1.2.2.2 (e[i]?.getD []) (by simp [hie])
      have hA := prt_at hie
      have hS := prt_set e i ((e[i]?.getD []).take 2)
      obtain ⟨p, hpe⟩ : ∃ p, e[i]?.getD [] = p := ⟨_, rfl⟩
      rw [hpe] at hp hA hS
      simp [go_sem, hA]
      refine ⟨hie, ?_⟩
      by_cases hp2 : 2 < (p.length : Int)
      ·simp [go_sem, hp2, hA]
       refine ⟨by kernel_rfl, hie, by omega, hie, ?_⟩
       refine ⟨by kernel_rfl, ?_⟩
       simp [go_sem]
       refine ⟨⟨by omega, by omega⟩, e.set i (p.take 2), ?_, i + 1, by omega, (by repeat (first | exact Off_reset _ _ _ (by simp) | (refine Off.reset (by intro x hx; simp at hx ⊢; omega) (by simp) ?_; simp -failIfUnchanged [go_sem, Off_reset]))), ?_⟩
       ·refine ⟨r1.1, r1.2.1, by simpa using r14, fun t ht => ?_⟩
        rcases List.mem_or_eq_of_mem_set ht with ht | rfl
        ·exact r1.2.2.2 t ht
        ·exact ⟨by simp; omega, fun m hm => hp.2 m (List.mem_of_mem_take hm)⟩
       ·have e2 : (p.take 2).length = 2 := by simp; omega
        have e4 : mons (p.take 2) = (mons p).take 4 := mons_take2 p
        rw [e2, e4] at hS
        simp [hS]
      ·simp [go_sem, hp2]
       exact ⟨⟨by omega, by omega⟩, e, r1, i + 1, by omega, (by repeat (first | exact Off_reset _ _ _ (by simp) | (refine Off.reset (by intro x hx; simp at hx ⊢; omega) (by simp) ?_; simp -failIfUnchanged [go_sem, Off_reset]))), ⟨rfl, rfl⟩, by omega⟩
     ·simp [go_sem]
      exact ⟨ρ.1, ρ.2, q1, ⟨rfl, rfl⟩, y, e, r1, rfl, rfl, rfl⟩
 ·simp [go_sem, hn]
  refine CallVC.of (cI) (by decide) ?_
  simp [go_sem]
  cases hT : fieldB y g with
  | false =>
   simp [go_sem]
   exact ⟨ρ.1, ρ.2, q1, ⟨rfl, rfl⟩, y, g, q2, rfl, rfl, rfl⟩
  | true =>
   simp [go_sem]
   refine loop_inv (3 :: 5 :: List.range' 27 24) (fun x : List (List Mon) × Nat => [(3, .box 30 [.int y, .own 63 x.1.length (prt x.1)]), (5, .int x.2)]) (fun x => DrS y x.1) (fun x => 4 - x.2) (g, 0) q2 (by simp [go_sem]) (by simp [go_sem]) ?_
   rintro ⟨e, i⟩ r1
   simp only at r1
   have r14 := r1.2.2.1
   simp [go_sem]
   refine ⟨fun h => ?_, fun h => ?_⟩ <;> simp at h
   ·have hie : i < e.length := by omega
    have hp := r1.2.2.2 (e[i]?.getD []) (by simp [hie])
    have hA := prt_at hie
    have hS := prt_set e i ((e[i]?.getD []).take 2)
    obtain ⟨p, hpe⟩ : ∃ p, e[i]?.getD [] = p := ⟨_, rfl⟩
    rw [hpe] at hp hA hS
    simp [go_sem, hA]
    refine ⟨hie, ?_⟩
    by_cases hp2 : 2 < (p.length : Int)
    ·simp [go_sem, hp2, hA]
     refine ⟨by kernel_rfl, hie, by omega, hie, ?_⟩
     refine ⟨by kernel_rfl, ?_⟩
     simp [go_sem]
     refine ⟨⟨by omega, by omega⟩, e.set i (p.take 2), ?_, i + 1, by omega, (by repeat (first | exact Off_reset _ _ _ (by simp) | (refine Off.reset (by intro x hx; simp at hx ⊢; omega) (by simp) ?_; simp -failIfUnchanged [go_sem, Off_reset]))), ?_⟩
     ·refine ⟨r1.1, r1.2.1, by simpa using r14, fun t ht => ?_⟩
      rcases List.mem_or_eq_of_mem_set ht with ht | rfl
      ·exact r1.2.2.2 t ht
      ·exact ⟨by simp; omega, fun m hm => hp.2 m (List.mem_of_mem_take hm)⟩
     ·have e2 : (p.take 2).length = 2 := by simp; omega
      have e4 : mons (p.take 2) = (mons p).take 4 := mons_take2 p
      rw [e2, e4] at hS
      simp [hS]
    ·simp [go_sem, hp2]
     exact ⟨⟨by omega, by omega⟩, e, r1, i + 1, by omega, (by repeat (first | exact Off_reset _ _ _ (by simp) | (refine Off.reset (by intro x hx; simp at hx ⊢; omega) (by simp) ?_; simp -failIfUnchanged [go_sem, Off_reset]))), ⟨rfl, rfl⟩, by omega⟩
   ·simp [go_sem]
    exact ⟨ρ.1, ρ.2, q1, ⟨rfl, rfl⟩, y, e, r1, rfl, rfl, rfl⟩
end Go.Proofs.YtiikdbomhkbdlaaGreat


namespace Go.Proofs.YtiikdbomhkbdlaaGreat
open Go.Abs
def ptN (z : Int) : Nat := if 1 ≤ z ∧ z ≤ 3 then z.toNat else 2
theorem ptN_b (z : Int) : 1 ≤ ptN z ∧ ptN z ≤ 3 := by unfold ptN; split <;> omega
def ptV (c : List Int) (σ : Src) (z : Int) : List Int × Src :=
 if nx1 c (lsV (nbV c) (ptN z) σ).2 40 = 0 then ((lsV (nbV c) (ptN z) σ).1 ++ [0], nx2 c (lsV (nbV c) (ptN z) σ).2 40)
 else if nx1 c (lsV (nbV c) (ptN z) σ).2 40 = 1 then ((lsV (nbV c) (ptN z) σ).1.set 0 (pk c (nx2 c (lsV (nbV c) (ptN z) σ).2 40) [-1, 10007]), nx2 c (nx2 c (lsV (nbV c) (ptN z) σ).2 40) 2)
 else ((lsV (nbV c) (ptN z) σ).1, nx2 c (lsV (nbV c) (ptN z) σ).2 40)
theorem l13DrawPoint_g (c : List Int) (σ : Src) (z : Int) (f : List (List Mon)) (hc : Byt c) (hs : SOk σ) :
  GCon Tryz.prog 141 [srcA c σ, .agg [.int z, .sl f.length (prt f)]] (.own 2 (ptV c σ z).1.length (avs (ptV c σ z).1)) [srcA c (ptV c σ z).2, .agg [.int z, .sl f.length (prt f)]] := by
 have hb := ptN_b z
 have hnz : (if 1 ≤ z ∧ z ≤ 3 then z else 2) = (ptN z : Int) := by unfold ptN; split <;> omega
 unfold ptV
 generalize ptN z = n at *
 have cL := l01List_c c σ n hc hs (by omega)
 have hL := lsV_ok (f := nbV c) (fun σ h => nbV_ok hc h) n σ hs
 generalize lsV (nbV c) n σ = r at *
 obtain ⟨y, σ1⟩ := r
 obtain ⟨hy, hN, s1⟩ := hL
 simp only at hy hN s1 cL ⊢
 subst hy
 have c4 := l01Next_c c σ1 40 hc s1
 have s4 := nx2_ok hc s1 40
 generalize nx1 c σ1 40 = v at *
 generalize nx2 c σ1 40 = τ1 at *
 have cP := l01Pick_c c τ1 [-1, 10007] hc s4 (by simp) (by simp)
 have e2 : (([-1, 10007] : List Int).length : Int) = 2 := rfl
 rw [e2] at cP
 generalize pk c τ1 [-1, 10007] = x at *
 generalize nx2 c τ1 2 = τ2 at *
 simp only [srcA_eq] at *
 have a0 := avs_set y 0 x
 by_cases v0 : v = 0
 ·simp only [v0, if_true]
  by_cases hz : 1 ≤ z ∧ z ≤ 3
  ·rw [if_pos hz] at hnz
   subst hnz
   refine gcon_of_vc Tryz.mixed ⟨7, [], [1000000 + 243, 1000000 + 161, 1000000 + 125], []⟩ [4] [0, 1] Tryz.func141 (by decide) rfl rfl (by simp) (by simp) (by decide) ?_
   rw [Tryz.ntmps141]
   simp [go_sem]
   refine CallVC.of (l01In_c _ 1 3) (by decide) ?_
   simp [go_sem]
   simp [go_sem, hz.1, hz.2]
   refine ⟨_, _, cL, ?_⟩
   simp [go_sem]
   refine ⟨_, _, c4, ?_⟩
   simp [go_sem]
   simp [go_sem, v0]
   exact ⟨⟨by omega, by omega⟩, by simp [avs], rfl, rfl⟩
  ·rw [if_neg hz] at hnz
   have hz' : (decide (1 ≤ z) && decide (z ≤ 3)) = false := by simp; omega
   refine gcon_of_vc Tryz.mixed ⟨7, [], [1000000 + 243, 1000000 + 161, 1000000 + 125], []⟩ [4] [0, 1] Tryz.func141 (by decide) rfl rfl (by simp) (by simp) (by decide) ?_
   rw [Tryz.ntmps141]
   simp [go_sem]
   refine CallVC.of (l01In_c z 1 3) (by decide) ?_
   rw [hz']
   simp [go_sem]
   rw [hnz]
   refine ⟨_, _, cL, ?_⟩
   simp [go_sem]
   refine ⟨_, _, c4, ?_⟩
   simp [go_sem]
   simp [go_sem, v0]
   exact ⟨⟨by omega, by omega⟩, by simp [avs], rfl, rfl⟩
 ·by_cases v1 : v = 1
  ·simp only [v0, v1, if_true, if_false]
   have v0' : ¬ v = 0 := v0
   by_cases hz : 1 ≤ z ∧ z ≤ 3
   ·rw [if_pos hz] at hnz
    subst hnz
    refine gcon_of_vc Tryz.mixed ⟨7, [], [1000000 + 243, 1000000 + 161, 1000000 + 125], []⟩ [4] [0, 1] Tryz.func141 (by decide) rfl rfl (by simp) (by simp) (by decide) ?_
    rw [Tryz.ntmps141]
    simp [go_sem]
    refine CallVC.of (l01In_c _ 1 3) (by decide) ?_
    simp [go_sem]
    simp [go_sem, hz.1, hz.2]
    refine ⟨_, _, cL, ?_⟩
    simp [go_sem]
    refine ⟨_, _, c4, ?_⟩
    simp [go_sem]
    simp [go_sem, v0, v1]
    refine ⟨_, _, cP, ?_⟩
    simp [go_sem]
    exact ⟨by omega, a0, rfl, rfl⟩
   ·rw [if_neg hz] at hnz
    have hz' : (decide (1 ≤ z) && decide (z ≤ 3)) = false := by simp; omega
    refine gcon_of_vc Tryz.mixed ⟨7, [], [1000000 + 243, 1000000 + 161, 1000000 + 125], []⟩ [4] [0, 1] Tryz.func141 (by decide) rfl rfl (by simp) (by simp) (by decide) ?_
    rw [Tryz.ntmps141]
    simp [go_sem]
    refine CallVC.of (l01In_c z 1 3) (by decide) ?_
    rw [hz']
    simp [go_sem]
    rw [hnz]
    refine ⟨_, _, cL, ?_⟩
    simp [go_sem]
    refine ⟨_, _, c4, ?_⟩
    simp [go_sem]
    simp [go_sem, v0, v1]
    refine ⟨_, _, cP, ?_⟩
    simp [go_sem]
    exact ⟨by omega, a0, rfl, rfl⟩
  ·simp only [v0, v1, if_false]
   by_cases hz : 1 ≤ z ∧ z ≤ 3
   ·rw [if_pos hz] at hnz
    subst hnz
    refine gcon_of_vc Tryz.mixed ⟨7, [], [1000000 + 243, 1000000 + 161, 1000000 + 125], []⟩ [4] [0, 1] Tryz.func141 (by decide) rfl rfl (by simp) (by simp) (by decide) ?_
    rw [Tryz.ntmps141]
    simp [go_sem]
    refine CallVC.of (l01In_c _ 1 3) (by decide) ?_
    simp [go_sem]
    simp [go_sem, hz.1, hz.2]
    refine ⟨_, _, cL, ?_⟩
    simp [go_sem]
    refine ⟨_, _, c4, ?_⟩
    simp [go_sem]
    simp [go_sem, v0, v1]
    exact ⟨rfl, rfl⟩
   ·rw [if_neg hz] at hnz
    have hz' : (decide (1 ≤ z) && decide (z ≤ 3)) = false := by simp; omega
    refine gcon_of_vc Tryz.mixed ⟨7, [], [1000000 + 243, 1000000 + 161, 1000000 + 125], []⟩ [4] [0, 1] Tryz.func141 (by decide) rfl rfl (by simp) (by simp) (by decide) ?_
    rw [Tryz.ntmps141]
    simp [go_sem]
    refine CallVC.of (l01In_c z 1 3) (by decide) ?_
    rw [hz']
    simp [go_sem]
    rw [hnz]
    refine ⟨_, _, cL, ?_⟩
    simp [go_sem]
    refine ⟨_, _, c4, ?_⟩
    simp [go_sem]
    simp [go_sem, v0, v1]
    exact ⟨rfl, rfl⟩
end Go.Proofs.YtiikdbomhkbdlaaGreat


namespace Go.Proofs.YtiikdbomhkbdlaaGreat
open Go.Abs
theorem ptV_len {c : List Int} (hc : Byt c) {σ : Src} (hs : SOk σ) (z : Int) : (ptV c σ z).1.length ≤ 4 := by
 have hL := (lsV_ok (f := nbV c) (fun σ h => nbV_ok hc h) (ptN z) σ hs).1
 have hb := ptN_b z
 unfold ptV
 split
 ·simp; omega
 ·split
  ·simp; omega
  ·simp only; omega
theorem l14Small_f (c : List Int) (σ : Src) (hc : Byt c) (hs : SOk σ) :
  RCon Tryz.prog 140 [srcA c σ] (fun r o => ∃ (τ : Src) (z : Int) (f : List (List Mon)), SOk τ ∧ o = [srcA c τ] ∧ DrS z f ∧ r = .agg [.int z, .sl f.length (prt f)]) := by
 refine (RCon.fz (l14Small_r c σ hc hs)).mono ?_
 rintro r o ⟨_, ⟨τ, z, f, h1, h2, h3, rfl⟩, rfl⟩
 refine ⟨τ, z, f, h1, h2, h3, ?_⟩
 simp [frz, frzL]
theorem DrawFlowSeries_r (c : List Int) (hc : Byt c) :
  RCon Tryz.prog 41 [.sl c.length (bys c)] (fun r o => o = [.any] ∧ ∃ (z : Int) (f : List (List Mon)) (y : List Int), DrS z f ∧ y.length ≤ 4 ∧ r = .tup [.agg [.int z, .sl f.length (prt f)], .own 2 y.length (avs y)]) := by
 have c0 := l01From_r c hc
 refine rcon_of_vcH Tryz.mixed ⟨6, [], [1000000 + 141, 2000000 + 123, 2000000 + 140], []⟩ [] Tryz.func41 (by decide) rfl (by simp) (by simp) (by decide) ?_
 rw [Tryz.ntmps41]
 simp [go_sem]
 refine ⟨_, c0, ?_⟩
 rintro _ _ ⟨rfl, h, rfl⟩
 have c1 := l14Small_f c (0, h) hc (by unfold SOk; simp)
 simp only [srcA_eq] at *
 simp [go_sem]
 refine ⟨_, c1, ?_⟩
 rintro _ _ ⟨τ, z, f, h1, rfl, hD, rfl⟩
 have c2 := l13DrawPoint_g c τ z f hc h1
 have hl := ptV_len hc h1 z
 generalize ptV c τ z = r at *
 simp only [srcA_eq] at *
 simp [go_sem]
 refine ⟨by kernel_rfl, ?_⟩
 refine ⟨_, _, c2, ?_⟩
 simp [go_sem]
 refine ⟨by kernel_rfl, ?_⟩
 simp [go_sem]
 exact ⟨z, f, hD, r.1, hl, ⟨rfl, rfl, rfl⟩, rfl, rfl⟩
end Go.Proofs.YtiikdbomhkbdlaaGreat


namespace Go.Proofs.YtiikdbomhkbdlaaGreat
open Go.Abs
end Go.Proofs.YtiikdbomhkbdlaaGreat


namespace Go.Proofs.YtiikdbomhkbdlaaGreat
open Go.Abs
end Go.Proofs.YtiikdbomhkbdlaaGreat


namespace Go.Proofs.YtiikdbomhkbdlaaGreat
open Go.Abs
theorem Ns.set {l : List Int} (h : Ns l) (k : Nat) {x : Int} (hx : isN x) : Ns (l.set k x) := fun y hy => by
 rcases List.mem_or_eq_of_mem_set hy with hy | rfl
 ·exact h y hy
 ·exact hx
end Go.Proofs.YtiikdbomhkbdlaaGreat


namespace Go.Proofs.YtiikdbomhkbdlaaGreat
open Go.Abs
theorem RCon.rep {P : Program} {f : FuncId} {args : List AV} {R R' : AV → List AV → Prop} (h : RCon P f args R)
  (hR : ∀ r o, R r o → ∃ r', R' r' o ∧ ∀ (w : World) (F : Nat → Prop) (tm : Nat → Value) (oss : Nat → List Nat) (v : Value) (os : List Nat), RepT P w F tm oss r v os → RepT P w F tm oss r' v os) : RCon P f args R' := by
 refine ⟨h.1, fun w vs os F0 hl hn ho hF hr => (h.2 w vs os F0 hl hn ho hF hr).mono ?_⟩
 rintro e w' ⟨r, o, hr0, v, orr, oo, F', k1, k2, k3, k4, k5, k6⟩
 obtain ⟨r', h1, h2⟩ := hR r o hr0
 exact ⟨r', o, h1, v, orr, oo, F', k1, k2, k3, k4, fun tm oss => h2 _ _ _ _ _ _ (k5 tm oss), k6⟩
end Go.Proofs.YtiikdbomhkbdlaaGreat


namespace Go.Proofs.YtiikdbomhkbdlaaGreat
open Go.Abs
end Go.Proofs.YtiikdbomhkbdlaaGreat


namespace Go.Proofs.YtiikdbomhkbdlaaGreat
open Go.Abs
end Go.Proofs.YtiikdbomhkbdlaaGreat


namespace Go.Proofs.YtiikdbomhkbdlaaGreat
open Go.Abs
theorem LabellingsOf_k {t : List Int} (h : t ∈ trN 6) : Con Tryz.prog 47 [.sl t.length (avs t)] (.tup [.int (lbF t), .int 0]) := by
 obtain ⟨t1, t2, t3⟩ := trN_at h
 obtain ⟨_, _, ⟨s1, s2⟩, d1, d2⟩ := lb_at h
 have cL := IsLevels_c t (by omega)
 have hv : lvB t = true := List.all_eq_true.1 (show (trN 6).all lvB = true by decide +kernel) t h
 rw [hv] at cL
 have c1 := length_c t.length (avs t) (by omega)
 have c2 := factorial_c t.length (by omega)
 have c3 := symmetry_c 6 t (by omega) (List.all_eq_true.1 trN_sym t h)
 have c4 := density_c 8 t t1 (by omega) t3
 have f6 := fact_6 t2
 unfold lbF
 generalize fact t.length = a at *
 generalize symF 6 t = b at *
 generalize denF 8 t = d at *
 refine con_of_vc Tryz.mixed ⟨4, [], [], []⟩ Tryz.func47 (by decide) rfl (by simp) (by decide) (by simp [freshOK, freshL, go_sem]) ?_
 rw [Tryz.ntmps47]
 simp [go_sem]
 refine CallVC.of (cL) (by decide) ?_
 simp [go_sem]
 refine ⟨by kernel_rfl, ?_⟩
 refine CallD.of (c1) (by simp [roots, rootsL]) (by decide) ?_
 simp [go_sem]
 refine CallD.of (c2) (by simp [roots, rootsL]) (by decide) ?_
 simp [go_sem]
 refine CallD.of (c3) (by simp [roots, rootsL]) (by decide) ?_
 simp [go_sem]
 have q1 : 0 ≤ a / b ∧ a / b ≤ 720 := ⟨Int.ediv_nonneg (by omega) (by omega), Int.le_trans (Int.ediv_le_self b (by omega)) (by omega)⟩
 have q2 : 0 ≤ a / b / d ∧ a / b / d ≤ 720 := ⟨Int.ediv_nonneg q1.1 (by omega), Int.le_trans (Int.ediv_le_self d q1.1) q1.2⟩
 have e1 : a.tdiv b = a / b := Int.tdiv_eq_ediv_of_nonneg (by omega)
 have e2 : (a / b).tdiv d = a / b / d := Int.tdiv_eq_ediv_of_nonneg q1.1
 rw [e1]
 refine ⟨⟨by omega, by omega, by omega⟩, ?_⟩
 refine CallD.of (c4) (by simp [roots, rootsL]) (by decide) ?_
 simp [go_sem]
 rw [e2]
 refine ⟨⟨by omega, by omega, by omega⟩, ?_⟩
 refine ⟨by kernel_rfl, ?_⟩
 simp [go_sem]
theorem TreesOf_k (n : Nat) (h1 : 1 ≤ n) (h6 : n ≤ 6) : Con Tryz.prog 46 [.int n] (.tup [.own 25 (genT 200 (upTo n)).length (omat (genT 200 (upTo n))), .int 0]) := by
 have cI := inRange_c n 1 8
 have e : (decide ((1 : Int) ≤ n) && decide ((n : Int) ≤ 8)) = true := by simp; omega
 rw [e] at cI
 have cT := treesOf_c n 200 (by omega) (by omega) (trees_same n h1 h6).1
 generalize genT 200 (upTo n) = G at *
 refine con_of_vc Tryz.mixed ⟨4, [], [], []⟩ Tryz.func46 (by decide) rfl (by simp) (by decide) (by simp [freshOK, freshL, go_sem]) ?_
 rw [Tryz.ntmps46]
 simp [go_sem]
 refine CallVC.of (cI) (by decide) ?_
 simp [go_sem]
 refine CallVC.of (cT) (by decide) ?_
 simp [go_sem]
theorem DrS.small46 {z : Int} {f : List (List Mon)} (h : DrS z f) : Small f := ⟨by have := h.2.2.1; omega, fun p hp => ⟨by have := (h.2.2.2 p hp).1; omega, fun q hq => by have := (h.2.2.2 p hp).2 q hq; omega⟩⟩
theorem deS_zero {f : List (List Mon)} {y : List Int} {n : Nat} (n1 : 1 ≤ n) (hy : y.length = n) (hN : Ns y) : (deS (turnS (floS f y 6)))[0]?.getD [] = y := by
 obtain ⟨r1, r2, r3⟩ := turn_row n1 (flo_R7 (f := f) hy hN) (j := 0) (by omega)
 have l7 : (turnS (floS f y 6)).length = 7 := by rw [turnS_len]; exact ((flo_R7 (f := f) hy hN).row (k := 0) (by omega)).1
 rw [deS_at (by omega), r1]
 refine List.ext_getElem (by rw [scalS_len, r2, hy]) fun k h1 h2 => ?_
 have hk : k < n := by omega
 have e2 : (scalS (colS (floS f y 6) 0) (fact 0))[k]?.getD 0 = (colS (floS f y 6) 0)[k]?.getD 0 * (fact 0 % 10007) % 10007 :=
  tb_get (fun i => (colS (floS f y 6) 0)[i]?.getD 0 * (fact 0 % 10007) % 10007) (by rw [r2]; exact hk)
 rw [List.getElem?_eq_getElem h1, Option.getD_some, r3 k hk, flo_first hy hk] at e2
 rw [e2, List.getElem?_eq_getElem h2, Option.getD_some]
 have := hN _ (List.getElem_mem h2)
 have f0 : fact 0 % 10007 = 1 := by decide
 rw [f0, Int.mul_one, Int.emod_eq_of_lt this.1 this.2]
theorem FnFlowTrees_c (c : List Int) (hl : c.length ≤ 9223372036854775807) (hb : ∀ x ∈ c, 0 ≤ x ∧ x ≤ 255) : Con Tryz.prog 6 [.sl c.length (bys c)] (.bool true) := by
 have cB := big_c c hl
 by_cases hc4 : 4096 < c.length
 ·refine con_of_vc Tryz.mixed ⟨22, [], [2000000 + 41], []⟩ Tryz.func6 (by decide) rfl (by simp) (by decide) (by simp [freshOK, freshL, go_sem]) ?_
  rw [Tryz.ntmps6]
  simp [go_sem]
  refine CallVC.of (cB) (by decide) ?_
  simp [go_sem]
  simp [go_sem, hc4]
 ·have hc : Byt c := ⟨by omega, hb⟩
  have cD := DrawFlowSeries_r c hc
  refine con_of_vc Tryz.mixed ⟨22, [56], [2000000 + 41], []⟩ Tryz.func6 (by decide) rfl (by simp) (by decide) (by simp [freshOK, freshL, go_sem]) ?_
  rw [Tryz.ntmps6]
  simp [go_sem]
  refine CallVC.of (cB) (by decide) ?_
  simp [go_sem]
  simp [go_sem, hc4]
  refine ⟨_, cD, ?_⟩
  rintro _ _ ⟨rfl, z, f, y, hD, hy4, rfl⟩
  have hS := hD.small46
  have cF := FlowSeries_c z f y hS (by omega)
  have cF2 := specFlowSeries_c z f y hS (by omega)
  have cV := DerivativesOf_c z f y hS (by omega)
  have ok := fsX_ok z f y
  unfold fsR at cF cF2
  unfold dvR at cV
  have c3 := likeRows5_c (fsX z f y) (fsX z f y) (by omega) (fun r hr => by have := ok.2 r hr; omega)
  simp only [decide_true] at c3
  simp [go_sem]
  refine CallVC.of (cF) (by decide) ?_
  simp [go_sem]
  refine CallVC.of (cF2) (by decide) ?_
  simp [go_sem]
  refine CallVC.of (c3) (by decide) ?_
  simp [go_sem]
  by_cases hE : fpE z f y = 0
  ·obtain ⟨hF, yl, yN⟩ := fpE_ok hE
   have z1 := hF.lo
   have z3 := hF.hi
   have fl := hF.len
   obtain ⟨n, rfl⟩ : ∃ n : Nat, z = n := ⟨z.toNat, by omega⟩
   have hyn : y.length = n := by omega
   have hfn : f.length = n := by omega
   have n1 : 1 ≤ n := by omega
   have hFb : fieldB n f = true := fieldB_iff.2 hF
   have x3 : fsX n f y = turnS (floS f y 6) := by unfold fsX; rw [if_pos hE]
   have cX := ExactMap_c
   have mB : mapB exaS = true := exaS_ch.1.mapB
   have cT := TreeSeries_c exaS n f y (by rw [exaS_ch.1.1]; omega) hS (by omega)
   have eT : trE exaS n f y = 0 := by
    unfold trE
    rw [mB, hFb, vecB_iff.2 ⟨by omega, yN⟩]; rfl
   have xT : trX exaS n f y = turnS (floS f y 6) := by
    unfold trX
    rw [if_pos eT, exaS_eq, exa_mapW, series_flow hF hyn yN hfn]
   unfold trR at cT
   rw [eT, xT, exaS_ch.1.1] at cT
   have lF : (turnS (floS f y 6)).length = 7 := by rw [turnS_len]; exact ((flo_R7 (f := f) hyn yN).row (k := 0) (by omega)).1
   have d0 := deS_zero (f := f) n1 hyn yN
   have da := fun j hj => acV_all (n := n) hF hyn yN hfn (j := j) hj
   have dx : dvX n f y = deS (turnS (floS f y 6)) := by unfold dvX; rw [x3]
   have dg : ∀ j, j < 6 → (deS (turnS (floS f y 6)))[j + 1]?.getD [] = acV f y n (genT 200 (upTo (j + 1))) (genT 200 (upTo (j + 1))).length := fun j hj => by rw [deS_at (by omega), da j hj]
   rw [dx, deS_len, lF, hE] at cV
   rw [x3, hE] at cF cF2 ⊢
   rw [x3] at c3
   have lD : (deS (turnS (floS f y 6))).length = 7 := by rw [deS_len]; exact lF
   have tmS := fun m hs => TermsOf_c n f y m hs (by omega)
   clear da x3 dx xT eT ok
   generalize turnS (floS f y 6) = X at *
   generalize deS X = D at *
   rw [lF] at c3 cF cF2 cT ⊢
   have og0 := omat_get (A := D) (k := 0) (by omega)
   rw [d0] at og0
   have cl := likeInts_c y y (by omega)
   simp only [decide_true] at cl
   generalize exaS = EX at *
   simp [go_sem, hE]
   refine ⟨by kernel_rfl, ?_⟩
   refine CallD.of (cX) (by simp [roots, rootsL]) (by decide) ?_
   simp [go_sem]
   refine CallD.of (cT) (by simp [roots, rootsL, frz, frzL]) (by decide) ?_
   simp [go_sem]
   refine ⟨by kernel_rfl, ?_⟩
   simp [go_sem]
   refine CallVC.of (cV) (by decide) ?_
   simp [go_sem]
   refine CallVC.of (c3) (by decide) ?_
   simp [go_sem]
   simp [go_sem, og0]
   refine CallVC.of (cl) (by decide) ?_
   simp [go_sem]
   clear c3 cl og0 cF cF2 cT cV cX
   refine loop_inv (2 :: List.range' 13 9 ++ List.range' 90 74) (fun j : Nat => [(13, .int (j + 1))]) (fun j => j ≤ 6) (fun j => 6 - j) 0 (by simp) (by simp [go_sem]) (by simp [go_sem]) ?_
   intro j hj
   by_cases hj6 : j < 6
   ·have hji : (j : Int) + 1 ≤ 6 := by omega
    have cTm := tmS ((j : Int) + 1) hS
    have eTm : tmE n f y ((j : Int) + 1) = 0 := by unfold tmE; rw [if_pos hE, if_pos ⟨by omega, by omega⟩]
    have nat : ((j : Int) + 1).toNat = j + 1 := by omega
    have xTm : tmX n f y ((j : Int) + 1) = (genT 200 (upTo (j + 1))).map (fun t => edF f y t.length t) := by unfold tmX; rw [if_pos eTm, nat]
    unfold tmR at cTm
    rw [eTm, xTm, List.length_map] at cTm
    have cTr := TreesOf_k (j + 1) (by omega) (by omega)
    have ej : ((j + 1 : Nat) : Int) = (j : Int) + 1 := by omega
    rw [ej] at cTr
    have gm := fun t ht => gen_mem hj6 (t := t) ht
    have gl := genT_len 200 (upTo (j + 1))
    have dgj := dg j hj6
    have odj := omat_get (A := D) (k := j + 1) (by omega)
    rw [dgj, acV_len] at odj
    have ast := fun i h hl => acV_step (n := n) (f := f) (y := y) (T := genT 200 (upTo (j + 1))) (i := i) h hl
    have az := acV_zero (f := f) (y := y) (n := n) (genT 200 (upTo (j + 1)))
    have aN := fun i => acV_N (f := f) (y := y) (n := n) (genT 200 (upTo (j + 1))) i
    have al := fun i => acV_len (f := f) (y := y) (n := n) (genT 200 (upTo (j + 1))) i
    generalize hG : genT 200 (upTo (j + 1)) = G at *
    simp [go_sem, hji]
    refine CallVC.of (cTm) (by decide) ?_
    simp [go_sem]
    refine CallVC.of (cTr) (by decide) ?_
    simp [go_sem]
    refine ⟨⟨by omega, by omega⟩, ?_⟩
    rw [avs_repl, ← az]
    refine loop_inv (2 :: List.range' 18 4 ++ List.range' 122 35) (fun i : Nat => [(18, .own 2 n (avs (acV f y n G i))), (19, .int i)]) (fun i => i ≤ G.length) (fun i => G.length - i) 0 (by simp) (by simp [go_sem]) (by simp [go_sem]) ?_
    intro i hi
    by_cases hil : i < G.length
    ·have hii : (i : Int) < G.length := by omega
     have hm := memD [] hil
     obtain ⟨m1, m2⟩ := gm _ hm
     obtain ⟨b1, _⟩ := lb_at m1
     have cLb := LabellingsOf_k m1
     obtain ⟨t1, t2, _⟩ := trN_at m1
     have og := omat_get hil
     have hlM : i < (G.map fun t => edF f y t.length t).length := by rw [List.length_map]; exact hil
     have om := omat_get hlM
     have ft : (G.map fun t => edF f y t.length t)[i]?.getD [] = FT f y (G[i]?.getD []) := by
      rw [List.getElem?_map, List.getElem?_eq_getElem hil] at *
      exact (edF_fuel f y _ 6 _ t1 (Nat.le_refl _) t2).symm
     rw [ft] at om
     have fl2 : (FT f y (G[i]?.getD [])).length = n := by
      have := edF_len (f := f) (y := y) (n := 6) (by omega) (G[i]?.getD [])
      exact this.trans hfn
     have fN : Ns (FT f y (G[i]?.getD [])) := drvL_N _ _ _ _
     have a1 := ast i hil fl2
     rw [fl2] at om
     have cM := mod5_c (lbF (G[i]?.getD [])) (by omega) (by omega)
     have cTi := times5_c (FT f y (G[i]?.getD [])) (lbF (G[i]?.getD []) % 10007) (by omega) fN (isN_mod _)
     have cPl := plus5_c (acV f y n G i) (tm5 (FT f y (G[i]?.getD [])) (lbF (G[i]?.getD []) % 10007)) (by rw [al]; omega) (by rw [al, tm5_len, fl2]) (aN i) (tm5_N _ _)
     rw [a1, al, tm5_len, fl2] at cPl
     rw [fl2] at cTi
     generalize hA1 : acV f y n G (i + 1) = A1 at *
     generalize acV f y n G i = A0 at *
     generalize tm5 (FT f y (G[i]?.getD [])) (lbF (G[i]?.getD []) % 10007) = T5 at *
     generalize FT f y (G[i]?.getD []) = F at *
     generalize lbF (G[i]?.getD []) = lb at *
     generalize G.map (fun t => edF f y t.length t) = TM at *
     generalize G[i]?.getD [] = t at *
     simp [go_sem, hii, og]
     refine CallVC.of (cLb) (by decide) ?_
     simp [go_sem]
     simp [go_sem, om]
     refine ⟨by kernel_rfl, hil, ?_⟩
     refine ⟨by kernel_rfl, ?_⟩
     simp [go_sem]
     simp [go_sem, om]
     refine ⟨by kernel_rfl, hil, ?_⟩
     refine CallD.of (cM) (by simp [roots, rootsL]) (by decide) ?_
     simp [go_sem]
     simp [go_sem, om]
     refine CallD.of (cTi) (by simp [roots, rootsL]) (by decide) ?_
     simp [go_sem]
     refine CallD.of (cPl) (by simp [roots, rootsL]) (by decide) ?_
     simp [go_sem]
     refine ⟨by kernel_rfl, ?_⟩
     simp [go_sem]
     exact ⟨⟨by omega, by omega⟩, i + 1, by omega, by omega, Off_reset _ _ _ (by simp), hA1.symm, by omega⟩
    ·have e : i = G.length := by omega
     subst e
     have hii : ¬ (G.length : Int) < G.length := by omega
     have cl2 := likeInts_c (acV f y n G G.length) (acV f y n G G.length) (by rw [al]; omega)
     simp only [decide_true, al] at cl2
     simp [go_sem, hii, odj]
     refine ⟨⟨by omega, by omega⟩, ?_⟩
     refine CallVC.of (cl2) (by decide) ?_
     simp [go_sem]
     exact ⟨⟨by omega, by omega⟩, j + 1, by omega, by omega, (Off.reset (by intro x hx; simp at hx ⊢; omega) (by simp) (by simp [go_sem, Off_reset])), by omega⟩
   ·have e : j = 6 := by omega
    subst e
    simp [go_sem]
  ·simp [go_sem, hE]
end Go.Proofs.YtiikdbomhkbdlaaGreat

