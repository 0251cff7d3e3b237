/- Texts of the own layer and contracts, part 7: Q30 Q31 Q32 Q33 Q34 L26. -/
import Derived.Test.YtngakdgkeemjhaaM6
/- Contracts: flows from a point and from a vector series, the program's and the reference's. -/
namespace Go.Proofs.Ytngakdgkeemjhaa
open Go.Abs
set_option linter.unusedVariables false
set_option linter.unusedSimpArgs false
set_option maxHeartbeats 1000000
/-- The flow from a point, its first numbers known. -/
def floS (f : List (List Mon)) (y : List Int) : Nat → List (List Int)
  | 0 => poS y
  | n + 1 => (List.range y.length).map fun i => ((floS f y n)[i]?.getD []).set (n + 1) (((fdS (floS f y n) f)[i]?.getD [])[n]?.getD 0 * pw ((n : Int) + 1) 10005 % 10007)
@[simp] theorem floS_len (f : List (List Mon)) (y : List Int) : ∀ n, (floS f y n).length = y.length
  | 0 => by simp [floS]
  | n + 1 => by simp [floS]
theorem set_N {a : List Int} (h : Ns a) {i : Nat} {x : Int} (hx : isN x) : Ns (a.set i x) := by
  intro z hz
  rcases List.mem_or_eq_of_mem_set hz with hz | rfl
  · exact h z hz
  · exact hx
theorem floS_row {f : List (List Mon)} {y : List Int} (hy : Ns y) : ∀ n, ∀ r ∈ floS f y n, r.length = 7 ∧ Ns r
  | 0 => poS_row hy
  | n + 1 => by
    intro r hr
    obtain ⟨i, hi, rfl⟩ := List.mem_map.1 hr
    have h := floS_row hy n _ (memD [] (show i < (floS f y n).length by rw [floS_len]; simpa using hi))
    exact ⟨by simp [h.1], set_N h.2 (isN_mod _)⟩
set_option maxRecDepth 100000 in
theorem flow_c {z : Int} (f : List (List Mon)) (y : List Int) (hf : FieldOk z f) (hs : Small f) (hl : (y.length : Int) = z) (hy : Ns y) :
    Con Try.prog 86 [.sl f.length (fpols f), .sl y.length (avs y)] (.own 23 y.length (omat (floS f y 6))) := by
  have fl := hs.1
  have z3 := hf.hi
  have fz := hf.len
  refine con_of_vc Try.mixed ⟨12, [], [], []⟩ Try.func86 (by decide) rfl (by simp) (by decide) (by simp [freshOK, freshL, go_sem]) ?_
  rw [Try.ntmps86]
  simp [go_sem]
  refine loop_inv (5 :: 7 :: 8 :: List.range' 15 13) (fun i : Nat => [(5, .own 23 i (omat (poS (y.take i)))), (15, .int i)]) (fun i => i ≤ y.length) (fun i => y.length - i) 0 (by simp) (by simp [go_sem, poS, omat_nil]) (by simp [go_sem]) ?_
  intro i hi
  simp [go_sem]
  refine ⟨fun h => ?_, fun h => ?_⟩ <;> simp at h
  · have ht := poS_take h
    simp [go_sem, avs_drop h]
    refine ⟨⟨h, by rintro rfl; simp at h⟩, ⟨by omega, by omega⟩, by omega, i + 1, by omega, by omega, Off_reset _ _ _ (by simp), ⟨rfl, ?_⟩, by omega⟩
    rw [ht]; rfl
  · have e : i = y.length := by omega
    subst e
    simp [go_sem]
    refine loop_inv (5 :: 9 :: 10 :: 11 :: List.range' 28 31) (fun k : Nat => [(5, .own 23 y.length (omat (floS f y k))), (9, .int ((k + 1 : Nat) : Int))]) (fun k => k ≤ 6) (fun k => 7 - k) 0 (by simp) (by simp [go_sem, floS]) (by simp [go_sem]) ?_
    intro k hk
    simp [go_sem]
    refine ⟨fun h => ?_, fun h => ?_⟩ <;> simp at h
    · have fr := floS_row (f := f) hy k
      have cF := fieldSeries_c (L := floS f y k) hf hs (by rw [floS_len]; exact hl) fr
      rw [floS_len] at cF
      simp [go_sem]
      refine CallVC.of (cF) (by decide) ?_
      simp [go_sem]
      refine loop_inv (5 :: 11 :: List.range' 37 22) (fun j : Nat => [(5, .own 23 y.length (omat (mxS (floS f y k) (floS f y (k + 1)) j))), (37, .int j)]) (fun j => j ≤ y.length) (fun j => y.length - j) 0 (by simp) (by simp [go_sem, mxS_zero]) (by simp [go_sem]) ?_
      intro j hj
      simp [go_sem]
      refine ⟨fun h => ?_, fun h => ?_⟩ <;> simp at h
      · have hjy := h
        have hM : j < (mxS (floS f y k) (floS f y (k + 1)) j).length := by rw [mxS_len, floS_len]; exact hjy
        have hj2 : j < (floS f y k).length := by rw [floS_len]; exact hjy
        have hg := omat_get hM
        rw [mxS_get hj2] at hg
        have hr := fr _ (memD [] hj2)
        have hV : j < (fdS (floS f y k) f).length := by rw [fdS_len]; omega
        have hgv := omat_get hV
        have hv := fdS_row (L := floS f y k) (f := f) _ (memD [] hV)
        have hset := omat_set (mxS (floS f y k) (floS f y (k + 1)) j) j ((floS f y (k + 1))[j]?.getD [])
        have hnext : (floS f y (k + 1))[j]?.getD [] = ((floS f y k)[j]?.getD []).set (k + 1) (((fdS (floS f y k) f)[j]?.getD [])[k]?.getD 0 * pw ((k : Int) + 1) 10005 % 10007) := by simp [floS, hjy]
        rw [mxS_set hj2] at hset
        have m1 : fits (((fdS (floS f y k) f)[j]?.getD [])[k]?.getD 0 * pw ((k : Int) + 1) 10005) := mul_fits (hv.2.get k) (isN_mod _)
        have hk7 : k < ((fdS (floS f y k) f)[j]?.getD []).length := by omega
        have hk8 : k + 1 < ((floS f y k)[j]?.getD []).length := by omega
        generalize mxS (floS f y k) (floS f y (k + 1)) j = M at *
        generalize (floS f y (k + 1))[j]?.getD [] = new at *
        generalize (floS f y k)[j]?.getD [] = old at *
        generalize (fdS (floS f y k) f)[j]?.getD [] = vs at *
        simp [go_sem, hg, hgv, avs_at hk7, avs_drop hk7]
        refine ⟨by kernel_rfl, hjy, by omega, by omega, hk7, ?_⟩
        refine CallD.of (inv_c _ ⟨by omega, by omega⟩) (by simp [roots, rootsL]) (by decide) ?_
        simp [go_sem]
        refine ⟨m1, ?_⟩
        refine CallD.of (num_c _ m1.1 m1.2) (by simp [roots, rootsL]) (by decide) ?_
        simp [go_sem]
        simp [go_sem, hg]
        refine ⟨⟨by omega, by omega⟩, hk8, ?_⟩
        refine ⟨by kernel_rfl, ?_⟩
        simp [go_sem]
        refine ⟨by omega, j + 1, by omega, by omega, Off_reset _ _ _ (by simp), ?_, by omega⟩
        rw [← hset, hnext, List.length_set, avs_set]
      · have e : j = y.length := by omega
        have hall := mxS_all (A := floS f y k) (C := floS f y (k + 1)) (by rw [floS_len, floS_len])
        rw [floS_len] at hall
        subst e
        simp [go_sem]
        exact ⟨by omega, k + 1, by omega, by omega, (Off.reset (by intro x hx; simp at hx ⊢; omega) (by simp) (by simp [go_sem, Off_reset])), by rw [hall], by omega⟩
    · have e : k = 6 := by omega
      subst e
      simp [go_sem]
/-- A series raised by n degrees, by the factorial of n. -/
def raiN (a : List Int) : Nat → List Int
  | 0 => a
  | j + 1 => rakS (raiN a j) (pw ((j : Int) + 1) 10005)
@[simp] theorem raiN_len (a : List Int) : ∀ j, (raiN a j).length = a.length
  | 0 => rfl
  | j + 1 => by simp [raiN, raiN_len a j]
theorem raiN_N {a : List Int} (h : Ns a) : ∀ j, Ns (raiN a j)
  | 0 => h
  | j + 1 => rakS_N _ _
/-- The derivative of order j of a variable along a field. -/
def alN (f : List (List Mon)) (n i : Nat) : Nat → List Mon
  | 0 => [(1, oneE n i)]
  | j + 1 => alongL f (alN f n i j)
theorem alongL_wok {n : Nat} {B : Int} {f : List (List Mon)} {p : List Mon} (hp : ∀ m ∈ p, WOk n B m) (hl : f.length ≤ n) (hf : ∀ F ∈ f, ∀ m ∈ F, WOk n 3 m) : ∀ m ∈ alongL f p, WOk n (3 + B) m := alongGo_wok hp f 0 [] (by omega) hf (by simp)
theorem FieldOk.wok {z : Int} {f : List (List Mon)} (hf : FieldOk z f) : ∀ F ∈ f, ∀ m ∈ F, WOk f.length 3 m := fun F hF m hm => by
  have h := partB_mem (hf.part F hF) hm
  have h1 := h.lo
  have h2 := h.hi
  have h3 := h.len
  have h4 := hf.len
  exact ⟨⟨by omega, by omega⟩, by omega, h.pw⟩
theorem alN_wok {z : Int} {f : List (List Mon)} (hf : FieldOk z f) (i : Nat) : ∀ j : Nat, ∀ m ∈ alN f f.length i j, WOk f.length (1 + 3 * (j : Int)) m
  | 0, m, hm => by
    simp only [alN, List.mem_singleton] at hm
    subst hm
    exact oneE_wok.le (by omega)
  | j + 1, m, hm => (alongL_wok (alN_wok hf i j) (Nat.le_refl _) hf.wok m hm).le (by omega)
theorem alN_len {z : Int} {f : List (List Mon)} (hf : FieldOk z f) (n i : Nat) : ∀ j : Nat, (alN f n i j).length ≤ 60 ^ j
  | 0 => by simp [alN]
  | j + 1 => by
    have z3 := hf.hi
    have zl := hf.len
    have ih := alN_len hf n i j
    have h := alongGo_len (p := alN f n i j) (N := 20) f 0 [] (fun F hF => part20 z3 (hf.part F hF))
    have h2 := Nat.mul_le_mul_right (20 * (alN f n i j).length) (show f.length ≤ 3 by omega)
    rw [alN, alongL, Nat.pow_succ]
    simp only [List.length_nil, Nat.zero_add] at h
    omega
theorem alN_small {z : Int} {f : List (List Mon)} (hf : FieldOk z f) (n i : Nat) {j : Nat} (hj : j ≤ 5) : (alN f n i j).length ≤ 777600000 :=
  Nat.le_trans (alN_len hf n i j) (Nat.le_trans (Nat.pow_le_pow_right (by omega) hj) (by decide))
theorem alN_small6 {z : Int} {f : List (List Mon)} (hf : FieldOk z f) (n i : Nat) {j : Nat} (hj : j ≤ 6) : (alN f n i j).length ≤ 46656000000 :=
  Nat.le_trans (alN_len hf n i j) (Nat.le_trans (Nat.pow_le_pow_right (by omega) hj) (by decide))
/-- All variables' derivatives of order n; i of them already of the next one. -/
def trS (f : List (List Mon)) (n i : Nat) : List (List Mon) := (List.range f.length).map fun k => if k < i then alN f f.length k (n + 1) else alN f f.length k n
@[simp] theorem trS_len (f : List (List Mon)) (n i : Nat) : (trS f n i).length = f.length := by simp [trS]
theorem trS_all (f : List (List Mon)) (n : Nat) : trS f n f.length = trS f (n + 1) 0 := by
  unfold trS
  refine List.map_congr_left fun k hk => ?_
  simp at hk
  simp [hk]
theorem trS_get {f : List (List Mon)} {n i : Nat} (h : i < f.length) : (trS f n i)[i]?.getD [] = alN f f.length i n := by simp [trS, h]
theorem trS_set {f : List (List Mon)} {n i : Nat} (h : i < f.length) : (trS f n i).set i (alN f f.length i (n + 1)) = trS f n (i + 1) := by
  refine List.ext_getElem (by simp) fun k h1 h2 => ?_
  simp at h1
  rw [List.getElem_set]
  by_cases e : i = k
  · subst e; simp [trS]
  · simp only [e, if_false, trS, List.getElem_map, List.getElem_range]
    by_cases h3 : k < i
    · simp [h3, show k < i + 1 by omega]
    · simp [h3, show ¬ k < i + 1 by omega]
theorem oprt_get {T : List (List Mon)} {k : Nat} (h : k < T.length) : (oprt T)[k]? = some (.own 112 (T[k]?.getD []).length (omons (T[k]?.getD []))) := by simp [oprt, h]
theorem oprt_set (T : List (List Mon)) (k : Nat) (p : List Mon) : (oprt T).set k (.own 112 p.length (omons p)) = oprt (T.set k p) := by simp [oprt, List.map_set]
/-- The sum of the first terms of the flow. -/
def flsS (f : List (List Mon)) (P : List (List Int)) : Nat → List (List Int)
  | 0 => P
  | n + 1 => (List.range P.length).map fun k => tb (fun m => (((flsS f P n)[k]?.getD [])[m]?.getD 0 + (raiN (evS P (alN f f.length k (n + 1))) (n + 1))[m]?.getD 0) % 10007) 7
@[simp] theorem flsS_len (f : List (List Mon)) (P : List (List Int)) : ∀ n, (flsS f P n).length = P.length
  | 0 => rfl
  | n + 1 => by simp [flsS]
theorem flsS_row {f : List (List Mon)} {P : List (List Int)} (h : ∀ r ∈ P, r.length = 7 ∧ Ns r) : ∀ n, ∀ r ∈ flsS f P n, r.length = 7 ∧ Ns r
  | 0 => h
  | n + 1 => by
    intro r hr
    obtain ⟨i, hi, rfl⟩ := List.mem_map.1 hr
    exact ⟨by simp, tb_N fun i _ => isN_mod _⟩
end Go.Proofs.Ytngakdgkeemjhaa

/- Contracts: the reference's flow from a vector series. -/
namespace Go.Proofs.Ytngakdgkeemjhaa
open Go.Abs
set_option linter.unusedVariables false
set_option linter.unusedSimpArgs false
set_option maxHeartbeats 2000000
theorem oprt_one (p : List Mon) : oprt [p] = [.own 112 p.length (omons p)] := rfl
theorem trS_step {f : List (List Mon)} {i : Nat} (h : i < f.length) : oprt ((trS f 0 0).take (i + 1)) = oprt ((trS f 0 0).take i) ++ [.own 112 1 [.int 1, .own 2 f.length (avs (oneE f.length i))]] := by
  have hx : i < (trS f 0 0).length := by rw [trS_len]; exact h
  rw [List.take_add_one, List.getElem?_eq_getElem hx, Option.toList_some, oprt_app]
  have : (trS f 0 0)[i] = [(1, oneE f.length i)] := by simp [trS, alN]
  rw [this, oprt_one, omons_one]; simp
set_option maxRecDepth 100000 in
theorem l14Flow_c {z : Int} (f : List (List Mon)) (start : List (List Int)) (hf : FieldOk z f) (hs : Small f) (h7 : start.length = 7) (hr : ∀ r ∈ start, (r.length : Int) = z ∧ Ns r) :
    Con Try.prog 84 [.agg [.int z, .sl f.length (prt f)], .sl start.length (mat start)] (.own 23 7 (omat (turnS (flsS f (turnS start) 6)))) := by
  have fl := hs.1
  have z3 := hf.hi
  have z1 := hf.lo
  have fz := hf.len
  have h0 := memD (i := 0) [] (l := start) (by omega)
  have hz := (hr _ h0).1
  have tl : (turnS start).length = f.length := by have := turnS_len start; omega
  have tr : ∀ r ∈ turnS start, r.length = 7 ∧ Ns r := turnS_row h7 (fun r h => (hr r h).2)
  have cT := l14Turn_c start (by omega) (by omega) (fun r h => by have := (hr r h).1; omega) (by omega)
  generalize turnS start = P at *
  have cO := l01Own2_c P (by omega) (fun r hr => by have := (tr r hr).1; omega)
  have sr := flsS_row (f := f) tr 6
  have sl := flsS_len f P 6
  have s0 := memD (i := 0) [] (l := flsS f P 6) (by omega)
  have s7 := (sr _ s0).1
  have cE := l14Turn_c (flsS f P 6) (by omega) (by omega) (fun r h => by have := (sr r h).1; omega) (by omega)
  rw [turnS_len, s7, sl, tl] at cE
  rw [tl] at cT cO
  obtain ⟨n, rfl⟩ : ∃ n : Nat, z = n := ⟨z.toNat, by omega⟩
  have fn : f.length = n := by omega
  refine con_of_vc Try.mixed ⟨13, [], [], []⟩ Try.func84 (by decide) rfl (by simp) (by decide) (by simp [freshOK, freshL, go_sem]) ?_
  rw [Try.ntmps84]
  simp [go_sem]
  refine CallVC.of (cT) (by decide) ?_
  simp [go_sem]
  refine loop_inv (6 :: 7 :: List.range' 16 15) (fun i : Nat => [(6, .own 109 i (oprt ((trS f 0 0).take i))), (7, .int i)]) (fun i => i ≤ f.length) (fun i => f.length - i) 0 (by simp) (by simp [go_sem, oprt]) (by simp [go_sem]) ?_
  intro i hi
  simp [go_sem]
  refine ⟨fun h => ?_, fun h => ?_⟩ <;> simp at h
  · have hif : i < f.length := by omega
    have ht := trS_step hif
    have c1 := l13One_c n i (by omega) (by omega)
    rw [fn] at ht
    simp [go_sem]
    refine CallVC.of (c1) (by decide) ?_
    simp [go_sem]
    exact ⟨⟨by omega, by omega⟩, by omega, i + 1, by omega, by omega, Off_reset _ _ _ (by simp), by rw [ht]; exact ⟨rfl, rfl⟩, by omega⟩
  · have e : i = f.length := by omega
    have tt : (trS f 0 0).take f.length = trS f 0 0 := List.take_of_length_le (by simp)
    subst e
    rw [tt]
    simp [go_sem]
    refine CallVC.of (cO) (by decide) ?_
    simp [go_sem]
    refine loop_inv (6 :: 8 :: 9 :: 10 :: 11 :: 12 :: List.range' 33 43) (fun k : Nat => [(6, .own 109 f.length (oprt (trS f k 0))), (8, .own 23 f.length (omat (flsS f P k))), (9, .int ((k + 1 : Nat) : Int))]) (fun k => k ≤ 6) (fun k => 7 - k) 0 (by simp) (by simp [go_sem, flsS]) (by simp [go_sem]) ?_
    intro k hk
    simp [go_sem]
    refine ⟨fun h => ?_, fun h => ?_⟩ <;> simp at h
    · simp [go_sem]
      refine loop_inv (6 :: 8 :: 10 :: 11 :: 12 :: List.range' 37 39) (fun i : Nat => [(6, .own 109 f.length (oprt (trS f k i))), (8, .own 23 f.length (omat (mxS (flsS f P k) (flsS f P (k + 1)) i))), (10, .int i)]) (fun i => i ≤ f.length) (fun i => f.length - i) 0 (by simp) (by simp [go_sem, mxS_zero]) (by simp [go_sem]) ?_
      intro i hi
      simp [go_sem]
      refine ⟨fun h => ?_, fun h => ?_⟩ <;> simp at h
      · have hif : i < f.length := by omega
        have hT : i < (trS f k i).length := by rw [trS_len]; exact hif
        have gT := oprt_get hT
        rw [trS_get hif] at gT
        have sT := oprt_set (trS f k i) i (alN f f.length i (k + 1))
        rw [trS_set hif] at sT
        have hT2 : i < (trS f k (i + 1)).length := by rw [trS_len]; exact hif
        have gT2 := oprt_get hT2
        have gE : (trS f k (i + 1))[i]?.getD [] = alN f f.length i (k + 1) := by simp [trS, hif]
        rw [gE] at gT2
        have w0 := alN_wok hf i k
        have w1 := alN_wok hf i (k + 1)
        have l0 := alN_small hf f.length i (j := k) (by omega)
        have l1 := alN_small6 hf f.length i (j := k + 1) (by omega)
        have cA := l13Along2_c f (alN f f.length i k) hf hs (fun F hF => part20 z3 (hf.part F hF)) (by omega) (by omega) w0 (by omega)
        have cV := l14ValueG_c (p := alN f f.length i (k + 1)) (L := P) (fun m hm => ⟨(w1 m hm).num, by rw [tl]; exact (w1 m hm).len, fun t => by
          have := (w1 m hm).get (by omega) t
          exact ⟨this.1, by omega⟩⟩) (by omega) (by omega) tr
        rw [tl] at cV
        have hdef : alN f f.length i (k + 1) = alongL f (alN f f.length i k) := rfl
        rw [← hdef] at cA
        have hM : i < (mxS (flsS f P k) (flsS f P (k + 1)) i).length := by rw [mxS_len, flsS_len]; omega
        have hi2 : i < (flsS f P k).length := by rw [flsS_len]; omega
        have hg := omat_get hM
        rw [mxS_get hi2] at hg
        have fr := flsS_row (f := f) tr k _ (memD [] hi2)
        have hset := omat_set (mxS (flsS f P k) (flsS f P (k + 1)) i) i ((flsS f P (k + 1))[i]?.getD [])
        rw [mxS_set hi2] at hset
        have hnext : (flsS f P (k + 1))[i]?.getD [] = tb (fun m => (((flsS f P k)[i]?.getD [])[m]?.getD 0 + (raiN (evS P (alN f f.length i (k + 1))) (k + 1))[m]?.getD 0) % 10007) 7 := by simp [flsS, show i < P.length by omega]
        have eN := evS_N P (alN f f.length i (k + 1))
        have el := evS_len P (alN f f.length i (k + 1))
        generalize trS f k i = T at *
        generalize eT2 : trS f k (i + 1) = T2 at *
        generalize mxS (flsS f P k) (flsS f P (k + 1)) i = M at *
        generalize eM2 : mxS (flsS f P k) (flsS f P (k + 1)) (i + 1) = M2 at *
        generalize (flsS f P (k + 1))[i]?.getD [] = new at *
        generalize (flsS f P k)[i]?.getD [] = old at *
        generalize evS P (alN f f.length i (k + 1)) = ev at *
        generalize alN f f.length i (k + 1) = a1 at *
        generalize alN f f.length i k = a0 at *
        simp [go_sem, gT]
        refine ⟨by kernel_rfl, hif, ?_⟩
        refine CallD.of (cA) (by simp [roots, rootsL]) (by decide) ?_
        simp [go_sem]
        refine ⟨hif, hT, ?_⟩
        refine ⟨by kernel_rfl, ?_⟩
        simp [go_sem]
        rw [sT]
        simp [go_sem, gT2]
        refine ⟨hif, ?_⟩
        refine CallVC.of (cV) (by decide) ?_
        simp [go_sem]
        refine loop_inv (11 :: 12 :: List.range' 58 9) (fun j : Nat => [(11, .own 2 7 (avs (raiN ev j))), (12, .int ((j + 1 : Nat) : Int))]) (fun j => j ≤ k + 1) (fun j => k + 1 - j) 0 (by simp) (by simp [go_sem, raiN]) (by simp [go_sem]) ?_
        intro j hj
        simp [go_sem]
        refine ⟨fun h => ?_, fun h => ?_⟩ <;> simp at h
        · have cR := l14Raise_c (raiN ev j) (pw ((j : Int) + 1) 10005) (raiN_N eN j) (isN_mod _) (by rw [raiN_len]; omega) (by rw [raiN_len]; omega)
          rw [raiN_len, el] at cR
          simp [go_sem]
          refine CallVC.of (l01Inv_c _ ⟨by omega, by omega⟩) (by decide) ?_
          simp [go_sem]
          refine CallVC.of (cR) (by decide) ?_
          simp [go_sem]
          exact ⟨⟨by omega, by omega⟩, j + 1, by omega, by omega, Off_reset _ _ _ (by simp), rfl, by omega⟩
        · have e : j = k + 1 := by omega
          subst e
          have cS := l02Add_c old (raiN ev (k + 1)) fr.2 (raiN_N eN _) (by omega) (by rw [raiN_len]; omega)
          have hnext2 : new = tb (fun m => (old[m]?.getD 0 + (raiN ev (k + 1))[m]?.getD 0) % 10007) old.length := by rw [fr.1]; exact hnext
          rw [raiN_len, el, ← hnext2] at cS
          have nl : new.length = old.length := by rw [hnext2]; simp
          rw [nl] at hset
          simp [go_sem, hg]
          refine ⟨hif, ?_⟩
          refine CallVC.of (cS) (by decide) ?_
          simp [go_sem]
          refine ⟨hif, hM, by omega, i + 1, by omega, by omega, (Off.reset (by intro x hx; simp at hx ⊢; omega) (by simp) (by simp [go_sem, Off_reset])), ?_⟩
          rw [eT2, eM2, ← hset]
          exact ⟨rfl, rfl, by omega⟩
      · have e : i = f.length := by omega
        have hall := mxS_all (A := flsS f P k) (C := flsS f P (k + 1)) (by rw [flsS_len, flsS_len])
        rw [flsS_len, tl] at hall
        have tall := trS_all f k
        subst e
        simp [go_sem]
        exact ⟨by omega, k + 1, by omega, by omega, (Off.reset (by intro x hx; simp at hx ⊢; omega) (by simp) (by simp [go_sem, Off_reset])), by rw [tall], by rw [hall], by omega⟩
    · have e : k = 6 := by omega
      subst e
      simp [go_sem]
      refine CallVC.of (cE) (by decide) ?_
      simp [go_sem]
end Go.Proofs.Ytngakdgkeemjhaa

/- Plain: series of lists of monomials as power series; the two flows from a point agree. -/
namespace Go.Proofs.Ytngakdgkeemjhaa
open Go.Abs CR
set_option linter.unusedVariables false
set_option linter.unusedSimpArgs false
set_option maxHeartbeats 1000000
def toS (a : List Int) : Ser Int := fun n => a[n]?.getD 0
def csum (A B : Nat → Int) (n : Nat) : Nat → Int
  | 0 => 0
  | m + 1 => csum A B n m + A m * B (n - m)
theorem csum_shift (A B : Nat → Int) (n : Nat) : ∀ m, csum A B (n + 1) (m + 1) = A 0 * B (n + 1) + csum (sh A) B n m
  | 0 => by simp [csum]
  | m + 1 => by
    rw [csum, csum_shift A B n m, csum]
    have : n + 1 - (m + 1) = n - m := by omega
    rw [this, Int.add_assoc]; rfl
theorem csum_all : ∀ (n : Nat) (A B : Nat → Int), csum A B n (n + 1) = cmul n A B
  | 0, A, B => by simp [csum, cmul]
  | n + 1, A, B => by rw [csum_shift, csum_all n, cmul]
theorem cv_csum (a b : List Int) (n : Nat) : ∀ m, cv a b n m = csum (toS a) (toS b) n m
  | 0 => rfl
  | m + 1 => by rw [cv, cv_csum a b n m]; rfl
abbrev c7 : Cg (Ser Int) := cgS cgI 7
theorem mulS_ser {a b : List Int} (ha : a.length = 7) : c7.r (toS (mulS a b)) (toS a * toS b) := by
  intro n hn
  show (toS (mulS a b) n) % 10007 = (cmul n (toS a) (toS b)) % 10007
  rw [← csum_all, ← cv_csum]
  have e := tb_get (fun n => cv a b n (n + 1) % 10007) (show n < a.length by omega)
  have e2 : toS (mulS a b) n = cv a b n (n + 1) % 10007 := e
  rw [e2, Int.emod_emod_of_dvd _ (Int.dvd_refl _)]
theorem pwS_ser {s x : List Int} (hs : s.length = 7) : ∀ n, c7.r (toS (pwS s x n)) (toS s * pwr (toS x) n)
  | 0 => c7.eq (mul1 _).symm
  | n + 1 => by
    refine c7.trans (mulS_ser (by rw [pwS_len, hs])) ?_
    refine c7.trans (c7.mul (pwS_ser hs n) (c7.refl _)) (c7.eq ?_)
    rw [pwr, mulA]
/-- A list of series, as power series. -/
def toU (L : List (List Int)) : Nat → Ser Int := fun k => toS (L[k]?.getD [])
theorem teS_ser {L : List (List Int)} {e s : List Int} (hs : s.length = 7) : ∀ d, c7.r (toS (teS L e s d)) (toS s * mon (toU L) (ex e) d)
  | 0 => c7.eq (mul1 _).symm
  | d + 1 => by
    refine c7.trans (pwS_ser (by rw [teS_len, hs]) _) ?_
    refine c7.trans (c7.mul (teS_ser hs d) (c7.refl _)) (c7.eq ?_)
    rw [mon, mulA]; rfl
theorem unS_ser (a : Int) : toS (unS a) = ofI a := funext fun n => by
  show ([a, 0, 0, 0, 0, 0, 0] : List Int)[n]?.getD 0 = if n = 0 then a else 0
  match n with
  | 0 => rfl
  | 1 => rfl
  | 2 => rfl
  | 3 => rfl
  | 4 => rfl
  | 5 => rfl
  | 6 => rfl
  | n + 7 => simp
theorem voS_ser (L : List (List Int)) : ∀ p : List Mon, c7.r (fun n => voS L n p) (evM L.length (toU L) p)
  | [] => fun n hn => by
    show (0 : Int) % 10007 = (evM L.length (toU L) [] n) % 10007
    rw [evM_nil]
    cases n <;> rfl
  | m :: p => by
    rw [evM_cons, ← unS_ser]
    have h1 := teS_ser (L := L) (e := m.2) (s := unS m.1) rfl L.length
    exact c7.add h1 (voS_ser L p)
theorem evS_ser (L : List (List Int)) (p : List Mon) : c7.r (toS (evS L p)) (evM L.length (toU L) p) := by
  refine c7.trans (fun n hn => ?_) (voS_ser L p)
  have e := tb_get (fun n => voS L n p % 10007) hn
  have e2 : toS (evS L p) n = voS L n p % 10007 := e
  show toS (evS L p) n % 10007 = voS L n p % 10007
  rw [e2, Int.emod_emod_of_dvd _ (Int.dvd_refl _)]
section
variable {α : Type} [CR α]
theorem Cg.evM (c : Cg α) {d : Nat} {U V : Nat → α} (h : ∀ k, k < d → c.r (U k) (V k)) (L : List Mon) : c.r (evM d U L) (evM d V L) := c.ev h _
/-- One variable. -/
theorem mon_zero (U : Nat → α) {e : Nat → Nat} : ∀ {d : Nat}, (∀ j, j < d → e j = 0) → mon U e d = ofI 1
  | 0, _ => rfl
  | d + 1, h => by rw [mon, mon_zero U (fun j hj => h j (by omega)), h d (by omega), pwr, mul1]
theorem mon_one (U : Nat → α) {e : Nat → Nat} {k : Nat} (h1 : e k = 1) (h0 : ∀ j, j ≠ k → e j = 0) : ∀ {d : Nat}, k < d → mon U e d = U k
  | 0, h => by omega
  | d + 1, h => by
    rw [mon]
    by_cases hk : k = d
    · subst hk
      rw [mon_zero U (fun j hj => h0 j (by omega)), h1, omul, pwr, pwr, omul]
    · rw [mon_one U h1 h0 (show k < d by omega), h0 d (fun e => hk e.symm), pwr, mul1]
theorem ex_one {n k : Nat} (h : k < n) : ex (oneE n k) k = 1 ∧ ∀ j, j ≠ k → ex (oneE n k) j = 0 := by
  refine ⟨by simp [ex, oneE, h], fun j hj => ?_⟩
  unfold ex oneE
  rw [List.getElem?_set_ne (Ne.symm hj)]
  by_cases hjn : j < n
  · simp [hjn]
  · simp [List.getElem?_eq_none (show (List.replicate n (0 : Int)).length ≤ j by simp; omega)]
theorem evM_one (U : Nat → α) {d k : Nat} (h : k < d) : evM d U [(1, oneE d k)] = U k := by
  rw [evM_cons, evM_nil, add0, omul]
  exact mon_one U (ex_one h).1 (ex_one h).2 h
/-- At numbers. -/
theorem pwr_of (c : Int) : ∀ n, pwr (ofI c : α) n = ofI (pwr c n)
  | 0 => rfl
  | n + 1 => by rw [pwr, pwr_of c n, pwr, ← ofMul]
theorem mon_of (U : Nat → Int) (e : Nat → Nat) : ∀ d, mon (fun k => (ofI (U k) : α)) e d = ofI (mon U e d)
  | 0 => rfl
  | d + 1 => by rw [mon, mon_of U e d, pwr_of, mon, ← ofMul]
theorem evM_of (U : Nat → Int) (d : Nat) : ∀ L : List Mon, evM d (fun k => (ofI (U k) : α)) L = ofI (evM d U L)
  | [] => rfl
  | m :: L => by
    rw [evM_cons, evM_of U d L, mon_of, evM_cons, ofAdd, ofMul]; rfl
end
theorem alN_repeat (f : List (List Mon)) (n k : Nat) : ∀ j, alN f n k j = Nat.repeat (alongL f) j [(1, oneE n k)]
  | 0 => rfl
  | j + 1 => by rw [alN, alN_repeat f n k j]; rfl
theorem FieldOk.lok {z : Int} {f : List (List Mon)} (hf : FieldOk z f) : ∀ F ∈ f, LOk f.length F := fun F hF m hm => ⟨(hf.wok F hF m hm).len, fun x hx => ((hf.wok F hF m hm).pw x hx).1⟩
theorem oneE_lok (n k : Nat) : LOk n [(1, oneE n k)] := fun m hm => by
  simp at hm; subst hm
  exact ⟨oneE_wok.len, fun x hx => (oneE_wok (n := n) (k := k).pw x hx).1⟩
/-- Inverses of the first numbers. -/
theorem inv_6 : ∀ n : Nat, n < 6 → ((n + 1 : Nat) : Int) * pw ((n : Int) + 1) 10005 % 10007 = 1 := by
  have h : ∀ n ∈ List.range 6, ((n + 1 : Nat) : Int) * pw ((n : Int) + 1) 10005 % 10007 = 1 := by decide +kernel
  exact fun n hn => h n (by simpa using hn)
def ift : Nat → Int
  | 0 => 1
  | n + 1 => ift n * pw ((n : Int) + 1) 10005
theorem ift_fct : ∀ n : Nat, n ≤ 6 → ift n * fct n % 10007 = 1
  | 0, _ => by decide
  | n + 1, h => by
    have h1 := ift_fct n (by omega)
    have h2 := inv_6 n (by omega)
    have e : ift (n + 1) * fct (n + 1) = (ift n * fct n) * (((n + 1 : Nat) : Int) * pw ((n : Int) + 1) 10005) := by
      rw [ift, fct, show ((n + 1 : Nat) : Int) = (n : Int) + 1 by omega]
      generalize pw ((n : Int) + 1) 10005 = w
      ac_rfl
    rw [e, Int.mul_emod, h1, h2]; rfl
/-- The program's flow: numbers once set stay. -/
theorem floS_at {f : List (List Mon)} {y : List Int} (n : Nat) {k : Nat} (hk : k < y.length) : (floS f y (n + 1))[k]?.getD [] = ((floS f y n)[k]?.getD []).set (n + 1) (((fdS (floS f y n) f)[k]?.getD [])[n]?.getD 0 * pw ((n : Int) + 1) 10005 % 10007) := by
  simp [floS, hk]
theorem floS_keep {f : List (List Mon)} {y : List Int} {k j : Nat} (hk : k < y.length) (n : Nat) (hj : j ≤ n) : ∀ m, ((floS f y (n + m))[k]?.getD [])[j]?.getD 0 = ((floS f y n)[k]?.getD [])[j]?.getD 0
  | 0 => rfl
  | m + 1 => by
    rw [← Nat.add_assoc, floS_at (n + m) hk, List.getElem?_set_ne (by omega), floS_keep hk n hj m]
theorem floS_new {f : List (List Mon)} {y : List Int} {n k : Nat} (hy : Ns y) (hk : k < y.length) (hf : k < f.length) (hn : n < 6) : ((floS f y (n + 1))[k]?.getD [])[n + 1]?.getD 0 = (evS (floS f y n) (f[k]?.getD []))[n]?.getD 0 * pw ((n : Int) + 1) 10005 % 10007 := by
  have hr := (floS_row (f := f) hy n _ (memD [] (show k < (floS f y n).length by rw [floS_len]; exact hk))).1
  have e : (fdS (floS f y n) f)[k]?.getD [] = evS (floS f y n) (f[k]?.getD []) := by simp [fdS, hf]
  rw [floS_at n hk, e, List.getElem?_set_self (by omega)]; rfl
theorem floS_ode {z : Int} {f : List (List Mon)} {y : List Int} (hf : FieldOk z f) (hl : y.length = f.length) (hy : Ns y) : ∀ k, k < f.length → ∀ n, n < 6 → cgI.r (ofI ((n + 1 : Nat) : Int) * toU (floS f y 6) k (n + 1)) (evM f.length (toU (floS f y 6)) (f[k]?.getD []) n) := by
  intro k hk n hn
  have hky : k < y.length := by omega
  have e1 : toU (floS f y 6) k (n + 1) = (evS (floS f y n) (f[k]?.getD []))[n]?.getD 0 * pw ((n : Int) + 1) 10005 % 10007 := by
    rw [← floS_new hy hky hk hn]
    have := floS_keep (f := f) hky (n + 1) (Nat.le_refl _) (6 - (n + 1))
    rw [show n + 1 + (6 - (n + 1)) = 6 by omega] at this
    exact this
  have e2 : cgI.r ((evS (floS f y n) (f[k]?.getD []))[n]?.getD 0) (evM f.length (toU (floS f y 6)) (f[k]?.getD []) n) := by
    have h1 := evS_ser (floS f y n) (f[k]?.getD []) n (by omega)
    rw [floS_len, hl] at h1
    refine cgI.trans h1 ?_
    refine (cgS cgI (n + 1)).evM (U := toU (floS f y n)) (V := toU (floS f y 6)) (fun j hj i hi => ?_) (f[k]?.getD []) n (by omega)
    have := floS_keep (f := f) (show j < y.length by omega) n (show i ≤ n by omega) (6 - n)
    rw [show n + (6 - n) = 6 by omega] at this
    exact cgI.eq this.symm
  rw [e1]
  refine cgI.trans ?_ e2
  have h3 := inv_6 n hn
  generalize (evS (floS f y n) (f[k]?.getD []))[n]?.getD 0 = v at *
  generalize pw ((n : Int) + 1) 10005 = w at *
  show (((n + 1 : Nat) : Int) * (v * w % 10007)) % 10007 = v % 10007
  have e : ((n + 1 : Nat) : Int) * (v * w) = v * (((n + 1 : Nat) : Int) * w) := by ac_rfl
  rw [Int.mul_emod, Int.emod_emod_of_dvd _ (Int.dvd_refl _), ← Int.mul_emod, e, Int.mul_emod, h3, Int.mul_one, Int.emod_emod_of_dvd _ (Int.dvd_refl _)]
theorem poS_at {y : List Int} {k : Nat} (hk : k < y.length) : (poS y)[k]?.getD [] = unS (y[k]?.getD 0) := by simp [poS, hk]
/-- What the program's flow is. -/
theorem floS_is {z : Int} {f : List (List Mon)} {y : List Int} (hf : FieldOk z f) (hl : y.length = f.length) (hy : Ns y) {k n : Nat} (hk : k < f.length) (hn : n ≤ 6) :
    cgI.r (fct n * ((floS f y 6)[k]?.getD [])[n]?.getD 0) (evM f.length (fun k => y[k]?.getD 0) (alN f f.length k n)) := by
  have h := flow_is cgI (d := f.length) (N := 6) (U := toU (floS f y 6)) rfl hf.lok (floS_ode hf hl hy) n [(1, oneE f.length k)] hn (oneE_lok _ _)
  rw [evM_one _ hk, ← alN_repeat] at h
  refine cgI.trans h (cgI.evM (fun j hj => cgI.eq ?_) _)
  have := floS_keep (f := f) (show j < y.length by omega) 0 (Nat.le_refl 0) 6
  rw [Nat.zero_add] at this
  show ((floS f y 6)[j]?.getD [])[0]?.getD 0 = y[j]?.getD 0
  rw [this, floS, poS_at (by omega)]; rfl
/-- The reference's terms. -/
theorem rakS_at {a : List Int} {k : Int} {n : Nat} (hn : n < a.length) : (rakS a k)[n]?.getD 0 = if n = 0 then 0 else a[n - 1]?.getD 0 * k % 10007 := tb_get _ hn
theorem raiN_at {a : List Int} (ha : a.length = 7) : ∀ t n, n < 7 → cgI.r ((raiN a t)[n]?.getD 0) (if t ≤ n then ift t * a[n - t]?.getD 0 else 0)
  | 0, n, hn => cgI.eq (by simp [raiN, ift])
  | t + 1, n, hn => by
    rw [raiN, rakS_at (by rw [raiN_len, ha]; exact hn)]
    by_cases h0 : n = 0
    · subst h0; exact cgI.eq (by simp)
    · have ih := raiN_at ha t (n - 1) (by omega)
      rw [if_neg h0]
      by_cases ht : t + 1 ≤ n
      · rw [if_pos (by omega)] at ih
        rw [if_pos ht, ift, show n - (t + 1) = n - 1 - t by omega]
        have e : ift t * pw ((t : Int) + 1) 10005 * a[n - 1 - t]?.getD 0 = ift t * a[n - 1 - t]?.getD 0 * pw ((t : Int) + 1) 10005 := by generalize pw ((t : Int) + 1) 10005 = w; ac_rfl
        rw [e]
        refine cgI.trans (b := (raiN a t)[n - 1]?.getD 0 * pw ((t : Int) + 1) 10005) ?_ (cgI.mul ih (cgI.refl _))
        exact Int.emod_emod_of_dvd _ (Int.dvd_refl _)
      · rw [if_neg (by omega)] at ih
        rw [if_neg ht]
        refine cgI.trans (b := (raiN a t)[n - 1]?.getD 0 * pw ((t : Int) + 1) 10005) (Int.emod_emod_of_dvd _ (Int.dvd_refl _)) ?_
        refine cgI.trans (cgI.mul ih (cgI.refl _)) (cgI.eq (Int.zero_mul _))
/-- The sum of the first terms of the reference's flow. -/
def gT (f : List (List Mon)) (P : List (List Int)) (k m t : Nat) : Int := if t ≤ m then ift t * (evS P (alN f f.length k t))[m - t]?.getD 0 else 0
theorem flsS_at {f : List (List Mon)} {P : List (List Int)} {k m : Nat} (hk : k < P.length) (hP : P.length = f.length) (hm : m < 7) : ∀ n, cgI.r (((flsS f P n)[k]?.getD [])[m]?.getD 0) (sT (gT f P k m) (n + 1))
  | 0 => by
    have h := evS_ser P (alN f f.length k 0) m hm
    rw [hP, alN, evM_one _ (by omega)] at h
    show cgI.r ((P[k]?.getD [])[m]?.getD 0) (ofI 0 + gT f P k m 0)
    rw [zadd]
    unfold gT
    rw [if_pos (by omega), ift, Int.one_mul, Nat.sub_zero]
    exact cgI.symm h
  | n + 1 => by
    rw [sT]
    have e : (flsS f P (n + 1))[k]?.getD [] = tb (fun m => (((flsS f P n)[k]?.getD [])[m]?.getD 0 + (raiN (evS P (alN f f.length k (n + 1))) (n + 1))[m]?.getD 0) % 10007) 7 := by simp [flsS, hk]
    rw [e, tb_get _ hm]
    refine cgI.trans (Int.emod_emod_of_dvd _ (Int.dvd_refl _)) ?_
    exact cgI.add (flsS_at hk hP hm n) (raiN_at (evS_len _ _) (n + 1) m hm)
theorem sT_only (g : Nat → Int) (m : Nat) : ∀ n, m < n → (∀ t, t ≠ m → g t % 10007 = 0) → cgI.r (sT g n) (g m)
  | 0, h, _ => by omega
  | n + 1, h, hz => by
    have zero : ∀ j, (∀ t, t < j → g t % 10007 = 0) → cgI.r (sT g j) 0 := by
      intro j
      induction j with
      | zero => intro _; exact cgI.refl _
      | succ j ih =>
        intro hj
        exact cgI.trans (cgI.add (ih (fun t ht => hj t (by omega))) (show cgI.r (g j) 0 from hj j (by omega))) (cgI.eq (Int.add_zero _))
    rw [sT]
    by_cases e : m = n
    · subst e
      exact cgI.trans (cgI.add (zero m (fun t ht => hz t (by omega))) (cgI.refl _)) (cgI.eq (Int.zero_add _))
    · have h0 : cgI.r (g n) 0 := hz n (fun x => e x.symm)
      exact cgI.trans (cgI.add (sT_only g m n (by omega) hz) h0) (cgI.eq (Int.add_zero _))
/-- At a point. -/
theorem evS_point {y : List Int} (p : List Mon) {j : Nat} (hj : j < 7) : cgI.r ((evS (poS y) p)[j]?.getD 0) (if j = 0 then evM y.length (fun k => y[k]?.getD 0) p else 0) := by
  have h := evS_ser (poS y) p j hj
  rw [poS_len] at h
  refine cgI.trans h ?_
  have e : c7.r (evM y.length (toU (poS y)) p) (evM y.length (fun k => (ofI (y[k]?.getD 0) : Ser Int)) p) := c7.evM (fun k hk => c7.eq (by
    show toS ((poS y)[k]?.getD []) = _
    rw [poS_at hk, unS_ser])) p
  refine cgI.trans (e j hj) (cgI.eq ?_)
  rw [evM_of]; rfl
theorem flows_agree {z : Int} {f : List (List Mon)} {y : List Int} (hf : FieldOk z f) (hl : y.length = f.length) (hy : Ns y) : floS f y 6 = flsS f (poS y) 6 := by
  refine List.ext_getElem (by simp) fun k h1 h2 => ?_
  have hk : k < y.length := by simpa using h1
  have r1 := floS_row (f := f) hy 6 _ (memD [] h1)
  have r2 := flsS_row (f := f) (poS_row hy) 6 _ (memD [] h2)
  have e1 : (floS f y 6)[k]?.getD [] = (floS f y 6)[k] := by rw [List.getElem?_eq_getElem h1]; rfl
  have e2 : (flsS f (poS y) 6)[k]?.getD [] = (flsS f (poS y) 6)[k] := by rw [List.getElem?_eq_getElem h2]; rfl
  rw [← e1, ← e2]
  refine List.ext_getElem (by rw [r1.1, r2.1]) fun m m1 m2 => ?_
  have hm : m < 7 := by rw [r1.1] at m1; exact m1
  have a1 := floS_is hf hl hy (k := k) (n := m) (by omega) (by omega)
  have a2 := flsS_at (f := f) (P := poS y) (k := k) (m := m) (by simp; exact hk) (by simp; exact hl) hm 6
  have a3 : cgI.r (sT (gT f (poS y) k m) 7) (gT f (poS y) k m m) := sT_only _ m 7 (by omega) (fun t ht => by
    unfold gT
    split
    · have h := evS_point (y := y) (alN f f.length k t) (j := m - t) (by omega)
      rw [if_neg (by omega)] at h
      have h : (evS (poS y) (alN f f.length k t))[m - t]?.getD 0 % 10007 = 0 := h
      rw [Int.mul_emod, h]; simp
    · rfl)
  have a4 : cgI.r (gT f (poS y) k m m) (ift m * evM f.length (fun k => y[k]?.getD 0) (alN f f.length k m)) := by
    unfold gT
    rw [if_pos (Nat.le_refl _), Nat.sub_self]
    have h := evS_point (y := y) (alN f f.length k m) (j := 0) (by omega)
    rw [if_pos rfl, hl] at h
    exact cgI.mul (cgI.refl _) h
  have a5 : cgI.r (((floS f y 6)[k]?.getD [])[m]?.getD 0) (ift m * evM f.length (fun k => y[k]?.getD 0) (alN f f.length k m)) := by
    refine cgI.trans ?_ (cgI.mul (cgI.refl (ift m)) a1)
    have h := ift_fct m (by omega)
    generalize ((floS f y 6)[k]?.getD [])[m]?.getD 0 = x
    show x % 10007 = (ift m * (fct m * x)) % 10007
    rw [← Int.mul_assoc, Int.mul_emod, h, Int.one_mul, Int.emod_emod_of_dvd _ (Int.dvd_refl _)]
  have a6 : ((floS f y 6)[k]?.getD [])[m]?.getD 0 % 10007 = ((flsS f (poS y) 6)[k]?.getD [])[m]?.getD 0 % 10007 := cgI.trans a5 (cgI.symm (cgI.trans a2 (cgI.trans a3 a4)))
  have n1 := r1.2.get m
  have n2 := r2.2.get m
  obtain ⟨x0, x1⟩ := n1
  obtain ⟨x2, x3⟩ := n2
  have a7 : ((floS f y 6)[k]?.getD [])[m]?.getD 0 = ((flsS f (poS y) 6)[k]?.getD [])[m]?.getD 0 := by omega
  rw [List.getElem?_eq_getElem m1, List.getElem?_eq_getElem m2] at a7
  exact a7
end Go.Proofs.Ytngakdgkeemjhaa

/- Contracts: flows from a point, the program's and the reference's. -/
namespace Go.Proofs.Ytngakdgkeemjhaa
open Go.Abs
set_option linter.unusedVariables false
set_option linter.unusedSimpArgs false
set_option maxHeartbeats 1000000
/-- A code for a field and a point. -/
def fpE (z : Int) (f : List (List Mon)) (y : List Int) : Int := if fieldB z f = true then if vecB z y = true then 0 else 2 else 1
theorem fpE_ok {z : Int} {f : List (List Mon)} {y : List Int} (h : fpE z f y = 0) : FieldOk z f ∧ (y.length : Int) = z ∧ Ns y := by
  unfold fpE at h
  split at h
  · rename_i hF
    split at h
    · rename_i hV
      unfold vecB at hV
      simp only [Bool.and_eq_true, decide_eq_true_eq] at hV
      exact ⟨fieldB_iff.1 hF, hV.1, numsB_N.1 hV.2⟩
    · simp at h
  · simp at h
theorem chk_one (z : Int) (f : List (List Mon)) (y : List Int) : chk z f [y] = fpE z f y := by
  unfold chk fpE
  cases hV : vecB z y <;> simp [hV]
def fsX (z : Int) (f : List (List Mon)) (y : List Int) : List (List Int) := if fpE z f y = 0 then turnS (floS f y 6) else []
def fsR (z : Int) (f : List (List Mon)) (y : List Int) : AV := .tup [.own 23 (fsX z f y).length (omat (fsX z f y)), .int (fpE z f y)]
theorem flo_turn {f : List (List Mon)} {y : List Int} (y1 : 1 ≤ y.length) (hy : Ns y) (n : Nat) : (turnS (floS f y n)).length = 7 ∧ ∀ r ∈ turnS (floS f y n), r.length = y.length ∧ Ns r := by
  have sr := floS_row (f := f) hy n
  have s0 := memD (i := 0) [] (l := floS f y n) (by rw [floS_len]; omega)
  refine ⟨by rw [turnS_len, (sr _ s0).1], fun r h => ?_⟩
  have := turnS_row rfl (fun r h => (sr r h).2) r h
  rw [floS_len] at this
  exact this
theorem fsX_row {z : Int} {f : List (List Mon)} {y : List Int} (h : fpE z f y = 0) : (fsX z f y).length = 7 ∧ ∀ r ∈ fsX z f y, r.length = y.length ∧ Ns r := by
  obtain ⟨hF, hl, hN⟩ := fpE_ok h
  have z1 := hF.lo
  unfold fsX
  rw [if_pos h]
  exact flo_turn (by omega) hN 6
theorem fsX_ok (z : Int) (f : List (List Mon)) (y : List Int) : (fsX z f y).length ≤ 7 ∧ ∀ r ∈ fsX z f y, r.length ≤ 3 := by
  by_cases h : fpE z f y = 0
  · obtain ⟨hF, hl, hN⟩ := fpE_ok h
    have z3 := hF.hi
    obtain ⟨e1, e2⟩ := fsX_row h
    exact ⟨by omega, fun r hr => by have := (e2 r hr).1; omega⟩
  · unfold fsX
    rw [if_neg h]
    simp
set_option maxRecDepth 100000 in
theorem FlowSeries_c (z : Int) (f : List (List Mon)) (y : List Int) (hs : Small f) (hy : y.length ≤ 1048576) :
    Con Try.prog 38 [.agg [.int z, .sl f.length (prt f)], .sl y.length (avs y)] (fsR z f y) := by
  have cK := checkVectors_c z f [y] hs (by simp) (by simp; omega)
  have e1 : mat [y] = [.sl y.length (avs y)] := rfl
  have e2 : ([y] : List (List Int)).length = 1 := rfl
  rw [e1, e2, chk_one] at cK
  unfold fsR fsX
  have hz := @fpE_ok z f y
  generalize fpE z f y = e at *
  by_cases he : e = 0
  · subst he
    obtain ⟨hF, hl, hN⟩ := hz rfl
    have z1 := hF.lo
    have z3 := hF.hi
    have zl := hF.len
    have cP := polynomials_c z f hF hs
    have cL := flow_c f y hF hs hl hN
    obtain ⟨t1, t2⟩ := flo_turn (f := f) (by omega) hN 6
    have sl := floS_len f y 6
    have sr := floS_row (f := f) hN 6
    have s0 := memD (i := 0) [] (l := floS f y 6) (by omega)
    have s7 := (sr _ s0).1
    have cE := turned_c (floS f y 6) (by omega) (by omega) (fun r h => by have := (sr r h).1; omega) (by omega)
    rw [sl] at cE
    rw [if_pos rfl]
    generalize turnS (floS f y 6) = X at *
    generalize floS f y 6 = E at *
    refine con_of_vc Try.mixed ⟨7, [], [], []⟩ Try.func38 (by decide) rfl (by simp) (by decide) (by simp [freshOK, freshL, go_sem]) ?_
    rw [Try.ntmps38]
    simp [go_sem]
    refine CallVC.of (cK) (by decide) ?_
    simp [go_sem]
    refine CallVC.of (cP) (by decide) ?_
    simp [go_sem]
    refine CallVC.of (cL) (by decide) ?_
    simp [go_sem]
    refine CallVC.of (cE) (by decide) ?_
    simp [go_sem]
  · rw [if_neg he]
    refine Con.n1 _ ?_
    refine con_of_vc Try.mixed ⟨7, [], [], []⟩ Try.func38 (by decide) rfl (by simp) (by decide) (by simp [freshOK, freshL, go_sem]) ?_
    rw [Try.ntmps38]
    simp [go_sem]
    refine CallVC.of (cK) (by decide) ?_
    simp [go_sem]
    simp [go_sem, he]
set_option maxRecDepth 100000 in
theorem specFlowSeries_c (z : Int) (f : List (List Mon)) (y : List Int) (hs : Small f) (hy : y.length ≤ 1048576) :
    Con Try.prog 37 [.agg [.int z, .sl f.length (prt f)], .sl y.length (avs y)] (fsR z f y) := by
  have cT := l13Is_c z f hs
  have cR := l13Point_c z y (by omega)
  have hvb : (decide ((y.length : Int) = z) && numsB y) = vecB z y := rfl
  rw [hvb] at cR
  unfold fsR fsX
  have hz := @fpE_ok z f y
  have hd : fpE z f y = if fieldB z f = true then if vecB z y = true then 0 else 2 else 1 := rfl
  generalize fpE z f y = e at *
  by_cases he : e = 0
  · subst he
    obtain ⟨hF, hl, hN⟩ := hz rfl
    have z1 := hF.lo
    have z3 := hF.hi
    have zl := hF.len
    have cU := l14Start_c y hy
    have cL := l14Flow_c f (stV y) hF hs (stV_len y) (fun r h => by rw [← hl]; have := stV_row hN r h; exact ⟨by omega, this.2⟩)
    rw [stV_len, turn_stV, ← flows_agree hF (by omega) hN] at cL
    obtain ⟨t1, t2⟩ := flo_turn (f := f) (by omega) hN 6
    rw [if_pos rfl, t1]
    generalize turnS (floS f y 6) = X at *
    generalize stV y = U at *
    cases hT : fieldB z f with
    | false => rw [hT] at hd; simp at hd
    | true =>
      cases hV : vecB z y with
      | false => rw [hT, hV] at hd; simp at hd
      | true =>
        rw [hT] at cT
        rw [hV] at cR
        refine con_of_vc Try.mixed ⟨6, [], [], []⟩ Try.func37 (by decide) rfl (by simp) (by decide) (by simp [freshOK, freshL, go_sem]) ?_
        rw [Try.ntmps37]
        simp [go_sem]
        refine CallVC.of (cT) (by decide) ?_
        simp [go_sem]
        refine CallVC.of (cR) (by decide) ?_
        simp [go_sem]
        refine ⟨by kernel_rfl, ?_⟩
        refine CallD.of (cU) (by simp [roots, rootsL]) (by decide) ?_
        simp [go_sem]
        refine CallD.of (cL) (by simp [roots, rootsL]) (by decide) ?_
        simp [go_sem]
        refine ⟨by kernel_rfl, ?_⟩
        simp [go_sem]
  · rw [if_neg he]
    refine Con.n1 _ ?_
    clear hz
    cases hT : fieldB z f with
    | false =>
      rw [hT] at hd cT
      simp at hd
      subst hd
      refine con_of_vc Try.mixed ⟨6, [], [], []⟩ Try.func37 (by decide) rfl (by simp) (by decide) (by simp [freshOK, freshL, go_sem]) ?_
      rw [Try.ntmps37]
      simp [go_sem]
      refine CallVC.of (cT) (by decide) ?_
      simp [go_sem]
    | true =>
      cases hV : vecB z y with
      | false =>
        rw [hT, hV] at hd
        rw [hT] at cT
        rw [hV] at cR
        simp at hd
        subst hd
        refine con_of_vc Try.mixed ⟨6, [], [], []⟩ Try.func37 (by decide) rfl (by simp) (by decide) (by simp [freshOK, freshL, go_sem]) ?_
        rw [Try.ntmps37]
        simp [go_sem]
        refine CallVC.of (cT) (by decide) ?_
        simp [go_sem]
        refine CallVC.of (cR) (by decide) ?_
        simp [go_sem]
      | true =>
        rw [hT, hV] at hd
        simp at hd
        exact absurd hd he
end Go.Proofs.Ytngakdgkeemjhaa

/- Contracts: the derivatives of flows, the program's and the reference's. -/
namespace Go.Proofs.Ytngakdgkeemjhaa
open Go.Abs
set_option linter.unusedVariables false
set_option linter.unusedSimpArgs false
set_option maxHeartbeats 1000000
theorem l03Factorial_c (n : Nat) (h : n ≤ 20) : Con Try.prog 93 [.int n] (.int (fact n)) := by
  refine con_of_vc Try.mixed ⟨5, [], [], []⟩ Try.func93 (by decide) rfl (by simp) (by decide) (by simp [freshOK, freshL, go_sem]) ?_
  rw [Try.ntmps93]
  simp [go_sem]
  refine loop_inv (List.range' 2 20) (fun k : Nat => [(3, .int (fact (k + 1))), (4, .int (k + 2))]) (fun k => k ≤ n - 1) (fun k => n - k) 0 (by simp) (by simp [go_sem]; decide) (by simp [go_sem]) ?_
  intro k hk
  simp [go_sem]
  refine ⟨fun h => ?_, fun h => ?_⟩ <;> simp at h
  · have e : fact (k + 1) * ((k : Int) + 2) = fact (k + 1 + 1) := by simp only [fact]; rw [show ((k + 1 : Nat) : Int) + 1 = (k : Int) + 2 by omega]
    have b := fact_20 (show k + 1 + 1 ≤ 20 by omega)
    simp [go_sem, e]
    refine ⟨by omega, by omega, k + 1, by omega, by omega, Off_reset _ _ _ (by simp), rfl, by omega⟩
  · simp [go_sem]
    rcases (show k = 0 ∧ n ≤ 1 ∨ k + 1 = n by omega) with ⟨rfl, _⟩ | hk
    · have : n = 0 ∨ n = 1 := by omega
      rcases this with rfl | rfl <;> rfl
    · rw [hk]
/-- The derivatives: each vector by its factorial. -/
def deS (L : List (List Int)) : List (List Int) := (List.range L.length).map fun n => scalS (L[n]?.getD []) (fact n)
@[simp] theorem deS_len (L : List (List Int)) : (deS L).length = L.length := by simp [deS]
theorem deS_at {L : List (List Int)} {n : Nat} (h : n < L.length) : (deS L)[n]?.getD [] = scalS (L[n]?.getD []) (fact n) := by simp [deS, h]
theorem fact_6 {n : Nat} (h : n ≤ 6) : 0 ≤ fact n ∧ fact n ≤ 720 := ⟨by have := fact_pos n; omega, Int.le_trans (fact_le h) (by decide)⟩
def dvX (z : Int) (f : List (List Mon)) (y : List Int) : List (List Int) := deS (fsX z f y)
def dvR (z : Int) (f : List (List Mon)) (y : List Int) : AV := .tup [.own 23 (dvX z f y).length (omat (dvX z f y)), .int (fpE z f y)]
theorem dvX_ok (z : Int) (f : List (List Mon)) (y : List Int) : (dvX z f y).length ≤ 7 ∧ ∀ r ∈ dvX z f y, r.length ≤ 3 := by
  obtain ⟨h1, h2⟩ := fsX_ok z f y
  refine ⟨by unfold dvX; rw [deS_len]; exact h1, fun r hr => ?_⟩
  obtain ⟨n, hn, rfl⟩ := List.mem_map.1 hr
  rw [scalS_len]
  exact h2 _ (memD [] (by simpa using hn))
theorem fsX_bad {z : Int} {f : List (List Mon)} {y : List Int} (h : fpE z f y ≠ 0) : fsX z f y = [] := by unfold fsX; rw [if_neg h]
set_option maxRecDepth 100000 in
theorem DerivativesOf_c (z : Int) (f : List (List Mon)) (y : List Int) (hs : Small f) (hy : y.length ≤ 1048576) :
    Con Try.prog 42 [.agg [.int z, .sl f.length (prt f)], .sl y.length (avs y)] (dvR z f y) := by
  have c := FlowSeries_c z f y hs hy
  unfold fsR at c
  unfold dvR dvX
  by_cases he : fpE z f y = 0
  · obtain ⟨l7, hr⟩ := fsX_row he
    obtain ⟨_, r3⟩ := fsX_ok z f y
    rw [deS_len]
    rw [he] at c ⊢
    generalize fsX z f y = L at *
    refine con_of_vc Try.mixed ⟨9, [], [], []⟩ Try.func42 (by decide) rfl (by simp) (by decide) (by simp [freshOK, freshL, go_sem]) ?_
    rw [Try.ntmps42]
    simp [go_sem]
    refine CallVC.of (c) (by decide) ?_
    simp [go_sem]
    refine loop_inv (6 :: 8 :: List.range' 20 14) (fun n : Nat => [(6, .own 23 L.length (omat (mxS L (deS L) n))), (20, .int n)]) (fun n => n ≤ L.length) (fun n => L.length - n) 0 (by simp) (by simp [go_sem, mxS_zero]) (by simp [go_sem]) ?_
    intro n hn
    simp [go_sem]
    refine ⟨fun h => ?_, fun h => ?_⟩ <;> simp at h
    · have hnl := h
      have hM : n < (mxS L (deS L) n).length := by rw [mxS_len]; exact hnl
      have hg := omat_get hM
      rw [mxS_get hnl] at hg
      have hset := omat_set (mxS L (deS L) n) n ((deS L)[n]?.getD [])
      rw [mxS_set hnl, deS_at hnl, scalS_len] at hset
      have hx := hr _ (memD [] hnl)
      have hx3 := r3 _ (memD [] hnl)
      have f6 := fact_6 (n := n) (by omega)
      have cF := factorial_c n (by omega)
      have cS := scaled_c (L[n]?.getD []) (fact n) hx.2 ⟨by omega, by omega⟩ (by omega)
      generalize mxS L (deS L) n = M at *
      generalize eM : mxS L (deS L) (n + 1) = M2 at *
      simp [go_sem, hg]
      refine ⟨by kernel_rfl, hnl, ?_⟩
      refine CallD.of (cF) (by simp [roots, rootsL]) (by decide) ?_
      simp [go_sem]
      simp [go_sem, hg]
      refine CallD.of (cS) (by simp [roots, rootsL]) (by decide) ?_
      simp [go_sem]
      refine ⟨hnl, hM, ?_⟩
      refine ⟨by kernel_rfl, ?_⟩
      simp [go_sem]
      refine ⟨by omega, n + 1, by omega, by omega, Off_reset _ _ _ (by simp), ?_⟩
      rw [eM, ← hset]
      exact ⟨rfl, by omega⟩
    · have e : n = L.length := by omega
      have hall := mxS_all (A := L) (C := deS L) (by simp)
      subst e
      simp [go_sem]
      rw [hall]
  · rw [fsX_bad he] at c ⊢
    generalize fpE z f y = e at *
    refine Con.n1 _ ?_
    refine con_of_vc Try.mixed ⟨9, [], [], []⟩ Try.func42 (by decide) rfl (by simp) (by decide) (by simp [freshOK, freshL, go_sem]) ?_
    rw [Try.ntmps42]
    simp [go_sem]
    refine CallVC.of (c) (by decide) ?_
    simp [go_sem]
    simp [go_sem, he]
set_option maxRecDepth 100000 in
theorem specDerivativesOf_c (z : Int) (f : List (List Mon)) (y : List Int) (hs : Small f) (hy : y.length ≤ 1048576) :
    Con Try.prog 41 [.agg [.int z, .sl f.length (prt f)], .sl y.length (avs y)] (dvR z f y) := by
  have c := specFlowSeries_c z f y hs hy
  unfold fsR at c
  unfold dvR dvX
  by_cases he : fpE z f y = 0
  · obtain ⟨l7, hr⟩ := fsX_row he
    obtain ⟨_, r3⟩ := fsX_ok z f y
    rw [deS_len]
    rw [he] at c ⊢
    generalize fsX z f y = L at *
    refine con_of_vc Try.mixed ⟨9, [], [], []⟩ Try.func41 (by decide) rfl (by simp) (by decide) (by simp [freshOK, freshL, go_sem]) ?_
    rw [Try.ntmps41]
    simp [go_sem]
    refine CallVC.of (c) (by decide) ?_
    simp [go_sem]
    refine loop_inv (6 :: 8 :: List.range' 18 14) (fun n : Nat => [(6, .own 23 L.length (omat (mxS L (deS L) n))), (8, .int n)]) (fun n => n ≤ L.length) (fun n => L.length - n) 0 (by simp) (by simp [go_sem, mxS_zero]) (by simp [go_sem]) ?_
    intro n hn
    simp [go_sem]
    refine ⟨fun h => ?_, fun h => ?_⟩ <;> simp at h
    · have hnl : n < L.length := by omega
      have hM : n < (mxS L (deS L) n).length := by rw [mxS_len]; exact hnl
      have hg := omat_get hM
      rw [mxS_get hnl] at hg
      have hset := omat_set (mxS L (deS L) n) n ((deS L)[n]?.getD [])
      rw [mxS_set hnl, deS_at hnl, scalS_len] at hset
      have hx := hr _ (memD [] hnl)
      have hx3 := r3 _ (memD [] hnl)
      have f6 := fact_6 (n := n) (by omega)
      have cF := l03Factorial_c n (by omega)
      have cS := l02Times_c (L[n]?.getD []) (fact n) hx.2 ⟨by omega, by omega⟩ (by omega)
      have e : tb (fun i => (L[n]?.getD [])[i]?.getD 0 * fact n % 10007) (L[n]?.getD []).length = scalS (L[n]?.getD []) (fact n) := by
        unfold scalS
        rw [Int.emod_eq_of_lt f6.1 (by omega)]
      rw [e] at cS
      generalize mxS L (deS L) n = M at *
      generalize eM : mxS L (deS L) (n + 1) = M2 at *
      simp [go_sem, hg]
      refine ⟨by kernel_rfl, hnl, ?_⟩
      refine CallD.of (cF) (by simp [roots, rootsL]) (by decide) ?_
      simp [go_sem]
      simp [go_sem, hg]
      refine CallD.of (cS) (by simp [roots, rootsL]) (by decide) ?_
      simp [go_sem]
      refine ⟨hnl, hM, ?_⟩
      refine ⟨by kernel_rfl, ?_⟩
      simp [go_sem]
      refine ⟨by omega, n + 1, by omega, by omega, Off_reset _ _ _ (by simp), ?_⟩
      rw [eM, ← hset]
      exact ⟨rfl, by omega⟩
    · have e : n = L.length := by omega
      have hall := mxS_all (A := L) (C := deS L) (by simp)
      subst e
      simp [go_sem]
      rw [hall]
  · rw [fsX_bad he] at c ⊢
    generalize fpE z f y = e at *
    refine Con.n1 _ ?_
    refine con_of_vc Try.mixed ⟨9, [], [], []⟩ Try.func41 (by decide) rfl (by simp) (by decide) (by simp [freshOK, freshL, go_sem]) ?_
    rw [Try.ntmps41]
    simp [go_sem]
    refine CallVC.of (c) (by decide) ?_
    simp [go_sem]
    simp [go_sem, he]
end Go.Proofs.Ytngakdgkeemjhaa

/- The statement's function FnExactDerivativesOf, walked: it answers true. -/
namespace Go.Proofs.Ytngakdgkeemjhaa
open Go.Abs
set_option linter.unusedVariables false
set_option linter.unusedSimpArgs false
set_option maxHeartbeats 4000000
set_option maxRecDepth 100000 in
theorem law26_c (z0 : Int) (f0 : List (List Mon)) (y1 : List Int) (hf0 : Fit f0) (hy1 : y1.length ≤ 9223372036854775807) :
    Con Try.prog 8 [.agg [.int z0, .sl f0.length (prt f0)], .sl y1.length (avs y1)] (.bool true) := by
  refine con_of_vc Try.mixed ⟨17, [], [24, 31, 25], []⟩ Try.func8 (by decide) rfl (by simp) (by decide) (by simp [freshOK, freshL, go_sem]) ?_
  rw [Try.ntmps8]
  simp [go_sem]
  by_cases hl1 : (1048576 : Int) < y1.length
  · have hl12 : 1048576 < y1.length := by omega
    simp [go_sem, hl1, hl12]
  have hk1 : ¬ 1048576 < y1.length := by omega
  simp [go_sem, hl1, hk1]
  have cS0 := szField_c z0 f0 (1048576) hf0 (by omega) (by omega)
  refine CallVC.of (cS0) (by decide) ?_
  simp [go_sem]
  by_cases hs0 : szF (1048576) f0 < 0
  · simp [go_sem, hs0]
  simp [go_sem, hs0]
  have hc0 := szF_ok.ok (1048576) f0 (by omega) (by omega)
  have hh0 := szF_ok.hi (1048576) f0 (by omega)
  generalize hL0 : szF (1048576) f0 = L0 at *
  have sm0 := small_of (f := f0) (by omega)
  have cT0 := toField_c z0 f0 sm0.1 sm0.2
  have cQ0 := eqField_c z0 f0 hf0
  have fl0 := sm0.1
  have ct0 : (sumC cP f0 : Int) ≤ 1048576 := by unfold cF at hc0; omega
  have y1l : y1.length ≤ 1048576 := by omega
  have cT1 := toInt64S_c y1 y1l
  have cQ1 := eqInt64S_c y1 y1 (by omega)
  simp at cQ1
  have cSp := specDerivativesOf_c z0 f0 y1 sm0 y1l
  have cIm := DerivativesOf_c z0 f0 y1 sm0 y1l
  have xl : (dvX z0 f0 y1).length ≤ 1048576 := by have := (dvX_ok z0 f0 y1).1; omega
  have xr : ∀ r ∈ dvX z0 f0 y1, r.length ≤ 1048576 := fun r hr => by have := (dvX_ok z0 f0 y1).2 r hr; omega
  unfold dvR at cSp cIm
  generalize dvX z0 f0 y1 = xs at cSp cIm xl xr
  generalize fpE z0 f0 y1 = e at cSp cIm
  have cM0 := markField_c z0 f0 (1) sm0.1 sm0.2 (by omega) (by omega)
  have cM1 := markInt64S_c 2 y1 (1 + sumC cP f0) (by omega) (by omega)
  have p2 : ¬ (1 + (sumC cP f0 : Int) + (y1.length : Int) < 0) := by omega
  have xs2 : (sumL xs : Int) ≤ 1099511627776 := by
    have h1 := sumL_bound xr
    have h2 := Nat.mul_le_mul (show xs.length ≤ 1048576 by omega) (Nat.le_refl 1048576)
    omega
  have cE := eqInt64SS_c xs xs (by omega) (fun r hr => by have := xr r hr; omega)
  have cN := markInt64SS_c xs 1 xl xr (by omega) (by omega)
  have cH := heldInt64SS_c xs 1 xl xr (by omega) (by omega)
  simp at cE
  have p1 : ¬ (1 + (sumL xs : Int) < 0) := by omega
  refine CallVC.of (cT0) (by decide) ?_
  simp [go_sem]
  refine CallVC.of (cT1) (by decide) ?_
  simp [go_sem]
  refine CallVC.of (cSp) (by decide) ?_
  simp [go_sem]
  refine CallVC.of (cT0) (by decide) ?_
  simp [go_sem]
  refine CallVC.of (cT1) (by decide) ?_
  simp [go_sem]
  refine CallVC.of (cIm) (by decide) ?_
  simp [go_sem]
  refine CallVC.of (cE) (by decide) ?_
  simp [go_sem]
  refine ⟨by kernel_rfl, ?_⟩
  refine CallD.of (cT0) (by simp [roots, rootsL]) (by decide) ?_
  simp [go_sem]
  refine CallD.of (cQ0) (by simp [roots, rootsL]) (by decide) ?_
  simp [go_sem]
  refine ⟨by kernel_rfl, ?_⟩
  simp [go_sem]
  refine CallVC.of (cT1) (by decide) ?_
  simp [go_sem]
  refine CallVC.of (cQ1) (by decide) ?_
  simp [go_sem]
  refine ⟨_, _, cM0, ?_⟩
  simp [go_sem]
  refine ⟨_, _, cM1, ?_⟩
  simp [go_sem]
  simp [go_sem, p2]
  refine CallVC.of (cE) (by decide) ?_
  simp [go_sem]
  refine ⟨_, _, cN, ?_⟩
  simp [go_sem]
  refine CallVC.of (cH) (by decide) ?_
  simp [go_sem]
  simp [go_sem, p1]
  refine CallVC.of (cT0) (by decide) ?_
  simp [go_sem]
  refine CallVC.of (cT1) (by decide) ?_
  simp [go_sem]
  refine CallVC.of (cIm) (by decide) ?_
  simp [go_sem]
  refine CallVC.of (cE) (by decide) ?_
  simp [go_sem]
  refine CallVC.of (cH) (by decide) ?_
  simp [go_sem]
  simp [go_sem, p1]
end Go.Proofs.Ytngakdgkeemjhaa
