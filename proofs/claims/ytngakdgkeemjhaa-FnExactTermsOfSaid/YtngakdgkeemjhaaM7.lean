/- Texts of the own layer and contracts, part 7: Q30 Q31 Q32 Q33 Q41 Q42 Q43 Q44 L22. -/
import Derived.Test.YtngakdgkeemjhaaM6
/- Contracts: flows from a point and from a vector series, the program's and the reference's. -/
namespace Go.Proofs.Ytngakdgkeemjhaa
open Go.Abs
set_option linter.unusedVariables false
set_option linter.unusedSimpArgs false
set_option maxHeartbeats 1000000
/-- The flow from a point, its first numbers known. -/
def floS (f : List (List Mon)) (y : List Int) : Nat → List (List Int)
  | 0 => poS y
  | n + 1 => (List.range y.length).map fun i => ((floS f y n)[i]?.getD []).set (n + 1) (((fdS (floS f y n) f)[i]?.getD [])[n]?.getD 0 * pw ((n : Int) + 1) 10005 % 10007)
@[simp] theorem floS_len (f : List (List Mon)) (y : List Int) : ∀ n, (floS f y n).length = y.length
  | 0 => by simp [floS]
  | n + 1 => by simp [floS]
theorem set_N {a : List Int} (h : Ns a) {i : Nat} {x : Int} (hx : isN x) : Ns (a.set i x) := by
  intro z hz
  rcases List.mem_or_eq_of_mem_set hz with hz | rfl
  · exact h z hz
  · exact hx
theorem floS_row {f : List (List Mon)} {y : List Int} (hy : Ns y) : ∀ n, ∀ r ∈ floS f y n, r.length = 7 ∧ Ns r
  | 0 => poS_row hy
  | n + 1 => by
    intro r hr
    obtain ⟨i, hi, rfl⟩ := List.mem_map.1 hr
    have h := floS_row hy n _ (memD [] (show i < (floS f y n).length by rw [floS_len]; simpa using hi))
    exact ⟨by simp [h.1], set_N h.2 (isN_mod _)⟩
set_option maxRecDepth 100000 in
theorem flow_c {z : Int} (f : List (List Mon)) (y : List Int) (hf : FieldOk z f) (hs : Small f) (hl : (y.length : Int) = z) (hy : Ns y) :
    Con Try.prog 86 [.sl f.length (fpols f), .sl y.length (avs y)] (.own 23 y.length (omat (floS f y 6))) := by
  have fl := hs.1
  have z3 := hf.hi
  have fz := hf.len
  refine con_of_vc Try.mixed ⟨12, [], [], []⟩ Try.func86 (by decide) rfl (by simp) (by decide) (by simp [freshOK, freshL, go_sem]) ?_
  rw [Try.ntmps86]
  simp [go_sem]
  refine loop_inv (5 :: 7 :: 8 :: List.range' 15 13) (fun i : Nat => [(5, .own 23 i (omat (poS (y.take i)))), (15, .int i)]) (fun i => i ≤ y.length) (fun i => y.length - i) 0 (by simp) (by simp [go_sem, poS, omat_nil]) (by simp [go_sem]) ?_
  intro i hi
  simp [go_sem]
  refine ⟨fun h => ?_, fun h => ?_⟩ <;> simp at h
  · have ht := poS_take h
    simp [go_sem, avs_drop h]
    refine ⟨⟨h, by rintro rfl; simp at h⟩, ⟨by omega, by omega⟩, by omega, i + 1, by omega, by omega, Off_reset _ _ _ (by simp), ⟨rfl, ?_⟩, by omega⟩
    rw [ht]; rfl
  · have e : i = y.length := by omega
    subst e
    simp [go_sem]
    refine loop_inv (5 :: 9 :: 10 :: 11 :: List.range' 28 31) (fun k : Nat => [(5, .own 23 y.length (omat (floS f y k))), (9, .int ((k + 1 : Nat) : Int))]) (fun k => k ≤ 6) (fun k => 7 - k) 0 (by simp) (by simp [go_sem, floS]) (by simp [go_sem]) ?_
    intro k hk
    simp [go_sem]
    refine ⟨fun h => ?_, fun h => ?_⟩ <;> simp at h
    · have fr := floS_row (f := f) hy k
      have cF := fieldSeries_c (L := floS f y k) hf hs (by rw [floS_len]; exact hl) fr
      rw [floS_len] at cF
      simp [go_sem]
      refine CallVC.of (cF) (by decide) ?_
      simp [go_sem]
      refine loop_inv (5 :: 11 :: List.range' 37 22) (fun j : Nat => [(5, .own 23 y.length (omat (mxS (floS f y k) (floS f y (k + 1)) j))), (37, .int j)]) (fun j => j ≤ y.length) (fun j => y.length - j) 0 (by simp) (by simp [go_sem, mxS_zero]) (by simp [go_sem]) ?_
      intro j hj
      simp [go_sem]
      refine ⟨fun h => ?_, fun h => ?_⟩ <;> simp at h
      · have hjy := h
        have hM : j < (mxS (floS f y k) (floS f y (k + 1)) j).length := by rw [mxS_len, floS_len]; exact hjy
        have hj2 : j < (floS f y k).length := by rw [floS_len]; exact hjy
        have hg := omat_get hM
        rw [mxS_get hj2] at hg
        have hr := fr _ (memD [] hj2)
        have hV : j < (fdS (floS f y k) f).length := by rw [fdS_len]; omega
        have hgv := omat_get hV
        have hv := fdS_row (L := floS f y k) (f := f) _ (memD [] hV)
        have hset := omat_set (mxS (floS f y k) (floS f y (k + 1)) j) j ((floS f y (k + 1))[j]?.getD [])
        have hnext : (floS f y (k + 1))[j]?.getD [] = ((floS f y k)[j]?.getD []).set (k + 1) (((fdS (floS f y k) f)[j]?.getD [])[k]?.getD 0 * pw ((k : Int) + 1) 10005 % 10007) := by simp [floS, hjy]
        rw [mxS_set hj2] at hset
        have m1 : fits (((fdS (floS f y k) f)[j]?.getD [])[k]?.getD 0 * pw ((k : Int) + 1) 10005) := mul_fits (hv.2.get k) (isN_mod _)
        have hk7 : k < ((fdS (floS f y k) f)[j]?.getD []).length := by omega
        have hk8 : k + 1 < ((floS f y k)[j]?.getD []).length := by omega
        generalize mxS (floS f y k) (floS f y (k + 1)) j = M at *
        generalize (floS f y (k + 1))[j]?.getD [] = new at *
        generalize (floS f y k)[j]?.getD [] = old at *
        generalize (fdS (floS f y k) f)[j]?.getD [] = vs at *
        simp [go_sem, hg, hgv, avs_at hk7, avs_drop hk7]
        refine ⟨by kernel_rfl, hjy, by omega, by omega, hk7, ?_⟩
        refine CallD.of (inv_c _ ⟨by omega, by omega⟩) (by simp [roots, rootsL]) (by decide) ?_
        simp [go_sem]
        refine ⟨m1, ?_⟩
        refine CallD.of (num_c _ m1.1 m1.2) (by simp [roots, rootsL]) (by decide) ?_
        simp [go_sem]
        simp [go_sem, hg]
        refine ⟨⟨by omega, by omega⟩, hk8, ?_⟩
        refine ⟨by kernel_rfl, ?_⟩
        simp [go_sem]
        refine ⟨by omega, j + 1, by omega, by omega, Off_reset _ _ _ (by simp), ?_, by omega⟩
        rw [← hset, hnext, List.length_set, avs_set]
      · have e : j = y.length := by omega
        have hall := mxS_all (A := floS f y k) (C := floS f y (k + 1)) (by rw [floS_len, floS_len])
        rw [floS_len] at hall
        subst e
        simp [go_sem]
        exact ⟨by omega, k + 1, by omega, by omega, (Off.reset (by intro x hx; simp at hx ⊢; omega) (by simp) (by simp [go_sem, Off_reset])), by rw [hall], by omega⟩
    · have e : k = 6 := by omega
      subst e
      simp [go_sem]
/-- A series raised by n degrees, by the factorial of n. -/
def raiN (a : List Int) : Nat → List Int
  | 0 => a
  | j + 1 => rakS (raiN a j) (pw ((j : Int) + 1) 10005)
@[simp] theorem raiN_len (a : List Int) : ∀ j, (raiN a j).length = a.length
  | 0 => rfl
  | j + 1 => by simp [raiN, raiN_len a j]
theorem raiN_N {a : List Int} (h : Ns a) : ∀ j, Ns (raiN a j)
  | 0 => h
  | j + 1 => rakS_N _ _
/-- The derivative of order j of a variable along a field. -/
def alN (f : List (List Mon)) (n i : Nat) : Nat → List Mon
  | 0 => [(1, oneE n i)]
  | j + 1 => alongL f (alN f n i j)
theorem alongL_wok {n : Nat} {B : Int} {f : List (List Mon)} {p : List Mon} (hp : ∀ m ∈ p, WOk n B m) (hl : f.length ≤ n) (hf : ∀ F ∈ f, ∀ m ∈ F, WOk n 3 m) : ∀ m ∈ alongL f p, WOk n (3 + B) m := alongGo_wok hp f 0 [] (by omega) hf (by simp)
theorem FieldOk.wok {z : Int} {f : List (List Mon)} (hf : FieldOk z f) : ∀ F ∈ f, ∀ m ∈ F, WOk f.length 3 m := fun F hF m hm => by
  have h := partB_mem (hf.part F hF) hm
  have h1 := h.lo
  have h2 := h.hi
  have h3 := h.len
  have h4 := hf.len
  exact ⟨⟨by omega, by omega⟩, by omega, h.pw⟩
theorem alN_wok {z : Int} {f : List (List Mon)} (hf : FieldOk z f) (i : Nat) : ∀ j : Nat, ∀ m ∈ alN f f.length i j, WOk f.length (1 + 3 * (j : Int)) m
  | 0, m, hm => by
    simp only [alN, List.mem_singleton] at hm
    subst hm
    exact oneE_wok.le (by omega)
  | j + 1, m, hm => (alongL_wok (alN_wok hf i j) (Nat.le_refl _) hf.wok m hm).le (by omega)
theorem alN_len {z : Int} {f : List (List Mon)} (hf : FieldOk z f) (n i : Nat) : ∀ j : Nat, (alN f n i j).length ≤ 60 ^ j
  | 0 => by simp [alN]
  | j + 1 => by
    have z3 := hf.hi
    have zl := hf.len
    have ih := alN_len hf n i j
    have h := alongGo_len (p := alN f n i j) (N := 20) f 0 [] (fun F hF => part20 z3 (hf.part F hF))
    have h2 := Nat.mul_le_mul_right (20 * (alN f n i j).length) (show f.length ≤ 3 by omega)
    rw [alN, alongL, Nat.pow_succ]
    simp only [List.length_nil, Nat.zero_add] at h
    omega
theorem alN_small {z : Int} {f : List (List Mon)} (hf : FieldOk z f) (n i : Nat) {j : Nat} (hj : j ≤ 5) : (alN f n i j).length ≤ 777600000 :=
  Nat.le_trans (alN_len hf n i j) (Nat.le_trans (Nat.pow_le_pow_right (by omega) hj) (by decide))
theorem alN_small6 {z : Int} {f : List (List Mon)} (hf : FieldOk z f) (n i : Nat) {j : Nat} (hj : j ≤ 6) : (alN f n i j).length ≤ 46656000000 :=
  Nat.le_trans (alN_len hf n i j) (Nat.le_trans (Nat.pow_le_pow_right (by omega) hj) (by decide))
/-- All variables' derivatives of order n; i of them already of the next one. -/
def trS (f : List (List Mon)) (n i : Nat) : List (List Mon) := (List.range f.length).map fun k => if k < i then alN f f.length k (n + 1) else alN f f.length k n
@[simp] theorem trS_len (f : List (List Mon)) (n i : Nat) : (trS f n i).length = f.length := by simp [trS]
theorem trS_all (f : List (List Mon)) (n : Nat) : trS f n f.length = trS f (n + 1) 0 := by
  unfold trS
  refine List.map_congr_left fun k hk => ?_
  simp at hk
  simp [hk]
theorem trS_get {f : List (List Mon)} {n i : Nat} (h : i < f.length) : (trS f n i)[i]?.getD [] = alN f f.length i n := by simp [trS, h]
theorem trS_set {f : List (List Mon)} {n i : Nat} (h : i < f.length) : (trS f n i).set i (alN f f.length i (n + 1)) = trS f n (i + 1) := by
  refine List.ext_getElem (by simp) fun k h1 h2 => ?_
  simp at h1
  rw [List.getElem_set]
  by_cases e : i = k
  · subst e; simp [trS]
  · simp only [e, if_false, trS, List.getElem_map, List.getElem_range]
    by_cases h3 : k < i
    · simp [h3, show k < i + 1 by omega]
    · simp [h3, show ¬ k < i + 1 by omega]
theorem oprt_get {T : List (List Mon)} {k : Nat} (h : k < T.length) : (oprt T)[k]? = some (.own 112 (T[k]?.getD []).length (omons (T[k]?.getD []))) := by simp [oprt, h]
theorem oprt_set (T : List (List Mon)) (k : Nat) (p : List Mon) : (oprt T).set k (.own 112 p.length (omons p)) = oprt (T.set k p) := by simp [oprt, List.map_set]
/-- The sum of the first terms of the flow. -/
def flsS (f : List (List Mon)) (P : List (List Int)) : Nat → List (List Int)
  | 0 => P
  | n + 1 => (List.range P.length).map fun k => tb (fun m => (((flsS f P n)[k]?.getD [])[m]?.getD 0 + (raiN (evS P (alN f f.length k (n + 1))) (n + 1))[m]?.getD 0) % 10007) 7
@[simp] theorem flsS_len (f : List (List Mon)) (P : List (List Int)) : ∀ n, (flsS f P n).length = P.length
  | 0 => rfl
  | n + 1 => by simp [flsS]
theorem flsS_row {f : List (List Mon)} {P : List (List Int)} (h : ∀ r ∈ P, r.length = 7 ∧ Ns r) : ∀ n, ∀ r ∈ flsS f P n, r.length = 7 ∧ Ns r
  | 0 => h
  | n + 1 => by
    intro r hr
    obtain ⟨i, hi, rfl⟩ := List.mem_map.1 hr
    exact ⟨by simp, tb_N fun i _ => isN_mod _⟩
end Go.Proofs.Ytngakdgkeemjhaa

/- Contracts: the reference's flow from a vector series. -/
namespace Go.Proofs.Ytngakdgkeemjhaa
open Go.Abs
set_option linter.unusedVariables false
set_option linter.unusedSimpArgs false
set_option maxHeartbeats 2000000
theorem oprt_one (p : List Mon) : oprt [p] = [.own 112 p.length (omons p)] := rfl
theorem trS_step {f : List (List Mon)} {i : Nat} (h : i < f.length) : oprt ((trS f 0 0).take (i + 1)) = oprt ((trS f 0 0).take i) ++ [.own 112 1 [.int 1, .own 2 f.length (avs (oneE f.length i))]] := by
  have hx : i < (trS f 0 0).length := by rw [trS_len]; exact h
  rw [List.take_add_one, List.getElem?_eq_getElem hx, Option.toList_some, oprt_app]
  have : (trS f 0 0)[i] = [(1, oneE f.length i)] := by simp [trS, alN]
  rw [this, oprt_one, omons_one]; simp
set_option maxRecDepth 100000 in
theorem l14Flow_c {z : Int} (f : List (List Mon)) (start : List (List Int)) (hf : FieldOk z f) (hs : Small f) (h7 : start.length = 7) (hr : ∀ r ∈ start, (r.length : Int) = z ∧ Ns r) :
    Con Try.prog 84 [.agg [.int z, .sl f.length (prt f)], .sl start.length (mat start)] (.own 23 7 (omat (turnS (flsS f (turnS start) 6)))) := by
  have fl := hs.1
  have z3 := hf.hi
  have z1 := hf.lo
  have fz := hf.len
  have h0 := memD (i := 0) [] (l := start) (by omega)
  have hz := (hr _ h0).1
  have tl : (turnS start).length = f.length := by have := turnS_len start; omega
  have tr : ∀ r ∈ turnS start, r.length = 7 ∧ Ns r := turnS_row h7 (fun r h => (hr r h).2)
  have cT := l14Turn_c start (by omega) (by omega) (fun r h => by have := (hr r h).1; omega) (by omega)
  generalize turnS start = P at *
  have cO := l01Own2_c P (by omega) (fun r hr => by have := (tr r hr).1; omega)
  have sr := flsS_row (f := f) tr 6
  have sl := flsS_len f P 6
  have s0 := memD (i := 0) [] (l := flsS f P 6) (by omega)
  have s7 := (sr _ s0).1
  have cE := l14Turn_c (flsS f P 6) (by omega) (by omega) (fun r h => by have := (sr r h).1; omega) (by omega)
  rw [turnS_len, s7, sl, tl] at cE
  rw [tl] at cT cO
  obtain ⟨n, rfl⟩ : ∃ n : Nat, z = n := ⟨z.toNat, by omega⟩
  have fn : f.length = n := by omega
  refine con_of_vc Try.mixed ⟨13, [], [], []⟩ Try.func84 (by decide) rfl (by simp) (by decide) (by simp [freshOK, freshL, go_sem]) ?_
  rw [Try.ntmps84]
  simp [go_sem]
  refine CallVC.of (cT) (by decide) ?_
  simp [go_sem]
  refine loop_inv (6 :: 7 :: List.range' 16 15) (fun i : Nat => [(6, .own 109 i (oprt ((trS f 0 0).take i))), (7, .int i)]) (fun i => i ≤ f.length) (fun i => f.length - i) 0 (by simp) (by simp [go_sem, oprt]) (by simp [go_sem]) ?_
  intro i hi
  simp [go_sem]
  refine ⟨fun h => ?_, fun h => ?_⟩ <;> simp at h
  · have hif : i < f.length := by omega
    have ht := trS_step hif
    have c1 := l13One_c n i (by omega) (by omega)
    rw [fn] at ht
    simp [go_sem]
    refine CallVC.of (c1) (by decide) ?_
    simp [go_sem]
    exact ⟨⟨by omega, by omega⟩, by omega, i + 1, by omega, by omega, Off_reset _ _ _ (by simp), by rw [ht]; exact ⟨rfl, rfl⟩, by omega⟩
  · have e : i = f.length := by omega
    have tt : (trS f 0 0).take f.length = trS f 0 0 := List.take_of_length_le (by simp)
    subst e
    rw [tt]
    simp [go_sem]
    refine CallVC.of (cO) (by decide) ?_
    simp [go_sem]
    refine loop_inv (6 :: 8 :: 9 :: 10 :: 11 :: 12 :: List.range' 33 43) (fun k : Nat => [(6, .own 109 f.length (oprt (trS f k 0))), (8, .own 23 f.length (omat (flsS f P k))), (9, .int ((k + 1 : Nat) : Int))]) (fun k => k ≤ 6) (fun k => 7 - k) 0 (by simp) (by simp [go_sem, flsS]) (by simp [go_sem]) ?_
    intro k hk
    simp [go_sem]
    refine ⟨fun h => ?_, fun h => ?_⟩ <;> simp at h
    · simp [go_sem]
      refine loop_inv (6 :: 8 :: 10 :: 11 :: 12 :: List.range' 37 39) (fun i : Nat => [(6, .own 109 f.length (oprt (trS f k i))), (8, .own 23 f.length (omat (mxS (flsS f P k) (flsS f P (k + 1)) i))), (10, .int i)]) (fun i => i ≤ f.length) (fun i => f.length - i) 0 (by simp) (by simp [go_sem, mxS_zero]) (by simp [go_sem]) ?_
      intro i hi
      simp [go_sem]
      refine ⟨fun h => ?_, fun h => ?_⟩ <;> simp at h
      · have hif : i < f.length := by omega
        have hT : i < (trS f k i).length := by rw [trS_len]; exact hif
        have gT := oprt_get hT
        rw [trS_get hif] at gT
        have sT := oprt_set (trS f k i) i (alN f f.length i (k + 1))
        rw [trS_set hif] at sT
        have hT2 : i < (trS f k (i + 1)).length := by rw [trS_len]; exact hif
        have gT2 := oprt_get hT2
        have gE : (trS f k (i + 1))[i]?.getD [] = alN f f.length i (k + 1) := by simp [trS, hif]
        rw [gE] at gT2
        have w0 := alN_wok hf i k
        have w1 := alN_wok hf i (k + 1)
        have l0 := alN_small hf f.length i (j := k) (by omega)
        have l1 := alN_small6 hf f.length i (j := k + 1) (by omega)
        have cA := l13Along2_c f (alN f f.length i k) hf hs (fun F hF => part20 z3 (hf.part F hF)) (by omega) (by omega) w0 (by omega)
        have cV := l14ValueG_c (p := alN f f.length i (k + 1)) (L := P) (fun m hm => ⟨(w1 m hm).num, by rw [tl]; exact (w1 m hm).len, fun t => by
          have := (w1 m hm).get (by omega) t
          exact ⟨this.1, by omega⟩⟩) (by omega) (by omega) tr
        rw [tl] at cV
        have hdef : alN f f.length i (k + 1) = alongL f (alN f f.length i k) := rfl
        rw [← hdef] at cA
        have hM : i < (mxS (flsS f P k) (flsS f P (k + 1)) i).length := by rw [mxS_len, flsS_len]; omega
        have hi2 : i < (flsS f P k).length := by rw [flsS_len]; omega
        have hg := omat_get hM
        rw [mxS_get hi2] at hg
        have fr := flsS_row (f := f) tr k _ (memD [] hi2)
        have hset := omat_set (mxS (flsS f P k) (flsS f P (k + 1)) i) i ((flsS f P (k + 1))[i]?.getD [])
        rw [mxS_set hi2] at hset
        have hnext : (flsS f P (k + 1))[i]?.getD [] = tb (fun m => (((flsS f P k)[i]?.getD [])[m]?.getD 0 + (raiN (evS P (alN f f.length i (k + 1))) (k + 1))[m]?.getD 0) % 10007) 7 := by simp [flsS, show i < P.length by omega]
        have eN := evS_N P (alN f f.length i (k + 1))
        have el := evS_len P (alN f f.length i (k + 1))
        generalize trS f k i = T at *
        generalize eT2 : trS f k (i + 1) = T2 at *
        generalize mxS (flsS f P k) (flsS f P (k + 1)) i = M at *
        generalize eM2 : mxS (flsS f P k) (flsS f P (k + 1)) (i + 1) = M2 at *
        generalize (flsS f P (k + 1))[i]?.getD [] = new at *
        generalize (flsS f P k)[i]?.getD [] = old at *
        generalize evS P (alN f f.length i (k + 1)) = ev at *
        generalize alN f f.length i (k + 1) = a1 at *
        generalize alN f f.length i k = a0 at *
        simp [go_sem, gT]
        refine ⟨by kernel_rfl, hif, ?_⟩
        refine CallD.of (cA) (by simp [roots, rootsL]) (by decide) ?_
        simp [go_sem]
        refine ⟨hif, hT, ?_⟩
        refine ⟨by kernel_rfl, ?_⟩
        simp [go_sem]
        rw [sT]
        simp [go_sem, gT2]
        refine ⟨hif, ?_⟩
        refine CallVC.of (cV) (by decide) ?_
        simp [go_sem]
        refine loop_inv (11 :: 12 :: List.range' 58 9) (fun j : Nat => [(11, .own 2 7 (avs (raiN ev j))), (12, .int ((j + 1 : Nat) : Int))]) (fun j => j ≤ k + 1) (fun j => k + 1 - j) 0 (by simp) (by simp [go_sem, raiN]) (by simp [go_sem]) ?_
        intro j hj
        simp [go_sem]
        refine ⟨fun h => ?_, fun h => ?_⟩ <;> simp at h
        · have cR := l14Raise_c (raiN ev j) (pw ((j : Int) + 1) 10005) (raiN_N eN j) (isN_mod _) (by rw [raiN_len]; omega) (by rw [raiN_len]; omega)
          rw [raiN_len, el] at cR
          simp [go_sem]
          refine CallVC.of (l01Inv_c _ ⟨by omega, by omega⟩) (by decide) ?_
          simp [go_sem]
          refine CallVC.of (cR) (by decide) ?_
          simp [go_sem]
          exact ⟨⟨by omega, by omega⟩, j + 1, by omega, by omega, Off_reset _ _ _ (by simp), rfl, by omega⟩
        · have e : j = k + 1 := by omega
          subst e
          have cS := l02Add_c old (raiN ev (k + 1)) fr.2 (raiN_N eN _) (by omega) (by rw [raiN_len]; omega)
          have hnext2 : new = tb (fun m => (old[m]?.getD 0 + (raiN ev (k + 1))[m]?.getD 0) % 10007) old.length := by rw [fr.1]; exact hnext
          rw [raiN_len, el, ← hnext2] at cS
          have nl : new.length = old.length := by rw [hnext2]; simp
          rw [nl] at hset
          simp [go_sem, hg]
          refine ⟨hif, ?_⟩
          refine CallVC.of (cS) (by decide) ?_
          simp [go_sem]
          refine ⟨hif, hM, by omega, i + 1, by omega, by omega, (Off.reset (by intro x hx; simp at hx ⊢; omega) (by simp) (by simp [go_sem, Off_reset])), ?_⟩
          rw [eT2, eM2, ← hset]
          exact ⟨rfl, rfl, by omega⟩
      · have e : i = f.length := by omega
        have hall := mxS_all (A := flsS f P k) (C := flsS f P (k + 1)) (by rw [flsS_len, flsS_len])
        rw [flsS_len, tl] at hall
        have tall := trS_all f k
        subst e
        simp [go_sem]
        exact ⟨by omega, k + 1, by omega, by omega, (Off.reset (by intro x hx; simp at hx ⊢; omega) (by simp) (by simp [go_sem, Off_reset])), by rw [tall], by rw [hall], by omega⟩
    · have e : k = 6 := by omega
      subst e
      simp [go_sem]
      refine CallVC.of (cE) (by decide) ?_
      simp [go_sem]
end Go.Proofs.Ytngakdgkeemjhaa

/- Plain: series of lists of monomials as power series; the two flows from a point agree. -/
namespace Go.Proofs.Ytngakdgkeemjhaa
open Go.Abs CR
set_option linter.unusedVariables false
set_option linter.unusedSimpArgs false
set_option maxHeartbeats 1000000
def toS (a : List Int) : Ser Int := fun n => a[n]?.getD 0
def csum (A B : Nat → Int) (n : Nat) : Nat → Int
  | 0 => 0
  | m + 1 => csum A B n m + A m * B (n - m)
theorem csum_shift (A B : Nat → Int) (n : Nat) : ∀ m, csum A B (n + 1) (m + 1) = A 0 * B (n + 1) + csum (sh A) B n m
  | 0 => by simp [csum]
  | m + 1 => by
    rw [csum, csum_shift A B n m, csum]
    have : n + 1 - (m + 1) = n - m := by omega
    rw [this, Int.add_assoc]; rfl
theorem csum_all : ∀ (n : Nat) (A B : Nat → Int), csum A B n (n + 1) = cmul n A B
  | 0, A, B => by simp [csum, cmul]
  | n + 1, A, B => by rw [csum_shift, csum_all n, cmul]
theorem cv_csum (a b : List Int) (n : Nat) : ∀ m, cv a b n m = csum (toS a) (toS b) n m
  | 0 => rfl
  | m + 1 => by rw [cv, cv_csum a b n m]; rfl
abbrev c7 : Cg (Ser Int) := cgS cgI 7
theorem mulS_ser {a b : List Int} (ha : a.length = 7) : c7.r (toS (mulS a b)) (toS a * toS b) := by
  intro n hn
  show (toS (mulS a b) n) % 10007 = (cmul n (toS a) (toS b)) % 10007
  rw [← csum_all, ← cv_csum]
  have e := tb_get (fun n => cv a b n (n + 1) % 10007) (show n < a.length by omega)
  have e2 : toS (mulS a b) n = cv a b n (n + 1) % 10007 := e
  rw [e2, Int.emod_emod_of_dvd _ (Int.dvd_refl _)]
theorem pwS_ser {s x : List Int} (hs : s.length = 7) : ∀ n, c7.r (toS (pwS s x n)) (toS s * pwr (toS x) n)
  | 0 => c7.eq (mul1 _).symm
  | n + 1 => by
    refine c7.trans (mulS_ser (by rw [pwS_len, hs])) ?_
    refine c7.trans (c7.mul (pwS_ser hs n) (c7.refl _)) (c7.eq ?_)
    rw [pwr, mulA]
/-- A list of series, as power series. -/
def toU (L : List (List Int)) : Nat → Ser Int := fun k => toS (L[k]?.getD [])
theorem teS_ser {L : List (List Int)} {e s : List Int} (hs : s.length = 7) : ∀ d, c7.r (toS (teS L e s d)) (toS s * mon (toU L) (ex e) d)
  | 0 => c7.eq (mul1 _).symm
  | d + 1 => by
    refine c7.trans (pwS_ser (by rw [teS_len, hs]) _) ?_
    refine c7.trans (c7.mul (teS_ser hs d) (c7.refl _)) (c7.eq ?_)
    rw [mon, mulA]; rfl
theorem unS_ser (a : Int) : toS (unS a) = ofI a := funext fun n => by
  show ([a, 0, 0, 0, 0, 0, 0] : List Int)[n]?.getD 0 = if n = 0 then a else 0
  match n with
  | 0 => rfl
  | 1 => rfl
  | 2 => rfl
  | 3 => rfl
  | 4 => rfl
  | 5 => rfl
  | 6 => rfl
  | n + 7 => simp
theorem voS_ser (L : List (List Int)) : ∀ p : List Mon, c7.r (fun n => voS L n p) (evM L.length (toU L) p)
  | [] => fun n hn => by
    show (0 : Int) % 10007 = (evM L.length (toU L) [] n) % 10007
    rw [evM_nil]
    cases n <;> rfl
  | m :: p => by
    rw [evM_cons, ← unS_ser]
    have h1 := teS_ser (L := L) (e := m.2) (s := unS m.1) rfl L.length
    exact c7.add h1 (voS_ser L p)
theorem evS_ser (L : List (List Int)) (p : List Mon) : c7.r (toS (evS L p)) (evM L.length (toU L) p) := by
  refine c7.trans (fun n hn => ?_) (voS_ser L p)
  have e := tb_get (fun n => voS L n p % 10007) hn
  have e2 : toS (evS L p) n = voS L n p % 10007 := e
  show toS (evS L p) n % 10007 = voS L n p % 10007
  rw [e2, Int.emod_emod_of_dvd _ (Int.dvd_refl _)]
section
variable {α : Type} [CR α]
theorem Cg.evM (c : Cg α) {d : Nat} {U V : Nat → α} (h : ∀ k, k < d → c.r (U k) (V k)) (L : List Mon) : c.r (evM d U L) (evM d V L) := c.ev h _
/-- One variable. -/
theorem mon_zero (U : Nat → α) {e : Nat → Nat} : ∀ {d : Nat}, (∀ j, j < d → e j = 0) → mon U e d = ofI 1
  | 0, _ => rfl
  | d + 1, h => by rw [mon, mon_zero U (fun j hj => h j (by omega)), h d (by omega), pwr, mul1]
theorem mon_one (U : Nat → α) {e : Nat → Nat} {k : Nat} (h1 : e k = 1) (h0 : ∀ j, j ≠ k → e j = 0) : ∀ {d : Nat}, k < d → mon U e d = U k
  | 0, h => by omega
  | d + 1, h => by
    rw [mon]
    by_cases hk : k = d
    · subst hk
      rw [mon_zero U (fun j hj => h0 j (by omega)), h1, omul, pwr, pwr, omul]
    · rw [mon_one U h1 h0 (show k < d by omega), h0 d (fun e => hk e.symm), pwr, mul1]
theorem ex_one {n k : Nat} (h : k < n) : ex (oneE n k) k = 1 ∧ ∀ j, j ≠ k → ex (oneE n k) j = 0 := by
  refine ⟨by simp [ex, oneE, h], fun j hj => ?_⟩
  unfold ex oneE
  rw [List.getElem?_set_ne (Ne.symm hj)]
  by_cases hjn : j < n
  · simp [hjn]
  · simp [List.getElem?_eq_none (show (List.replicate n (0 : Int)).length ≤ j by simp; omega)]
theorem evM_one (U : Nat → α) {d k : Nat} (h : k < d) : evM d U [(1, oneE d k)] = U k := by
  rw [evM_cons, evM_nil, add0, omul]
  exact mon_one U (ex_one h).1 (ex_one h).2 h
/-- At numbers. -/
theorem pwr_of (c : Int) : ∀ n, pwr (ofI c : α) n = ofI (pwr c n)
  | 0 => rfl
  | n + 1 => by rw [pwr, pwr_of c n, pwr, ← ofMul]
theorem mon_of (U : Nat → Int) (e : Nat → Nat) : ∀ d, mon (fun k => (ofI (U k) : α)) e d = ofI (mon U e d)
  | 0 => rfl
  | d + 1 => by rw [mon, mon_of U e d, pwr_of, mon, ← ofMul]
theorem evM_of (U : Nat → Int) (d : Nat) : ∀ L : List Mon, evM d (fun k => (ofI (U k) : α)) L = ofI (evM d U L)
  | [] => rfl
  | m :: L => by
    rw [evM_cons, evM_of U d L, mon_of, evM_cons, ofAdd, ofMul]; rfl
end
theorem alN_repeat (f : List (List Mon)) (n k : Nat) : ∀ j, alN f n k j = Nat.repeat (alongL f) j [(1, oneE n k)]
  | 0 => rfl
  | j + 1 => by rw [alN, alN_repeat f n k j]; rfl
theorem FieldOk.lok {z : Int} {f : List (List Mon)} (hf : FieldOk z f) : ∀ F ∈ f, LOk f.length F := fun F hF m hm => ⟨(hf.wok F hF m hm).len, fun x hx => ((hf.wok F hF m hm).pw x hx).1⟩
theorem oneE_lok (n k : Nat) : LOk n [(1, oneE n k)] := fun m hm => by
  simp at hm; subst hm
  exact ⟨oneE_wok.len, fun x hx => (oneE_wok (n := n) (k := k).pw x hx).1⟩
/-- Inverses of the first numbers. -/
theorem inv_6 : ∀ n : Nat, n < 6 → ((n + 1 : Nat) : Int) * pw ((n : Int) + 1) 10005 % 10007 = 1 := by
  have h : ∀ n ∈ List.range 6, ((n + 1 : Nat) : Int) * pw ((n : Int) + 1) 10005 % 10007 = 1 := by decide +kernel
  exact fun n hn => h n (by simpa using hn)
def ift : Nat → Int
  | 0 => 1
  | n + 1 => ift n * pw ((n : Int) + 1) 10005
theorem ift_fct : ∀ n : Nat, n ≤ 6 → ift n * fct n % 10007 = 1
  | 0, _ => by decide
  | n + 1, h => by
    have h1 := ift_fct n (by omega)
    have h2 := inv_6 n (by omega)
    have e : ift (n + 1) * fct (n + 1) = (ift n * fct n) * (((n + 1 : Nat) : Int) * pw ((n : Int) + 1) 10005) := by
      rw [ift, fct, show ((n + 1 : Nat) : Int) = (n : Int) + 1 by omega]
      generalize pw ((n : Int) + 1) 10005 = w
      ac_rfl
    rw [e, Int.mul_emod, h1, h2]; rfl
/-- The program's flow: numbers once set stay. -/
theorem floS_at {f : List (List Mon)} {y : List Int} (n : Nat) {k : Nat} (hk : k < y.length) : (floS f y (n + 1))[k]?.getD [] = ((floS f y n)[k]?.getD []).set (n + 1) (((fdS (floS f y n) f)[k]?.getD [])[n]?.getD 0 * pw ((n : Int) + 1) 10005 % 10007) := by
  simp [floS, hk]
theorem floS_keep {f : List (List Mon)} {y : List Int} {k j : Nat} (hk : k < y.length) (n : Nat) (hj : j ≤ n) : ∀ m, ((floS f y (n + m))[k]?.getD [])[j]?.getD 0 = ((floS f y n)[k]?.getD [])[j]?.getD 0
  | 0 => rfl
  | m + 1 => by
    rw [← Nat.add_assoc, floS_at (n + m) hk, List.getElem?_set_ne (by omega), floS_keep hk n hj m]
theorem floS_new {f : List (List Mon)} {y : List Int} {n k : Nat} (hy : Ns y) (hk : k < y.length) (hf : k < f.length) (hn : n < 6) : ((floS f y (n + 1))[k]?.getD [])[n + 1]?.getD 0 = (evS (floS f y n) (f[k]?.getD []))[n]?.getD 0 * pw ((n : Int) + 1) 10005 % 10007 := by
  have hr := (floS_row (f := f) hy n _ (memD [] (show k < (floS f y n).length by rw [floS_len]; exact hk))).1
  have e : (fdS (floS f y n) f)[k]?.getD [] = evS (floS f y n) (f[k]?.getD []) := by simp [fdS, hf]
  rw [floS_at n hk, e, List.getElem?_set_self (by omega)]; rfl
theorem floS_ode {z : Int} {f : List (List Mon)} {y : List Int} (hf : FieldOk z f) (hl : y.length = f.length) (hy : Ns y) : ∀ k, k < f.length → ∀ n, n < 6 → cgI.r (ofI ((n + 1 : Nat) : Int) * toU (floS f y 6) k (n + 1)) (evM f.length (toU (floS f y 6)) (f[k]?.getD []) n) := by
  intro k hk n hn
  have hky : k < y.length := by omega
  have e1 : toU (floS f y 6) k (n + 1) = (evS (floS f y n) (f[k]?.getD []))[n]?.getD 0 * pw ((n : Int) + 1) 10005 % 10007 := by
    rw [← floS_new hy hky hk hn]
    have := floS_keep (f := f) hky (n + 1) (Nat.le_refl _) (6 - (n + 1))
    rw [show n + 1 + (6 - (n + 1)) = 6 by omega] at this
    exact this
  have e2 : cgI.r ((evS (floS f y n) (f[k]?.getD []))[n]?.getD 0) (evM f.length (toU (floS f y 6)) (f[k]?.getD []) n) := by
    have h1 := evS_ser (floS f y n) (f[k]?.getD []) n (by omega)
    rw [floS_len, hl] at h1
    refine cgI.trans h1 ?_
    refine (cgS cgI (n + 1)).evM (U := toU (floS f y n)) (V := toU (floS f y 6)) (fun j hj i hi => ?_) (f[k]?.getD []) n (by omega)
    have := floS_keep (f := f) (show j < y.length by omega) n (show i ≤ n by omega) (6 - n)
    rw [show n + (6 - n) = 6 by omega] at this
    exact cgI.eq this.symm
  rw [e1]
  refine cgI.trans ?_ e2
  have h3 := inv_6 n hn
  generalize (evS (floS f y n) (f[k]?.getD []))[n]?.getD 0 = v at *
  generalize pw ((n : Int) + 1) 10005 = w at *
  show (((n + 1 : Nat) : Int) * (v * w % 10007)) % 10007 = v % 10007
  have e : ((n + 1 : Nat) : Int) * (v * w) = v * (((n + 1 : Nat) : Int) * w) := by ac_rfl
  rw [Int.mul_emod, Int.emod_emod_of_dvd _ (Int.dvd_refl _), ← Int.mul_emod, e, Int.mul_emod, h3, Int.mul_one, Int.emod_emod_of_dvd _ (Int.dvd_refl _)]
theorem poS_at {y : List Int} {k : Nat} (hk : k < y.length) : (poS y)[k]?.getD [] = unS (y[k]?.getD 0) := by simp [poS, hk]
/-- What the program's flow is. -/
theorem floS_is {z : Int} {f : List (List Mon)} {y : List Int} (hf : FieldOk z f) (hl : y.length = f.length) (hy : Ns y) {k n : Nat} (hk : k < f.length) (hn : n ≤ 6) :
    cgI.r (fct n * ((floS f y 6)[k]?.getD [])[n]?.getD 0) (evM f.length (fun k => y[k]?.getD 0) (alN f f.length k n)) := by
  have h := flow_is cgI (d := f.length) (N := 6) (U := toU (floS f y 6)) rfl hf.lok (floS_ode hf hl hy) n [(1, oneE f.length k)] hn (oneE_lok _ _)
  rw [evM_one _ hk, ← alN_repeat] at h
  refine cgI.trans h (cgI.evM (fun j hj => cgI.eq ?_) _)
  have := floS_keep (f := f) (show j < y.length by omega) 0 (Nat.le_refl 0) 6
  rw [Nat.zero_add] at this
  show ((floS f y 6)[j]?.getD [])[0]?.getD 0 = y[j]?.getD 0
  rw [this, floS, poS_at (by omega)]; rfl
/-- The reference's terms. -/
theorem rakS_at {a : List Int} {k : Int} {n : Nat} (hn : n < a.length) : (rakS a k)[n]?.getD 0 = if n = 0 then 0 else a[n - 1]?.getD 0 * k % 10007 := tb_get _ hn
theorem raiN_at {a : List Int} (ha : a.length = 7) : ∀ t n, n < 7 → cgI.r ((raiN a t)[n]?.getD 0) (if t ≤ n then ift t * a[n - t]?.getD 0 else 0)
  | 0, n, hn => cgI.eq (by simp [raiN, ift])
  | t + 1, n, hn => by
    rw [raiN, rakS_at (by rw [raiN_len, ha]; exact hn)]
    by_cases h0 : n = 0
    · subst h0; exact cgI.eq (by simp)
    · have ih := raiN_at ha t (n - 1) (by omega)
      rw [if_neg h0]
      by_cases ht : t + 1 ≤ n
      · rw [if_pos (by omega)] at ih
        rw [if_pos ht, ift, show n - (t + 1) = n - 1 - t by omega]
        have e : ift t * pw ((t : Int) + 1) 10005 * a[n - 1 - t]?.getD 0 = ift t * a[n - 1 - t]?.getD 0 * pw ((t : Int) + 1) 10005 := by generalize pw ((t : Int) + 1) 10005 = w; ac_rfl
        rw [e]
        refine cgI.trans (b := (raiN a t)[n - 1]?.getD 0 * pw ((t : Int) + 1) 10005) ?_ (cgI.mul ih (cgI.refl _))
        exact Int.emod_emod_of_dvd _ (Int.dvd_refl _)
      · rw [if_neg (by omega)] at ih
        rw [if_neg ht]
        refine cgI.trans (b := (raiN a t)[n - 1]?.getD 0 * pw ((t : Int) + 1) 10005) (Int.emod_emod_of_dvd _ (Int.dvd_refl _)) ?_
        refine cgI.trans (cgI.mul ih (cgI.refl _)) (cgI.eq (Int.zero_mul _))
/-- The sum of the first terms of the reference's flow. -/
def gT (f : List (List Mon)) (P : List (List Int)) (k m t : Nat) : Int := if t ≤ m then ift t * (evS P (alN f f.length k t))[m - t]?.getD 0 else 0
theorem flsS_at {f : List (List Mon)} {P : List (List Int)} {k m : Nat} (hk : k < P.length) (hP : P.length = f.length) (hm : m < 7) : ∀ n, cgI.r (((flsS f P n)[k]?.getD [])[m]?.getD 0) (sT (gT f P k m) (n + 1))
  | 0 => by
    have h := evS_ser P (alN f f.length k 0) m hm
    rw [hP, alN, evM_one _ (by omega)] at h
    show cgI.r ((P[k]?.getD [])[m]?.getD 0) (ofI 0 + gT f P k m 0)
    rw [zadd]
    unfold gT
    rw [if_pos (by omega), ift, Int.one_mul, Nat.sub_zero]
    exact cgI.symm h
  | n + 1 => by
    rw [sT]
    have e : (flsS f P (n + 1))[k]?.getD [] = tb (fun m => (((flsS f P n)[k]?.getD [])[m]?.getD 0 + (raiN (evS P (alN f f.length k (n + 1))) (n + 1))[m]?.getD 0) % 10007) 7 := by simp [flsS, hk]
    rw [e, tb_get _ hm]
    refine cgI.trans (Int.emod_emod_of_dvd _ (Int.dvd_refl _)) ?_
    exact cgI.add (flsS_at hk hP hm n) (raiN_at (evS_len _ _) (n + 1) m hm)
theorem sT_only (g : Nat → Int) (m : Nat) : ∀ n, m < n → (∀ t, t ≠ m → g t % 10007 = 0) → cgI.r (sT g n) (g m)
  | 0, h, _ => by omega
  | n + 1, h, hz => by
    have zero : ∀ j, (∀ t, t < j → g t % 10007 = 0) → cgI.r (sT g j) 0 := by
      intro j
      induction j with
      | zero => intro _; exact cgI.refl _
      | succ j ih =>
        intro hj
        exact cgI.trans (cgI.add (ih (fun t ht => hj t (by omega))) (show cgI.r (g j) 0 from hj j (by omega))) (cgI.eq (Int.add_zero _))
    rw [sT]
    by_cases e : m = n
    · subst e
      exact cgI.trans (cgI.add (zero m (fun t ht => hz t (by omega))) (cgI.refl _)) (cgI.eq (Int.zero_add _))
    · have h0 : cgI.r (g n) 0 := hz n (fun x => e x.symm)
      exact cgI.trans (cgI.add (sT_only g m n (by omega) hz) h0) (cgI.eq (Int.add_zero _))
/-- At a point. -/
theorem evS_point {y : List Int} (p : List Mon) {j : Nat} (hj : j < 7) : cgI.r ((evS (poS y) p)[j]?.getD 0) (if j = 0 then evM y.length (fun k => y[k]?.getD 0) p else 0) := by
  have h := evS_ser (poS y) p j hj
  rw [poS_len] at h
  refine cgI.trans h ?_
  have e : c7.r (evM y.length (toU (poS y)) p) (evM y.length (fun k => (ofI (y[k]?.getD 0) : Ser Int)) p) := c7.evM (fun k hk => c7.eq (by
    show toS ((poS y)[k]?.getD []) = _
    rw [poS_at hk, unS_ser])) p
  refine cgI.trans (e j hj) (cgI.eq ?_)
  rw [evM_of]; rfl
theorem flows_agree {z : Int} {f : List (List Mon)} {y : List Int} (hf : FieldOk z f) (hl : y.length = f.length) (hy : Ns y) : floS f y 6 = flsS f (poS y) 6 := by
  refine List.ext_getElem (by simp) fun k h1 h2 => ?_
  have hk : k < y.length := by simpa using h1
  have r1 := floS_row (f := f) hy 6 _ (memD [] h1)
  have r2 := flsS_row (f := f) (poS_row hy) 6 _ (memD [] h2)
  have e1 : (floS f y 6)[k]?.getD [] = (floS f y 6)[k] := by rw [List.getElem?_eq_getElem h1]; rfl
  have e2 : (flsS f (poS y) 6)[k]?.getD [] = (flsS f (poS y) 6)[k] := by rw [List.getElem?_eq_getElem h2]; rfl
  rw [← e1, ← e2]
  refine List.ext_getElem (by rw [r1.1, r2.1]) fun m m1 m2 => ?_
  have hm : m < 7 := by rw [r1.1] at m1; exact m1
  have a1 := floS_is hf hl hy (k := k) (n := m) (by omega) (by omega)
  have a2 := flsS_at (f := f) (P := poS y) (k := k) (m := m) (by simp; exact hk) (by simp; exact hl) hm 6
  have a3 : cgI.r (sT (gT f (poS y) k m) 7) (gT f (poS y) k m m) := sT_only _ m 7 (by omega) (fun t ht => by
    unfold gT
    split
    · have h := evS_point (y := y) (alN f f.length k t) (j := m - t) (by omega)
      rw [if_neg (by omega)] at h
      have h : (evS (poS y) (alN f f.length k t))[m - t]?.getD 0 % 10007 = 0 := h
      rw [Int.mul_emod, h]; simp
    · rfl)
  have a4 : cgI.r (gT f (poS y) k m m) (ift m * evM f.length (fun k => y[k]?.getD 0) (alN f f.length k m)) := by
    unfold gT
    rw [if_pos (Nat.le_refl _), Nat.sub_self]
    have h := evS_point (y := y) (alN f f.length k m) (j := 0) (by omega)
    rw [if_pos rfl, hl] at h
    exact cgI.mul (cgI.refl _) h
  have a5 : cgI.r (((floS f y 6)[k]?.getD [])[m]?.getD 0) (ift m * evM f.length (fun k => y[k]?.getD 0) (alN f f.length k m)) := by
    refine cgI.trans ?_ (cgI.mul (cgI.refl (ift m)) a1)
    have h := ift_fct m (by omega)
    generalize ((floS f y 6)[k]?.getD [])[m]?.getD 0 = x
    show x % 10007 = (ift m * (fct m * x)) % 10007
    rw [← Int.mul_assoc, Int.mul_emod, h, Int.one_mul, Int.emod_emod_of_dvd _ (Int.dvd_refl _)]
  have a6 : ((floS f y 6)[k]?.getD [])[m]?.getD 0 % 10007 = ((flsS f (poS y) 6)[k]?.getD [])[m]?.getD 0 % 10007 := cgI.trans a5 (cgI.symm (cgI.trans a2 (cgI.trans a3 a4)))
  have n1 := r1.2.get m
  have n2 := r2.2.get m
  obtain ⟨x0, x1⟩ := n1
  obtain ⟨x2, x3⟩ := n2
  have a7 : ((floS f y 6)[k]?.getD [])[m]?.getD 0 = ((flsS f (poS y) 6)[k]?.getD [])[m]?.getD 0 := by omega
  rw [List.getElem?_eq_getElem m1, List.getElem?_eq_getElem m2] at a7
  exact a7
end Go.Proofs.Ytngakdgkeemjhaa

/- Contracts: flows from a point, the program's and the reference's. -/
namespace Go.Proofs.Ytngakdgkeemjhaa
open Go.Abs
set_option linter.unusedVariables false
set_option linter.unusedSimpArgs false
set_option maxHeartbeats 1000000
/-- A code for a field and a point. -/
def fpE (z : Int) (f : List (List Mon)) (y : List Int) : Int := if fieldB z f = true then if vecB z y = true then 0 else 2 else 1
theorem fpE_ok {z : Int} {f : List (List Mon)} {y : List Int} (h : fpE z f y = 0) : FieldOk z f ∧ (y.length : Int) = z ∧ Ns y := by
  unfold fpE at h
  split at h
  · rename_i hF
    split at h
    · rename_i hV
      unfold vecB at hV
      simp only [Bool.and_eq_true, decide_eq_true_eq] at hV
      exact ⟨fieldB_iff.1 hF, hV.1, numsB_N.1 hV.2⟩
    · simp at h
  · simp at h
theorem chk_one (z : Int) (f : List (List Mon)) (y : List Int) : chk z f [y] = fpE z f y := by
  unfold chk fpE
  cases hV : vecB z y <;> simp [hV]
def fsX (z : Int) (f : List (List Mon)) (y : List Int) : List (List Int) := if fpE z f y = 0 then turnS (floS f y 6) else []
def fsR (z : Int) (f : List (List Mon)) (y : List Int) : AV := .tup [.own 23 (fsX z f y).length (omat (fsX z f y)), .int (fpE z f y)]
theorem flo_turn {f : List (List Mon)} {y : List Int} (y1 : 1 ≤ y.length) (hy : Ns y) (n : Nat) : (turnS (floS f y n)).length = 7 ∧ ∀ r ∈ turnS (floS f y n), r.length = y.length ∧ Ns r := by
  have sr := floS_row (f := f) hy n
  have s0 := memD (i := 0) [] (l := floS f y n) (by rw [floS_len]; omega)
  refine ⟨by rw [turnS_len, (sr _ s0).1], fun r h => ?_⟩
  have := turnS_row rfl (fun r h => (sr r h).2) r h
  rw [floS_len] at this
  exact this
theorem fsX_row {z : Int} {f : List (List Mon)} {y : List Int} (h : fpE z f y = 0) : (fsX z f y).length = 7 ∧ ∀ r ∈ fsX z f y, r.length = y.length ∧ Ns r := by
  obtain ⟨hF, hl, hN⟩ := fpE_ok h
  have z1 := hF.lo
  unfold fsX
  rw [if_pos h]
  exact flo_turn (by omega) hN 6
theorem fsX_ok (z : Int) (f : List (List Mon)) (y : List Int) : (fsX z f y).length ≤ 7 ∧ ∀ r ∈ fsX z f y, r.length ≤ 3 := by
  by_cases h : fpE z f y = 0
  · obtain ⟨hF, hl, hN⟩ := fpE_ok h
    have z3 := hF.hi
    obtain ⟨e1, e2⟩ := fsX_row h
    exact ⟨by omega, fun r hr => by have := (e2 r hr).1; omega⟩
  · unfold fsX
    rw [if_neg h]
    simp
set_option maxRecDepth 100000 in
theorem FlowSeries_c (z : Int) (f : List (List Mon)) (y : List Int) (hs : Small f) (hy : y.length ≤ 1048576) :
    Con Try.prog 38 [.agg [.int z, .sl f.length (prt f)], .sl y.length (avs y)] (fsR z f y) := by
  have cK := checkVectors_c z f [y] hs (by simp) (by simp; omega)
  have e1 : mat [y] = [.sl y.length (avs y)] := rfl
  have e2 : ([y] : List (List Int)).length = 1 := rfl
  rw [e1, e2, chk_one] at cK
  unfold fsR fsX
  have hz := @fpE_ok z f y
  generalize fpE z f y = e at *
  by_cases he : e = 0
  · subst he
    obtain ⟨hF, hl, hN⟩ := hz rfl
    have z1 := hF.lo
    have z3 := hF.hi
    have zl := hF.len
    have cP := polynomials_c z f hF hs
    have cL := flow_c f y hF hs hl hN
    obtain ⟨t1, t2⟩ := flo_turn (f := f) (by omega) hN 6
    have sl := floS_len f y 6
    have sr := floS_row (f := f) hN 6
    have s0 := memD (i := 0) [] (l := floS f y 6) (by omega)
    have s7 := (sr _ s0).1
    have cE := turned_c (floS f y 6) (by omega) (by omega) (fun r h => by have := (sr r h).1; omega) (by omega)
    rw [sl] at cE
    rw [if_pos rfl]
    generalize turnS (floS f y 6) = X at *
    generalize floS f y 6 = E at *
    refine con_of_vc Try.mixed ⟨7, [], [], []⟩ Try.func38 (by decide) rfl (by simp) (by decide) (by simp [freshOK, freshL, go_sem]) ?_
    rw [Try.ntmps38]
    simp [go_sem]
    refine CallVC.of (cK) (by decide) ?_
    simp [go_sem]
    refine CallVC.of (cP) (by decide) ?_
    simp [go_sem]
    refine CallVC.of (cL) (by decide) ?_
    simp [go_sem]
    refine CallVC.of (cE) (by decide) ?_
    simp [go_sem]
  · rw [if_neg he]
    refine Con.n1 _ ?_
    refine con_of_vc Try.mixed ⟨7, [], [], []⟩ Try.func38 (by decide) rfl (by simp) (by decide) (by simp [freshOK, freshL, go_sem]) ?_
    rw [Try.ntmps38]
    simp [go_sem]
    refine CallVC.of (cK) (by decide) ?_
    simp [go_sem]
    simp [go_sem, he]
set_option maxRecDepth 100000 in
theorem specFlowSeries_c (z : Int) (f : List (List Mon)) (y : List Int) (hs : Small f) (hy : y.length ≤ 1048576) :
    Con Try.prog 37 [.agg [.int z, .sl f.length (prt f)], .sl y.length (avs y)] (fsR z f y) := by
  have cT := l13Is_c z f hs
  have cR := l13Point_c z y (by omega)
  have hvb : (decide ((y.length : Int) = z) && numsB y) = vecB z y := rfl
  rw [hvb] at cR
  unfold fsR fsX
  have hz := @fpE_ok z f y
  have hd : fpE z f y = if fieldB z f = true then if vecB z y = true then 0 else 2 else 1 := rfl
  generalize fpE z f y = e at *
  by_cases he : e = 0
  · subst he
    obtain ⟨hF, hl, hN⟩ := hz rfl
    have z1 := hF.lo
    have z3 := hF.hi
    have zl := hF.len
    have cU := l14Start_c y hy
    have cL := l14Flow_c f (stV y) hF hs (stV_len y) (fun r h => by rw [← hl]; have := stV_row hN r h; exact ⟨by omega, this.2⟩)
    rw [stV_len, turn_stV, ← flows_agree hF (by omega) hN] at cL
    obtain ⟨t1, t2⟩ := flo_turn (f := f) (by omega) hN 6
    rw [if_pos rfl, t1]
    generalize turnS (floS f y 6) = X at *
    generalize stV y = U at *
    cases hT : fieldB z f with
    | false => rw [hT] at hd; simp at hd
    | true =>
      cases hV : vecB z y with
      | false => rw [hT, hV] at hd; simp at hd
      | true =>
        rw [hT] at cT
        rw [hV] at cR
        refine con_of_vc Try.mixed ⟨6, [], [], []⟩ Try.func37 (by decide) rfl (by simp) (by decide) (by simp [freshOK, freshL, go_sem]) ?_
        rw [Try.ntmps37]
        simp [go_sem]
        refine CallVC.of (cT) (by decide) ?_
        simp [go_sem]
        refine CallVC.of (cR) (by decide) ?_
        simp [go_sem]
        refine ⟨by kernel_rfl, ?_⟩
        refine CallD.of (cU) (by simp [roots, rootsL]) (by decide) ?_
        simp [go_sem]
        refine CallD.of (cL) (by simp [roots, rootsL]) (by decide) ?_
        simp [go_sem]
        refine ⟨by kernel_rfl, ?_⟩
        simp [go_sem]
  · rw [if_neg he]
    refine Con.n1 _ ?_
    clear hz
    cases hT : fieldB z f with
    | false =>
      rw [hT] at hd cT
      simp at hd
      subst hd
      refine con_of_vc Try.mixed ⟨6, [], [], []⟩ Try.func37 (by decide) rfl (by simp) (by decide) (by simp [freshOK, freshL, go_sem]) ?_
      rw [Try.ntmps37]
      simp [go_sem]
      refine CallVC.of (cT) (by decide) ?_
      simp [go_sem]
    | true =>
      cases hV : vecB z y with
      | false =>
        rw [hT, hV] at hd
        rw [hT] at cT
        rw [hV] at cR
        simp at hd
        subst hd
        refine con_of_vc Try.mixed ⟨6, [], [], []⟩ Try.func37 (by decide) rfl (by simp) (by decide) (by simp [freshOK, freshL, go_sem]) ?_
        rw [Try.ntmps37]
        simp [go_sem]
        refine CallVC.of (cT) (by decide) ?_
        simp [go_sem]
        refine CallVC.of (cR) (by decide) ?_
        simp [go_sem]
      | true =>
        rw [hT, hV] at hd
        simp at hd
        exact absurd hd he
end Go.Proofs.Ytngakdgkeemjhaa

/- Contracts: all trees with so many nodes, the program's. -/
namespace Go.Proofs.Ytngakdgkeemjhaa
open Go.Abs
set_option linter.unusedVariables false
set_option linter.unusedSimpArgs false
set_option maxHeartbeats 1000000
/-- The last place of a number above 1, below j. -/
def pF (t : List Int) : Nat → Option Nat
  | 0 => none
  | j + 1 => if t[j]?.getD 0 ≤ 1 then pF t j else some j
/-- The last place of a number, below j. -/
def qF (t : List Int) (v : Int) : Nat → Option Nat
  | 0 => none
  | j + 1 => if t[j]?.getD 0 = v then some j else qF t v j
/-- A list after k of its numbers from p on were taken over. -/
def fiS (t : List Int) (d p : Nat) : Nat → List Int
  | 0 => t
  | k + 1 => (fiS t d p k).set (p + k) ((fiS t d p k)[p + k - d]?.getD 0)
@[simp] theorem fiS_len (t : List Int) (d p : Nat) : ∀ k, (fiS t d p k).length = t.length
  | 0 => rfl
  | k + 1 => by simp [fiS, fiS_len t d p k]
def genT : Nat → List Int → List (List Int)
  | 0, _ => []
  | k + 1, t => t :: match pF t t.length with
    | none => []
    | some p => match qF t (t[p]?.getD 0 - 1) p with
      | none => []
      | some q => genT k (fiS t (p - q) p (t.length - p))
def chkT : Nat → List Int → Bool
  | 0, _ => false
  | k + 1, t => t.all (fun x => decide (0 ≤ x ∧ x ≤ 100)) && match pF t t.length with
    | none => true
    | some p => match qF t (t[p]?.getD 0 - 1) p with
      | none => false
      | some q => chkT k (fiS t (p - q) p (t.length - p))
theorem pF_lt {t : List Int} : ∀ {j p : Nat}, pF t j = some p → p < j
  | j + 1, p, h => by
    rw [pF] at h
    split at h
    · have := pF_lt h; omega
    · injection h with h; omega
theorem qF_lt {t : List Int} {v : Int} : ∀ {j q : Nat}, qF t v j = some q → q < j ∧ t[q]?.getD 0 = v
  | j + 1, q, h => by
    rw [qF] at h
    split at h
    · injection h with h; subst h; exact ⟨by omega, by assumption⟩
    · have := qF_lt h; exact ⟨by omega, this.2⟩
set_option maxRecDepth 100000 in
theorem treesOf_c (n F : Nat) (hn : n ≤ 1000) (hF : F ≤ 1000000) (hc : chkT F (upTo n) = true) : Con Try.prog 109 [.int n] (.own 23 (genT F (upTo n)).length (omat (genT F (upTo n)))) := by
  refine con_of_vc Try.mixed ⟨9, [], [], []⟩ Try.func109 (by decide) rfl (by simp) (by decide) (by simp [freshOK, freshL, go_sem]) ?_
  rw [Try.ntmps109]
  simp [go_sem]
  refine loop_inv (3 :: 5 :: List.range' 12 8) (fun i : Nat => [(3, .own 2 i (avs (upTo i))), (12, .int i)]) (fun i => i ≤ n) (fun i => n - i) 0 (by simp) (by simp [go_sem, upTo]) (by simp [go_sem]) ?_
  intro i hi
  simp [go_sem]
  refine ⟨fun h => ?_, fun h => ?_⟩ <;> simp at h
  · simp [go_sem]
    refine ⟨⟨by omega, by omega⟩, by omega, i + 1, by omega, by omega, Off_reset _ _ _ (by simp), by rw [upTo_succ, avs_snoc]; exact ⟨rfl, rfl⟩, by omega⟩
  · have e : i = n := by omega
    subst e
    simp [go_sem]
    refine loop_inv (2 :: 3 :: 4 :: 6 :: 7 :: 8 :: List.range' 20 52) (fun x : Nat × List Int × List (List Int) => [(3, .own 2 i (avs x.2.1)), (4, .own 23 x.2.2.length (omat x.2.2))]) (fun x => x.2.2 ++ genT x.1 x.2.1 = genT F (upTo i) ∧ chkT x.1 x.2.1 = true ∧ x.2.1.length = i ∧ x.2.2.length + x.1 ≤ F) (fun x => x.1) (F, upTo i, []) ⟨by simp, hc, by simp, by simp⟩ (by simp [go_sem, omat_nil]) (by simp [go_sem]) ?_
    rintro ⟨k, t, done⟩ ⟨hg, hk, hl, hdl⟩
    simp only at hg hk hl hdl
    cases k with
    | zero => simp [chkT] at hk
    | succ k =>
      rw [chkT] at hk
      rw [genT] at hg
      simp only [Bool.and_eq_true] at hk
      obtain ⟨hb, hk⟩ := hk
      have hb2 : ∀ j : Nat, 0 ≤ t[j]?.getD 0 ∧ t[j]?.getD 0 ≤ 100 := fun j => by
        rcases Nat.lt_or_ge j t.length with hj | hj
        · have := (List.all_eq_true.1 hb) _ (List.getElem_mem hj)
          simp only [decide_eq_true_eq] at this
          simpa [hj] using this
        · simp [List.getElem?_eq_none hj]
      have cC := Clone_c t (by omega)
      rw [hl] at cC hk hg
      simp [go_sem]
      refine CallVC.of (cC) (by decide) ?_
      simp [go_sem]
      refine ⟨⟨by omega, by omega⟩, ⟨by omega, by omega⟩, ?_⟩
      refine loop_inv (6 :: List.range' 27 11) (fun j : Nat => [(6, .int ((j : Int) - 1))]) (fun j => j ≤ i ∧ pF t i = pF t j) (fun j => j) i ⟨by omega, rfl⟩ (by simp [go_sem]) (by simp [go_sem]) ?_
      rintro j ⟨hj, hpj⟩
      rcases j with _ | j
      · rw [hpj, pF] at hg
        simp [go_sem]
        rw [← hg, omat_app, omat_one, hl]
        exact ⟨by simp, rfl⟩
      · have hjt : j < t.length := by omega
        have ej : ((j + 1 : Nat) : Int) - 1 = j := by omega
        have j0 : (0 : Int) ≤ j := by omega
        by_cases ht : t[j]?.getD 0 ≤ 1
        · rw [pF, if_pos ht] at hpj
          simp [go_sem, ej, j0, avs_at hjt, ht]
          exact ⟨by omega, ⟨by omega, by omega⟩, j, ⟨by omega, hpj⟩, by omega, Off_reset _ _ _ (by simp), by omega⟩
        · rw [pF, if_neg ht] at hpj
          rw [hpj] at hg hk
          simp only at hg hk
          have jn : ¬ (j : Int) < 0 := by omega
          cases hq : qF t (t[j]?.getD 0 - 1) j with
          | none => rw [hq] at hk; simp at hk
          | some q =>
            rw [hq] at hg hk
            simp only at hg hk
            have hql := qF_lt hq
            have b1 := hb2 j
            simp [go_sem, ej, j0, avs_at hjt, ht, jn]
            refine ⟨by omega, ⟨by omega, by omega⟩, ?_⟩
            refine loop_inv (7 :: List.range' 43 12) (fun r : Nat => [(7, .int ((r : Int) - 1))]) (fun r => r ≤ j ∧ qF t (t[j]?.getD 0 - 1) r = some q) (fun r => r) j ⟨by omega, hq⟩ (by simp [go_sem]) (by simp [go_sem]) ?_
            rintro r ⟨hr, hqr⟩
            rcases r with _ | r
            · simp [qF] at hqr
            · have hrt : r < t.length := by omega
              have er : ((r + 1 : Nat) : Int) - 1 = r := by omega
              by_cases hv : t[r]?.getD 0 = t[j]?.getD 0 - 1
              · rw [qF, if_pos hv] at hqr
                injection hqr with hqr
                subst hqr
                simp [go_sem, er, avs_at hrt, avs_at hjt, hv]
                refine ⟨by kernel_rfl, by omega, by omega, ⟨by omega, by omega⟩, ?_⟩
                refine ⟨by kernel_rfl, ?_⟩
                simp [go_sem]
                refine loop_inv (3 :: 8 :: List.range' 56 16) (fun e : Nat => [(3, .own 2 i (avs (fiS t (j - r) j e))), (8, .int ((j + e : Nat) : Int))]) (fun e => j + e ≤ i) (fun e => i - e) 0 (by omega) (by simp [go_sem, fiS]) (by simp [go_sem]) ?_
                intro e he
                simp [go_sem]
                refine ⟨fun h => ?_, fun h => ?_⟩ <;> simp at h
                · have hlf := fiS_len t (j - r) j e
                  have k1 : j + e - (j - r) < (fiS t (j - r) j e).length := by omega
                  have k2 : j + e < (fiS t (j - r) j e).length := by omega
                  have ix : ((j : Int) + e - (j - r)) = ((j + e - (j - r) : Nat) : Int) := by omega
                  have hs : fiS t (j - r) j (e + 1) = (fiS t (j - r) j e).set (j + e) ((fiS t (j - r) j e)[j + e - (j - r)]?.getD 0) := rfl
                  generalize hF1 : fiS t (j - r) j (e + 1) = F1 at *
                  generalize fiS t (j - r) j e = F0 at *
                  have ix2 : ((j : Int) + e - (j - r)).toNat = j + e - (j - r) := by omega
                  have ij2 : ((j : Int) + e).toNat = j + e := by omega
                  simp [go_sem, ix2, avs_at k1, ij2]
                  refine ⟨⟨by omega, by omega⟩, ⟨by omega, by omega⟩, ⟨by omega, by omega⟩, ⟨by omega, by omega⟩, k2, ⟨by omega, by omega⟩, e + 1, by omega, by omega, Off_reset _ _ _ (by simp), ?_, by omega⟩
                  rw [hF1, hs, avs_set]
                · have en : e = i - j := by omega
                  subst en
                  have h1 : done ++ [t] ++ genT k (fiS t (j - r) j (i - j)) = genT F (upTo i) := by rw [← hg]; simp
                  simp [go_sem]
                  refine ⟨k, fiS t (j - r) j (i - j), done ++ [t], ⟨h1, hk, by rw [fiS_len]; exact hl, by simp; omega⟩, by omega, (by repeat (first | exact Off_reset _ _ _ (by simp) | (refine Off.reset (by intro x hx; simp at hx ⊢; omega) (by simp) ?_; simp -failIfUnchanged [go_sem, Off_reset]))), rfl, ?_⟩
                  rw [omat_app, omat_one, hl]
                  exact ⟨by simp, rfl⟩
              · rw [qF, if_neg hv] at hqr
                simp [go_sem, er, avs_at hrt, avs_at hjt, hv]
                refine ⟨by kernel_rfl, by omega, by omega, ⟨by omega, by omega⟩, ?_⟩
                refine ⟨by kernel_rfl, ?_⟩
                simp [go_sem]
                exact ⟨⟨by omega, by omega⟩, r, ⟨by omega, hqr⟩, by omega, Off_reset _ _ _ (by simp), by omega⟩
end Go.Proofs.Ytngakdgkeemjhaa

/- Contracts: canonical lists, the reference's. -/
namespace Go.Proofs.Ytngakdgkeemjhaa
open Go.Abs
set_option linter.unusedVariables false
set_option linter.unusedSimpArgs false
set_option maxHeartbeats 1000000
theorem rev_ind {α : Type} {P : List α → Prop} (h0 : P []) (h1 : ∀ l a, P l → P (l ++ [a])) (l : List α) : P l := by
  rw [← List.reverse_reverse l]
  induction l.reverse with
  | nil => exact h0
  | cons a l ih => rw [List.reverse_cons]; exact h1 _ _ ih
/-- A list put among sorted ones, behind those that are not less. -/
def atL (p : List Int) : List (List Int) → Nat
  | [] => 0
  | s :: S => if ltL s p = true then 0 else atL p S + 1
theorem atL_le (p : List Int) : ∀ S, atL p S ≤ S.length
  | [] => by simp [atL]
  | s :: S => by have := atL_le p S; rw [atL]; split <;> simp; omega
def insL (p : List Int) (S : List (List Int)) : List (List Int) := S.take (atL p S) ++ p :: S.drop (atL p S)
@[simp] theorem insL_len (p : List Int) (S : List (List Int)) : (insL p S).length = S.length + 1 := by have := atL_le p S; simp [insL]; omega
theorem insL_mem {p x : List Int} {S : List (List Int)} (h : x ∈ insL p S) : x = p ∨ x ∈ S := by
  rcases List.mem_append.1 h with h | h
  · exact .inr (List.mem_of_mem_take h)
  · rcases List.mem_cons.1 h with h | h
    · exact .inl h
    · exact .inr (List.mem_of_mem_drop h)
theorem sumL_ins (p : List Int) (S : List (List Int)) : sumL (insL p S) = sumL S + p.length := by
  have h := congrArg sumL (List.take_append_drop (atL p S) S)
  rw [sumL_app] at h
  rw [insL, sumL_app, sumL]
  omega
/-- The list of a tree with some branches. -/
def rootL (S : List (List Int)) : List Int := 0 :: S.flatMap fun b => b.map (· + 1)
theorem rootL_len (S : List (List Int)) : (rootL S).length = sumL S + 1 := by
  have : ∀ S : List (List Int), (S.flatMap fun b => b.map (· + 1)).length = sumL S := by
    intro S
    induction S with
    | nil => rfl
    | cons b S ih => simp [sumL, ih]
  rw [rootL, List.length_cons, this]
def canF : Nat → List Int → List Int
  | 0, _ => []
  | n + 1, t => rootL ((brs t).foldl (fun S b => insL (canF n b) S) [])
def insA (n : Nat) (bs : List (List Int)) : List (List Int) := bs.foldl (fun S b => insL (canF n b) S) []
theorem insA_snoc (n : Nat) (bs : List (List Int)) (b : List Int) : insA n (bs ++ [b]) = insL (canF n b) (insA n bs) := by simp [insA]
theorem insA_mem {n : Nat} {bs : List (List Int)} : ∀ {x : List Int}, x ∈ insA n bs → ∃ b ∈ bs, x = canF n b := by
  refine rev_ind (P := fun bs => ∀ {x : List Int}, x ∈ insA n bs → ∃ b ∈ bs, x = canF n b) ?_ ?_ bs
  · intro x hx; simp [insA] at hx
  · intro l b ih x hx
    rw [insA_snoc] at hx
    rcases insL_mem hx with h | h
    · exact ⟨b, by simp, h⟩
    · obtain ⟨c, hc, e⟩ := ih h
      exact ⟨c, by simp [hc], e⟩
theorem insA_len_le (n : Nat) (bs : List (List Int)) (k : Nat) (h : bs.length ≤ k) : (insA n bs).length ≤ k := by
  have : ∀ bs : List (List Int), (insA n bs).length = bs.length := rev_ind rfl (fun l b ih => by rw [insA_snoc, insL_len, ih]; simp)
  rw [this]; exact h
theorem canF_val (n : Nat) : ∀ (t : List Int), ∀ x ∈ canF n t, 0 ≤ x ∧ x ≤ n := by
  induction n with
  | zero => intro t x hx; simp [canF] at hx
  | succ n ih =>
    intro t x hx
    rw [canF] at hx
    rcases List.mem_cons.1 hx with rfl | hx
    · omega
    · obtain ⟨b, hb, hx⟩ := List.mem_flatMap.1 hx
      obtain ⟨y, hy, rfl⟩ := List.mem_map.1 hx
      obtain ⟨c, hc, rfl⟩ := insA_mem (n := n) (bs := brs t) hb
      have := ih c y hy
      omega
theorem sumL_set {A : List (List Int)} {k : Nat} (h : k < A.length) (v : List Int) : sumL (A.set k v) + (A[k]?.getD []).length = sumL A + v.length := by
  induction A generalizing k with
  | nil => simp at h
  | cons r A ih =>
    cases k with
    | zero => simp [sumL]; omega
    | succ k => have := ih (k := k) (by simpa using h); simp [sumL] at this ⊢; omega
theorem brStep_sum {out : List (List Int)} {x : Int} (h : out ≠ [] ∨ x = 1) : sumL (brStep out x) = sumL out + 1 := by
  unfold brStep
  simp only
  have ho : (if x = 1 then out ++ [[]] else out) ≠ [] := by
    split
    · simp
    · rcases h with h | h
      · exact h
      · contradiction
  have hs : sumL (if x = 1 then out ++ [[]] else out) = sumL out := by
    split
    · rw [sumL_app]; simp [sumL]
    · rfl
  generalize (if x = 1 then out ++ [[]] else out) = o at *
  have hl : o.length - 1 < o.length := by have := List.length_pos_iff.2 ho; omega
  have := sumL_set hl (o[o.length - 1]?.getD [] ++ [x - 1])
  simp at this
  omega
theorem brs_sum {t : List Int} (h : Lv t) : ∀ i, 1 ≤ i → i ≤ t.length → sumL (brs (t.take i)) + 1 = i ∧ (2 ≤ i → brs (t.take i) ≠ [])
  | 0, h1, _ => by omega
  | 1, _, _ => by
    have : brs (t.take 1) = [] := by
      unfold brs
      rw [List.drop_eq_nil_of_le (by simp; omega)]; rfl
    rw [this]
    exact ⟨rfl, by omega⟩
  | i + 2, h1, h2 => by
    have ih := brs_sum h (i + 1) (by omega) (by omega)
    rw [brs_take (by omega) (by omega)]
    have hne : brs (t.take (i + 1)) ≠ [] ∨ t[i + 1]?.getD 0 = 1 := by
      by_cases e : i = 0
      · subst e
        have h3 := h.2.2 1 (by omega) (by omega)
        rw [show 1 - 1 = 0 by omega, h.2.1] at h3
        exact .inr (by show t[1]?.getD 0 = 1; omega)
      · exact .inl (ih.2 (by omega))
    rw [brStep_sum hne]
    refine ⟨by omega, fun _ e => ?_⟩
    have := brStep_sum hne
    rw [e] at this
    simp [sumL] at this
theorem brs_total {t : List Int} (h : Lv t) : sumL (brs t) + 1 = t.length := by
  have := (brs_sum h t.length h.1 (Nat.le_refl _)).1
  rwa [List.take_length] at this
theorem canF_len : ∀ (n : Nat) (t : List Int), Lv t → t.length ≤ n → (canF n t).length = t.length
  | 0, t, h, hl => by have := h.1; omega
  | n + 1, t, h, hl => by
    have gen : ∀ bs : List (List Int), (∀ b ∈ bs, (canF n b).length = b.length) → sumL (insA n bs) = sumL bs := by
      intro bs
      refine rev_ind (P := fun bs => (∀ b ∈ bs, (canF n b).length = b.length) → sumL (insA n bs) = sumL bs) (fun _ => rfl) ?_ bs
      intro l b ih hb
      rw [insA_snoc, sumL_ins, sumL_app, ih (fun c hc => hb c (by simp [hc])), hb b (by simp)]
      simp [sumL]
    have e : (brs t).foldl (fun S b => insL (canF n b) S) [] = insA n (brs t) := rfl
    rw [canF, rootL_len, e, gen (brs t) (fun b hb => by
      have := brs_ok h hb
      exact canF_len n b this.1 (by have := this.2; omega)), brs_total h]
theorem mat_app (A C : List (List Int)) : mat (A ++ C) = mat A ++ mat C := by simp [mat]
theorem mat_get {A : List (List Int)} {k : Nat} (h : k < A.length) : (mat A)[k]? = some (.sl (A[k]?.getD []).length (avs (A[k]?.getD []))) := by simp [mat, h]
theorem mat_dropL (A : List (List Int)) (k : Nat) : (mat A).drop k = mat (A.drop k) := by simp [mat]
theorem mat_takeL (A : List (List Int)) (k : Nat) : (mat A).take k = mat (A.take k) := by simp [mat, List.map_take]
theorem mat_noown : ∀ A : List (List Int), hasOwnL (mat A) = false
  | [] => rfl
  | r :: A => by
    have := mat_noown A
    simp only [mat, List.map_cons] at this ⊢
    rw [hasOwnL, this]; rfl
theorem sumL_ge {A : List (List Int)} {b : List Int} (h : b ∈ A) : b.length ≤ sumL A := by
  induction A with
  | nil => simp at h
  | cons r A ih =>
    rcases List.mem_cons.1 h with rfl | h
    · simp [sumL]
    · have := ih h; simp only [sumL]; omega
set_option maxRecDepth 100000 in
theorem l03Canon_c : ∀ (n : Nat) (t : List Int), n ≤ 1000 → Lv t → t.length ≤ n → Con Try.prog 193 [.sl t.length (avs t)] (.own 2 t.length (avs (canF n t)))
  | 0, t, _, h, hl => by have := h.1; omega
  | n + 1, t, hn, h, hl => by
    have hcl := canF_len (n + 1) t h hl
    have cP := l03Parts_c t (by omega) h
    have bt := brs_total h
    have ih := fun b hb => l03Canon_c n b (by omega) (brs_ok h hb).1 (by have := (brs_ok h hb).2; omega)
    have hce : canF (n + 1) t = rootL (insA n (brs t)) := rfl
    rw [hce]
    have blen := fun b (hb : b ∈ brs t) => canF_len n b (brs_ok h hb).1 (by have := (brs_ok h hb).2; omega)
    have bvalid := fun b (hb : b ∈ brs t) => brs_ok h hb
    have bm := brs_many h h.1 (Nat.le_refl _)
    rw [List.take_length] at bm
    generalize brs t = bs at *
    refine con_of_vc Try.mixed ⟨12, [13, 25, 14, 53], [], []⟩ Try.func193 (by decide) rfl (by simp) (by decide) (by simp [freshOK, freshL, go_sem]) ?_
    rw [Try.ntmps193]
    simp [go_sem]
    refine CallVC.of (cP) (by decide) ?_
    simp [go_sem]
    refine loop_inv (4 :: 5 :: 6 :: 7 :: 8 :: List.range' 15 39) (fun i : Nat => [(4, .sl (insA n (bs.take i)).length (mat (insA n (bs.take i)))), (5, .int i)]) (fun i => i ≤ bs.length) (fun i => bs.length - i) 0 (by simp) (by simp [go_sem, insA, mat]) (by simp [go_sem]) ?_
    intro i hi
    simp [go_sem]
    refine ⟨fun h => ?_, fun h => ?_⟩ <;> simp at h
    · have hif : i < bs.length := by omega
      have hb := memD [] hif
      have ht : insA n (bs.take (i + 1)) = insL (canF n (bs[i]?.getD [])) (insA n (bs.take i)) := by
        rw [List.take_add_one, List.getElem?_eq_getElem hif, Option.toList_some, insA_snoc]; rfl
      have c1 := ih _ hb
      have l1 := blen _ hb
      have s1 := sumL_ge hb
      have sl : ∀ s ∈ insA n (bs.take i), s.length ≤ 1000 := fun s hs => by
        obtain ⟨b, hb2, rfl⟩ := insA_mem hs
        have hb3 := List.mem_of_mem_take hb2
        have := sumL_ge hb3
        rw [blen b hb3]; omega
      have il : (insA n (bs.take i)).length ≤ i := insA_len_le n _ _ (by simp; omega)
      generalize hN : insA n (bs.take (i + 1)) = S2 at *
      generalize insA n (bs.take i) = S at *
      simp [go_sem, mat_drop hif]
      refine ⟨⟨hif, by rintro rfl; simp at hif⟩, ?_⟩
      refine CallVC.of (c1) (by decide) ?_
      simp [go_sem]
      rw [← l1]
      generalize canF n (bs[i]?.getD []) = p at *
      refine loop_inv (7 :: List.range' 26 15) (fun a : Nat => [(7, .int a)]) (fun a => a ≤ S.length ∧ atL p S = a + atL p (S.drop a)) (fun a => S.length - a) 0 (by simp) (by simp [go_sem]) (by simp [go_sem]) ?_
      rintro a ⟨ha, hat⟩
      by_cases has : a < S.length
      · have has' : (a : Int) < S.length := by omega
        have hd : S.drop a = S[a]?.getD [] :: S.drop (a + 1) := by rw [List.drop_eq_getElem_cons has]; simp [has]
        rw [hd, atL] at hat
        have hg := mat_drop has
        have hsl := sl _ (memD [] has)
        have cL := l01Less_c (S[a]?.getD []) p (by omega) (by omega)
        by_cases hlt : ltL (S[a]?.getD []) p = true
        · rw [if_pos hlt] at hat
          rw [hlt] at cL
          have hS2 : S2 = S.take a ++ p :: S.drop a := by rw [ht, insL, hat, Nat.add_zero]
          simp [go_sem, has', hg]
          refine ⟨by rintro rfl; simp at has, ?_⟩
          refine CallVC.of (cL) (by decide) ?_
          simp [go_sem]
          simp [go_sem, mat_dropL, mat_takeL, mat_noown]
          refine ⟨by omega, ⟨by omega, by omega⟩, by omega, ⟨by omega, by omega, by omega⟩, ⟨by omega, by omega, by omega, by omega⟩, ⟨by omega, by omega⟩, i + 1, by omega, by omega, (by repeat (first | exact Off_reset _ _ _ (by simp) | (refine Off.reset (by intro x hx; simp at hx ⊢; omega) (by simp) ?_; simp -failIfUnchanged [go_sem, Off_reset]))), ?_, by omega⟩
          rw [hN, hS2]
          have em : frzL (mat (S.take a) ++ AV.sl p.length (avs p) :: mat ((S.drop a).take (S.length - a))) = mat (S.take a ++ p :: S.drop a) := by rw [show (S.drop a).take (S.length - a) = S.drop a from List.take_of_length_le (by simp), ← mat_frz (S.take a ++ p :: S.drop a), mat_app]; rfl
          exact ⟨by simp; omega, em⟩
        · rw [if_neg hlt] at hat
          have hlf : ltL (S[a]?.getD []) p = false := by simpa using hlt
          rw [hlf] at cL
          simp [go_sem, has', hg]
          refine ⟨by rintro rfl; simp at has, ?_⟩
          refine CallVC.of (cL) (by decide) ?_
          simp [go_sem]
          exact ⟨by omega, a + 1, ⟨by omega, by omega⟩, by omega, Off_reset _ _ _ (by simp), by omega⟩
      · have has' : ¬ (a : Int) < S.length := by omega
        have hd : S.drop a = [] := List.drop_eq_nil_of_le (by omega)
        rw [hd, atL] at hat
        have hS2 : S2 = S.take a ++ p :: S.drop a := by rw [ht, insL, hat, Nat.add_zero]
        simp [go_sem, has', mat_dropL, mat_takeL, mat_noown]
        refine ⟨by omega, ⟨by omega, by omega⟩, by omega, ⟨by omega, by omega, by omega⟩, ⟨by omega, by omega, by omega, by omega⟩, ⟨by omega, by omega⟩, i + 1, by omega, by omega, (by repeat (first | exact Off_reset _ _ _ (by simp) | (refine Off.reset (by intro x hx; simp at hx ⊢; omega) (by simp) ?_; simp -failIfUnchanged [go_sem, Off_reset]))), ?_, by omega⟩
        rw [hN, hS2]
        have em : frzL (mat (S.take a) ++ AV.sl p.length (avs p) :: mat ((S.drop a).take (S.length - a))) = mat (S.take a ++ p :: S.drop a) := by rw [show (S.drop a).take (S.length - a) = S.drop a from List.take_of_length_le (by simp), ← mat_frz (S.take a ++ p :: S.drop a), mat_app]; rfl
        exact ⟨by simp; omega, em⟩
    · have e : i = bs.length := by omega
      subst e
      rw [List.take_length]
      have tot : (rootL (insA n bs)).length = t.length := by rw [← hce, hcl]
      rw [rootL_len] at tot
      have val : ∀ x ∈ rootL (insA n bs), 0 ≤ x ∧ x ≤ (n + 1 : Nat) := fun x hx => by rw [← hce] at hx; exact canF_val (n + 1) t x hx
      have sval : ∀ s ∈ insA n bs, ∀ x ∈ s, 0 ≤ x ∧ x ≤ n := fun s hs x hx => by
        obtain ⟨b, _, rfl⟩ := insA_mem hs
        exact canF_val n b x hx
      clear hce hcl
      have Sl : (insA n bs).length ≤ bs.length := insA_len_le n bs _ (Nat.le_refl _)
      generalize insA n bs = S at *
      simp [go_sem]
      refine loop_inv (9 :: 10 :: 11 :: List.range' 55 26) (fun i : Nat => [(9, .own 2 (sumL (S.take i) + 1) (avs (rootL (S.take i)))), (10, .int i)]) (fun i => i ≤ S.length) (fun i => S.length - i) 0 (by simp) (by simp [go_sem, rootL, sumL, avs]) (by simp [go_sem]) ?_
      intro i hi
      simp [go_sem]
      refine ⟨fun h => ?_, fun h => ?_⟩ <;> simp at h
      · have hif : i < S.length := by omega
        have hs := memD [] hif
        have sv := sval _ hs
        have st := sumL_take hif
        have sle := sumL_le S (i + 1)
        have rr : rootL (S.take (i + 1)) = rootL (S.take i) ++ (S[i]?.getD []).map (· + 1) := by
          rw [rootL, List.take_add_one, List.getElem?_eq_getElem hif, Option.toList_some, List.flatMap_append, List.flatMap_singleton]; rfl
        generalize hR : S[i]?.getD [] = b at *
        simp [go_sem]
        refine loop_inv (9 :: 11 :: List.range' 61 20) (fun k : Nat => [(9, .own 2 (sumL (S.take i) + 1 + k) (avs (rootL (S.take i) ++ (b.take k).map (· + 1)))), (11, .int k)]) (fun k => k ≤ b.length) (fun k => b.length - k) 0 (by simp) (by simp [go_sem]) (by simp [go_sem]) ?_
        intro k hk
        simp [go_sem, mat_drop hif, hR]
        refine ⟨⟨hif, by rintro rfl; simp at hif⟩, ?_⟩
        refine ⟨fun h => ?_, fun h => ?_⟩ <;> simp at h
        · have hkb : k < b.length := by omega
          have hv := sv _ (memD 0 hkb)
          simp [go_sem, mat_drop hif, hR, avs_drop hkb]
          have rl := rootL_len (S.take i)
          refine ⟨⟨hif, by rintro rfl; simp at hif⟩, ⟨hkb, by rintro rfl; simp at hkb⟩, ⟨by omega, by omega⟩, ⟨by omega, by omega, by omega⟩, ⟨by omega, by omega⟩, k + 1, by omega, by omega, Off_reset _ _ _ (by simp), ?_, by omega⟩
          rw [List.take_add_one, List.getElem?_eq_getElem hkb]
          refine ⟨by omega, ?_⟩
          rw [avs_app, avs_app, List.append_assoc]
          simp [hkb, avs]
        · have e : k = b.length := by omega
          subst e
          simp [go_sem]
          refine ⟨by omega, i + 1, by omega, by omega, (Off.reset (by intro x hx; simp at hx ⊢; omega) (by simp) (by simp [go_sem, Off_reset])), ?_, by omega⟩
          rw [rr, show (b.map (· + 1)).take b.length = b.map (· + 1) from List.take_of_length_le (by simp)]; exact ⟨by omega, rfl⟩
      · have e : i = S.length := by omega
        subst e
        rw [List.take_length]
        simp [go_sem]
        omega
end Go.Proofs.Ytngakdgkeemjhaa

/- Contracts: all trees with so many nodes, the reference's. -/
namespace Go.Proofs.Ytngakdgkeemjhaa
open Go.Abs
set_option linter.unusedVariables false
set_option linter.unusedSimpArgs false
set_option maxHeartbeats 1000000
/-- A list that may be nil as long as it is empty. -/
def nlA (L : List (List Int)) : AV := match L with
  | [] => .val (.slice none 0 0)
  | _ :: _ => .own 23 L.length (omat L)
/-- All canonical lists with k more nodes that begin with t, put behind L. -/
def grwL : Nat → List Int → List (List Int) → List (List Int)
  | 0, t, L => if canF t.length t = t then L ++ [t] else L
  | k + 1, t, L => (List.range (t[t.length - 1]?.getD 0 + 1).toNat).foldl (fun (L : List (List Int)) (i : Nat) => grwL k (t ++ [t[t.length - 1]?.getD 0 + 1 - (i : Int)]) L) L
def grwI (k : Nat) (t : List Int) (m : Int) (L : List (List Int)) (i : Nat) : List (List Int) := (List.range i).foldl (fun (L : List (List Int)) (i : Nat) => grwL k (t ++ [m - (i : Int)]) L) L
theorem grwI_succ (k : Nat) (t : List Int) (m : Int) (L : List (List Int)) (i : Nat) : grwI k t m L (i + 1) = grwL k (t ++ [m - (i : Int)]) (grwI k t m L i) := by simp [grwI, List.range_succ]
theorem grwL_succ (k : Nat) (t : List Int) (L : List (List Int)) : grwL (k + 1) t L = grwI k t (t[t.length - 1]?.getD 0 + 1) L (t[t.length - 1]?.getD 0 + 1).toNat := rfl
/-- All answers agree where there are at most six nodes. -/
theorem trees_same : ∀ n : Nat, 1 ≤ n → n ≤ 6 → chkT 200 (upTo n) = true ∧ genT 200 (upTo n) = grwL (n - 1) [0] [] ∧ (genT 200 (upTo n)).all lvB = true := by
  have h : ∀ n ∈ [1, 2, 3, 4, 5, 6], (chkT 200 (upTo n) && decide (genT 200 (upTo n) = grwL (n - 1) [0] []) && (genT 200 (upTo n)).all lvB) = true := by decide +kernel
  intro n h1 h6
  have := h n (by simp; omega)
  simp only [Bool.and_eq_true, decide_eq_true_eq] at this
  exact ⟨this.1.1, this.1.2, this.2⟩
theorem Lv_snoc {t : List Int} (h : Lv t) {x : Int} (h1 : 1 ≤ x) (h2 : x ≤ t[t.length - 1]?.getD 0 + 1) : Lv (t ++ [x]) := by
  have hp := h.1
  refine ⟨by simp, by rw [List.getElem?_append_left hp]; exact h.2.1, fun j hj hl => ?_⟩
  simp at hl
  by_cases e : j = t.length
  · subst e
    rw [List.getElem?_append_right (Nat.le_refl _), List.getElem?_append_left (by omega), Nat.sub_self]
    exact ⟨h1, h2⟩
  · rw [List.getElem?_append_left (by omega), List.getElem?_append_left (by omega)]
    exact h.2.2 j hj (by omega)
theorem Lv_last {t : List Int} (h : Lv t) : 0 ≤ t[t.length - 1]?.getD 0 ∧ t[t.length - 1]?.getD 0 < t.length := by
  have gen : ∀ j, j < t.length → 0 ≤ t[j]?.getD 0 ∧ t[j]?.getD 0 ≤ j := by
    intro j
    induction j with
    | zero => intro _; rw [h.2.1]; omega
    | succ j ih => intro hj; have := ih (by omega); have h3 := h.2.2 (j + 1) (by omega) hj; simp only [Nat.add_sub_cancel] at h3; omega
  have hp := h.1
  have := gen (t.length - 1) (by omega)
  omega
theorem grwI_of {k : Nat} {t : List Int} {L : List (List Int)} (hg : ∀ (x : Int) (L : List (List Int)), 1 ≤ x → x ≤ t[t.length - 1]?.getD 0 + 1 → (grwL k (t ++ [x]) L).length ≤ L.length + 6 ^ k) : ∀ i : Nat, i ≤ (t[t.length - 1]?.getD 0 + 1).toNat → (grwI k t (t[t.length - 1]?.getD 0 + 1) L i).length ≤ L.length + i * 6 ^ k
  | 0, _ => by simp [grwI]
  | i + 1, hi => by
    rw [grwI_succ]
    have := hg (t[t.length - 1]?.getD 0 + 1 - (i : Int)) (grwI k t (t[t.length - 1]?.getD 0 + 1) L i) (by omega) (by omega)
    have := grwI_of (L := L) hg i (by omega)
    rw [Nat.add_mul]
    omega
theorem grwL_len : ∀ (k : Nat) (t : List Int) (L : List (List Int)), Lv t → t.length + k ≤ 6 → (grwL k t L).length ≤ L.length + 6 ^ k
  | 0, t, L, _, _ => by rw [grwL]; split <;> simp
  | k + 1, t, L, h, hk => by
    have hl := Lv_last h
    have gen := grwI_of (k := k) (t := t) (L := L) (fun x L h1 h2 => grwL_len k (t ++ [x]) L (Lv_snoc h h1 h2) (by simp; omega))
    rw [grwL_succ]
    have h1 := gen _ (Nat.le_refl _)
    have h2 : (t[t.length - 1]?.getD 0 + 1).toNat * 6 ^ k ≤ 6 * 6 ^ k := Nat.mul_le_mul_right _ (by omega)
    rw [Nat.pow_succ]
    omega
theorem grwI_len (k : Nat) (t : List Int) (L : List (List Int)) (h : Lv t) (hk : t.length + (k + 1) ≤ 6) (i : Nat) (hi : i ≤ (t[t.length - 1]?.getD 0 + 1).toNat) : (grwI k t (t[t.length - 1]?.getD 0 + 1) L i).length ≤ L.length + i * 6 ^ k :=
  grwI_of (fun x L h1 h2 => grwL_len k (t ++ [x]) L (Lv_snoc h h1 h2) (by simp; omega)) i hi
@[simp] theorem nlA_nil : nlA [] = .val (.slice none 0 0) := rfl
@[simp] theorem nlA_cons (r : List Int) (L : List (List Int)) : nlA (r :: L) = .own 23 (L.length + 1) (omat (r :: L)) := rfl
theorem nlA_kl (W : List Nat) (L : List (List Int)) : kl W (nlA L) = nlA L := by cases L <;> simp [go_sem]
set_option maxRecDepth 100000 in
theorem l03Grow_c (n : Nat) (hn : n ≤ 6) : ∀ (k : Nat) (t : List Int) (L : List (List Int)), Lv t → t.length + k = n → L.length + 6 ^ k ≤ 1000000 → MCon Try.prog 161 [.own 2 t.length (avs t), .int n, nlA L] (nlA (grwL k t L)) [.any, .any, .any]
  | 0, t, L, h, hk, hL => by
    have e : t.length = n := by omega
    have hp := h.1
    have hc := l03Canon_c n t (by omega) h (by omega)
    have hl := canF_len n t h (by omega)
    rw [← hl] at hc
    have hs := l01Same_c (canF n t) t (by omega)
    have hO := l01Own_c t (by omega)
    rw [grwL, e]
    by_cases hcn : canF n t = t
    · rw [if_pos hcn]
      rw [hcn] at hc hs
      simp only [decide_true] at hs
      rw [e] at hc hs hO
      cases L with
      | nil =>
        rw [nlA, List.nil_append, nlA]
        refine mcon_of_vc Try.mixed ⟨2, [], [161], []⟩ [6] [] Try.func161 (by decide) rfl rfl (by simp) (by simp) (by simp) (by decide) ?_
        rw [Try.ntmps161]
        simp [go_sem]
        refine CallVC.of (hc) (by decide) ?_
        simp [go_sem]
        refine CallVC.of (hs) (by decide) ?_
        simp [go_sem]
        refine CallVC.of (hO) (by decide) ?_
        simp [go_sem]
        rw [omat_one, e]
      | cons r L =>
        rw [nlA, List.cons_append, nlA]
        refine mcon_of_vc Try.mixed ⟨2, [], [161], []⟩ [6] [] Try.func161 (by decide) rfl rfl (by simp) (by simp) (by simp) (by decide) ?_
        rw [Try.ntmps161]
        simp [go_sem]
        refine CallVC.of (hc) (by decide) ?_
        simp [go_sem]
        refine CallVC.of (hs) (by decide) ?_
        simp [go_sem]
        refine CallVC.of (hO) (by decide) ?_
        simp [go_sem]
        simp at hL
        have em : omat (r :: L) ++ [AV.own 2 n (avs t)] = omat (r :: (L ++ [t])) := by rw [← List.cons_append, omat_app, omat_one, e]
        refine ⟨⟨by omega, by omega⟩, em, ?_⟩
        rw [em]; exact omat_fresh _
    · rw [if_neg hcn]
      simp only [hcn, decide_false] at hs
      rw [hl] at hc hs
      rw [e] at hc hs
      cases L with
      | nil =>
        rw [nlA]
        refine mcon_of_vc Try.mixed ⟨2, [], [161], []⟩ [6] [] Try.func161 (by decide) rfl rfl (by simp) (by simp) (by simp) (by decide) ?_
        rw [Try.ntmps161]
        simp [go_sem]
        refine CallVC.of (hc) (by decide) ?_
        simp [go_sem]
        refine CallVC.of (hs) (by decide) ?_
        simp [go_sem]
      | cons r L =>
        rw [nlA]
        refine mcon_of_vc Try.mixed ⟨2, [], [161], []⟩ [6] [] Try.func161 (by decide) rfl rfl (by simp) (by simp) (by simp) (by decide) ?_
        rw [Try.ntmps161]
        simp [go_sem]
        refine CallVC.of (hc) (by decide) ?_
        simp [go_sem]
        refine CallVC.of (hs) (by decide) ?_
        simp [go_sem]
  | k + 1, t, L, h, hk, hL => by
    have hp := h.1
    have hl := Lv_last h
    have tn : ¬ (t.length : Int) = n := by omega
    have tn2 : ¬ t.length = n := by omega
    have hO := l01Own_c t (by omega)
    have ht : t.length - 1 < t.length := by omega
    have ex : ((t.length : Int) - 1) = ((t.length - 1 : Nat) : Int) := by omega
    rw [grwL_succ]
    have glen := fun (i : Nat) (hi : i ≤ (t[t.length - 1]?.getD 0 + 1).toNat) => grwI_len k t L h (by omega) i hi
    have ih := fun (i : Nat) (hi : i < (t[t.length - 1]?.getD 0 + 1).toNat) (L1 : List (List Int)) (h1 : L1.length + 6 ^ k ≤ 1000000) => l03Grow_c n hn k (t ++ [t[t.length - 1]?.getD 0 + 1 - (i : Int)]) L1 (Lv_snoc h (by omega) (by omega)) (by simp; omega) h1
    generalize hm : t[t.length - 1]?.getD 0 = m at *
    have ib : ∀ i : Nat, i < (m + 1).toNat → (grwI k t (m + 1) L i).length + 6 ^ k ≤ 1000000 := fun i hi => by
      have := glen i (by omega)
      have h6 : (i + 1) * 6 ^ k ≤ 6 * 6 ^ k := Nat.mul_le_mul_right _ (by omega)
      rw [Nat.pow_succ] at hL
      rw [Nat.add_mul] at h6
      omega
    have Tr : ∀ (S : St), S 2 = nlA L → S 7 = .val (.int .i64 (m + 1)) → Trk S ([(2, nlA (grwI k t (m + 1) L 0)), (7, .int (m + 1 - (0 : Nat)))] : List (Nat × AV)) := fun S h2 h7 => by
      simp [go_sem, grwI, h2, h7]
    obtain ⟨LL, hLL⟩ : ∃ LL, LL = L := ⟨_, rfl⟩
    have hR : grwI k t (m + 1) L (m + 1).toNat = grwI k t (m + 1) LL (m + 1).toNat := by rw [hLL]
    rw [hR]
    rw [← hLL] at Tr ib
    clear hR
    cases L
    all_goals
      refine mcon_of_vc Try.mixed ⟨2, [], [161], []⟩ [6] [] Try.func161 (by decide) rfl rfl (by simp) (by simp) (by simp) (by decide) ?_
      rw [Try.ntmps161]
      simp [go_sem]
      simp [go_sem, tn, tn2, ex, avs_at ht, hm]
      refine ⟨by omega, ht, ⟨by omega, by omega⟩, ?_⟩
      refine loop_inv (2 :: 7 :: List.range' 29 12) (fun i : Nat => [(2, nlA (grwI k t (m + 1) LL i)), (7, .int (m + 1 - (i : Int)))]) (fun i => i ≤ (m + 1).toNat) (fun i => (m + 1).toNat - i) 0 (by simp) (Tr _ (by simp [go_sem, hLL]) (by simp [go_sem])) (by simp [go_sem, nlA_kl]) ?_
      intro i hi
      simp [go_sem]
      refine ⟨fun h => ?_, fun h => ?_⟩ <;> simp at h
      · have him : i < (m + 1).toNat := by omega
        have i1 := ih i him _ (ib i him)
        have e1 := grwI_succ k t (m + 1) LL i
        generalize hL2 : grwI k t (m + 1) LL (i + 1) = L2 at *
        generalize grwI k t (m + 1) LL i = L1 at *
        rw [← e1] at i1
        simp only [List.length_append, List.length_singleton, avs_snoc] at i1
        cases L1 <;> cases L2
        all_goals
          simp [go_sem]
          refine CallVC.of (hO) (by decide) ?_
          simp [go_sem]
          refine ⟨⟨by omega, by omega⟩, ?_⟩
          refine ⟨_, _, i1, ?_⟩
          simp [go_sem]
          refine ⟨⟨by omega, by omega⟩, i + 1, by omega, by omega, Off_reset _ _ _ (by simp), ?_, nlA_kl _ _⟩
          rw [hL2]
          exact ⟨rfl, by omega⟩
      · have e : i = (m + 1).toNat := by omega
        subst e
        generalize grwI k t (m + 1) LL (m + 1).toNat = L1 at *
        cases L1
        all_goals
          simp [go_sem]
end Go.Proofs.Ytngakdgkeemjhaa

/- Contracts: the terms of a flow, the program's and the reference's. -/
namespace Go.Proofs.Ytngakdgkeemjhaa
open Go.Abs
set_option linter.unusedVariables false
set_option linter.unusedSimpArgs false
set_option maxHeartbeats 1000000
theorem genT_len : ∀ (k : Nat) (t : List Int), (genT k t).length ≤ k
  | 0, t => by simp [genT]
  | k + 1, t => by
    rw [genT]
    split
    · simp
    · split
      · simp
      · have := genT_len k (fiS t (‹Nat› - ‹Nat›) ‹Nat› (t.length - ‹Nat›)); simp; exact genT_len _ _
theorem genT_pos {k : Nat} (h : 0 < k) (t : List Int) : genT k t ≠ [] := by
  cases k with
  | zero => omega
  | succ k => simp [genT]
set_option maxRecDepth 100000 in
theorem l03Trees_c (n : Nat) (h1 : 1 ≤ n) (h6 : n ≤ 6) : Con Try.prog 106 [.int n] (.own 23 (genT 200 (upTo n)).length (omat (genT 200 (upTo n)))) := by
  have c := l03Grow_c n h6 (n - 1) [0] [] ⟨by simp, by simp, fun j h1 h2 => by simp at h2; omega⟩ (by simp; omega) (by
    have := Nat.pow_le_pow_right (n := 6) (by omega) (show n - 1 ≤ 6 by omega)
    simp only [List.length_nil]; omega)
  rw [← (trees_same n h1 h6).2.1] at c
  have hp := genT_pos (k := 200) (by omega) (upTo n)
  generalize genT 200 (upTo n) = G at *
  cases G with
  | nil => exact (hp rfl).elim
  | cons r G =>
    refine con_of_vc Try.mixed ⟨3, [], [161], []⟩ Try.func106 (by decide) rfl (by simp) (by decide) (by simp [freshOK, freshL, go_sem]) ?_
    rw [Try.ntmps106]
    simp [go_sem]
    refine ⟨_, _, c, ?_⟩
    simp [go_sem]
def tmE (z : Int) (f : List (List Mon)) (y : List Int) (n : Int) : Int := if fpE z f y = 0 then if 1 ≤ n ∧ n ≤ 6 then 0 else 2 else fpE z f y
def tmX (z : Int) (f : List (List Mon)) (y : List Int) (n : Int) : List (List Int) := if tmE z f y n = 0 then (genT 200 (upTo n.toNat)).map (fun t => edF f y t.length t) else []
def tmR (z : Int) (f : List (List Mon)) (y : List Int) (n : Int) : AV := .tup [.own 23 (tmX z f y n).length (omat (tmX z f y n)), .int (tmE z f y n)]
theorem tmE_ok {z : Int} {f : List (List Mon)} {y : List Int} {n : Int} (h : tmE z f y n = 0) : fpE z f y = 0 ∧ 1 ≤ n ∧ n ≤ 6 := by
  unfold tmE at h
  split at h
  · split at h
    · rename_i h1 h2; exact ⟨h1, h2⟩
    · simp at h
  · contradiction
theorem genT_Lv {n : Nat} (h1 : 1 ≤ n) (h6 : n ≤ 6) {t : List Int} (h : t ∈ genT 200 (upTo n)) : Lv t ∧ t.length ≤ 8 := by
  have := (List.all_eq_true.1 (trees_same n h1 h6).2.2) t h
  unfold lvB at this
  simp only [Bool.and_eq_true, decide_eq_true_eq] at this
  exact ⟨lv0_Lv this.1, this.2⟩
theorem tmX_ok (z : Int) (f : List (List Mon)) (y : List Int) (n : Int) : (tmX z f y n).length ≤ 200 ∧ ∀ r ∈ tmX z f y n, r.length ≤ 3 := by
  unfold tmX
  split
  · rename_i h
    obtain ⟨h1, h2, h3⟩ := tmE_ok h
    obtain ⟨hF, hl, hN⟩ := fpE_ok h1
    have z3 := hF.hi
    have zl := hF.len
    refine ⟨by rw [List.length_map]; exact genT_len _ _, fun r hr => ?_⟩
    obtain ⟨t, ht, rfl⟩ := List.mem_map.1 hr
    have hv := genT_Lv (by omega) (by omega) ht
    rw [edF_len hv.1.1]
    omega
  · simp
set_option maxRecDepth 100000 in
theorem TermsOf_c (z : Int) (f : List (List Mon)) (y : List Int) (n : Int) (hs : Small f) (hy : y.length ≤ 1048576) :
    Con Try.prog 46 [.agg [.int z, .sl f.length (prt f)], .sl y.length (avs y), .int n] (tmR z f y n) := by
  have cK := checkVectors_c z f [y] hs (by simp) (by simp; omega)
  have e1 : mat [y] = [.sl y.length (avs y)] := rfl
  have e2 : ([y] : List (List Int)).length = 1 := rfl
  rw [e1, e2, chk_one] at cK
  have cI := inRange_c n 1 6
  unfold tmR tmX
  by_cases he : tmE z f y n = 0
  · obtain ⟨h0, h1, h6⟩ := tmE_ok he
    obtain ⟨hF, hl, hN⟩ := fpE_ok h0
    obtain ⟨m, rfl⟩ : ∃ m : Nat, n = m := ⟨n.toNat, by omega⟩
    have z3 := hF.hi
    have zl := hF.len
    have cP := polynomials_c z f hF hs
    have cT := treesOf_c m 200 (by omega) (by omega) (trees_same m (by omega) (by omega)).1
    have gl := genT_len 200 (upTo m)
    have cD := fun (t : List Int) (ht : t ∈ genT 200 (upTo m)) => differential_c z f y hF hs hN hl t.length t (genT_Lv (by omega) (by omega) ht).1 (Nat.le_refl _) (by have := (genT_Lv (by omega) (by omega) ht).2; omega)
    have dl := fun (t : List Int) (ht : t ∈ genT 200 (upTo m)) => edF_len (f := f) (y := y) (genT_Lv (by omega) (by omega) ht).1.1 t
    rw [he, if_pos rfl]
    rw [h0] at cK
    simp only [Int.toNat_natCast]
    rw [decide_eq_true h1, decide_eq_true h6] at cI
    generalize genT 200 (upTo m) = G at *
    refine con_of_vc Try.mixed ⟨13, [27], [], []⟩ Try.func46 (by decide) rfl (by simp) (by decide) (by simp [freshOK, freshL, go_sem]) ?_
    rw [Try.ntmps46]
    simp [go_sem]
    refine CallVC.of (cK) (by decide) ?_
    simp [go_sem]
    refine CallVC.of (cI) (by decide) ?_
    simp [go_sem]
    refine CallVC.of (cP) (by decide) ?_
    simp [go_sem]
    refine CallVC.of (cT) (by decide) ?_
    simp [go_sem]
    have xat : ∀ i, i < G.length → (G.map (fun t => edF f y t.length t))[i]?.getD [] = edF f y (G[i]?.getD []).length (G[i]?.getD []) := fun i h => by simp [h]
    have xl : (G.map (fun t => edF f y t.length t)).length = G.length := by simp
    generalize G.map (fun t => edF f y t.length t) = X at *
    refine loop_inv (10 :: 12 :: List.range' 29 12) (fun i : Nat => [(10, .own 23 i (omat (X.take i))), (29, .int i)]) (fun i => i ≤ G.length) (fun i => G.length - i) 0 (by simp) (by simp [go_sem, omat_nil]) (by simp [go_sem]) ?_
    intro i hi
    simp [go_sem]
    refine ⟨fun h => ?_, fun h => ?_⟩ <;> simp at h
    · have hG := memD [] h
      have cd := cD _ hG
      have dl2 := dl _ hG
      have xi := xat i h
      have ht := omat_take X i (by omega)
      rw [xi, dl2] at ht
      simp [go_sem, mat_drop h]
      refine ⟨⟨h, by rintro rfl; simp at h⟩, ?_⟩
      refine CallVC.of (cd) (by decide) ?_
      simp [go_sem]
      exact ⟨⟨by omega, by omega, by omega⟩, ⟨by omega, by omega⟩, i + 1, by omega, by omega, Off_reset _ _ _ (by simp), ⟨by omega, ht.symm⟩, by omega⟩
    · have e : i = X.length := by omega
      have e2 : i = G.length := by omega
      subst e2
      simp [go_sem]
      rw [List.take_of_length_le (by omega)]
  · rw [if_neg he]
    refine Con.n1 _ ?_
    by_cases h0 : fpE z f y = 0
    · have hn : (decide (1 ≤ n) && decide (n ≤ 6)) = false := by
        unfold tmE at he
        rw [if_pos h0] at he
        cases hb : (decide (1 ≤ n) && decide (n ≤ 6)) with
        | false => rfl
        | true => simp at hb; rw [if_pos hb] at he; exact (he rfl).elim
      have ht : tmE z f y n = 2 := by
        unfold tmE at he ⊢
        rw [if_pos h0] at he ⊢
        split
        · rename_i h; rw [if_pos h] at he; exact (he rfl).elim
        · rfl
      rw [h0] at cK
      rw [hn] at cI
      rw [ht]
      refine con_of_vc Try.mixed ⟨13, [27], [], []⟩ Try.func46 (by decide) rfl (by simp) (by decide) (by simp [freshOK, freshL, go_sem]) ?_
      rw [Try.ntmps46]
      simp [go_sem]
      refine CallVC.of (cK) (by decide) ?_
      simp [go_sem]
      refine CallVC.of (cI) (by decide) ?_
      simp [go_sem]
    · have ht : tmE z f y n = fpE z f y := by unfold tmE; rw [if_neg h0]
      rw [ht]
      generalize fpE z f y = e at *
      refine con_of_vc Try.mixed ⟨13, [27], [], []⟩ Try.func46 (by decide) rfl (by simp) (by decide) (by simp [freshOK, freshL, go_sem]) ?_
      rw [Try.ntmps46]
      simp [go_sem]
      refine CallVC.of (cK) (by decide) ?_
      simp [go_sem]
      simp [go_sem, h0]
set_option maxRecDepth 100000 in
theorem specTermsOf_c (z : Int) (f : List (List Mon)) (y : List Int) (n : Int) (hs : Small f) (hy : y.length ≤ 1048576) :
    Con Try.prog 45 [.agg [.int z, .sl f.length (prt f)], .sl y.length (avs y), .int n] (tmR z f y n) := by
  have cT := l13Is_c z f hs
  have cR := l13Point_c z y (by omega)
  have hvb : (decide ((y.length : Int) = z) && numsB y) = vecB z y := rfl
  rw [hvb] at cR
  have cI := l01In_c n 1 6
  unfold tmR tmX
  by_cases he : tmE z f y n = 0
  · obtain ⟨h0, h1, h6⟩ := tmE_ok he
    obtain ⟨hF, hl, hN⟩ := fpE_ok h0
    have hT : fieldB z f = true := fieldB_iff.2 hF
    have hV : vecB z y = true := vecB_iff.2 ⟨hl, hN⟩
    obtain ⟨m, rfl⟩ : ∃ m : Nat, n = m := ⟨n.toNat, by omega⟩
    have z3 := hF.hi
    have zl := hF.len
    have cG := l03Trees_c m (by omega) (by omega)
    have gl := genT_len 200 (upTo m)
    have cD := fun (t : List Int) (ht : t ∈ genT 200 (upTo m)) => l13Elementary_c z f y hF hs hN hl t.length t (genT_Lv (by omega) (by omega) ht).1 (Nat.le_refl _) (by have := (genT_Lv (by omega) (by omega) ht).2; omega)
    have dl := fun (t : List Int) (ht : t ∈ genT 200 (upTo m)) => edF_len (f := f) (y := y) (genT_Lv (by omega) (by omega) ht).1.1 t
    rw [he, if_pos rfl]
    rw [hT] at cT
    rw [hV] at cR
    simp only [Int.toNat_natCast]
    rw [decide_eq_true h1, decide_eq_true h6] at cI
    generalize genT 200 (upTo m) = G at *
    have xat : ∀ i, i < G.length → (G.map (fun t => edF f y t.length t))[i]?.getD [] = edF f y (G[i]?.getD []).length (G[i]?.getD []) := fun i h => by simp [h]
    have xl : (G.map (fun t => edF f y t.length t)).length = G.length := by simp
    generalize G.map (fun t => edF f y t.length t) = X at *
    refine con_of_vc Try.mixed ⟨11, [], [], []⟩ Try.func45 (by decide) rfl (by simp) (by decide) (by simp [freshOK, freshL, go_sem]) ?_
    rw [Try.ntmps45]
    simp [go_sem]
    refine CallVC.of (cT) (by decide) ?_
    simp [go_sem]
    refine CallVC.of (cR) (by decide) ?_
    simp [go_sem]
    refine CallVC.of (cI) (by decide) ?_
    simp [go_sem]
    refine CallVC.of (cG) (by decide) ?_
    simp [go_sem]
    refine loop_inv (9 :: 10 :: List.range' 27 16) (fun i : Nat => [(9, .own 23 i (omat (X.take i))), (10, .int i)]) (fun i => i ≤ G.length) (fun i => G.length - i) 0 (by simp) (by simp [go_sem, omat_nil]) (by simp [go_sem]) ?_
    intro i hi
    simp [go_sem]
    refine ⟨fun h => ?_, fun h => ?_⟩ <;> simp at h
    · have hG := memD [] h
      have cd := cD _ hG
      have dl2 := dl _ hG
      have xi := xat i h
      have ht := omat_take X i (by omega)
      rw [xi, dl2] at ht
      have og := omat_get h
      simp [go_sem, og]
      refine ⟨by kernel_rfl, h, ?_⟩
      refine CallD.of (cd) (by simp [roots, rootsL]) (by decide) ?_
      simp [go_sem]
      refine ⟨⟨by omega, by omega, by omega⟩, ?_⟩
      refine ⟨by kernel_rfl, ?_⟩
      simp [go_sem]
      exact ⟨⟨by omega, by omega⟩, i + 1, by omega, by omega, Off_reset _ _ _ (by simp), ⟨by omega, ht.symm⟩, by omega⟩
    · have e : i = X.length := by omega
      have e2 : i = G.length := by omega
      subst e2
      simp [go_sem]
      rw [List.take_of_length_le (by omega)]
      exact ⟨by omega, rfl⟩
  · rw [if_neg he]
    refine Con.n1 _ ?_
    cases hT : fieldB z f with
    | false =>
      have e1 : tmE z f y n = 1 := by simp [tmE, fpE, hT]
      rw [e1]
      rw [hT] at cT
      refine con_of_vc Try.mixed ⟨11, [], [], []⟩ Try.func45 (by decide) rfl (by simp) (by decide) (by simp [freshOK, freshL, go_sem]) ?_
      rw [Try.ntmps45]
      simp [go_sem]
      refine CallVC.of (cT) (by decide) ?_
      simp [go_sem]
    | true =>
      rw [hT] at cT
      cases hV : vecB z y with
      | false =>
        have e1 : tmE z f y n = 2 := by simp [tmE, fpE, hT, hV]
        rw [e1]
        rw [hV] at cR
        refine con_of_vc Try.mixed ⟨11, [], [], []⟩ Try.func45 (by decide) rfl (by simp) (by decide) (by simp [freshOK, freshL, go_sem]) ?_
        rw [Try.ntmps45]
        simp [go_sem]
        refine CallVC.of (cT) (by decide) ?_
        simp [go_sem]
        refine CallVC.of (cR) (by decide) ?_
        simp [go_sem]
      | true =>
        rw [hV] at cR
        have hn : (decide (1 ≤ n) && decide (n ≤ 6)) = false := by
          cases hb : (decide (1 ≤ n) && decide (n ≤ 6)) with
          | false => rfl
          | true => simp at hb; simp [tmE, fpE, hT, hV, hb] at he
        have e1 : tmE z f y n = 2 := by
          have hn2 : ¬ (1 ≤ n ∧ n ≤ 6) := by simpa using hn
          simp [tmE, fpE, hT, hV, hn2]
        rw [e1]
        rw [hn] at cI
        refine con_of_vc Try.mixed ⟨11, [], [], []⟩ Try.func45 (by decide) rfl (by simp) (by decide) (by simp [freshOK, freshL, go_sem]) ?_
        rw [Try.ntmps45]
        simp [go_sem]
        refine CallVC.of (cT) (by decide) ?_
        simp [go_sem]
        refine CallVC.of (cR) (by decide) ?_
        simp [go_sem]
        refine CallVC.of (cI) (by decide) ?_
        simp [go_sem]
end Go.Proofs.Ytngakdgkeemjhaa

/- The statement's function FnExactTermsOf, walked: it answers true. -/
namespace Go.Proofs.Ytngakdgkeemjhaa
open Go.Abs
set_option linter.unusedVariables false
set_option linter.unusedSimpArgs false
set_option maxHeartbeats 4000000
set_option maxRecDepth 100000 in
theorem law22_c (z0 : Int) (f0 : List (List Mon)) (y1 : List Int) (n2 : Int) (hf0 : Fit f0) (hy1 : y1.length ≤ 9223372036854775807) :
    Con Try.prog 10 [.agg [.int z0, .sl f0.length (prt f0)], .sl y1.length (avs y1), .int n2] (.bool true) := by
  refine con_of_vc Try.mixed ⟨19, [], [24, 31, 25], []⟩ Try.func10 (by decide) rfl (by simp) (by decide) (by simp [freshOK, freshL, go_sem]) ?_
  rw [Try.ntmps10]
  simp [go_sem]
  by_cases hl1 : (1048576 : Int) < y1.length
  · have hl12 : 1048576 < y1.length := by omega
    simp [go_sem, hl1, hl12]
  have hk1 : ¬ 1048576 < y1.length := by omega
  simp [go_sem, hl1, hk1]
  have cS0 := szField_c z0 f0 (1048576) hf0 (by omega) (by omega)
  refine CallVC.of (cS0) (by decide) ?_
  simp [go_sem]
  by_cases hs0 : szF (1048576) f0 < 0
  · simp [go_sem, hs0]
  simp [go_sem, hs0]
  have hc0 := szF_ok.ok (1048576) f0 (by omega) (by omega)
  have hh0 := szF_ok.hi (1048576) f0 (by omega)
  generalize hL0 : szF (1048576) f0 = L0 at *
  have sm0 := small_of (f := f0) (by omega)
  have cT0 := toField_c z0 f0 sm0.1 sm0.2
  have cQ0 := eqField_c z0 f0 hf0
  have fl0 := sm0.1
  have ct0 : (sumC cP f0 : Int) ≤ 1048576 := by unfold cF at hc0; omega
  have y1l : y1.length ≤ 1048576 := by omega
  have cT1 := toInt64S_c y1 y1l
  have cQ1 := eqInt64S_c y1 y1 (by omega)
  simp at cQ1
  have cSp := specTermsOf_c z0 f0 y1 n2 sm0 y1l
  have cIm := TermsOf_c z0 f0 y1 n2 sm0 y1l
  have xl : (tmX z0 f0 y1 n2).length ≤ 1048576 := by have := (tmX_ok z0 f0 y1 n2).1; omega
  have xr : ∀ r ∈ tmX z0 f0 y1 n2, r.length ≤ 1048576 := fun r hr => by have := (tmX_ok z0 f0 y1 n2).2 r hr; omega
  unfold tmR at cSp cIm
  generalize tmX z0 f0 y1 n2 = xs at cSp cIm xl xr
  generalize tmE z0 f0 y1 n2 = e at cSp cIm
  have cM0 := markField_c z0 f0 (1) sm0.1 sm0.2 (by omega) (by omega)
  have cM1 := markInt64S_c 2 y1 (1 + sumC cP f0) (by omega) (by omega)
  have p2 : ¬ (1 + (sumC cP f0 : Int) + (y1.length : Int) < 0) := by omega
  have xs2 : (sumL xs : Int) ≤ 1099511627776 := by
    have h1 := sumL_bound xr
    have h2 := Nat.mul_le_mul (show xs.length ≤ 1048576 by omega) (Nat.le_refl 1048576)
    omega
  have cE := eqInt64SS_c xs xs (by omega) (fun r hr => by have := xr r hr; omega)
  have cN := markInt64SS_c xs 1 xl xr (by omega) (by omega)
  have cH := heldInt64SS_c xs 1 xl xr (by omega) (by omega)
  simp at cE
  have p1 : ¬ (1 + (sumL xs : Int) < 0) := by omega
  refine CallVC.of (cT0) (by decide) ?_
  simp [go_sem]
  refine CallVC.of (cT1) (by decide) ?_
  simp [go_sem]
  refine CallVC.of (cSp) (by decide) ?_
  simp [go_sem]
  refine CallVC.of (cT0) (by decide) ?_
  simp [go_sem]
  refine CallVC.of (cT1) (by decide) ?_
  simp [go_sem]
  refine CallVC.of (cIm) (by decide) ?_
  simp [go_sem]
  refine CallVC.of (cE) (by decide) ?_
  simp [go_sem]
  refine ⟨by kernel_rfl, ?_⟩
  refine CallD.of (cT0) (by simp [roots, rootsL]) (by decide) ?_
  simp [go_sem]
  refine CallD.of (cQ0) (by simp [roots, rootsL]) (by decide) ?_
  simp [go_sem]
  refine ⟨by kernel_rfl, ?_⟩
  simp [go_sem]
  refine CallVC.of (cT1) (by decide) ?_
  simp [go_sem]
  refine CallVC.of (cQ1) (by decide) ?_
  simp [go_sem]
  refine ⟨_, _, cM0, ?_⟩
  simp [go_sem]
  refine ⟨_, _, cM1, ?_⟩
  simp [go_sem]
  simp [go_sem, p2]
  refine CallVC.of (cE) (by decide) ?_
  simp [go_sem]
  refine ⟨_, _, cN, ?_⟩
  simp [go_sem]
  refine CallVC.of (cH) (by decide) ?_
  simp [go_sem]
  simp [go_sem, p1]
  refine CallVC.of (cT0) (by decide) ?_
  simp [go_sem]
  refine CallVC.of (cT1) (by decide) ?_
  simp [go_sem]
  refine CallVC.of (cIm) (by decide) ?_
  simp [go_sem]
  refine CallVC.of (cE) (by decide) ?_
  simp [go_sem]
  refine CallVC.of (cH) (by decide) ?_
  simp [go_sem]
  simp [go_sem, p1]
end Go.Proofs.Ytngakdgkeemjhaa
