/- Texts of the own layer and contracts, part 8: W59 W60 W42 W61 O W2 L48. -/
import Derived.Test.YtphccfabekdmnaaGreatRows
import Derived.WalkKit
import Derived.ProofKit
import Derived.OpenShut
import Derived.Test.YtphccfabekdmnaaGreatM7
set_option linter.unusedSectionVars false
set_option linter.unusedVariables false
set_option linter.unusedSimpArgs false
set_option maxHeartbeats 4000000
set_option maxRecDepth 100000
namespace Go.Proofs.YtphccfabekdmnaaGreat
open Go.Abs
theorem l03Density_c : ∀ (n : Nat) (t : List Int), Lv t → t.length ≤ 1048576 → denOk n t = true → Con Tryz.prog 245 [.sl t.length (avs t)] (.int (denF n t))
 | 0, t, hL, hl, hd => by simp [denOk] at hd
 | n + 1, t, hL, hl, hd => by
  have cB := l03Parts_c t hl hL
  rw [denOk, Bool.and_eq_true] at hd
  obtain ⟨hd1, hd2⟩ := hd
  have ih := fun b (hb : b ∈ brs t) => l03Density_c n b (brs_ok hL hb).1 (by have := (brs_ok hL hb).2; omega) (List.all_eq_true.1 hd1 b hb)
  have bd : ∀ j, j ≤ (brs t).length → 0 ≤ denK n t j ∧ denK n t j ≤ 1000000 := fun j hj => by
   have := List.all_eq_true.1 hd2 j (by simp; omega)
   simpa using this
  have hs := fun j (h : j < (brs t).length) => denK_succ n h
  have k0 : denK n t 0 = t.length := by simp [denK]
  have ke : denK n t (brs t).length = denF (n + 1) t := by rw [denK, List.take_length, denF]
  have hcnt : (brs t).length < t.length := brs_cnt hL
  rw [← ke]
  generalize denK n t = K at *
  generalize brs t = L at *
  refine con_of_vc Tryz.mixed ⟨6, [], [], []⟩ Tryz.func245 (by decide) rfl (by simp) (by decide) (by simp [freshOK, freshL, go_sem]) ?_
  rw [Tryz.ntmps245]
  simp [go_sem]
  refine CallVC.of (cB) (by decide) ?_
  simp [go_sem]
  refine loop_inv (3 :: 5 :: List.range' 10 13) (fun i : Nat => [(3, .int (K i)), (5, .int i)]) (fun i => i ≤ L.length) (fun i => L.length - i) 0 (by simp) (by simp [go_sem, k0]) (by simp [go_sem]) ?_
  intro i hi
  by_cases hiL : i < L.length
  ·have hii : (i : Int) < L.length := by omega
   have hb : L[i]?.getD [] ∈ L := by simp [hiL]
   have cD := ih _ hb
   have hg := omat_get hiL
   have b0 := bd i hi
   have b1 := bd (i + 1) hiL
   have h1 := hs i hiL
   generalize denF n (L[i]?.getD []) = d at *
   generalize hk1 : K (i + 1) = k1 at *
   generalize K i = k at *
   simp [go_sem, hii, hg]
   refine CallVC.of (cD) (by decide) ?_
   simp [go_sem]
   rw [← h1]
   exact ⟨⟨by omega, by omega⟩, ⟨by omega, by omega⟩, i + 1, by omega, by omega, Off_reset _ _ _ (by simp), hk1.symm, by omega⟩
  ·have e : i = L.length := by omega
   subst e
   have hii : ¬ (L.length : Int) < L.length := by omega
   simp [go_sem, hii]
theorem l07Exact_c : Con Tryz.prog 148 [] (.own 2 38 (avs exaS)) := by
 have cA := l03All_c 6 (by omega)
 have l6 := trN_len6
 have e6 : ((6 : Nat) : Int) = 6 := rfl
 rw [e6, l6] at cA
 have tk : ∀ i, i < 37 → exaS.take (i + 2) = exaS.take (i + 1) ++ [iat exaS (i + 1)] := fun i hi => by
  have l := exaS_ch.1.1
  rw [List.take_succ_eq_append_getElem (by omega)]
  unfold iat
  rw [List.getElem?_eq_getElem (by omega)]; rfl
 have ta : exaS.take 38 = exaS := exaS_ch.1.take
 have t1 : exaS.take 1 = [1] := by kernel_rfl
 have lo := exaS_ch.1.1
 have at6 := fun t h => trN_at (t := t) h
 have xa := fun p h => exa_at (p := p) h
 generalize exaS = O at *
 refine con_of_vc Tryz.mixed ⟨4, [], [], []⟩ Tryz.func148 (by decide) rfl (by simp) (by decide) (by simp [freshOK, freshL, go_sem]) ?_
 rw [Tryz.ntmps148]
 simp [go_sem]
 refine CallVC.of (cA) (by decide) ?_
 simp [go_sem]
 refine loop_inv (2 :: 3 :: List.range' 6 15) (fun i : Nat => [(2, .own 2 (i + 1) (avs (O.take (i + 1)))), (3, .int i)]) (fun i => i ≤ 37) (fun i => 37 - i) 0 (by simp) (by simp [go_sem, t1, avs]) (by simp [go_sem]) ?_
 intro i hi
 by_cases hil : i < 37
 ·have hii : (i : Int) < 37 := by omega
  have hl : i < (trN 6).length := by omega
  have og := omat_get hl
  have hm := memD [] hl
  obtain ⟨d1, d2, d3⟩ := at6 _ hm
  have cD := l03Density_c 8 _ d1 (by omega) d3
  obtain ⟨w1, w2⟩ := den_le hm
  have cF := l01Frac_c 1 (denF 8 ((trN 6)[i]?.getD [])) ⟨by omega, by omega⟩ ⟨by omega, by omega⟩
  have pN := pw_N (denF 8 ((trN 6)[i]?.getD []) % 10007) 10005
  have e : (1 : Int) % 10007 * pw (denF 8 ((trN 6)[i]?.getD []) % 10007) 10005 % 10007 = iat O (i + 1) := by
   rw [← xa i hil]
   have := pN.1; have := pN.2
   generalize pw (denF 8 ((trN 6)[i]?.getD []) % 10007) 10005 = v at *
   omega
  rw [e] at cF
  have t2 := tk i hil
  generalize iat O (i + 1) = v at *
  generalize (trN 6)[i]?.getD [] = t at *
  generalize denF 8 t = d at *
  simp [go_sem, hii, og]
  refine CallVC.of (cD) (by decide) ?_
  simp [go_sem]
  refine CallVC.of (cF) (by decide) ?_
  simp [go_sem]
  refine ⟨⟨by omega, by omega, by omega⟩, ⟨by omega, by omega⟩, i + 1, by omega, by omega, Off_reset _ _ _ (by simp), ?_⟩
  rw [t2, avs_snoc]
  exact ⟨⟨rfl, rfl⟩, by omega⟩
 ·have e : i = 37 := by omega
  subst e
  rw [ta]
  simp [go_sem]
def DrM (first : Int) (a : List Int) : Prop := a.length = 38 ∧ iat a 0 = first ∧ ∀ i, 1 ≤ i → isN (iat a i)
theorem DrM.set {first : Int} {a : List Int} (h : DrM first a) {i : Nat} {x : Int} (hi : 1 ≤ i) (hx : isN x) : DrM first (a.set i x) := by
 obtain ⟨h1, h2, h3⟩ := h
 refine ⟨by rw [List.length_set, h1], ?_, fun j hj => ?_⟩
 ·unfold iat at *
  rw [List.getElem?_set_ne (by omega)]; exact h2
 ·unfold iat at *
  by_cases e : i = j
  ·subst e
   by_cases hl : i < a.length
   ·rw [List.getElem?_set_self hl]; exact hx
   ·rw [List.getElem?_eq_none (by rw [List.length_set]; omega)]; exact ⟨by decide, by decide⟩
  ·rw [List.getElem?_set_ne e]; exact h3 j hj
theorem DrM.first {f g : Int} {a : List Int} (h : DrM f a) : DrM g (a.set 0 g) := by
 obtain ⟨h1, h2, h3⟩ := h
 refine ⟨by rw [List.length_set, h1], ?_, fun j hj => ?_⟩
 ·unfold iat
  rw [List.getElem?_set_self (by omega)]; rfl
 ·unfold iat at *
  rw [List.getElem?_set_ne (by omega)]; exact h3 j hj
theorem N38.drm {a : List Int} (h : N38 a) : DrM (iat a 0) a := ⟨h.1, rfl, fun i _ => h.Ns.get i⟩
theorem DrM.n38 {first : Int} {a : List Int} (hf : isN first) (h : DrM first a) : N38 a := ⟨h.1, fun x hx => by
 obtain ⟨i, hi, rfl⟩ := List.getElem_of_mem hx
 rcases Nat.eq_zero_or_pos i with rfl | h0
 ·have e := h.2.1
  unfold iat at e
  rw [List.getElem?_eq_getElem hi, Option.getD_some] at e
  rw [e]; exact ⟨hf.1, by have := hf.2; omega⟩
 ·have e := h.2.2 i h0
  unfold iat at e
  rw [List.getElem?_eq_getElem hi, Option.getD_some] at e
  exact ⟨e.1, by have := e.2; omega⟩⟩
def zlM (first : Int) : List Int := first :: List.replicate 37 0
theorem zlM_d (first : Int) : DrM first (zlM first) := ⟨rfl, rfl, fun i hi => by
 obtain ⟨j, rfl⟩ : ∃ j, i = j + 1 := ⟨i - 1, by omega⟩
 unfold zlM iat
 rw [List.getElem?_cons_succ]
 by_cases h : j < 37
 ·rw [List.getElem?_replicate_of_lt h]; exact ⟨by decide, by decide⟩
 ·rw [List.getElem?_eq_none (by simp; omega)]; exact ⟨by decide, by decide⟩⟩
theorem DrM.cons {first : Int} {l : List Int} (hl : l.length = 37) (hN : Ns l) : DrM first (first :: l) := ⟨by rw [List.length_cons, hl], rfl, fun i hi => by
 obtain ⟨j, rfl⟩ : ∃ j, i = j + 1 := ⟨i - 1, by omega⟩
 unfold iat
 rw [List.getElem?_cons_succ]
 exact hN.get j⟩
theorem l07Draw_r (c : List Int) (σ : Src) (first : Int) (hc : Byt c) (hs : SOk σ) (hf : isN first) :
  RCon Tryz.prog 239 [srcA c σ, .int first] (fun r o => ∃ (τ : Src) (a : List Int), SOk τ ∧ o = [srcA c τ, .any] ∧ DrM first a ∧ r = .own 2 38 (avs a)) := by
 have c1 := l01Next_c c σ 6 hc hs
 have s1 := nx2_ok hc hs 6
 have b1 := nx1_b hc σ (n := 6) (by omega)
 simp only [srcA_eq] at *
 refine rcon_of_vcH Tryz.mixed ⟨8, [], [1000000 + 142, 1000000 + 212, 1000000 + 232], []⟩ [0] Tryz.func239 (by decide) rfl (by simp) (by simp) (by decide) ?_
 rw [Tryz.ntmps239]
 simp [go_sem]
 refine ⟨_, _, c1, ?_⟩
 simp [go_sem]
 generalize nx1 c σ 6 = v at *
 generalize nx2 c σ 6 = τ0 at *
 by_cases v0 : v = 0
 ·subst v0
  simp [go_sem]
  refine CallVC.of (l07Exact_c) (by decide) ?_
  simp [go_sem]
  refine ⟨by rw [exaS_ch.1.1]; omega, ?_⟩
  rw [avs_set]
  have d1 : DrM first (exaS.set 0 first) := exaS_ch.1.drm.first
  have c2 := l01Next_c c τ0 2 hc s1
  have s2 := nx2_ok hc s1 2
  simp only [srcA_eq] at c2
  generalize exaS.set 0 first = a at *
  refine ⟨_, _, c2, ?_⟩
  simp [go_sem]
  generalize nx1 c τ0 2 = v2 at *
  generalize nx2 c τ0 2 = τ2 at *
  by_cases w : v2 = 0
  ·have c3 := l01Number_c c τ2 hc s2
   obtain ⟨n3, s3⟩ := nbV_ok hc s2
   simp only [srcA_eq] at c3
   have c4 := l07Scale_c a (nbV c τ2).1 (d1.n38 hf) n3
   generalize nbV c τ2 = q at *
   rw [d1.1] at c4
   simp [go_sem, w]
   refine ⟨_, _, c3, ?_⟩
   simp [go_sem]
   refine CallVC.of (c4) (by decide) ?_
   simp [go_sem]
   have d4 : DrM first (scS q.1 a) := by
    have := (scS_N q.1 a).drm
    have e : iat (scS q.1 a) 0 = first := by
     unfold scS
     rw [mk38_at _ (by decide), d1.2.1]
     show first * q.1 ^ 0 % 10007 = first
     rw [Int.pow_zero, Int.mul_one, Int.emod_eq_of_lt hf.1 (by have := hf.2; omega)]
    rw [e] at this
    exact this
   generalize scS q.1 a = a3 at *
   have cN := l01Next_c c q.2 3 hc s3
   have sN := nx2_ok hc s3 3
   have bN := nx1_b hc q.2 (n := 3) (by omega)
   simp only [srcA_eq] at cN
   refine ⟨_, _, cN, ?_⟩
   simp [go_sem]
   obtain ⟨k0, hk0⟩ : ∃ k : Nat, nx1 c q.2 3 = k := ⟨(nx1 c q.2 3).toNat, by omega⟩
   rw [hk0] at bN ⊢
   generalize nx2 c q.2 3 = τ3 at *
   refine loop_inv (0 :: 5 :: 6 :: List.range' 27 11) (fun x : Src × List Int × Nat => [(0, .box 171 [.sl c.length (bys c), .int x.1.1, .val (.int .u64 x.1.2)]), (5, .own 2 38 (avs x.2.1)), (6, .int x.2.2)]) (fun x => SOk x.1 ∧ DrM first x.2.1 ∧ x.2.2 ≤ 10) (fun x => x.2.2) (τ3, a3, k0) ⟨sN, d4, by simp only; omega⟩ (by simp [go_sem]) (by simp [go_sem]) ?_
   rintro ⟨τ4, a4, k⟩ ⟨h1, h2, h3⟩
   simp only at h1 h2 h3
   by_cases hk : 0 < k
   ·have hki : (0 : Int) < k := by omega
    have c6 := l01Next_c c τ4 37 hc h1
    have s6 := nx2_ok hc h1 37
    have b6 := nx1_b hc τ4 (n := 37) (by omega)
    obtain ⟨u, hu⟩ : ∃ u : Nat, nx1 c τ4 37 = u := ⟨(nx1 c τ4 37).toNat, by omega⟩
    rw [hu] at c6 b6
    generalize nx2 c τ4 37 = τ6 at *
    have c7 := l01Number_c c τ6 hc s6
    obtain ⟨n7, s7⟩ := nbV_ok hc s6
    simp only [srcA_eq] at c6 c7
    generalize nbV c τ6 = q7 at *
    have d7 := h2.set (i := u + 1) (x := q7.1) (by omega) n7
    have l4 := h2.1
    simp [go_sem, hk]
    refine ⟨_, _, c6, ?_⟩
    simp [go_sem]
    refine ⟨⟨by omega, by omega⟩, ?_⟩
    refine ⟨_, _, c7, ?_⟩
    simp [go_sem]
    have eu : (1 + (u : Int)).toNat = u + 1 := by omega
    rw [eu]
    refine ⟨⟨by omega, by omega⟩, by omega, ⟨by omega, by omega⟩, q7.2.1, q7.2.2, a4.set (u + 1) q7.1, k - 1, ⟨s7, d7, by omega⟩, by omega, Off_reset _ _ _ (by simp), ?_⟩
    have ek : (k : Int) - 1 = ((k - 1 : Nat) : Int) := by omega
    exact ⟨⟨rfl, rfl⟩, avs_set _ _ _, ek⟩
   ·have e : k = 0 := by omega
    subst e
    simp [go_sem]
    exact ⟨τ4.1, τ4.2, h1, ⟨rfl, rfl⟩, h2⟩
  ·simp [go_sem, w]
   have cN := l01Next_c c τ2 3 hc s2
   have sN := nx2_ok hc s2 3
   have bN := nx1_b hc τ2 (n := 3) (by omega)
   simp only [srcA_eq] at cN
   refine ⟨_, _, cN, ?_⟩
   simp [go_sem]
   obtain ⟨k0, hk0⟩ : ∃ k : Nat, nx1 c τ2 3 = k := ⟨(nx1 c τ2 3).toNat, by omega⟩
   rw [hk0] at bN ⊢
   generalize nx2 c τ2 3 = τ3 at *
   refine loop_inv (0 :: 5 :: 6 :: List.range' 27 11) (fun x : Src × List Int × Nat => [(0, .box 171 [.sl c.length (bys c), .int x.1.1, .val (.int .u64 x.1.2)]), (5, .own 2 38 (avs x.2.1)), (6, .int x.2.2)]) (fun x => SOk x.1 ∧ DrM first x.2.1 ∧ x.2.2 ≤ 10) (fun x => x.2.2) (τ3, a, k0) ⟨sN, d1, by simp only; omega⟩ (by simp [go_sem]) (by simp [go_sem]) ?_
   rintro ⟨τ4, a4, k⟩ ⟨h1, h2, h3⟩
   simp only at h1 h2 h3
   by_cases hk : 0 < k
   ·have hki : (0 : Int) < k := by omega
    have c6 := l01Next_c c τ4 37 hc h1
    have s6 := nx2_ok hc h1 37
    have b6 := nx1_b hc τ4 (n := 37) (by omega)
    obtain ⟨u, hu⟩ : ∃ u : Nat, nx1 c τ4 37 = u := ⟨(nx1 c τ4 37).toNat, by omega⟩
    rw [hu] at c6 b6
    generalize nx2 c τ4 37 = τ6 at *
    have c7 := l01Number_c c τ6 hc s6
    obtain ⟨n7, s7⟩ := nbV_ok hc s6
    simp only [srcA_eq] at c6 c7
    generalize nbV c τ6 = q7 at *
    have d7 := h2.set (i := u + 1) (x := q7.1) (by omega) n7
    have l4 := h2.1
    simp [go_sem, hk]
    refine ⟨_, _, c6, ?_⟩
    simp [go_sem]
    refine ⟨⟨by omega, by omega⟩, ?_⟩
    refine ⟨_, _, c7, ?_⟩
    simp [go_sem]
    have eu : (1 + (u : Int)).toNat = u + 1 := by omega
    rw [eu]
    refine ⟨⟨by omega, by omega⟩, by omega, ⟨by omega, by omega⟩, q7.2.1, q7.2.2, a4.set (u + 1) q7.1, k - 1, ⟨s7, d7, by omega⟩, by omega, Off_reset _ _ _ (by simp), ?_⟩
    have ek : (k : Int) - 1 = ((k - 1 : Nat) : Int) := by omega
    exact ⟨⟨rfl, rfl⟩, avs_set _ _ _, ek⟩
   ·have e : k = 0 := by omega
    subst e
    simp [go_sem]
    exact ⟨τ4.1, τ4.2, h1, ⟨rfl, rfl⟩, h2⟩
 ·by_cases v1 : v = 1
  ·subst v1
   simp [go_sem]
   have cN := l01Next_c c τ0 4 hc s1
   have sN := nx2_ok hc s1 4
   have bN := nx1_b hc τ0 (n := 4) (by omega)
   simp only [srcA_eq] at cN
   refine ⟨_, _, cN, ?_⟩
   simp [go_sem]
   obtain ⟨k0, hk0⟩ : ∃ k : Nat, nx1 c τ0 4 = k := ⟨(nx1 c τ0 4).toNat, by omega⟩
   rw [hk0] at bN ⊢
   generalize nx2 c τ0 4 = τ3 at *
   have ek0 : 1 + (k0 : Int) = ((k0 + 1 : Nat) : Int) := by omega
   refine ⟨⟨by omega, by omega⟩, ?_⟩
   refine loop_inv (0 :: 5 :: 7 :: List.range' 48 11) (fun x : Src × List Int × Nat => [(0, .box 171 [.sl c.length (bys c), .int x.1.1, .val (.int .u64 x.1.2)]), (5, .own 2 38 (avs x.2.1)), (7, .int x.2.2)]) (fun x => SOk x.1 ∧ DrM first x.2.1 ∧ x.2.2 ≤ 10) (fun x => x.2.2) (τ3, zlM first, k0 + 1) ⟨sN, zlM_d first, by simp only; omega⟩ (by simp [go_sem]; exact ⟨rfl, by omega⟩) (by simp [go_sem]) ?_
   rintro ⟨τ4, a4, k⟩ ⟨h1, h2, h3⟩
   simp only at h1 h2 h3
   by_cases hk : 0 < k
   ·have hki : (0 : Int) < k := by omega
    have c6 := l01Next_c c τ4 8 hc h1
    have s6 := nx2_ok hc h1 8
    have b6 := nx1_b hc τ4 (n := 8) (by omega)
    obtain ⟨u, hu⟩ : ∃ u : Nat, nx1 c τ4 8 = u := ⟨(nx1 c τ4 8).toNat, by omega⟩
    rw [hu] at c6 b6
    generalize nx2 c τ4 8 = τ6 at *
    have c7 := l01Number_c c τ6 hc s6
    obtain ⟨n7, s7⟩ := nbV_ok hc s6
    simp only [srcA_eq] at c6 c7
    generalize nbV c τ6 = q7 at *
    have d7 := h2.set (i := u + 1) (x := q7.1) (by omega) n7
    have l4 := h2.1
    simp [go_sem, hk]
    refine ⟨_, _, c6, ?_⟩
    simp [go_sem]
    refine ⟨⟨by omega, by omega⟩, ?_⟩
    refine ⟨_, _, c7, ?_⟩
    simp [go_sem]
    have eu : (1 + (u : Int)).toNat = u + 1 := by omega
    rw [eu]
    refine ⟨⟨by omega, by omega⟩, by omega, ⟨by omega, by omega⟩, q7.2.1, q7.2.2, a4.set (u + 1) q7.1, k - 1, ⟨s7, d7, by omega⟩, by omega, Off_reset _ _ _ (by simp), ?_⟩
    have ek : (k : Int) - 1 = ((k - 1 : Nat) : Int) := by omega
    exact ⟨⟨rfl, rfl⟩, avs_set _ _ _, ek⟩
   ·have e : k = 0 := by omega
    subst e
    simp [go_sem]
    exact ⟨τ4.1, τ4.2, h1, ⟨rfl, rfl⟩, h2⟩
  ·simp [go_sem, v0, v1]
   have c5 := l01List_c c τ0 37 hc s1 (by omega)
   obtain ⟨g1, g2, g3⟩ := lsV_ok (f := nbV c) (fun σ h => nbV_ok hc h) 37 τ0 s1
   simp only [srcA_eq] at c5
   generalize lsV (nbV c) 37 τ0 = q at *
   refine ⟨_, _, c5, ?_⟩
   simp [go_sem]
   exact ⟨g1, q.2.1, q.2.2, g3, ⟨rfl, rfl⟩, first :: q.1, DrM.cons g1 g2, rfl⟩
def DrA (a : List Int) : Prop := 37 ≤ a.length ∧ a.length ≤ 38 ∧ ∀ x ∈ a, fits x
theorem DrM.dra {f : Int} {a : List Int} (hf : isN f) (h : DrM f a) : DrA a := ⟨by have := h.1; omega, by have := h.1; omega, fun x hx => by
 have := (h.n38 hf).2 x hx
 exact ⟨by omega, by omega⟩⟩
theorem DrA.set {a : List Int} {i : Nat} {x : Int} (h : DrA a) (hx : fits x) : DrA (a.set i x) := ⟨by rw [List.length_set]; exact h.1, by rw [List.length_set]; exact h.2.1, fun y hy => by
 rcases List.mem_or_eq_of_mem_set hy with hy | rfl
 ·exact h.2.2 y hy
 ·exact hx⟩
theorem spV_fits {c : List Int} (hc : Byt c) {σ : Src} (hs : SOk σ) : fits (spV c σ).1 := by
 have s1 := nx2_ok hc hs 30
 unfold spV
 split
 ·have b := nx1_b hc (nx2 c σ 30) (n := 4) (by omega)
  obtain ⟨k, hk⟩ : ∃ k : Nat, nx1 c (nx2 c σ 30) 4 = k := ⟨(nx1 c (nx2 c σ 30) 4).toNat, by omega⟩
  have e : pk c (nx2 c σ 30) [-1, 10007, 1099511627776, -4611686018427387904] = ([-1, 10007, 1099511627776, -4611686018427387904] : List Int)[(nx1 c (nx2 c σ 30) 4).toNat]?.getD 0 := rfl
  simp only
  rw [e, hk]
  have : k = 0 ∨ k = 1 ∨ k = 2 ∨ k = 3 := by omega
  rcases this with rfl | rfl | rfl | rfl <;> exact ⟨by decide, by decide⟩
 ·have := (nbV_ok hc s1).1
  exact ⟨by have := this.1; omega, by have := this.2; omega⟩
theorem l07DrawAny_r (c : List Int) (σ : Src) (hc : Byt c) (hs : SOk σ) :
  RCon Tryz.prog 231 [srcA c σ] (fun r o => ∃ (τ : Src) (a : List Int), SOk τ ∧ o = [srcA c τ] ∧ DrA a ∧ (r = .sl a.length (avs a) ∨ r = .own 2 a.length (avs a))) := by
 have c1 := l07Draw_r c σ 1 hc hs ⟨by decide, by decide⟩
 simp only [srcA_eq] at *
 refine rcon_of_vcH Tryz.mixed ⟨4, [25], [1000000 + 142, 1000000 + 293, 2000000 + 239], []⟩ [0] Tryz.func231 (by decide) rfl (by simp) (by simp) (by decide) ?_
 rw [Tryz.ntmps231]
 simp [go_sem]
 refine ⟨_, c1, ?_⟩
 rintro _ _ ⟨τ0, a, s1, rfl, d1, rfl⟩
 have l1 := d1.1
 have dA := d1.dra ⟨by decide, by decide⟩
 have c2 := l01Next_c c τ0 24 hc s1
 have s2 := nx2_ok hc s1 24
 simp only [srcA_eq] at *
 simp [go_sem]
 refine ⟨_, _, c2, ?_⟩
 simp [go_sem]
 generalize nx1 c τ0 24 = v at *
 generalize nx2 c τ0 24 = τ2 at *
 by_cases v0 : v = 0
 ·subst v0
  have c3 := l01Next_c c τ2 3 hc s2
  have s3 := nx2_ok hc s2 3
  have b3 := nx1_b hc τ2 (n := 3) (by omega)
  simp only [srcA_eq] at *
  simp [go_sem]
  refine ⟨_, _, c3, ?_⟩
  simp [go_sem]
  exact ⟨by omega, (nx2 c τ2 3).1, (nx2 c τ2 3).2, s3, ⟨rfl, rfl⟩, a.set 0 (nx1 c τ2 3), dA.set ⟨by omega, by omega⟩, by rw [List.length_set]; omega, avs_set _ _ _⟩
 ·by_cases v1 : v = 1
  ·subst v1
   have c3 := l01Next_c c τ2 38 hc s2
   have s3 := nx2_ok hc s2 38
   have b3 := nx1_b hc τ2 (n := 38) (by omega)
   obtain ⟨u, hu⟩ : ∃ u : Nat, nx1 c τ2 38 = u := ⟨(nx1 c τ2 38).toNat, by omega⟩
   rw [hu] at c3 b3
   generalize nx2 c τ2 38 = τ3 at *
   have c4 := l01Spoil_c c τ3 hc s3
   have s4 := spV_ok hc s3
   have hs3 := s3
   simp only [srcA_eq] at *
   simp [go_sem]
   refine ⟨_, _, c3, ?_⟩
   simp [go_sem]
   refine ⟨_, _, c4, ?_⟩
   simp [go_sem]
   exact ⟨by omega, by omega, (spV c τ3).2.1, (spV c τ3).2.2, s4, ⟨rfl, rfl⟩, a.set u (spV c τ3).1, dA.set (spV_fits hc hs3), by rw [List.length_set]; omega, avs_set _ _ _⟩
  ·by_cases v2 : v = 2
   ·subst v2
    simp [go_sem]
    refine ⟨τ2.1, τ2.2, s2, ⟨rfl, rfl⟩, a.tail, ⟨by rw [List.length_tail]; omega, by rw [List.length_tail]; omega, fun x hx => dA.2.2 x (List.mem_of_mem_tail hx)⟩, by rw [List.length_tail]; omega, ?_⟩
    have e : (avs a).tail = avs a.tail := by unfold avs; rw [List.map_tail]
    rw [e, List.take_of_length_le (by rw [avs_len, List.length_tail]; omega)]
   ·simp [go_sem, v0, v1, v2]
    exact ⟨τ2.1, τ2.2, s2, ⟨rfl, rfl⟩, dA, l1.symm⟩
theorem DrM.n0 {a : List Int} (h : DrM 0 a) : N38 a := h.n38 ⟨by decide, by decide⟩
theorem l18Symmetric_r (c : List Int) (σ : Src) (hc : Byt c) (hs : SOk σ) :
  RCon Tryz.prog 143 [srcA c σ] (fun r o => ∃ (τ : Src) (b : List Int), SOk τ ∧ o = [srcA c τ] ∧ DrM 0 b ∧ r = .own 2 38 (avs (expS b))) := by
 have cA := l03All_c 6 (by omega)
 have l6 := trN_len6
 have e6 : ((6 : Nat) : Int) = 6 := rfl
 rw [e6, l6] at cA
 have c1 := l07Draw_r c σ 0 hc hs ⟨by decide, by decide⟩
 have cC := l07Cuts_c
 have h7 : AV.sl 38 (AV.sl 0 [] :: fcF) = .sl 38 s7F := rfl
 rw [h7] at cC
 generalize hFC : s7F = FC at *
 simp only [srcA_eq] at *
 refine rcon_of_vcH Tryz.mixed ⟨7, [], [1000000 + 142, 1000000 + 137, 2000000 + 239], []⟩ [0] Tryz.func143 (by decide) rfl (by simp) (by simp) (by decide) ?_
 rw [Tryz.ntmps143]
 simp [go_sem]
 refine CallVC.of (cA) (by decide) ?_
 simp [go_sem]
 refine ⟨_, c1, ?_⟩
 rintro _ _ ⟨τ0, a, s1, rfl, d1, rfl⟩
 have c2 := l01Next_c c τ0 4 hc s1
 have s2 := nx2_ok hc s1 4
 simp only [srcA_eq] at *
 simp [go_sem]
 refine ⟨_, _, c2, ?_⟩
 simp [go_sem]
 generalize nx1 c τ0 4 = v at *
 generalize nx2 c τ0 4 = τ2 at *
 refine loop_inv (4 :: 6 :: List.range' 12 29) (fun x : List Int × Nat => [(4, .own 2 38 (avs x.1)), (6, .int x.2)]) (fun x => DrM 0 x.1 ∧ x.2 ≤ 37) (fun x => 37 - x.2) (a, 0) ⟨d1, by simp only; omega⟩ (by simp [go_sem]) (by simp [go_sem]) ?_
 rintro ⟨b, i⟩ ⟨h1, h2⟩
 simp only at h1 h2
 by_cases hil : i < 37
 ·have hii : (i : Int) < 37 := by omega
  have hl : i < (trN 6).length := by omega
  have og := omat_get hl
  have e := trN_nd hil
  have n1 := nd_pos (i := i + 1) (by omega) (by omega)
  have n6 := nd_le (i := i + 1) (by omega)
  have d0 := h1.set (i := i + 1) (x := 0) (by omega) ⟨by decide, by decide⟩
  have lb := h1.1
  rw [e] at og
  generalize nd (i + 1) = m at *
  generalize (trN 6)[i]?.getD [] = t at *
  by_cases hm : m % 2 = 0
  ·have hmi : (m : Int).tmod 2 = 0 := by rw [Int.tmod_eq_emod_of_nonneg (by omega)]; omega
   simp -implicitDefEqProofs [go_sem, hii, og, hmi]
   refine ⟨⟨by omega, by omega⟩, ⟨by omega, by omega⟩, by omega, ⟨by omega, by omega⟩, b.set (i + 1) 0, i + 1, ⟨d0, by omega⟩, by omega, Off_reset _ _ _ (by simp), ?_⟩
   exact ⟨avs_set _ _ _, by omega⟩
  ·have hmi : ¬ (m : Int).tmod 2 = 0 := by rw [Int.tmod_eq_emod_of_nonneg (by omega)]; omega
   by_cases hv : v = 1
   ·by_cases hm3 : m = 3
    ·subst hm3
     simp -implicitDefEqProofs [go_sem, hii, og, hmi, hv]
     refine ⟨⟨by omega, by omega⟩, ⟨by omega, by omega⟩, by omega, ⟨by omega, by omega⟩, b.set (i + 1) 0, i + 1, ⟨d0, by omega⟩, by omega, Off_reset _ _ _ (by simp), ?_⟩
     exact ⟨avs_set _ _ _, by omega⟩
    ·have hm3i : ¬ (m : Int) = 3 := by omega
     simp -implicitDefEqProofs [go_sem, hii, og, hmi, hv, hm3i, hm3]
     exact ⟨⟨by omega, by omega⟩, b, i + 1, ⟨h1, by omega⟩, by omega, Off_reset _ _ _ (by simp), rfl, by omega⟩
   ·simp -implicitDefEqProofs [go_sem, hii, og, hmi, hv]
    exact ⟨⟨by omega, by omega⟩, b, i + 1, ⟨h1, by omega⟩, by omega, Off_reset _ _ _ (by simp), rfl, by omega⟩
 ·have ei : i = 37 := by omega
  subst ei
  by_cases hv : 0 < v
  ·have d0 := h1.set (i := 1) (x := 1) (by omega) ⟨by decide, by decide⟩
   have lb := h1.1
   have cE := l08Exp_c (b.set 1 1) d0.n0
   rw [d0.1, hFC] at cE
   simp [go_sem, hv]
   refine ⟨by omega, ?_⟩
   rw [avs_set]
   refine ⟨_, _, cC, ?_⟩
   simp [go_sem]
   refine CallVC.of (cE) (by decide) ?_
   simp [go_sem]
   exact ⟨τ2.1, τ2.2, s2, ⟨rfl, rfl⟩, b.set 1 1, d0, rfl⟩
  ·have cE := l08Exp_c b h1.n0
   rw [h1.1, hFC] at cE
   simp [go_sem, hv]
   refine ⟨_, _, cC, ?_⟩
   simp [go_sem]
   refine CallVC.of (cE) (by decide) ?_
   simp [go_sem]
   exact ⟨τ2.1, τ2.2, s2, ⟨rfl, rfl⟩, b, h1, rfl⟩
theorem l18Draw_r (c : List Int) (σ : Src) (hc : Byt c) (hs : SOk σ) :
  RCon Tryz.prog 130 [srcA c σ] (fun r o => ∃ (τ : Src) (a : List Int), SOk τ ∧ o = [srcA c τ] ∧ DrA a ∧ (r = .sl a.length (avs a) ∨ r = .own 2 a.length (avs a))) := by
 have c1 := l01Next_c c σ 2 hc hs
 have s1 := nx2_ok hc hs 2
 simp only [srcA_eq] at *
 refine rcon_of_vcH Tryz.mixed ⟨3, [], [1000000 + 142, 2000000 + 143, 2000000 + 231], []⟩ [0] Tryz.func130 (by decide) rfl (by simp) (by simp) (by decide) ?_
 rw [Tryz.ntmps130]
 simp [go_sem]
 refine ⟨_, _, c1, ?_⟩
 simp [go_sem]
 generalize nx1 c σ 2 = v at *
 generalize nx2 c σ 2 = τ0 at *
 by_cases h0 : v = 0
 ·have c2 := l18Symmetric_r c τ0 hc s1
  simp only [srcA_eq] at *
  simp [go_sem, h0]
  refine ⟨_, c2, ?_⟩
  rintro _ _ ⟨τ, b, s2, rfl, d, rfl⟩
  have dE : DrA (expS b) := ((expS_ch b).1.drm).dra ⟨by rw [(expS_ch b).2]; decide, by rw [(expS_ch b).2]; decide⟩
  simp [go_sem]
  exact ⟨τ.1, τ.2, s2, ⟨rfl, rfl⟩, dE, (expS_ch b).1.1.symm⟩
 ·have c2 := l07DrawAny_r c τ0 hc s1
  simp only [srcA_eq] at *
  simp [go_sem, h0]
  refine ⟨_, c2, ?_⟩
  rintro _ _ ⟨τ, a, s2, rfl, d, rfl | rfl⟩
  ·simp [go_sem]
   exact ⟨τ.1, τ.2, s2, ⟨rfl, rfl⟩, d⟩
  ·simp [go_sem]
   exact ⟨τ.1, τ.2, s2, ⟨rfl, rfl⟩, d⟩
def DrG (g : List Int) : Prop := g.length ≤ 10 ∧ ∀ x ∈ g, fits x
theorem DrG.ns {g : List Int} (hl : g.length ≤ 10) (h : Ns g) : DrG g := ⟨hl, fun x hx => by have := h x hx; exact ⟨by have := this.1; omega, by have := this.2; omega⟩⟩
theorem l18Jump_r (p : Int) (s : Nat) (hp : 0 ≤ p) (hp2 : p ≤ 10) (hs : s ≤ 2) :
  RCon Tryz.prog 151 [.int p, .int s] (fun r o => o = [.any, .any] ∧ ∃ g : List Int, Ns g ∧ g.length ≤ 5 ∧ r = .own 2 g.length (avs g)) := by
 have c1 := l01Root_r (2 * s) (p + 1) (by omega) (by omega)
 refine rcon_of_vcH Tryz.mixed ⟨10, [], [2000000 + 247], []⟩ [] Tryz.func151 (by decide) rfl (by simp) (by simp) (by decide) ?_
 rw [Tryz.ntmps151]
 simp [go_sem]
 refine ⟨⟨by omega, by omega⟩, ⟨by omega, by omega⟩, ?_⟩
 refine ⟨_, c1, ?_⟩
 rintro _ _ ⟨rfl, x, x1, x2, rfl⟩
 have c2 := l01Sub_c (2 * s) x ⟨by omega, by omega⟩
 have c3 := l01Inv_c ((2 * (s : Int) - x) % 10007) (isN_mod _)
 have gN := pw_N ((2 * (s : Int) - x) % 10007) 10005
 simp [go_sem]
 refine ⟨⟨by omega, by omega⟩, ?_⟩
 refine CallVC.of (c2) (by decide) ?_
 simp [go_sem]
 refine CallVC.of (c3) (by decide) ?_
 simp [go_sem]
 generalize pw ((2 * (s : Int) - x) % 10007) 10005 = q at *
 have rN : ∀ i, Ns (List.replicate i q) := fun i y hy => by rw [(List.mem_replicate.1 hy).2]; exact gN
 have ar : ∀ i, avs (List.replicate (i + 1) q) = avs (List.replicate i q) ++ [.val (.int .i64 q)] := fun i => by rw [List.replicate_succ', avs_snoc]
 refine loop_inv (7 :: 8 :: List.range' 21 9) (fun i : Nat => [(7, .own 2 i (avs (List.replicate i q))), (8, .int i)]) (fun i => i ≤ s) (fun i => s - i) 0 (by simp) (by simp [go_sem]) (by simp [go_sem]) ?_
 intro i hi
 by_cases his : i < s
 ·have hii : (i : Int) < s := by omega
  simp [go_sem, hii]
  refine ⟨⟨by omega, by omega⟩, ⟨by omega, by omega⟩, i + 1, by omega, by omega, Off_reset _ _ _ (by simp), ?_⟩
  rw [ar]
  exact ⟨⟨rfl, rfl⟩, by omega⟩
 ·have e : i = s := by omega
  subst e
  have hii : ¬ (i : Int) < i := by omega
  have c4 := l01Mul_c (2 * i) q (mul_fits (show isN (2 * (i : Int)) from ⟨by omega, by omega⟩) gN)
  have m4 := isN_mod (2 * (i : Int) * q)
  have c5 := l01Sub_c 1 (2 * (i : Int) * q % 10007) ⟨by have := m4.2; omega, by have := m4.1; omega⟩
  have m5 := isN_mod (1 - 2 * (i : Int) * q % 10007)
  generalize 2 * (i : Int) * q % 10007 = w at *
  generalize (1 - w) % 10007 = z at *
  simp [go_sem, hii]
  refine ⟨⟨by omega, by omega⟩, ?_⟩
  refine CallVC.of (c4) (by decide) ?_
  simp [go_sem]
  refine CallVC.of (c5) (by decide) ?_
  simp [go_sem]
  refine ⟨⟨by omega, by omega⟩, ?_⟩
  have e0 : avs (List.replicate i q) ++ [AV.val (.int .i64 z)] = avs (List.replicate i q ++ [z] ++ List.replicate 0 q) := by rw [List.replicate_zero, List.append_nil, avs_snoc]
  refine loop_inv (7 :: 9 :: List.range' 38 9) (fun k : Nat => [(7, .own 2 (i + 1 + k) (avs (List.replicate i q ++ [z] ++ List.replicate k q))), (9, .int k)]) (fun k => k ≤ i) (fun k => i - k) 0 (by simp) (by simp [go_sem]; first | exact avs_snoc _ _ | rw [avs_snoc]) (by simp [go_sem]) ?_
  intro k hk
  by_cases hks : k < i
  ·have hki : (k : Int) < i := by omega
   have ak : avs (List.replicate i q ++ [z] ++ List.replicate (k + 1) q) = avs (List.replicate i q ++ [z] ++ List.replicate k q) ++ [.val (.int .i64 q)] := by rw [List.replicate_succ', ← List.append_assoc, avs_snoc]
   simp [go_sem, hki]
   refine ⟨⟨by omega, by omega, by omega⟩, ⟨by omega, by omega⟩, k + 1, by omega, by omega, Off_reset _ _ _ (by simp), ?_⟩
   have e1 : List.replicate i q ++ z :: List.replicate (k + 1) q = (List.replicate i q ++ z :: List.replicate k q) ++ [q] := by rw [List.replicate_succ']; simp
   rw [e1, avs_snoc]
   exact ⟨⟨by omega, rfl⟩, by omega⟩
  ·have e : k = i := by omega
   subst e
   have hki : ¬ (k : Int) < k := by omega
   simp [go_sem, hki]
   refine ⟨List.replicate k q ++ z :: List.replicate k q, fun y hy => ?_, by simp; omega, by simp; omega, rfl⟩
   rcases List.mem_append.1 hy with hy | hy
   ·exact rN k y hy
   ·rcases List.mem_cons.1 hy with rfl | hy
    ·exact m5
    ·exact rN k y hy
theorem l18DrawSteps_r (c : List Int) (σ : Src) (hc : Byt c) (hs : SOk σ) :
  RCon Tryz.prog 131 [srcA c σ] (fun r o => ∃ (τ : Src) (g : List Int), SOk τ ∧ o = [srcA c τ] ∧ DrG g ∧ r = .own 2 g.length (avs g)) := by
 have c1 := l01Next_c c σ 8 hc hs
 have s1 := nx2_ok hc hs 8
 simp only [srcA_eq] at *
 refine rcon_of_vcH Tryz.mixed ⟨3, [], [1000000 + 142, 1000000 + 115, 1000000 + 232, 2000000 + 151], []⟩ [0] Tryz.func131 (by decide) rfl (by simp) (by simp) (by decide) ?_
 rw [Tryz.ntmps131]
 simp [go_sem]
 refine ⟨_, _, c1, ?_⟩
 simp [go_sem]
 generalize nx1 c σ 8 = v at *
 generalize nx2 c σ 8 = τ0 at *
 by_cases v0 : v = 0
 ·have c2 := l01Pick_c c τ0 [2, 4] hc s1 (by simp) (by simp)
  have pm := pk_mem c hc τ0 (xs := [2, 4]) (by simp)
  have e2 : (([2, 4] : List Int).length : Int) = 2 := rfl
  rw [e2] at c2
  have s2 := nx2_ok hc s1 2
  have c3 := l01Next_c c (nx2 c τ0 2) 2 hc s2
  have s3 := nx2_ok hc s2 2
  have b3 := nx1_b hc (nx2 c τ0 2) (n := 2) (by omega)
  obtain ⟨u, hu⟩ : ∃ u : Nat, nx1 c (nx2 c τ0 2) 2 = u := ⟨(nx1 c (nx2 c τ0 2) 2).toNat, by omega⟩
  rw [hu] at b3 c3
  have pb : 0 ≤ pk c τ0 [2, 4] ∧ pk c τ0 [2, 4] ≤ 10 := by
   simp only [List.mem_cons, List.not_mem_nil, or_false] at pm
   omega
  have c4 := l18Jump_r (pk c τ0 [2, 4]) (u + 1) pb.1 pb.2 (by omega)
  have eu : ((u + 1 : Nat) : Int) = 1 + (u : Int) := by omega
  rw [eu] at c4
  simp only [srcA_eq] at *
  simp [go_sem, v0]
  refine ⟨_, _, c2, ?_⟩
  simp [go_sem]
  refine ⟨_, _, c3, ?_⟩
  simp [go_sem]
  refine ⟨⟨by omega, by omega⟩, ?_⟩
  refine ⟨_, c4, ?_⟩
  rintro _ _ ⟨rfl, g, gN, gl, rfl⟩
  simp [go_sem]
  exact ⟨_, _, s3, ⟨rfl, rfl⟩, DrG.ns (by omega) gN⟩
 ·by_cases v1 : v = 1
  ·have c2 := l01Pick_c c τ0 [0, 9, 10] hc s1 (by simp) (by simp)
   have pm := pk_mem c hc τ0 (xs := [0, 9, 10]) (by simp)
   have e2 : (([0, 9, 10] : List Int).length : Int) = 3 := rfl
   rw [e2] at c2
   have s2 := nx2_ok hc s1 3
   obtain ⟨n, hn, hn2⟩ : ∃ n : Nat, pk c τ0 [0, 9, 10] = n ∧ n ≤ 10 := by
    simp only [List.mem_cons, List.not_mem_nil, or_false] at pm
    exact ⟨(pk c τ0 [0, 9, 10]).toNat, by omega, by omega⟩
   rw [hn] at c2
   have c3 := l01List_c c (nx2 c τ0 3) n hc s2 (by omega)
   obtain ⟨g1, g2, g3⟩ := lsV_ok (f := nbV c) (fun σ h => nbV_ok hc h) n (nx2 c τ0 3) s2
   simp only [srcA_eq] at *
   generalize lsV (nbV c) n (nx2 c τ0 3) = q at *
   simp [go_sem, v0, v1]
   refine ⟨_, _, c2, ?_⟩
   simp [go_sem]
   refine ⟨_, _, c3, ?_⟩
   simp [go_sem]
   exact ⟨q.2.1, q.2.2, g3, ⟨rfl, rfl⟩, DrG.ns (by omega) g2, by omega⟩
  ·by_cases v2 : v = 2
   ·have c2 := l01Pick_c c τ0 [0, 1, -1, 10007] hc s1 (by simp) (by simp)
    have pm := pk_mem c hc τ0 (xs := [0, 1, -1, 10007]) (by simp)
    have e2 : (([0, 1, -1, 10007] : List Int).length : Int) = 4 := rfl
    rw [e2] at c2
    have s2 := nx2_ok hc s1 4
    simp only [List.mem_cons, List.not_mem_nil, or_false] at pm
    simp only [srcA_eq] at *
    generalize pk c τ0 [0, 1, -1, 10007] = x at *
    simp [go_sem, v0, v1, v2]
    refine ⟨_, _, c2, ?_⟩
    simp [go_sem]
    exact ⟨_, _, s2, ⟨rfl, rfl⟩, [1, x], ⟨by simp, fun y hy => by
     simp only [List.mem_cons, List.not_mem_nil, or_false] at hy
     rcases hy with rfl | rfl
     ·exact ⟨by decide, by decide⟩
     ·exact ⟨by omega, by omega⟩⟩, rfl, rfl⟩
   ·have c2 := l01Next_c c τ0 4 hc s1
    have s2 := nx2_ok hc s1 4
    have b2 := nx1_b hc τ0 (n := 4) (by omega)
    obtain ⟨u, hu⟩ : ∃ u : Nat, nx1 c τ0 4 = u := ⟨(nx1 c τ0 4).toNat, by omega⟩
    rw [hu] at b2 c2
    have c3 := l01List_c c (nx2 c τ0 4) (u + 1) hc s2 (by omega)
    obtain ⟨g1, g2, g3⟩ := lsV_ok (f := nbV c) (fun σ h => nbV_ok hc h) (u + 1) (nx2 c τ0 4) s2
    have eu : ((u + 1 : Nat) : Int) = 1 + (u : Int) := by omega
    rw [eu] at c3
    simp only [srcA_eq] at *
    generalize lsV (nbV c) (u + 1) (nx2 c τ0 4) = q at *
    simp [go_sem, v0, v1, v2]
    refine ⟨_, _, c2, ?_⟩
    simp [go_sem]
    refine ⟨⟨by omega, by omega⟩, ?_⟩
    refine ⟨_, _, c3, ?_⟩
    simp [go_sem]
    exact ⟨q.2.1, q.2.2, g3, ⟨rfl, rfl⟩, DrG.ns (by omega) g2, by omega⟩
theorem DrawComposeSteps_x (c : List Int) (hc : Byt c) :
  RCon Tryz.prog 40 [.sl c.length (bys c)] (fun r o => o = [.any] ∧ ∃ (a g : List Int), DrA a ∧ DrG g ∧ (r = .tup [.sl a.length (avs a), .own 2 g.length (avs g)] ∨ r = .tup [.own 2 a.length (avs a), .own 2 g.length (avs g)])) := by
 have c0 := l01From_r c hc
 simp only [srcA_eq] at *
 refine rcon_of_vcH Tryz.mixed ⟨6, [], [2000000 + 113, 2000000 + 130, 2000000 + 131], []⟩ [] Tryz.func40 (by decide) rfl (by simp) (by simp) (by decide) ?_
 rw [Tryz.ntmps40]
 simp [go_sem]
 refine ⟨_, c0, ?_⟩
 rintro _ _ ⟨rfl, h, rfl⟩
 have c1 := l18Draw_r c (0, h) hc (by unfold SOk; simp)
 simp only [srcA_eq] at *
 simp [go_sem]
 refine ⟨_, c1, ?_⟩
 rintro _ _ ⟨τ1, a, s1, rfl, d1, hx⟩
 have c2 := l18DrawSteps_r c τ1 hc s1
 simp only [srcA_eq] at *
 rcases hx with rfl | rfl
 ·simp [go_sem]
  refine ⟨_, c2, ?_⟩
  rintro _ _ ⟨τ2, g, s2, rfl, d2, rfl⟩
  simp [go_sem]
  exact ⟨a, d1, g, d2, ⟨rfl, rfl⟩, rfl, rfl⟩
 ·simp [go_sem]
  refine ⟨_, c2, ?_⟩
  rintro _ _ ⟨τ2, g, s2, rfl, d2, rfl⟩
  simp [go_sem]
  exact ⟨a, d1, g, d2, ⟨rfl, rfl⟩, rfl, rfl⟩
theorem DrawComposeSteps_r (c : List Int) (hc : Byt c) :
  RCon Tryz.prog 40 [.sl c.length (bys c)] (fun r o => o = [.any] ∧ ∃ (a g : List Int), DrA a ∧ DrG g ∧ r = .tup [.sl a.length (avs a), .sl g.length (avs g)]) := by
 refine (RCon.fz (DrawComposeSteps_x c hc)).mono ?_
 rintro r o ⟨r0, ⟨ho, a, g, h1, h2, hr⟩, rfl⟩
 refine ⟨ho, a, g, h1, h2, ?_⟩
 rcases hr with rfl | rfl <;> simp [frz, frzL]
end Go.Proofs.YtphccfabekdmnaaGreat


namespace Go.Proofs.YtphccfabekdmnaaGreat
open Go.Abs
theorem l18Steps_c (g : List Int) (hg : g.length ≤ 9223372036854775807) : Con Tryz.prog 135 [.sl g.length (avs g)] (.bool (stB g)) := by
 have c3 := l01Numbers_c g hg
 unfold stB
 generalize numsB g = w at *
 by_cases h1 : 1 ≤ g.length
 ·have hi : (1 : Int) ≤ g.length := by omega
  by_cases h9 : g.length ≤ 9
  ·have hj : (g.length : Int) ≤ 9 := by omega
   simp only [h1, h9, decide_true, Bool.true_and]
   refine con_of_vc Tryz.mixed ⟨3, [], [], []⟩ Tryz.func135 (by decide) rfl (by simp) (by decide) (by simp [freshOK, freshL, go_sem]) ?_
   rw [Tryz.ntmps135]
   simp [go_sem, hi,hj]
   refine CallVC.of (c3) (by decide) ?_
   simp [go_sem]
  ·have hj : ¬ (g.length : Int) ≤ 9 := by omega
   simp only [h1, h9, decide_true, decide_false, Bool.true_and, Bool.false_and]
   refine con_of_vc Tryz.mixed ⟨3, [], [], []⟩ Tryz.func135 (by decide) rfl (by simp) (by decide) (by simp [freshOK, freshL, go_sem]) ?_
   rw [Tryz.ntmps135]
   simp [go_sem, hi,hj]
 ·have hi : ¬ (1 : Int) ≤ g.length := by omega
  simp only [h1, decide_false, Bool.false_and]
  refine con_of_vc Tryz.mixed ⟨3, [], [], []⟩ Tryz.func135 (by decide) rfl (by simp) (by decide) (by simp [freshOK, freshL, go_sem]) ?_
  rw [Tryz.ntmps135]
  simp [go_sem, hi]
theorem l18Compose_c (a g : List Int) (ha : Ch a) (hg : Ns g) (hl : g.length ≤ 1000) :
  Con Tryz.prog 136 [.sl 38 s7F, .sl a.length (avs a), .sl g.length (avs g)] (.own 2 38 (avs (cmS a g))) := by
 have cU := l07Unit_c
 have cS := fun k hk => l07Scale_c a k ha.1 hk
 have cC := fun x y hx hy => l07Conv_k x y hx hy
 have mN := fun h => cmS_ch (a := a) ha h
 have e0 : cmS a [] = unitS := rfl
 generalize s7F = FC at *
 refine con_of_vc Tryz.mixed ⟨9, [], [], []⟩ Tryz.func136 (by decide) rfl (by simp) (by decide) (by simp [freshOK, freshL, go_sem]) ?_
 rw [Tryz.ntmps136]
 simp [go_sem]
 refine CallVC.of (cU) (by decide) ?_
 simp [go_sem]
 refine loop_inv (7 :: 8 :: List.range' 10 15) (fun i : Nat => [(7, .own 2 38 (avs (cmS a (g.take i)))), (8, .int i)]) (fun i => i ≤ g.length) (fun i => g.length - i) 0 (by simp) (by simp [go_sem, e0]) (by simp [go_sem]) ?_
 intro i hi
 by_cases hil : i < g.length
 ·have hii : (i : Int) < g.length := by omega
  have dr := avs_dropI hil
  have ng : ¬ g = [] := by rintro rfl; simp at hil
  have tk : g.take (i + 1) = g.take i ++ [iat g i] := by
   rw [List.take_succ_eq_append_getElem hil]
   unfold iat
   rw [List.getElem?_eq_getElem hil]; rfl
  have sn := cmS_snoc a (g.take i) (iat g i)
  rw [← tk] at sn
  have c1 := cS (iat g i) (hg.get i)
  have c2 := cC (cmS a (g.take i)) (scS (iat g i) a) (mN _) (scS_N _ _)
  rw [(mN (g.take i)).1.1, (scS_N (iat g i) a).1] at c2
  have l1 := (mN (g.take i)).1.1
  have l2 := (scS_N (iat g i) a).1
  generalize cmS a (g.take i) = X at *
  generalize scS (iat g i) a = Y at *
  generalize iat g i = x at *
  simp [go_sem, hii, dr]
  refine ⟨ng, ?_⟩
  refine CallVC.of (c1) (by decide) ?_
  simp [go_sem]
  refine CallVC.of (c2) (by decide) ?_
  simp [go_sem]
  refine ⟨⟨by omega, by omega⟩, i + 1, by omega, by omega, Off_reset _ _ _ (by simp), ?_⟩
  rw [sn]
  exact ⟨rfl, by omega⟩
 ·have e : i = g.length := by omega
  subst e
  have hii : ¬ (g.length : Int) < g.length := by omega
  rw [List.take_length]
  simp [go_sem, hii]
theorem sComposeSteps_c (a g : List Int) (ha : a.length ≤ 9223372036854775807) (hg : g.length ≤ 9223372036854775807) :
  Con Tryz.prog 42 [.sl a.length (avs a), .sl g.length (avs g)] (.tup [.own 2 (cpX a g).length (avs (cpX a g)), .int (cpC a g)]) := by
 have cM := l07Is_c a ha
 have cS := l18Steps_c g hg
 unfold cpX
 unfold cpC
 by_cases hm : mapB a = true
 ·rw [if_pos hm]
  rw [hm] at cM
  have N := N38_of hm
  have hl := N.1
  have na : ¬ a = [] := by rintro rfl; simp at hl
  have a0 := avs_dropI (a := a) (v := 0) (by omega)
  rw [List.drop_zero] at a0
  by_cases hs : stB g = true
  ·rw [if_pos hs]
   rw [hs] at cS
   obtain ⟨gN, g1, g9⟩ := stB_ok hs
   by_cases h1 : iat a 0 = 1
   ·rw [if_pos h1]
    have cC := l18Compose_c a g ⟨N, h1⟩ gN (by omega)
    rw [h1] at a0
    have cF := l07Cuts_c
    have lX := (cmS_N (a := a) g).1
    rw [if_pos rfl, lX]
    rw [a0, List.drop_one] at cC
    have es : .sl 0 [] :: fcF = s7F := rfl
    rw [es] at cF
    generalize cmS a g = X at *
    generalize s7F = FC at *
    refine con_of_vc Tryz.mixed ⟨6, [], [1000000 + 137], []⟩ Tryz.func42 (by decide) rfl (by simp) (by decide) (by simp [freshOK, freshL, go_sem]) ?_
    rw [Tryz.ntmps42]
    simp [go_sem]
    refine CallVC.of (cM) (by decide) ?_
    simp [go_sem]
    refine CallVC.of (cS) (by decide) ?_
    simp [go_sem]
    simp [go_sem, a0]
    refine ⟨⟨by omega, na⟩, ?_⟩
    refine ⟨_, _, cF, ?_⟩
    simp [go_sem]
    refine CallVC.of (cC) (by decide) ?_
    simp [go_sem]
   ·rw [if_neg h1]
    generalize iat a 0 = x at *
    rw [if_neg (by decide)]
    refine Con.n1 _ ?_
    refine con_of_vc Tryz.mixed ⟨6, [], [1000000 + 137], []⟩ Tryz.func42 (by decide) rfl (by simp) (by decide) (by simp [freshOK, freshL, go_sem]) ?_
    rw [Tryz.ntmps42]
    simp [go_sem]
    refine CallVC.of (cM) (by decide) ?_
    simp [go_sem]
    refine CallVC.of (cS) (by decide) ?_
    simp [go_sem]
    simp [go_sem, a0, h1]
    exact ⟨by omega, na⟩
  ·rw [if_neg hs]
   have hf : stB g = false := by simpa using hs
   rw [hf] at cS
   rw [if_neg (by decide)]
   refine Con.n1 _ ?_
   refine con_of_vc Tryz.mixed ⟨6, [], [1000000 + 137], []⟩ Tryz.func42 (by decide) rfl (by simp) (by decide) (by simp [freshOK, freshL, go_sem]) ?_
   rw [Tryz.ntmps42]
   simp [go_sem]
   refine CallVC.of (cM) (by decide) ?_
   simp [go_sem]
   refine CallVC.of (cS) (by decide) ?_
   simp [go_sem]
 ·rw [if_neg hm]
  have hf : mapB a = false := by simpa using hm
  rw [hf] at cM
  rw [if_neg (by decide)]
  refine Con.n1 _ ?_
  refine con_of_vc Tryz.mixed ⟨6, [], [1000000 + 137], []⟩ Tryz.func42 (by decide) rfl (by simp) (by decide) (by simp [freshOK, freshL, go_sem]) ?_
  rw [Tryz.ntmps42]
  simp [go_sem]
  refine CallVC.of (cM) (by decide) ?_
  simp [go_sem]
end Go.Proofs.YtphccfabekdmnaaGreat


namespace Go.Proofs.YtphccfabekdmnaaGreat
open Go.Abs
def rlH (c : List Int) (sd : Int) : Nat → Int
 | 0 => IntKind.u64.wrap (IntKind.u64.wrap (sd * 8111) + IntKind.u64.wrap c.length)
 | i + 1 => IntKind.u64.wrap (IntKind.u64.wrap (IntKind.u64.wrap (rlH c sd i * 1099511628211) + IntKind.u64.wrap (c[i]?.getD 0)) + 5)
theorem roll_g (c : List Int) (sd : Int) (hc : Byt c) : GCon Tryz.prog 37 [.sl c.length (bys c), .val (.int .u64 sd)] (dicA c (0, rlH c sd c.length)) [.any, .any] := by
 have hcl := hc.1
 unfold dicA
 refine gcon_of_vc Tryz.mixed ⟨7, [], [], []⟩ [4] [] Tryz.func37 (by decide) rfl rfl (by simp) (by simp) (by decide) ?_
 rw [Tryz.ntmps37]
 simp [go_sem]
 refine loop_inv (5 :: 6 :: List.range' 16 21) (fun i : Nat => [(5, .box 118 [.sl c.length (bys c), .int 0, .val (.int .u64 (rlH c sd i))]), (6, .int i)]) (fun i => i ≤ c.length) (fun i => c.length - i) 0 (by simp) (by simp [go_sem, rlH]) (by simp [go_sem]) ?_
 intro i hi
 by_cases hic : i < c.length
 ·have h4 : (i : Int) < 4096 := by omega
  have hne : ¬ c = [] := by rintro rfl; simp at hic
  have hD := bys_drop hic
  have hb := hc.get i
  simp [go_sem, hic, hD]
  refine ⟨by kernel_rfl, by intro e; exact hne (by simpa [bys] using e), ?_⟩
  refine ⟨by kernel_rfl, ?_⟩
  simp [go_sem]
  exact ⟨⟨by omega, by omega⟩, i + 1, by omega, by omega, Off_reset _ _ _ (by simp), by simp [rlH, hic], by omega⟩
 ·have e : i = c.length := by omega
  subst e
  simp [go_sem]
end Go.Proofs.YtphccfabekdmnaaGreat


namespace Go.Proofs.YtphccfabekdmnaaGreat
open Go.Abs
theorem whole9_c (a : List Int) (ha : a.length ≤ 9223372036854775807) : Con Tryz.prog 44 [.sl a.length (avs a)] (.bool (decide (a.length = 38))) := by
 have e : (decide (a.length = 38)) = decide ((a.length : Int) = 38) := by congr 1; simp; omega
 rw [e]
 refine con_of_vc Tryz.mixed ⟨3, [], [], []⟩ Tryz.func44 (by decide) rfl (by simp) (by decide) (by simp [freshOK, freshL, go_sem]) ?_
 rw [Tryz.ntmps44]
 simp [go_sem]
theorem mod9_c (n : Int) (h0 : -9223372036854775808 ≤ n) (h1 : n ≤ 9223372036854775807) : Con Tryz.prog 45 [.int n] (.int (n % 10007)) := by
 have e := num_law n
 have b := num_low n
 refine con_of_vc Tryz.mixed ⟨3, [], [], []⟩ Tryz.func45 (by decide) rfl (by simp) (by decide) (by simp [freshOK, freshL, go_sem]) ?_
 rw [Tryz.ntmps45]
 simp [go_sem]
 simp [go_sem, e]
 omega
theorem conv9_k (a b : List Int) (ha : Ch a) (hb : N38 b) :
  Con Tryz.prog 28 [.sl a.length (avs a), .sl b.length (avs b)] (.own 2 38 (avs (cvS a b))) := by
 have c := Convolve_k a b ha hb
 generalize cvS a b = X at *
 refine con_of_vc Tryz.mixed ⟨7, [], [], []⟩ Tryz.func28 (by decide) rfl (by simp) (by decide) (by simp [freshOK, freshL, go_sem]) ?_
 rw [Tryz.ntmps28]
 simp [go_sem]
 refine CallVC.of (c) (by decide) ?_
 simp [go_sem]
def n9V (c : List Int) (σ : Src) : Int × Src := (nx1 c σ 10007, nx2 c σ 10007)
theorem n9V_ok {c : List Int} (hc : Byt c) {σ : Src} (hs : SOk σ) : isN (n9V c σ).1 ∧ SOk (n9V c σ).2 := ⟨nx1_b hc σ (n := 10007) (by omega), nx2_ok hc hs _⟩
def m9V (c : List Int) (σ : Src) : List Int := 1 :: (lsV (n9V c) 37 σ).1
theorem m9V_ch {c : List Int} (hc : Byt c) {σ : Src} (hs : SOk σ) : Ch (m9V c σ) := by
 have h := lsV_ok (fun τ => n9V_ok (c := c) hc (σ := τ)) 37 σ hs
 refine ⟨⟨by simp [m9V, h.1], fun x hx => ?_⟩, rfl⟩
 rcases List.mem_cons.1 hx with rfl | hx
 ·omega
 ·exact ⟨(h.2.1 x hx).1, by have := (h.2.1 x hx).2; omega⟩
theorem map9_c (c : List Int) (σ : Src) (hc : Byt c) (hs : SOk σ) :
  GCon Tryz.prog 46 [dicA c σ, .int 1] (.own 2 38 (avs (m9V c σ))) [dicA c (lsV (n9V c) 37 σ).2, .any] := by
 have em : m9V c σ = 1 :: (lsV (n9V c) 37 σ).1 := rfl
 obtain ⟨T, hT⟩ : ∃ T, lsV (n9V c) 37 σ = T := ⟨_, rfl⟩
 rw [em, hT]
 unfold dicA
 refine gcon_of_vc Tryz.mixed ⟨6, [], [1000000 + 47], []⟩ [4] [0] Tryz.func46 (by decide) rfl rfl (by simp) (by simp) (by decide) ?_
 rw [Tryz.ntmps46]
 simp [go_sem]
 refine loop_inv (0 :: 5 :: List.range' 8 8) (fun x : List Int × Src × Nat => [(0, .box 118 [.sl c.length (bys c), .int x.2.1.1, .val (.int .u64 x.2.1.2)]), (5, .own 2 x.1.length (avs x.1))]) (fun x => SOk x.2.1 ∧ x.1.length + x.2.2 = 38 ∧ x.1 ++ (lsV (n9V c) x.2.2 x.2.1).1 = 1 :: T.1 ∧ (lsV (n9V c) x.2.2 x.2.1).2 = T.2) (fun x => x.2.2) ([1], σ, 37) ⟨hs, by simp, by rw [← hT]; rfl, by rw [← hT]⟩ (by simp [go_sem, avs]) (by simp [go_sem]) ?_
 rintro ⟨acc, τ, k⟩ ⟨h1, h2, h3, h4⟩
 simp only at h1 h2 h3 h4
 by_cases hk : k = 0
 ·subst hk
  have hn : ¬ (acc.length : Int) < 38 := by omega
  simp only [lsV, List.append_nil] at h3 h4
  have hl : acc.length = 38 := by omega
  simp [go_sem, hn]
  rw [← h3, ← h4]
  simp [hl]
 ·obtain ⟨j, rfl⟩ : ∃ j, k = j + 1 := ⟨k - 1, by omega⟩
  have hn : (acc.length : Int) < 38 := by omega
  have cN := below_c c τ 10007 hc h1
  have hok := n9V_ok hc h1
  unfold dicA at cN
  simp only [lsV] at h3 h4
  have e1 : (n9V c τ).1 = nx1 c τ 10007 := rfl
  have e2 : (n9V c τ).2 = nx2 c τ 10007 := rfl
  rw [← e1, ← e2] at cN
  generalize n9V c τ = r at *
  simp [go_sem, hn]
  refine ⟨_, _, cN, ?_⟩
  simp [go_sem]
  refine ⟨⟨by omega, by omega⟩, acc ++ [r.1], r.2.1, r.2.2, j, ⟨hok.2, by simp; omega, by simpa using h3, h4⟩, by omega, Off_reset _ _ _ (by simp), ?_⟩
  simp [avs]
end Go.Proofs.YtphccfabekdmnaaGreat


namespace Go.Proofs.YtphccfabekdmnaaGreat
open Go.ChangeShapes Go.WideShapes Go.ChangeAt Go.RowKit Go.Abs Go.Deep
section
variable {H : Type} {enc : TypeId × Value → H} {w : World} {sp : Nat → Bool} {held : Bool} {base : Nat}
theorem kids : Kids Tryz.prog (· < Tryz.prog.types.size) := kids_rows (by kernel_rfl) (by kernel_rfl)
theorem full : ∀ t e, t < Tryz.prog.types.size → Tryz.prog.underlying t = some (.slice e) → 0 < Tryz.prog.cellsOf e := slices_full_of Tryz.prog (by kernel_rfl)
theorem flat1 {α β : Type} (g : α → β) : ∀ qs : List α, qs.flatMap (fun a => [g a]) = qs.map g
 | [] => rfl
 | a :: qs => by rw [List.flatMap_cons, flat1 g qs]; rfl
theorem rep_one {F : Nat → Prop} {tm : Nat → Value} {oss : Nat → List Nat} {c : AV} {v : Value} (h : RepL Tryz.prog w F [c] [v] []) : RepT Tryz.prog w F tm oss c v [] := .cell _ _ _ (RepL.one h)
theorem repV {F : Nat → Prop} {tm : Nat → Value} {oss : Nat → List Nat} {t e : TypeId} {v : Value} {c : AV} {r : Reach} {b0 : Nat} (ht : Tryz.prog.underlying t = some (.slice e)) (hv : Value.okWide Tryz.prog w r b0 t v) (h : RepL Tryz.prog w F [c] v.cells.toList []) :
  RepT Tryz.prog w F tm oss c v [] := by
 have hc : v.cells.toList = [v] := by
  simp only [Value.okWide, ht] at hv
  cases v <;> simp_all [Value.cells, Cell.okWide, Cell.ok]
 rw [hc] at h
 exact rep_one h
end
end Go.Proofs.YtphccfabekdmnaaGreat


namespace Go.Proofs.YtphccfabekdmnaaGreat
open Go.Abs
open Go.ChangeShapes Go.WideShapes Go.ChangeAt Go.RowKit Go.Deep
theorem big_c (c : List Int) (hl : c.length ≤ 9223372036854775807) : Con Tryz.prog 10 [.sl c.length (bys c)] (.bool (decide (4096 < c.length))) := by
 refine con_of_vc Tryz.mixed ⟨3, [], [], []⟩ Tryz.func10 (by decide) rfl (by simp) (by decide) (by simp [freshOK, freshL, go_sem]) ?_
 rw [Tryz.ntmps10]
 simp [go_sem]
 omega
section
variable {H : Type} {enc : TypeId × Value → H} {w : World} {sp : Nat → Bool} {held : Bool} {base : Nat}
theorem open_bys {n : Nat} {cs : List Value} {x : DataW H × List MemPlace} (h : DataW.trod enc Tryz.prog w base sp held n 22 cs = some x) :
  ∃ xs : List Int, (∀ z ∈ xs, 0 ≤ z ∧ z ≤ 255) ∧ xs.length ≤ 9223372036854775807 ∧ RepL Tryz.prog w (fun b => b < w.heap.size) [.sl xs.length (bys xs)] cs [] ∧ cs.length = 1 := by
 obtain ⟨qs, h1, h2, h3, h4⟩ := open_sl (f := fun z : Int => [AV.val (.int .u8 z)]) (Good := fun z => (Lit.int .u8 z).wf = true) Tryz.underlying22 (s := 1) (by kernel_rfl) (by decide) (fun _ => rfl)
  (fun n cs y hy => by obtain ⟨z, k1, k2, _⟩ := open_i Tryz.underlying5 hy; exact ⟨z, k1, k2⟩) h
 refine ⟨qs, fun z hz => ?_, h2, by rw [flat1] at h3; exact h3, h4⟩
 have := h1 z hz
 simp [Lit.wf, IntKind.min, IntKind.max, IntKind.signed, IntKind.bits] at this
 omega
end
end Go.Proofs.YtphccfabekdmnaaGreat


namespace Go.Proofs.YtphccfabekdmnaaGreat
open Go.Abs
theorem stB_of {g : List Int} (hN : Ns g) (h1 : 1 ≤ g.length) (h9 : g.length ≤ 9) : stB g = true := by
 unfold stB
 rw [numsB_N.2 hN, decide_eq_true h1, decide_eq_true h9]; rfl
theorem sumPw_one (g : List Int) : sumPw 1 g = sumG g := by
 induction g with
 | nil => rfl
 | cons x g ih => simp only [sumPw, sumG, ih, Int.pow_succ, Int.pow_zero, Int.one_mul]
theorem agS_self (a : List Int) : agS a a = 6 := by
 rcases agS_spec a a with ⟨h, _⟩ | ⟨j, _, h, _⟩
 ·exact h
 ·exact absurd rfl h
theorem FnComposedSteps_c (c : List Int) (hl : c.length ≤ 9223372036854775807) (hb : ∀ x ∈ c, 0 ≤ x ∧ x ≤ 255) : Con Tryz.prog 6 [.sl c.length (bys c)] (.bool true) := by
 have cB := big_c c hl
 by_cases hc4 : 4096 < c.length
 ·refine con_of_vc Tryz.mixed ⟨34, [44, 64], [1000000 + 37, 1000000 + 46, 1000000 + 47, 2000000 + 40], []⟩ Tryz.func6 (by decide) rfl (by simp) (by decide) (by simp [freshOK, freshL, go_sem]) ?_
  rw [Tryz.ntmps6]
  simp [go_sem]
  refine CallVC.of (cB) (by decide) ?_
  simp [go_sem]
  simp [go_sem, hc4]
 ·have hc : Byt c := ⟨by omega, hb⟩
  have cD := DrawComposeSteps_r c hc
  have cR := roll_g c 1183 hc
  have s0 : SOk ((0, rlH c 1183 c.length) : Src) := by unfold SOk; simp
  generalize (rlH c 1183 c.length) = R0 at *
  have cM9 := map9_c c (0, R0) hc s0
  have hY := m9V_ch hc s0
  have sT := (lsV_ok (fun τ => n9V_ok (c := c) hc (σ := τ)) 37 (0, R0) s0).2.2
  generalize m9V c (0, R0) = Y at *
  generalize (lsV (n9V c) 37 (0, R0)).2 = T at *
  have cK := below_c c T 4 hc sT
  have bK := nx1_b hc T (n := 4) (by omega)
  generalize nx2 c T 4 = T2 at *
  generalize hk : nx1 c T 4 = k0 at *
  obtain ⟨k, rfl⟩ : ∃ k : Nat, k0 = k := ⟨k0.toNat, by omega⟩
  refine con_of_vc Tryz.mixed ⟨34, [44, 64], [1000000 + 37, 1000000 + 46, 1000000 + 47, 2000000 + 40], []⟩ Tryz.func6 (by decide) rfl (by simp) (by decide) (by simp [freshOK, freshL, go_sem]) ?_
  rw [Tryz.ntmps6]
  simp [go_sem]
  refine CallVC.of (cB) (by decide) ?_
  simp [go_sem]
  simp [go_sem, hc4]
  refine ⟨_, cD, ?_⟩
  rintro _ _ ⟨rfl, a, g, hDa, hDg, rfl⟩
  have la := hDa.2.1
  have lg := hDg.1
  have c1 := ComposeSteps_c a g (by omega) (by omega)
  have c2 := sComposeSteps_c a g (by omega) (by omega)
  by_cases hE : cpC a g = 0
  ·obtain ⟨hA, gN, g1, g9⟩ := cpC_ok hE
   have hsB := stB_of gN g1 g9
   have eX : cpX a g = cmS a g := by unfold cpX; rw [if_pos hE]
   have cX := ExactMap_c
   have cSS := StepSums_k g gN g1 g9
   have c3 := ComposeSteps_c exaS g (by rw [exaS_ch.1.1]; omega) (by omega)
   have eE : cpC exaS g = 0 := by unfold cpC; rw [if_pos exaS_ch.1.mapB, if_pos hsB, if_pos exaS_ch.2]
   have eX2 : cpX exaS g = scS (sumG g) exaS := by unfold cpX; rw [if_pos eE, cm_ex]
   have v0 : iat (ssL g) 0 = sumG g % 10007 := by
    have : iat (ssL g) 0 = sumPw 1 g % 10007 := rfl
    rw [this, sumPw_one]
   have cSc := ScaleMap_k exaS (iat (ssL g) 0) exaS_ch.1 (by rw [v0]; exact isN_mod _)
   rw [show scS (iat (ssL g) 0) exaS = scS (sumG g) exaS from scS_mod (by rw [v0, Int.emod_emod_of_dvd _ (Int.dvd_refl _)]) _] at cSc
   have cA := cmS_ch hA g
   have x1 := cm_first hA g
   have r1 := cA.1.at 1
   have r2 := hA.1.at 1
   have r3 : 0 ≤ iat (ssL g) 0 ∧ iat (ssL g) 0 < 10007 := by rw [v0]; omega
   have x2 : iat (cmS a g) 1 = iat a 1 * iat (ssL g) 0 % 10007 := by
    rw [Int.emod_eq_of_lt r1.1 r1.2] at x1
    rw [x1, v0]
    exact mod_mul' rfl (Int.emod_emod_of_dvd _ (Int.dvd_refl _)).symm
   have pP : 0 ≤ iat a 1 * iat (ssL g) 0 ∧ iat a 1 * iat (ssL g) 0 ≤ 10006 * 10006 := ⟨Int.mul_nonneg r2.1 r3.1, Int.mul_le_mul (by omega) (by omega) r3.1 (by omega)⟩
   have cMd := mod9_c (iat a 1 * iat (ssL g) 0) (by omega) (by omega)
   rw [← x2] at cMd
   have cJ := ConjugateMap_k a Y hA hY
   have cP := PowerOfMap_k (cjS a Y) k (cjS_ch a Y) (by omega)
   have cP2 := PowerOfMap_k a k hA (by omega)
   have hP := pwrS_ch hA k
   have cJ2 := ConjugateMap_k (pwrS a k) Y hP hY
   rw [pw_cj hA hY k] at cP
   have cC1 := CommuteTo_k a (pwrS a k) hA hP
   rw [pw_comm hA k, agS_self] at cC1
   have cC2 := CommuteTo_k a Y hA hY
   have cV1 := conv9_k a Y hA hY.1
   have cV2 := conv9_k Y a hY hA.1
   have cAg := AgreeTo_k (cvS a Y) (cvS Y a) (cvS_N _ _) (cvS_N _ _)
   have cW := whole9_c (cmS a g) (by rw [cA.1.1]; omega)
   have lX := cA.1.1
   have lA := hA.1.1
   have lS := ssL_len g
   have lY := hY.1.1
   have lP := hP.1.1
   have lC := (cjS_ch a Y).1.1
   have lV := (cvS_N a Y).1
   have lW := (cvS_N Y a).1
   have lE := exaS_ch.1.1
   have lZ := (scS_N (sumG g) exaS).1
   have lQ := (cjS_ch (pwrS a k) Y).1.1
   have cl1 := likeInts_c (scS (sumG g) exaS) (scS (sumG g) exaS) (by rw [lZ]; omega)
   have cl2 := likeInts_c (cjS (pwrS a k) Y) (cjS (pwrS a k) Y) (by rw [lQ]; omega)
   have o1 := congrArg (List.drop 0) (avs_dropI (a := cmS a g) (v := 1) (by omega))
   have o2 := congrArg (List.drop 0) (avs_dropI (a := a) (v := 1) (by omega))
   have o3 := congrArg (List.drop 0) (avs_dropI (a := ssL g) (v := 0) (by omega))
   simp only [List.drop_zero, List.drop_one] at o1 o2 o3
   simp only [decide_true] at cl1 cl2
   rw [lX] at cW
   simp only [decide_true] at cW
   rw [eX, hE, lX] at c1 c2
   rw [eE, eX2, lZ] at c3
   rw [lA] at c1 c2 cJ cP2 cC1 cC2 cV1 cV2
   rw [lY] at cJ cJ2 cC2 cV1 cV2
   rw [lP] at cJ2 cC1
   rw [lC] at cP
   rw [lV, lW] at cAg
   rw [lE] at c3 cSc
   rw [lZ] at cl1
   rw [lQ] at cl2
   clear cD x1 x2 v0 eX2 eE hP cA eX hsB hE sT hY s0
   have nX : ¬ cmS a g = [] := by intro e; rw [e] at lX; simp at lX
   have nA : ¬ a = [] := by intro e; rw [e] at lA; simp at lA
   have nS : ¬ ssL g = [] := by intro e; rw [e] at lS; simp at lS
   generalize cmS a g = X at *
   generalize scS (sumG g) exaS = Z at *
   generalize cjS (pwrS a k) Y = Q at *
   generalize cjS a Y = C at *
   generalize pwrS a k = P at *
   generalize cvS a Y = V at *
   generalize cvS Y a = W at *
   generalize exaS = E at *
   generalize ssL g = S at *
   generalize agS V W = e0 at *
   generalize iat S 0 = w0 at *
   generalize iat a 1 = w1 at *
   generalize iat X 1 = w2 at *
   unfold dicA at *
   rw [lA]
   simp [go_sem]
   refine CallVC.of (c1) (by decide) ?_
   simp [go_sem]
   refine CallVC.of (c2) (by decide) ?_
   simp [go_sem]
   refine CallVC.of (cX) (by decide) ?_
   simp [go_sem]
   refine CallVC.of (cSS) (by decide) ?_
   simp [go_sem]
   refine CallVC.of (c3) (by decide) ?_
   simp [go_sem]
   refine ⟨by kernel_rfl, ?_⟩
   refine CallD.of (cW) (by simp [roots, rootsL]) (by decide) ?_
   simp [go_sem]
   simp -implicitDefEqProofs [go_sem, o1, o2, o3, nX, nA, nS]
   refine ⟨⟨by omega, by omega⟩, ?_⟩
   refine CallD.of (cMd) (by simp [roots, rootsL]) (by decide) ?_
   simp [go_sem]
   refine ⟨by kernel_rfl, ?_⟩
   simp [go_sem]
   refine CallVC.of (cSc) (by decide) ?_
   simp [go_sem]
   refine ⟨_, _, cR, ?_⟩
   simp [go_sem]
   refine ⟨_, _, cM9, ?_⟩
   simp [go_sem]
   refine ⟨_, _, cK, ?_⟩
   simp [go_sem]
   refine CallVC.of (cJ) (by decide) ?_
   simp [go_sem]
   refine CallVC.of (cP) (by decide) ?_
   simp [go_sem]
   refine CallVC.of (cP2) (by decide) ?_
   simp [go_sem]
   refine CallVC.of (cJ2) (by decide) ?_
   simp [go_sem]
   refine CallVC.of (cC1) (by decide) ?_
   simp [go_sem]
   refine CallVC.of (cC2) (by decide) ?_
   simp [go_sem]
   refine CallVC.of (cV1) (by decide) ?_
   simp [go_sem]
   refine CallVC.of (cV2) (by decide) ?_
   simp [go_sem]
   refine CallVC.of (cAg) (by decide) ?_
   simp [go_sem]
   refine CallVC.of (cl1) (by decide) ?_
   simp [go_sem]
   refine CallVC.of (cl2) (by decide) ?_
   simp [go_sem]
  ·have eX : cpX a g = [] := by unfold cpX; rw [if_neg hE]
   rw [eX] at c1 c2
   generalize cpC a g = e at *
   simp [go_sem]
   refine CallVC.of (c1) (by decide) ?_
   simp [go_sem]
   refine CallVC.of (c2) (by decide) ?_
   simp [go_sem]
   simp [go_sem, hE]
end Go.Proofs.YtphccfabekdmnaaGreat

