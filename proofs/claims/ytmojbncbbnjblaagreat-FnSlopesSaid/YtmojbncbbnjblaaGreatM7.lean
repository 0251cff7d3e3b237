/- Texts of the own layer and contracts, part 7: W7 W9 W10 W19 W8 O W2 Q15 Q16 Q17 Q18 Q19 Q20 Q21 Q22 Q23 Q24 Q25 Q26 Q30 Q31 Q32 Q33 C14 Q40 Q27 Q28 E10 L32. -/
import Derived.Test.YtmojbncbbnjblaaGreatRows
import Derived.WalkKit
import Derived.ProofKit
import Derived.OpenShut
import Derived.Test.YtmojbncbbnjblaaGreatM6
namespace Go.Proofs.YtmojbncbbnjblaaGreat
open Go.Abs
set_option linter.unusedVariables false
set_option linter.unusedSimpArgs false
set_option maxHeartbeats 1000000
theorem prt_at {f : List (List Mon)} {k : Nat} (h : k < f.length) : (prt f)[k]? = some (.sl (f[k]?.getD []).length (mons (f[k]?.getD []))) := by simp [prt, h]
theorem mons_take2 : ∀ p : List Mon, mons (p.take 2) = (mons p).take 4
  | [] => rfl
  | [a] => by rw [mons_cons]; rfl
  | a :: b :: p => by simp [mons_cons]
@[simp] theorem prt_frz (f : List (List Mon)) : frzL (prt f) = prt f := by
  induction f with
  | nil => rfl
  | cons p f ih => simp only [prt, List.map_cons] at ih ⊢; simp [frzL, frz, ih]
theorem prt_set (f : List (List Mon)) (k : Nat) (p : List Mon) : (prt f).set k (.sl p.length (mons p)) = prt (f.set k p) := by simp [prt, List.map_set]
set_option maxRecDepth 100000 in
theorem l14Small_r (c : List Int) (σ : Src) (hc : Byt c) (hs : SOk σ) :
    RCon Tryz.prog 77 [srcA c σ] (fun r o => ∃ (τ : Src) (z : Int) (f : List (List Mon)), SOk τ ∧ o = [srcA c τ] ∧ DrS z f ∧ r = .agg [.int z, .own 88 f.length (prt f)]) := by
  have c1 := l13Spoil_i c σ hc hs
  simp only [srcA_eq] at *
  refine rcon_of_vcH Tryz.mixed ⟨6, [], [2000000 + 92], []⟩ [0] Tryz.func77 (by decide) rfl (by simp) (by simp) (by decide) ?_
  rw [Tryz.ntmps77]
  simp [go_sem]
  refine ⟨_, c1, ?_⟩
  rintro _ _ ⟨τ, z, f, h1, rfl, hD, rfl⟩
  simp [go_sem]
  refine loop_inv (0 :: 3 :: 4 :: List.range' 8 17) (fun x : Src × (Int × List (List Mon)) × Nat => [(0, .box 120 [.sl c.length (bys c), .int x.1.1, .val (.int .u64 x.1.2)]), (3, .box 30 [.int x.2.1.1, .own 88 x.2.1.2.length (prt x.2.1.2)]), (4, .int x.2.2)]) (fun x => SOk x.1 ∧ DrS x.2.1.1 x.2.1.2 ∧ x.2.2 ≤ 6) (fun x => 6 - x.2.2) (τ, (z, f), 0) ⟨h1, hD, by simp⟩ (by simp [go_sem]) (by simp [go_sem]) ?_
  rintro ⟨ρ, ⟨y, g⟩, n⟩ ⟨q1, q2, q3⟩
  simp only at q1 q2 q3
  have cS := l13Spoil_i c ρ hc q1
  have cI := l13Is_c y g ⟨by have := q2.2.2.1; omega, fun p hp => ⟨by have := (q2.2.2.2 p hp).1; omega, fun q hq => by have := (q2.2.2.2 p hp).2 q hq; omega⟩⟩
  simp only [srcA_eq] at cS
  by_cases hn : (n : Int) < 6
  · by_cases hy : 2 < y
    · simp [go_sem, hn, hy]
      refine ⟨_, cS, ?_⟩
      rintro _ _ ⟨κ, z2, f2, j1, rfl, j2, rfl⟩
      simp [go_sem]
      exact ⟨⟨by omega, by omega⟩, κ.1, κ.2, z2, f2, n + 1, ⟨j1, j2, by omega⟩, by omega, (by repeat (first | exact Off_reset _ _ _ (by simp) | (refine Off.reset (by intro x hx; simp at hx ⊢; omega) (by simp) ?_; simp -failIfUnchanged [go_sem, Off_reset]))), ⟨rfl, rfl⟩, ⟨rfl, rfl, rfl⟩, by omega⟩
    · by_cases hg : 2 < (g.length : Int)
      · simp [go_sem, hn, hy, hg]
        refine ⟨_, cS, ?_⟩
        rintro _ _ ⟨κ, z2, f2, j1, rfl, j2, rfl⟩
        simp [go_sem]
        exact ⟨⟨by omega, by omega⟩, κ.1, κ.2, z2, f2, n + 1, ⟨j1, j2, by omega⟩, by omega, (by repeat (first | exact Off_reset _ _ _ (by simp) | (refine Off.reset (by intro x hx; simp at hx ⊢; omega) (by simp) ?_; simp -failIfUnchanged [go_sem, Off_reset]))), ⟨rfl, rfl⟩, ⟨rfl, rfl, rfl⟩, by omega⟩
      · simp [go_sem, hn, hy, hg]
        refine CallVC.of (cI) (by decide) ?_
        simp [go_sem]
        cases hT : fieldB y g with
        | false =>
          simp [go_sem]
          exact ⟨ρ.1, ρ.2, q1, ⟨rfl, rfl⟩, y, g, q2, rfl, rfl, rfl⟩
        | true =>
          simp [go_sem]
          refine loop_inv (3 :: 5 :: List.range' 27 24) (fun x : List (List Mon) × Nat => [(3, .box 30 [.int y, .own 88 x.1.length (prt x.1)]), (5, .int x.2)]) (fun x => DrS y x.1) (fun x => 4 - x.2) (g, 0) q2 (by simp [go_sem]) (by simp [go_sem]) ?_
          rintro ⟨e, i⟩ r1
          simp only at r1
          have r14 := r1.2.2.1
          simp [go_sem]
          refine ⟨fun h => ?_, fun h => ?_⟩ <;> simp at h
          · have hie : i < e.length := by omega
            have hp := r1.2.2.2 (e[i]?.getD []) (by simp [hie])
            have hA := prt_at hie
            have hS := prt_set e i ((e[i]?.getD []).take 2)
            obtain ⟨p, hpe⟩ : ∃ p, e[i]?.getD [] = p := ⟨_, rfl⟩
            rw [hpe] at hp hA hS
            simp [go_sem, hA]
            refine ⟨hie, ?_⟩
            by_cases hp2 : 2 < (p.length : Int)
            · simp [go_sem, hp2, hA]
              refine ⟨by kernel_rfl, hie, by omega, hie, ?_⟩
              refine ⟨by kernel_rfl, ?_⟩
              simp [go_sem]
              refine ⟨⟨by omega, by omega⟩, e.set i (p.take 2), ?_, i + 1, by omega, (by repeat (first | exact Off_reset _ _ _ (by simp) | (refine Off.reset (by intro x hx; simp at hx ⊢; omega) (by simp) ?_; simp -failIfUnchanged [go_sem, Off_reset]))), ?_⟩
              · refine ⟨r1.1, r1.2.1, by simpa using r14, fun t ht => ?_⟩
                rcases List.mem_or_eq_of_mem_set ht with ht | rfl
                · exact r1.2.2.2 t ht
                · exact ⟨by simp; omega, fun m hm => hp.2 m (List.mem_of_mem_take hm)⟩
              · have e2 : (p.take 2).length = 2 := by simp; omega
                have e4 : mons (p.take 2) = (mons p).take 4 := mons_take2 p
                rw [e2, e4] at hS
                simp [hS]
            · simp [go_sem, hp2]
              exact ⟨⟨by omega, by omega⟩, e, r1, i + 1, by omega, (by repeat (first | exact Off_reset _ _ _ (by simp) | (refine Off.reset (by intro x hx; simp at hx ⊢; omega) (by simp) ?_; simp -failIfUnchanged [go_sem, Off_reset]))), ⟨rfl, rfl⟩, by omega⟩
          · simp [go_sem]
            exact ⟨ρ.1, ρ.2, q1, ⟨rfl, rfl⟩, y, e, r1, rfl, rfl, rfl⟩
  · simp [go_sem, hn]
    refine CallVC.of (cI) (by decide) ?_
    simp [go_sem]
    cases hT : fieldB y g with
    | false =>
      simp [go_sem]
      exact ⟨ρ.1, ρ.2, q1, ⟨rfl, rfl⟩, y, g, q2, rfl, rfl, rfl⟩
    | true =>
      simp [go_sem]
      refine loop_inv (3 :: 5 :: List.range' 27 24) (fun x : List (List Mon) × Nat => [(3, .box 30 [.int y, .own 88 x.1.length (prt x.1)]), (5, .int x.2)]) (fun x => DrS y x.1) (fun x => 4 - x.2) (g, 0) q2 (by simp [go_sem]) (by simp [go_sem]) ?_
      rintro ⟨e, i⟩ r1
      simp only at r1
      have r14 := r1.2.2.1
      simp [go_sem]
      refine ⟨fun h => ?_, fun h => ?_⟩ <;> simp at h
      · have hie : i < e.length := by omega
        have hp := r1.2.2.2 (e[i]?.getD []) (by simp [hie])
        have hA := prt_at hie
        have hS := prt_set e i ((e[i]?.getD []).take 2)
        obtain ⟨p, hpe⟩ : ∃ p, e[i]?.getD [] = p := ⟨_, rfl⟩
        rw [hpe] at hp hA hS
        simp [go_sem, hA]
        refine ⟨hie, ?_⟩
        by_cases hp2 : 2 < (p.length : Int)
        · simp [go_sem, hp2, hA]
          refine ⟨by kernel_rfl, hie, by omega, hie, ?_⟩
          refine ⟨by kernel_rfl, ?_⟩
          simp [go_sem]
          refine ⟨⟨by omega, by omega⟩, e.set i (p.take 2), ?_, i + 1, by omega, (by repeat (first | exact Off_reset _ _ _ (by simp) | (refine Off.reset (by intro x hx; simp at hx ⊢; omega) (by simp) ?_; simp -failIfUnchanged [go_sem, Off_reset]))), ?_⟩
          · refine ⟨r1.1, r1.2.1, by simpa using r14, fun t ht => ?_⟩
            rcases List.mem_or_eq_of_mem_set ht with ht | rfl
            · exact r1.2.2.2 t ht
            · exact ⟨by simp; omega, fun m hm => hp.2 m (List.mem_of_mem_take hm)⟩
          · have e2 : (p.take 2).length = 2 := by simp; omega
            have e4 : mons (p.take 2) = (mons p).take 4 := mons_take2 p
            rw [e2, e4] at hS
            simp [hS]
        · simp [go_sem, hp2]
          exact ⟨⟨by omega, by omega⟩, e, r1, i + 1, by omega, (by repeat (first | exact Off_reset _ _ _ (by simp) | (refine Off.reset (by intro x hx; simp at hx ⊢; omega) (by simp) ?_; simp -failIfUnchanged [go_sem, Off_reset]))), ⟨rfl, rfl⟩, by omega⟩
      · simp [go_sem]
        exact ⟨ρ.1, ρ.2, q1, ⟨rfl, rfl⟩, y, e, r1, rfl, rfl, rfl⟩
end Go.Proofs.YtmojbncbbnjblaaGreat


namespace Go.Proofs.YtmojbncbbnjblaaGreat
open Go.Abs
set_option linter.unusedVariables false
set_option linter.unusedSimpArgs false
set_option maxHeartbeats 1000000
def ptN (z : Int) : Nat := if 1 ≤ z ∧ z ≤ 3 then z.toNat else 2
theorem ptN_b (z : Int) : 1 ≤ ptN z ∧ ptN z ≤ 3 := by unfold ptN; split <;> omega
def ptV (c : List Int) (σ : Src) (z : Int) : List Int × Src :=
  if nx1 c (lsV (nbV c) (ptN z) σ).2 40 = 0 then ((lsV (nbV c) (ptN z) σ).1 ++ [0], nx2 c (lsV (nbV c) (ptN z) σ).2 40)
  else if nx1 c (lsV (nbV c) (ptN z) σ).2 40 = 1 then ((lsV (nbV c) (ptN z) σ).1.set 0 (pk c (nx2 c (lsV (nbV c) (ptN z) σ).2 40) [-1, 10007]), nx2 c (nx2 c (lsV (nbV c) (ptN z) σ).2 40) 2)
  else ((lsV (nbV c) (ptN z) σ).1, nx2 c (lsV (nbV c) (ptN z) σ).2 40)
set_option maxRecDepth 100000 in
theorem l13DrawPoint_g (c : List Int) (σ : Src) (z : Int) (f : List (List Mon)) (hc : Byt c) (hs : SOk σ) :
    GCon Tryz.prog 78 [srcA c σ, .agg [.int z, .sl f.length (prt f)]] (.own 2 (ptV c σ z).1.length (avs (ptV c σ z).1)) [srcA c (ptV c σ z).2, .agg [.int z, .sl f.length (prt f)]] := by
  have hb := ptN_b z
  have hnz : (if 1 ≤ z ∧ z ≤ 3 then z else 2) = (ptN z : Int) := by unfold ptN; split <;> omega
  unfold ptV
  generalize ptN z = n at *
  have cL := l01List_c c σ n hc hs (by omega)
  have hL := lsV_ok (f := nbV c) (fun σ h => nbV_ok hc h) n σ hs
  generalize lsV (nbV c) n σ = r at *
  obtain ⟨y, σ1⟩ := r
  obtain ⟨hy, hN, s1⟩ := hL
  simp only at hy hN s1 cL ⊢
  subst hy
  have c4 := l01Next_c c σ1 40 hc s1
  have s4 := nx2_ok hc s1 40
  generalize nx1 c σ1 40 = v at *
  generalize nx2 c σ1 40 = τ1 at *
  have cP := l01Pick_c c τ1 [-1, 10007] hc s4 (by simp) (by simp)
  have e2 : (([-1, 10007] : List Int).length : Int) = 2 := rfl
  rw [e2] at cP
  generalize pk c τ1 [-1, 10007] = x at *
  generalize nx2 c τ1 2 = τ2 at *
  simp only [srcA_eq] at *
  have a0 := avs_set y 0 x
  by_cases v0 : v = 0
  · simp only [v0, if_true]
    by_cases hz : 1 ≤ z ∧ z ≤ 3
    · rw [if_pos hz] at hnz
      subst hnz
      refine gcon_of_vc Tryz.mixed ⟨7, [], [1000000 + 98, 1000000 + 50, 1000000 + 116], []⟩ [4] [0, 1] Tryz.func78 (by decide) rfl rfl (by simp) (by simp) (by decide) ?_
      rw [Tryz.ntmps78]
      simp [go_sem]
      refine CallVC.of (l01In_c _ 1 3) (by decide) ?_
      simp [go_sem]
      simp [go_sem, hz.1, hz.2]
      refine ⟨_, _, cL, ?_⟩
      simp [go_sem]
      refine ⟨_, _, c4, ?_⟩
      simp [go_sem]
      simp [go_sem, v0]
      exact ⟨⟨by omega, by omega⟩, by simp [avs], rfl, rfl⟩
    · rw [if_neg hz] at hnz
      have hz' : (decide (1 ≤ z) && decide (z ≤ 3)) = false := by simp; omega
      refine gcon_of_vc Tryz.mixed ⟨7, [], [1000000 + 98, 1000000 + 50, 1000000 + 116], []⟩ [4] [0, 1] Tryz.func78 (by decide) rfl rfl (by simp) (by simp) (by decide) ?_
      rw [Tryz.ntmps78]
      simp [go_sem]
      refine CallVC.of (l01In_c z 1 3) (by decide) ?_
      rw [hz']
      simp [go_sem]
      rw [hnz]
      refine ⟨_, _, cL, ?_⟩
      simp [go_sem]
      refine ⟨_, _, c4, ?_⟩
      simp [go_sem]
      simp [go_sem, v0]
      exact ⟨⟨by omega, by omega⟩, by simp [avs], rfl, rfl⟩
  · by_cases v1 : v = 1
    · simp only [v0, v1, if_true, if_false]
      have v0' : ¬ v = 0 := v0
      by_cases hz : 1 ≤ z ∧ z ≤ 3
      · rw [if_pos hz] at hnz
        subst hnz
        refine gcon_of_vc Tryz.mixed ⟨7, [], [1000000 + 98, 1000000 + 50, 1000000 + 116], []⟩ [4] [0, 1] Tryz.func78 (by decide) rfl rfl (by simp) (by simp) (by decide) ?_
        rw [Tryz.ntmps78]
        simp [go_sem]
        refine CallVC.of (l01In_c _ 1 3) (by decide) ?_
        simp [go_sem]
        simp [go_sem, hz.1, hz.2]
        refine ⟨_, _, cL, ?_⟩
        simp [go_sem]
        refine ⟨_, _, c4, ?_⟩
        simp [go_sem]
        simp [go_sem, v0, v1]
        refine ⟨_, _, cP, ?_⟩
        simp [go_sem]
        exact ⟨by omega, a0, rfl, rfl⟩
      · rw [if_neg hz] at hnz
        have hz' : (decide (1 ≤ z) && decide (z ≤ 3)) = false := by simp; omega
        refine gcon_of_vc Tryz.mixed ⟨7, [], [1000000 + 98, 1000000 + 50, 1000000 + 116], []⟩ [4] [0, 1] Tryz.func78 (by decide) rfl rfl (by simp) (by simp) (by decide) ?_
        rw [Tryz.ntmps78]
        simp [go_sem]
        refine CallVC.of (l01In_c z 1 3) (by decide) ?_
        rw [hz']
        simp [go_sem]
        rw [hnz]
        refine ⟨_, _, cL, ?_⟩
        simp [go_sem]
        refine ⟨_, _, c4, ?_⟩
        simp [go_sem]
        simp [go_sem, v0, v1]
        refine ⟨_, _, cP, ?_⟩
        simp [go_sem]
        exact ⟨by omega, a0, rfl, rfl⟩
    · simp only [v0, v1, if_false]
      by_cases hz : 1 ≤ z ∧ z ≤ 3
      · rw [if_pos hz] at hnz
        subst hnz
        refine gcon_of_vc Tryz.mixed ⟨7, [], [1000000 + 98, 1000000 + 50, 1000000 + 116], []⟩ [4] [0, 1] Tryz.func78 (by decide) rfl rfl (by simp) (by simp) (by decide) ?_
        rw [Tryz.ntmps78]
        simp [go_sem]
        refine CallVC.of (l01In_c _ 1 3) (by decide) ?_
        simp [go_sem]
        simp [go_sem, hz.1, hz.2]
        refine ⟨_, _, cL, ?_⟩
        simp [go_sem]
        refine ⟨_, _, c4, ?_⟩
        simp [go_sem]
        simp [go_sem, v0, v1]
        exact ⟨rfl, rfl⟩
      · rw [if_neg hz] at hnz
        have hz' : (decide (1 ≤ z) && decide (z ≤ 3)) = false := by simp; omega
        refine gcon_of_vc Tryz.mixed ⟨7, [], [1000000 + 98, 1000000 + 50, 1000000 + 116], []⟩ [4] [0, 1] Tryz.func78 (by decide) rfl rfl (by simp) (by simp) (by decide) ?_
        rw [Tryz.ntmps78]
        simp [go_sem]
        refine CallVC.of (l01In_c z 1 3) (by decide) ?_
        rw [hz']
        simp [go_sem]
        rw [hnz]
        refine ⟨_, _, cL, ?_⟩
        simp [go_sem]
        refine ⟨_, _, c4, ?_⟩
        simp [go_sem]
        simp [go_sem, v0, v1]
        exact ⟨rfl, rfl⟩
end Go.Proofs.YtmojbncbbnjblaaGreat


namespace Go.Proofs.YtmojbncbbnjblaaGreat
open Go.Abs
set_option linter.unusedVariables false
set_option linter.unusedSimpArgs false
set_option maxHeartbeats 1000000
theorem ptV_len {c : List Int} (hc : Byt c) {σ : Src} (hs : SOk σ) (z : Int) : (ptV c σ z).1.length ≤ 4 := by
  have hL := (lsV_ok (f := nbV c) (fun σ h => nbV_ok hc h) (ptN z) σ hs).1
  have hb := ptN_b z
  unfold ptV
  split
  · simp; omega
  · split
    · simp; omega
    · simp only; omega
theorem l14Small_f (c : List Int) (σ : Src) (hc : Byt c) (hs : SOk σ) :
    RCon Tryz.prog 77 [srcA c σ] (fun r o => ∃ (τ : Src) (z : Int) (f : List (List Mon)), SOk τ ∧ o = [srcA c τ] ∧ DrS z f ∧ r = .agg [.int z, .sl f.length (prt f)]) := by
  refine (RCon.fz (l14Small_r c σ hc hs)).mono ?_
  rintro r o ⟨_, ⟨τ, z, f, h1, h2, h3, rfl⟩, rfl⟩
  refine ⟨τ, z, f, h1, h2, h3, ?_⟩
  simp [frz, frzL]
end Go.Proofs.YtmojbncbbnjblaaGreat


namespace Go.Proofs.YtmojbncbbnjblaaGreat
open Go.Abs
set_option linter.unusedVariables false
set_option linter.unusedSimpArgs false
set_option maxHeartbeats 4000000
theorem ptV_ok {c : List Int} (hc : Byt c) {σ : Src} (hs : SOk σ) (z : Int) : SOk (ptV c σ z).2 := by
  have hL := (lsV_ok (f := nbV c) (fun σ h => nbV_ok hc h) (ptN z) σ hs).2.2
  have s1 := nx2_ok hc hL 40
  unfold ptV
  split
  · exact s1
  · split
    · exact nx2_ok hc s1 2
    · exact s1
set_option maxRecDepth 100000 in
theorem l15Draw_r (c : List Int) (m : Int) (hc : Byt c) (hm : 1 ≤ m) (hm8 : m ≤ 8) :
    RCon Tryz.prog 34 [.sl c.length (bys c), .int m] (fun r o => o = [.any, .any] ∧ ∃ (τ : Src) (A : List (List Int)) (B : List Int) (z : Int) (f : List (List Mon)) (y : List Int), SOk τ ∧ Sz A B ∧ DrS z f ∧ y.length ≤ 4 ∧
      r = .tup [srcA c τ, .agg [.sl A.length (mat A), .sl B.length (avs B)], .agg [.int z, .sl f.length (prt f)], .own 2 y.length (avs y)]) := by
  have c0 := l01From_r c hc
  refine rcon_of_vcH Tryz.mixed ⟨11, [], [1000000 + 78, 2000000 + 48, 2000000 + 77, 2000000 + 65], [2000400990510]⟩ [] Tryz.func34 (by decide) rfl (by simp) (by simp) (by decide) ?_
  rw [Tryz.ntmps34]
  simp [go_sem]
  refine ⟨_, c0, ?_⟩
  rintro _ _ ⟨rfl, h, rfl⟩
  have c1 := l09Spoil_f c (0, h) m hc (by unfold SOk; simp) hm hm8
  simp only [srcA_eq] at *
  simp [go_sem]
  refine ⟨_, c1, ?_⟩
  rintro _ _ ⟨τ1, A, B, h1, rfl, hz, rfl⟩
  have c2 := l14Small_f c τ1 hc h1
  simp only [srcA_eq] at *
  simp [go_sem]
  refine ⟨_, c2, ?_⟩
  rintro _ _ ⟨τ, z, f, h2, rfl, hD, rfl⟩
  have c3 := l13DrawPoint_g c τ z f hc h2
  have hl := ptV_len hc h2 z
  have ok := ptV_ok hc h2 z
  generalize ptV c τ z = r at *
  simp only [srcA_eq] at *
  simp [go_sem]
  have fin : ∃ a b, SOk (a, b) ∧ ∃ x x_1, Sz x x_1 ∧ ∃ x_2 x_3, DrS x_2 x_3 ∧ ∃ x_4 : List Int, x_4.length ≤ 4 ∧ ((r.2.1 : Int) = a ∧ r.2.2 = b) ∧ ((A.length = x.length ∧ mat A = mat x) ∧ B.length = x_1.length ∧ B = x_1) ∧ (z = x_2 ∧ f.length = x_3.length ∧ prt f = prt x_3) ∧ r.1.length = x_4.length ∧ r.1 = x_4 :=
    ⟨r.2.1, r.2.2, ok, A, B, hz, z, f, hD, r.1, hl, ⟨rfl, rfl⟩, ⟨⟨rfl, rfl⟩, rfl, rfl⟩, ⟨rfl, rfl, rfl⟩, rfl, rfl⟩
  rw [DrawVC5_app]
  refine ⟨fun i => if i = 5 then [.n 8 .any, .n 8 (.box 120 [.sl c.length (bys c), .int r.2.1, .val (.int .u64 r.2.2)]), .w 23 (.own 2 r.1.length (avs r.1))] else [], by kernel_rfl, ?_, ?_⟩
  · simp [go_sem]
    refine ⟨_, _, c3, ?_⟩
    simp [go_sem]
    refine ⟨by kernel_rfl, ?_⟩
    exact fin
  · simp [go_sem]
    refine ⟨_, _, c3, ?_⟩
    simp [go_sem]
    refine ⟨by kernel_rfl, ?_⟩
    exact fin
set_option maxRecDepth 100000 in
theorem DrawStageSeries_r (c : List Int) (hc : Byt c) :
    RCon Tryz.prog 7 [.sl c.length (bys c)] (fun r o => o = [.any] ∧ ∃ (A : List (List Int)) (B : List Int) (z : Int) (f : List (List Mon)) (y : List Int), Sz A B ∧ DrS z f ∧ y.length ≤ 4 ∧
      r = .tup [.agg [.sl A.length (mat A), .sl B.length (avs B)], .agg [.int z, .sl f.length (prt f)], .own 2 y.length (avs y)]) := by
  have c0 := l15Draw_r c 3 hc (by omega) (by omega)
  simp only [srcA_eq] at *
  refine rcon_of_vcH Tryz.mixed ⟨9, [], [2000000 + 34], []⟩ [] Tryz.func7 (by decide) rfl (by simp) (by simp) (by decide) ?_
  rw [Tryz.ntmps7]
  simp [go_sem]
  refine ⟨_, c0, ?_⟩
  rintro _ _ ⟨rfl, τ, A, B, z, f, y, h1, h2, h3, h4, rfl⟩
  simp [go_sem]
  refine ⟨by kernel_rfl, ?_⟩
  refine ⟨by kernel_rfl, ?_⟩
  simp [go_sem]
  exact ⟨A, B, h2, z, f, h3, y, h4, ⟨⟨rfl, rfl⟩, rfl, rfl⟩, ⟨rfl, rfl, rfl⟩, rfl, rfl⟩
end Go.Proofs.YtmojbncbbnjblaaGreat


namespace Go.Proofs.YtmojbncbbnjblaaGreat
open Go.Abs
set_option linter.unusedVariables false
set_option linter.unusedSimpArgs false
set_option maxHeartbeats 1000000
set_option maxRecDepth 100000 in
theorem likeRows5_c (a b : List (List Int)) (ha : a.length ≤ 1048576) (hr : ∀ r ∈ a, r.length ≤ 1048576) : Con Tryz.prog 10 [.sl a.length (mat a), .sl b.length (mat b)] (.bool (decide (a = b))) := by
  by_cases hl : a.length = b.length
  · have hl2 : (a.length : Int) = b.length := by omega
    refine con_of_vc Tryz.mixed ⟨5, [], [], []⟩ Tryz.func10 (by decide) rfl (by simp) (by decide) (by simp [freshOK, freshL, go_sem]) ?_
    rw [Tryz.ntmps10]
    simp [go_sem]
    simp [go_sem, hl]
    refine loop_inv (4 :: 5 :: List.range' 11 16) (fun i : Nat => [(5, .int i)]) (fun i => i ≤ b.length ∧ ∀ j, j < i → a[j]?.getD [] = b[j]?.getD []) (fun i => b.length - i) 0 (by simp) (by simp [go_sem]) (by simp [go_sem]) ?_
    rintro i ⟨hi, hj⟩
    simp [go_sem]
    refine ⟨fun h => ?_, fun h => ?_⟩ <;> simp at h
    · have hib : i < b.length := by omega
      have hia : i < a.length := by omega
      have na : ¬ a = [] := by rintro rfl; simp at hia
      have nb : ¬ b = [] := by rintro rfl; simp at hib
      have hA := mat_drop hia
      have hB := mat_drop hib
      have hra := hr (a[i]?.getD []) (by simp [hia])
      have cL := likeInts_c (a[i]?.getD []) (b[i]?.getD []) (by omega)
      obtain ⟨x, hx⟩ : ∃ x, a[i]?.getD [] = x := ⟨_, rfl⟩
      obtain ⟨y, hy⟩ : ∃ y, b[i]?.getD [] = y := ⟨_, rfl⟩
      rw [hx] at hA cL hra
      rw [hy] at hB cL
      simp [go_sem, hA, hB]
      refine ⟨by kernel_rfl, ⟨hib, na⟩, ⟨hib, nb⟩, ?_⟩
      refine CallD.of (cL) (by simp [roots, rootsL]) (by decide) ?_
      simp [go_sem]
      refine ⟨by kernel_rfl, ?_⟩
      simp [go_sem]
      by_cases hxy : x = y
      · simp [go_sem, hxy]
        refine ⟨⟨by omega, by omega⟩, i + 1, ⟨by omega, fun j hj2 => ?_⟩, by omega, Off_reset _ _ _ (by simp), by omega⟩
        rcases Nat.lt_or_ge j i with h3 | h3
        · exact hj j h3
        · have : j = i := by omega
          subst this
          rw [hx, hy, hxy]
      · have e : ¬ a = b := fun e => hxy (by rw [← hx, ← hy, e])
        simp [go_sem, hxy, e]
    · have e : a = b := by
        refine List.ext_getElem hl fun k h1 h2 => ?_
        have := hj k (by omega)
        simpa [h1, h2] using this
      simp [go_sem, e]
  · have e : ¬ a = b := fun e => hl (by rw [e])
    have hl2 : ¬ (a.length : Int) = b.length := by omega
    refine con_of_vc Tryz.mixed ⟨5, [], [], []⟩ Tryz.func10 (by decide) rfl (by simp) (by decide) (by simp [freshOK, freshL, go_sem]) ?_
    rw [Tryz.ntmps10]
    simp [go_sem]
    simp [go_sem, hl2, e]
end Go.Proofs.YtmojbncbbnjblaaGreat


namespace Go.Proofs.YtmojbncbbnjblaaGreat
open Go.ChangeShapes Go.WideShapes Go.ChangeAt Go.RowKit Go.Abs Go.Deep
set_option linter.unusedVariables false
section
variable {H : Type} {enc : TypeId × Value → H} {w : World} {sp : Nat → Bool} {held : Bool} {base : Nat}
theorem kids : Kids Tryz.prog (· < Tryz.prog.types.size) := kids_rows (by kernel_rfl) (by kernel_rfl)
theorem full : ∀ t e, t < Tryz.prog.types.size → Tryz.prog.underlying t = some (.slice e) → 0 < Tryz.prog.cellsOf e := slices_full_of Tryz.prog (by kernel_rfl)
theorem flat1 {α β : Type} (g : α → β) : ∀ qs : List α, qs.flatMap (fun a => [g a]) = qs.map g
  | [] => rfl
  | a :: qs => by rw [List.flatMap_cons, flat1 g qs]; rfl
theorem rep_one {F : Nat → Prop} {tm : Nat → Value} {oss : Nat → List Nat} {c : AV} {v : Value} (h : RepL Tryz.prog w F [c] [v] []) : RepT Tryz.prog w F tm oss c v [] := .cell _ _ _ (RepL.one h)
set_option maxRecDepth 100000 in
theorem repV {F : Nat → Prop} {tm : Nat → Value} {oss : Nat → List Nat} {t e : TypeId} {v : Value} {c : AV} {r : Reach} {b0 : Nat} (ht : Tryz.prog.underlying t = some (.slice e)) (hv : Value.okWide Tryz.prog w r b0 t v) (h : RepL Tryz.prog w F [c] v.cells.toList []) :
    RepT Tryz.prog w F tm oss c v [] := by
  have hc : v.cells.toList = [v] := by
    simp only [Value.okWide, ht] at hv
    cases v <;> simp_all [Value.cells, Cell.okWide, Cell.ok]
  rw [hc] at h
  exact rep_one h
end
end Go.Proofs.YtmojbncbbnjblaaGreat


namespace Go.Proofs.YtmojbncbbnjblaaGreat
open Go.Abs
set_option linter.unusedVariables false
set_option linter.unusedSimpArgs false
set_option maxHeartbeats 1000000
open Go.ChangeShapes Go.WideShapes Go.ChangeAt Go.RowKit Go.Deep
theorem big_c (c : List Int) (hl : c.length ≤ 9223372036854775807) : Con Tryz.prog 6 [.sl c.length (bys c)] (.bool (decide (4096 < c.length))) := by
  refine con_of_vc Tryz.mixed ⟨3, [], [], []⟩ Tryz.func6 (by decide) rfl (by simp) (by decide) (by simp [freshOK, freshL, go_sem]) ?_
  rw [Tryz.ntmps6]
  simp [go_sem]
  omega
section
variable {H : Type} {enc : TypeId × Value → H} {w : World} {sp : Nat → Bool} {held : Bool} {base : Nat}
theorem open_bys {n : Nat} {cs : List Value} {x : DataW H × List MemPlace} (h : DataW.trod enc Tryz.prog w base sp held n 22 cs = some x) :
    ∃ xs : List Int, (∀ z ∈ xs, 0 ≤ z ∧ z ≤ 255) ∧ xs.length ≤ 9223372036854775807 ∧ RepL Tryz.prog w (fun b => b < w.heap.size) [.sl xs.length (bys xs)] cs [] ∧ cs.length = 1 := by
  obtain ⟨qs, h1, h2, h3, h4⟩ := open_sl (f := fun z : Int => [AV.val (.int .u8 z)]) (Good := fun z => (Lit.int .u8 z).wf = true) Tryz.underlying22 (s := 1) (by kernel_rfl) (by decide) (fun _ => rfl)
    (fun n cs y hy => by obtain ⟨z, k1, k2, _⟩ := open_i Tryz.underlying5 hy; exact ⟨z, k1, k2⟩) h
  refine ⟨qs, fun z hz => ?_, h2, by rw [flat1] at h3; exact h3, h4⟩
  have := h1 z hz
  simp [Lit.wf, IntKind.min, IntKind.max, IntKind.signed, IntKind.bits] at this
  omega
end
end Go.Proofs.YtmojbncbbnjblaaGreat


namespace Go.Proofs.YtmojbncbbnjblaaGreat
open Go.Abs
set_option linter.unusedVariables false
set_option linter.unusedSimpArgs false
set_option maxHeartbeats 1000000
def raiS (a : List Int) : List Int := tb (fun i => if i = 0 then 0 else a[i - 1]?.getD 0) a.length
@[simp] theorem raiS_len (a : List Int) : (raiS a).length = a.length := by simp [raiS]
theorem raiS_N {a : List Int} (h : Ns a) : Ns (raiS a) := tb_N fun i _ => by split; exact ⟨by omega, by omega⟩; exact h.get _
def rakS (a : List Int) (k : Int) : List Int := tb (fun i => if i = 0 then 0 else a[i - 1]?.getD 0 * k % 10007) a.length
@[simp] theorem rakS_len (a : List Int) (k : Int) : (rakS a k).length = a.length := by simp [rakS]
theorem rakS_N (a : List Int) (k : Int) : Ns (rakS a k) := tb_N fun i _ => by split; exact ⟨by omega, by omega⟩; exact isN_mod _
theorem raiS_eq {a : List Int} (h : 0 < a.length) : raiS a = 0 :: a.take (a.length - 1) := by
  refine List.ext_getElem (by simp; omega) fun i h1 h2 => ?_
  cases i with
  | zero => simp [raiS, tb]
  | succ j =>
    simp only [raiS, tb, List.getElem_map, List.getElem_range, List.getElem_cons_succ, List.getElem_take]
    simp at h2
    have : j < a.length := by omega
    simp [this]
theorem raised_c (a : List Int) (hl : a.length ≤ 1048576) (h0 : 0 < a.length) :
    Con Tryz.prog 136 [.sl a.length (avs a)] (.own 2 a.length (avs (raiS a))) := by
  rw [raiS_eq h0]
  refine con_of_vc Tryz.mixed ⟨3, [], [], []⟩ Tryz.func136 (by decide) rfl (by simp) (by decide) (by simp [freshOK, freshL, go_sem]) ?_
  rw [Tryz.ntmps136]
  simp [go_sem]
  exact ⟨⟨by omega, by omega⟩, ⟨by omega, by omega⟩, ⟨by omega, by omega⟩, by omega, by simp [avs, List.map_take]⟩
theorem l14Raise_c (a : List Int) (k : Int) (ha : Ns a) (hk : isN k) (hl : a.length ≤ 1048576) (h0 : 0 < a.length) :
    Con Tryz.prog 140 [.sl a.length (avs a), .int k] (.own 2 a.length (avs (rakS a k))) := by
  refine con_of_vc Tryz.mixed ⟨7, [], [], []⟩ Tryz.func140 (by decide) rfl (by simp) (by decide) (by simp [freshOK, freshL, go_sem]) ?_
  rw [Tryz.ntmps140]
  simp [go_sem]
  refine loop_inv (5 :: 6 :: List.range' 8 16) (fun i : Nat => [(5, .own 2 (i + 1) (avs (tb (fun i => if i = 0 then 0 else a[i - 1]?.getD 0 * k % 10007) (i + 1)))), (6, .int i)]) (fun i => i + 1 ≤ a.length) (fun i => a.length - i) 0 (by simp; omega) (by simp [go_sem, tb, avs]) (by simp [go_sem]) ?_
  intro i hi
  simp [go_sem]
  refine ⟨by omega, ?_⟩
  refine ⟨fun h => ?_, fun h => ?_⟩ <;> simp at h
  · have hi2 : i < a.length := by omega
    simp [go_sem, avs_drop hi2]
    refine ⟨⟨hi2, by rintro rfl; simp at hi2⟩, ?_⟩
    refine CallVC.of (l01Mul_c _ _ (mul_fits (ha.get i) hk)) (by decide) ?_
    simp [go_sem]
    refine ⟨⟨by omega, by omega⟩, by omega, i + 1, by omega, by omega, Off_reset _ _ _ (by simp), ?_, by omega⟩
    simp [tb_succ, avs]
  · have e : i + 1 = a.length := by omega
    simp [go_sem]
    exact ⟨e, by rw [e]; rfl⟩
def ocube (X : List (List (List Int))) : List AV := X.map fun m => .own 25 m.length (omat m)
def cube (X : List (List (List Int))) : List AV := X.map fun m => .sl m.length (mat m)
@[simp] theorem ocube_len (X : List (List (List Int))) : (ocube X).length = X.length := by simp [ocube]
@[simp] theorem cube_len (X : List (List (List Int))) : (cube X).length = X.length := by simp [cube]
@[simp] theorem cube_ne {X : List (List (List Int))} : (cube X = []) = (X = []) := by cases X <;> simp [cube]
@[simp] theorem ocube_frz : ∀ X : List (List (List Int)), frzL (ocube X) = cube X
  | [] => rfl
  | m :: X => by
    have := ocube_frz X
    simp only [ocube, cube, List.map_cons] at this ⊢
    rw [frzL, this]
    simp [frz]
@[simp] theorem ocube_fresh : ∀ X : List (List (List Int)), freshL (ocube X) = true
  | [] => rfl
  | m :: X => by
    have := ocube_fresh X
    simp only [ocube, List.map_cons] at this ⊢
    rw [freshL, this]
    simp [freshOK]
theorem cube_drop {X : List (List (List Int))} {k : Nat} (h : k < X.length) : (cube X).drop k = .sl (X[k]?.getD []).length (mat (X[k]?.getD [])) :: cube (X.drop (k + 1)) := by
  rw [cube, ← List.map_drop, List.drop_eq_getElem_cons h, List.map_cons]; simp [h, cube]
theorem ocube_app (A C : List (List (List Int))) : ocube (A ++ C) = ocube A ++ ocube C := by simp [ocube]
theorem ocube_one (r : List (List Int)) : ocube [r] = [.own 25 r.length (omat r)] := rfl
end Go.Proofs.YtmojbncbbnjblaaGreat


namespace Go.Proofs.YtmojbncbbnjblaaGreat
open Go.Abs
set_option linter.unusedVariables false
set_option linter.unusedSimpArgs false
set_option maxHeartbeats 1000000
def mvS (start : List (List Int)) (c : List Int) (L : List (List (List Int))) : Nat → List (List Int)
  | 0 => start
  | i + 1 => (List.range start.length).map fun k => plusS ((mvS start c L i)[k]?.getD []) (raiS ((L[i]?.getD [])[k]?.getD [])) (c[i]?.getD 0)
theorem mvS_len (start : List (List Int)) (c : List Int) (L : List (List (List Int))) : ∀ i, (mvS start c L i).length = start.length
  | 0 => rfl
  | i + 1 => by simp [mvS]
theorem mvS_row {start : List (List Int)} {c : List Int} {L : List (List (List Int))} {n : Nat} (h : ∀ r ∈ start, r.length = n ∧ Ns r) : ∀ i, ∀ r ∈ mvS start c L i, r.length = n ∧ Ns r
  | 0 => h
  | i + 1 => by
    intro r hr
    rw [mvS] at hr
    obtain ⟨k, hk, rfl⟩ := List.mem_map.1 hr
    have hk : k < start.length := by simpa using hk
    have hm : (mvS start c L i)[k]?.getD [] ∈ mvS start c L i := by simp [mvS_len, hk]
    exact ⟨by rw [plusS_len]; exact (mvS_row h i _ hm).1, plusS_N _ _ _⟩
def mxS (A C : List (List Int)) (j : Nat) : List (List Int) := (List.range A.length).map fun k => if k < j then C[k]?.getD [] else A[k]?.getD []
theorem mxS_zero (A C : List (List Int)) : mxS A C 0 = A := by
  refine List.ext_getElem (by simp [mxS]) fun i h1 h2 => ?_
  simp [mxS, h2]
theorem mxS_all {A C : List (List Int)} (h : C.length = A.length) : mxS A C A.length = C := by
  refine List.ext_getElem (by simp [mxS, h]) fun i h1 h2 => ?_
  simp [mxS, show i < A.length by omega, h2]
@[simp] theorem mxS_len (A C : List (List Int)) (j : Nat) : (mxS A C j).length = A.length := by simp [mxS]
theorem mxS_get {A C : List (List Int)} {j : Nat} (h : j < A.length) : (mxS A C j)[j]?.getD [] = A[j]?.getD [] := by simp [mxS, h]
theorem mxS_set {A C : List (List Int)} {j : Nat} (h : j < A.length) : (mxS A C j).set j (C[j]?.getD []) = mxS A C (j + 1) := by
  refine List.ext_getElem (by simp) fun i h1 h2 => ?_
  simp at h1
  rw [List.getElem_set]
  by_cases e : j = i
  · subst e; simp [mxS]
  · simp only [e, if_false, mxS, List.getElem_map, List.getElem_range]
    by_cases h3 : i < j
    · simp [h3, show i < j + 1 by omega]
    · simp [h3, show ¬ i < j + 1 by omega]
set_option maxRecDepth 100000 in
theorem moved_c (start : List (List Int)) (c : List Int) (L : List (List (List Int))) (n : Nat) (hn : 0 < n) (hn8 : n ≤ 8) (hs : ∀ r ∈ start, r.length = n ∧ Ns r) (hl : start.length ≤ 1048576) (hc : c.length ≤ 8) (hcL : c.length ≤ L.length) (hcN : Ns c) (hL : ∀ m ∈ L, m.length = start.length ∧ ∀ r ∈ m, r.length = n ∧ Ns r) (hLl : L.length ≤ 1048576) :
    Con Tryz.prog 81 [.sl start.length (mat start), .sl c.length (avs c), .sl L.length (cube L)] (.own 25 start.length (omat (mvS start c L c.length))) := by
  refine con_of_vc Tryz.mixed ⟨11, [], [], []⟩ Tryz.func81 (by decide) rfl (by simp) (by decide) (by simp [freshOK, freshL, go_sem]) ?_
  rw [Tryz.ntmps81]
  simp [go_sem]
  refine CallVC.of (cloneRows_c start hl (fun r hr => by have := (hs r hr).1; omega)) (by decide) ?_
  simp [go_sem]
  refine loop_inv (7 :: 8 :: 9 :: 10 :: List.range' 15 29) (fun i : Nat => [(7, .own 25 start.length (omat (mvS start c L i))), (15, .int i)]) (fun i => i ≤ c.length) (fun i => c.length - i) 0 (by simp) (by simp [go_sem, mvS]) (by simp [go_sem]) ?_
  intro i hi
  simp [go_sem]
  refine ⟨fun h => ?_, fun h => ?_⟩ <;> simp at h
  · have hic := h
    have hiL : i < L.length := by omega
    simp [go_sem, avs_drop hic]
    refine ⟨⟨hic, by rintro rfl; simp at hic⟩, ?_⟩
    refine loop_inv (7 :: 10 :: List.range' 22 21) (fun j : Nat => [(7, .own 25 start.length (omat (mxS (mvS start c L i) (mvS start c L (i + 1)) j))), (22, .int j)]) (fun j => j ≤ start.length) (fun j => start.length - j) 0 (by simp) (by simp [go_sem, mxS_zero]) (by simp [go_sem]) ?_
    intro j hj
    simp [go_sem]
    refine ⟨fun h => ?_, fun h => ?_⟩ <;> simp at h
    · have hjs := h
      have hM : j < (mxS (mvS start c L i) (mvS start c L (i + 1)) j).length := by rw [mxS_len, mvS_len]; exact hjs
      have hg := omat_get hM
      have hj2 : j < (mvS start c L i).length := by rw [mvS_len]; exact hjs
      rw [mxS_get hj2] at hg
      have hx := hL (L[i]?.getD []) (by simp [hiL])
      have hjL : j < (L[i]?.getD []).length := by omega
      have hy := hx.2 ((L[i]?.getD [])[j]?.getD []) (by simp [hjL])
      have hz := mvS_row (c := c) (L := L) hs i ((mvS start c L i)[j]?.getD []) (by simp [hj2])
      have hset := omat_set (mxS (mvS start c L i) (mvS start c L (i + 1)) j) j ((mvS start c L (i + 1))[j]?.getD [])
      have hnext : (mvS start c L (i + 1))[j]?.getD [] = plusS ((mvS start c L i)[j]?.getD []) (raiS ((L[i]?.getD [])[j]?.getD [])) (c[i]?.getD 0) := by simp [mvS, hjs]
      rw [mxS_set hj2] at hset
      have cR := raised_c ((L[i]?.getD [])[j]?.getD []) (by omega) (by omega)
      have ck := hcN.get i
      have cP := plus_c ((mvS start c L i)[j]?.getD []) (raiS ((L[i]?.getD [])[j]?.getD [])) (c[i]?.getD 0) hz.2 (raiS_N hy.2) (by obtain ⟨x0, x1⟩ := ck; exact ⟨by omega, by omega⟩) (by omega) (by simp; omega)
      rw [raiS_len] at cP
      rw [← hnext] at cP
      rw [hnext, plusS_len, ← hnext] at hset
      generalize mxS (mvS start c L i) (mvS start c L (i + 1)) j = M at *
      generalize (mvS start c L (i + 1))[j]?.getD [] = new at *
      generalize (mvS start c L i)[j]?.getD [] = old at *
      simp [go_sem, hg, cube_drop hiL, mat_drop hjL]
      refine ⟨by kernel_rfl, hjs, ⟨hiL, by rintro rfl; simp at hiL⟩, ⟨hjL, by intro e; simp [e] at hjL⟩, ?_⟩
      refine CallD.of (cR) (by simp [roots, rootsL]) (by decide) ?_
      simp [go_sem]
      simp [go_sem, hg]
      refine CallD.of (cP) (by simp [roots, rootsL]) (by decide) ?_
      simp [go_sem]
      refine ⟨hjs, hM, ?_⟩
      refine ⟨by kernel_rfl, ?_⟩
      simp [go_sem]
      refine ⟨by omega, j + 1, by omega, by omega, Off_reset _ _ _ (by simp), ?_⟩
      rw [← hset]
      exact ⟨rfl, by omega⟩
    · have e : j = start.length := by omega
      have hall := mxS_all (A := mvS start c L i) (C := mvS start c L (i + 1)) (by rw [mvS_len, mvS_len])
      rw [mvS_len] at hall
      subst e
      simp [go_sem]
      exact ⟨by omega, i + 1, by omega, by omega, (Off.reset (by intro x hx; simp at hx ⊢; omega) (by simp) (by simp [go_sem, Off_reset])), by rw [hall], by omega⟩
  · have e : i = c.length := by omega
    subst e
    simp [go_sem]
end Go.Proofs.YtmojbncbbnjblaaGreat


namespace Go.Proofs.YtmojbncbbnjblaaGreat
open Go.Abs
set_option linter.unusedVariables false
set_option linter.unusedSimpArgs false
set_option maxHeartbeats 1000000
theorem add_rak {a b : List Int} {k : Int} (hk : isN k) (h : a.length ≤ b.length) :
    tb (fun i => (a[i]?.getD 0 + (rakS b k)[i]?.getD 0) % 10007) a.length = plusS a (raiS b) k := by
  unfold plusS tb
  refine List.map_congr_left fun i hi => ?_
  have hi2 : i < b.length := by simp at hi; omega
  have e := tb_get (fun i => if i = 0 then 0 else b[i - 1]?.getD 0 * k % 10007) hi2
  have e2 := tb_get (fun i => if i = 0 then 0 else b[i - 1]?.getD 0) hi2
  have e3 : (rakS b k)[i]?.getD 0 = if i = 0 then 0 else b[i - 1]?.getD 0 * k % 10007 := e
  have e4 : (raiS b)[i]?.getD 0 = if i = 0 then 0 else b[i - 1]?.getD 0 := e2
  rw [e3, e4, Int.emod_eq_of_lt hk.1 (by have := hk.2; omega), Int.mul_comm k]
  split
  · simp
  · omega
set_option maxRecDepth 100000 in
theorem l15Sum_c (start : List (List Int)) (c : List Int) (L : List (List (List Int))) (n : Nat) (hn : 0 < n) (hn8 : n ≤ 8) (hs : ∀ r ∈ start, r.length = n ∧ Ns r) (hl : start.length ≤ 1048576) (hc : c.length ≤ 8) (hcL : L.length ≤ c.length) (hcN : Ns c) (hL : ∀ m ∈ L, m.length = start.length ∧ ∀ r ∈ m, r.length = n ∧ Ns r) (hLl : L.length ≤ 1048576) :
    Con Tryz.prog 86 [.sl start.length (mat start), .sl L.length (cube L), .sl c.length (avs c)] (.own 25 start.length (omat (mvS start c L L.length))) := by
  refine con_of_vc Tryz.mixed ⟨10, [], [], []⟩ Tryz.func86 (by decide) rfl (by simp) (by decide) (by simp [freshOK, freshL, go_sem]) ?_
  rw [Tryz.ntmps86]
  simp [go_sem]
  refine CallVC.of (l01Own2_c start hl (fun r hr => by have := (hs r hr).1; omega)) (by decide) ?_
  simp [go_sem]
  refine loop_inv (7 :: 8 :: 9 :: List.range' 12 32) (fun i : Nat => [(7, .own 25 start.length (omat (mvS start c L i))), (8, .int i)]) (fun i => i ≤ L.length) (fun i => L.length - i) 0 (by simp) (by simp [go_sem, mvS]) (by simp [go_sem]) ?_
  intro i hi
  simp [go_sem]
  refine ⟨fun h => ?_, fun h => ?_⟩ <;> simp at h
  · have hiL : i < L.length := by omega
    have hic : i < c.length := by omega
    simp [go_sem]
    refine loop_inv (7 :: 9 :: List.range' 18 26) (fun j : Nat => [(7, .own 25 start.length (omat (mxS (mvS start c L i) (mvS start c L (i + 1)) j))), (9, .int j)]) (fun j => j ≤ start.length) (fun j => start.length - j) 0 (by simp) (by simp [go_sem, mxS_zero]) (by simp [go_sem]) ?_
    intro j hj
    simp [go_sem]
    refine ⟨fun h => ?_, fun h => ?_⟩ <;> simp at h
    · have hjs := h
      have hM : j < (mxS (mvS start c L i) (mvS start c L (i + 1)) j).length := by rw [mxS_len, mvS_len]; exact hjs
      have hg := omat_get hM
      have hj2 : j < (mvS start c L i).length := by rw [mvS_len]; exact hjs
      rw [mxS_get hj2] at hg
      have hx := hL (L[i]?.getD []) (by simp [hiL])
      have hjL : j < (L[i]?.getD []).length := by omega
      have hy := hx.2 ((L[i]?.getD [])[j]?.getD []) (by simp [hjL])
      have hz := mvS_row (c := c) (L := L) hs i ((mvS start c L i)[j]?.getD []) (by simp [hj2])
      have hset := omat_set (mxS (mvS start c L i) (mvS start c L (i + 1)) j) j ((mvS start c L (i + 1))[j]?.getD [])
      have hnext : (mvS start c L (i + 1))[j]?.getD [] = plusS ((mvS start c L i)[j]?.getD []) (raiS ((L[i]?.getD [])[j]?.getD [])) (c[i]?.getD 0) := by simp [mvS, hjs]
      rw [mxS_set hj2] at hset
      have ck := hcN.get i
      have cR := l14Raise_c ((L[i]?.getD [])[j]?.getD []) (c[i]?.getD 0) hy.2 ck (by omega) (by omega)
      have cP := l02Add_c ((mvS start c L i)[j]?.getD []) (rakS ((L[i]?.getD [])[j]?.getD []) (c[i]?.getD 0)) hz.2 (rakS_N _ _) (by omega) (by simp; omega)
      rw [rakS_len, add_rak ck (by omega)] at cP
      rw [← hnext] at cP
      rw [hnext, plusS_len, ← hnext] at hset
      generalize mxS (mvS start c L i) (mvS start c L (i + 1)) j = M at *
      generalize (mvS start c L (i + 1))[j]?.getD [] = new at *
      generalize (mvS start c L i)[j]?.getD [] = old at *
      simp [go_sem, hg, cube_drop hiL, mat_drop hjL, avs_drop hic]
      refine ⟨by kernel_rfl, hjs, ⟨hiL, by rintro rfl; simp at hiL⟩, ⟨hjL, by intro e; simp [e] at hjL⟩, ⟨hic, by rintro rfl; simp at hic⟩, ?_⟩
      refine CallD.of (cR) (by simp [roots, rootsL]) (by decide) ?_
      simp [go_sem]
      simp [go_sem, hg]
      refine CallD.of (cP) (by simp [roots, rootsL]) (by decide) ?_
      simp [go_sem]
      refine ⟨hjs, hM, ?_⟩
      refine ⟨by kernel_rfl, ?_⟩
      simp [go_sem]
      refine ⟨by omega, j + 1, by omega, by omega, Off_reset _ _ _ (by simp), ?_⟩
      rw [← hset]
      exact ⟨rfl, by omega⟩
    · have e : j = start.length := by omega
      have hall := mxS_all (A := mvS start c L i) (C := mvS start c L (i + 1)) (by rw [mvS_len, mvS_len])
      rw [mvS_len] at hall
      subst e
      simp [go_sem]
      exact ⟨by omega, i + 1, by omega, by omega, (Off.reset (by intro x hx; simp at hx ⊢; omega) (by simp) (by simp [go_sem, Off_reset])), by rw [hall], by omega⟩
  · have e : i = L.length := by omega
    subst e
    simp [go_sem]
end Go.Proofs.YtmojbncbbnjblaaGreat


namespace Go.Proofs.YtmojbncbbnjblaaGreat
open Go.Abs
set_option linter.unusedVariables false
set_option linter.unusedSimpArgs false
set_option maxHeartbeats 1000000
def tmN (i j n : Nat) : Nat := if i ≤ n then (if n < i + j then i + 1 else i) else n + 1
def tmS (a b : List Int) (i j : Nat) : List Int := tb (fun n => cv a b n (tmN i j n) % 10007) a.length
@[simp] theorem tmS_len (a b : List Int) (i j : Nat) : (tmS a b i j).length = a.length := by simp [tmS]
theorem tmS_N (a b : List Int) (i j : Nat) : Ns (tmS a b i j) := tb_N fun i _ => isN_mod _
theorem tmS_zero (a b : List Int) : tmS a b 0 0 = List.replicate a.length 0 := by
  refine List.ext_getElem (by simp) fun n h1 h2 => ?_
  simp [tmS, tb, tmN, cv]
theorem tmS_next (a b : List Int) (i j : Nat) (h : a.length ≤ i + j) : tmS a b i j = tmS a b (i + 1) 0 := by
  unfold tmS tb
  refine List.map_congr_left fun n hn => ?_
  have hn : n < a.length := by simpa using hn
  have e : tmN i j n = tmN (i + 1) 0 n := by unfold tmN; (repeat' split) <;> omega
  rw [e]
theorem tmS_end (a b : List Int) : tmS a b a.length 0 = mulS a b := by
  unfold tmS mulS tb
  refine List.map_congr_left fun n hn => ?_
  have hn : n < a.length := by simpa using hn
  have e : tmN a.length 0 n = n + 1 := by unfold tmN; split <;> omega
  rw [e]
theorem tmS_set (a b : List Int) (i j : Nat) (h : i + j < a.length) : (tmS a b i j).set (i + j) (((tmS a b i j)[i + j]?.getD 0 + a[i]?.getD 0 * b[j]?.getD 0) % 10007) = tmS a b i (j + 1) := by
  refine List.ext_getElem (by simp) fun n h1 h2 => ?_
  simp at h1
  rw [List.getElem_set]
  by_cases e : i + j = n
  · subst e
    have e1 : tmN i j (i + j) = i := by unfold tmN; (repeat' split) <;> omega
    have e2 : tmN i (j + 1) (i + j) = i + 1 := by unfold tmN; (repeat' split) <;> omega
    have e3 : i + j - i = j := by omega
    have g := tb_get (fun n => cv a b n (tmN i j n) % 10007) h
    have g2 : (tmS a b i j)[i + j]?.getD 0 = cv a b (i + j) (tmN i j (i + j)) % 10007 := g
    simp only [if_true, g2, e1]
    simp only [tmS, tb, List.getElem_map, List.getElem_range, e2, cv, e3]
    omega
  · have e1 : tmN i j n = tmN i (j + 1) n := by unfold tmN; (repeat' split) <;> omega
    simp only [e, if_false, tmS, tb, List.getElem_map, List.getElem_range, e1]
set_option maxRecDepth 100000 in
theorem timesSeries_c (a b : List Int) (ha : Ns a) (hb : Ns b) (hl : a.length ≤ 1048576) (hab : a.length ≤ b.length) :
    Con Tryz.prog 177 [.sl a.length (avs a), .sl b.length (avs b)] (.own 2 a.length (avs (mulS a b))) := by
  refine con_of_vc Tryz.mixed ⟨9, [], [], []⟩ Tryz.func177 (by decide) rfl (by simp) (by decide) (by simp [freshOK, freshL, go_sem]) ?_
  rw [Tryz.ntmps177]
  simp [go_sem]
  refine ⟨by omega, ?_⟩
  refine loop_inv (5 :: 6 :: 7 :: 8 :: List.range' 14 33) (fun i : Nat => [(5, .own 2 a.length (avs (tmS a b i 0))), (14, .int i)]) (fun i => i ≤ a.length) (fun i => a.length - i) 0 (by simp) (by simp [go_sem, tmS_zero, avs_repl]) (by simp [go_sem]) ?_
  intro i hi
  simp [go_sem]
  refine ⟨fun h => ?_, fun h => ?_⟩ <;> simp at h
  · have hi2 := h
    simp [go_sem, avs_drop hi2]
    refine ⟨⟨hi2, by rintro rfl; simp at hi2⟩, ?_⟩
    refine loop_inv (5 :: 8 :: List.range' 19 27) (fun j : Nat => [(5, .own 2 a.length (avs (tmS a b i j))), (8, .int j)]) (fun j => i + j ≤ a.length) (fun j => a.length - j) 0 (by simp; omega) (by simp [go_sem]) (by simp [go_sem]) ?_
    intro j hj
    simp [go_sem]
    refine ⟨⟨by omega, by omega⟩, ?_⟩
    refine ⟨fun h => ?_, fun h => ?_⟩ <;> simp at h
    · have k0 : i + j < a.length := by omega
      have k1 : j < b.length := by omega
      have k2 : i + j < (tmS a b i j).length := by rw [tmS_len]; exact k0
      have hset := tmS_set a b i j k0
      have tN := (tmS_N a b i j).get (i + j)
      have m1 := mul_fits (ha.get i) (hb.get j)
      have m2 : fits ((tmS a b i j)[i + j]?.getD 0 + a[i]?.getD 0 * b[j]?.getD 0) := by
        have x0 := mul_bound (ha.get i) (hb.get j)
        obtain ⟨y0, y1⟩ := tN
        exact ⟨by omega, by omega⟩
      have ij : ((i : Int) + j).toNat = i + j := by omega
      simp [go_sem, ij, avs_drop k1, avs_at k2]
      refine ⟨by kernel_rfl, ⟨by omega, by omega⟩, ⟨by omega, by omega⟩, ⟨k1, by intro e; simp [e] at k1⟩, m1, m2, ?_⟩
      refine CallD.of (num_c _ m2.1 m2.2) (by simp [roots, rootsL]) (by decide) ?_
      simp [go_sem]
      refine ⟨⟨by omega, by omega⟩, by omega, ?_⟩
      refine ⟨by kernel_rfl, ?_⟩
      simp [go_sem]
      exact ⟨by omega, j + 1, by omega, by omega, Off_reset _ _ _ (by simp), by rw [ij, avs_set, hset], by omega⟩
    · have hx : a.length ≤ i + j := by omega
      have hn := tmS_next a b i j hx
      simp [go_sem]
      exact ⟨by omega, i + 1, by omega, by omega, (Off.reset (by intro x hx; simp at hx ⊢; omega) (by simp) (by simp [go_sem, Off_reset])), by rw [hn], by omega⟩
  · have e : i = a.length := by omega
    subst e
    simp [go_sem]
    exact tmS_end a b
end Go.Proofs.YtmojbncbbnjblaaGreat


namespace Go.Proofs.YtmojbncbbnjblaaGreat
open Go.Abs
set_option linter.unusedVariables false
set_option linter.unusedSimpArgs false
set_option maxHeartbeats 1000000
def pwS (s x : List Int) : Nat → List Int
  | 0 => s
  | n + 1 => mulS (pwS s x n) x
@[simp] theorem pwS_len (s x : List Int) : ∀ n, (pwS s x n).length = s.length
  | 0 => rfl
  | n + 1 => by rw [pwS, mulS_len, pwS_len s x n]
theorem pwS_N {s x : List Int} (h : Ns s) : ∀ n, Ns (pwS s x n)
  | 0 => h
  | n + 1 => mulS_N _ _
def teS (L : List (List Int)) (e : List Int) (s : List Int) : Nat → List Int
  | 0 => s
  | i + 1 => pwS (teS L e s i) (L[i]?.getD []) (e[i]?.getD 0).toNat
@[simp] theorem teS_len (L : List (List Int)) (e s : List Int) : ∀ i, (teS L e s i).length = s.length
  | 0 => rfl
  | i + 1 => by rw [teS, pwS_len, teS_len L e s i]
theorem teS_N {L : List (List Int)} {e s : List Int} (h : Ns s) : ∀ i, Ns (teS L e s i)
  | 0 => h
  | i + 1 => pwS_N (teS_N h i) _
theorem teS_congr {L : List (List Int)} {e e' s : List Int} : ∀ {n : Nat}, (∀ i, i < n → e[i]?.getD 0 = e'[i]?.getD 0) → teS L e s n = teS L e' s n
  | 0, _ => rfl
  | n + 1, h => by rw [teS, teS, teS_congr (fun i hi => h i (by omega)), h n (by omega)]
def unS (a : Int) : List Int := [a, 0, 0, 0, 0, 0, 0]
theorem unS_N {a : Int} (h : isN a) : Ns (unS a) := by
  intro x hx
  simp [unS] at hx
  rcases hx with rfl | rfl
  · exact h
  · exact ⟨by omega, by omega⟩
def teK (L : List (List Int)) (k : Key) (x : Int) : List Int := teS L [k.1, k.2.1, k.2.2] (unS x) L.length
def reS (L : List (List Int)) (n : Nat) : List (Key × Int) → Int
  | [] => 0
  | e :: es => (teK L e.1 e.2)[n]?.getD 0 + reS L n es
def voS (L : List (List Int)) (n : Nat) : List Mon → Int
  | [] => 0
  | m :: p => (teS L m.2 (unS m.1) L.length)[n]?.getD 0 + voS L n p
theorem reS_app (L : List (List Int)) (n : Nat) (a b : List (Key × Int)) : reS L n (a ++ b) = reS L n a + reS L n b := by
  induction a with
  | nil => simp [reS]
  | cons e a ih => simp [reS, ih]; omega
theorem reS_perm (L : List (List Int)) (n : Nat) {a b : List (Key × Int)} (h : a.Perm b) : reS L n a = reS L n b := by
  induction h with
  | nil => rfl
  | cons x _ ih => simp [reS, ih]
  | swap x z l => simp [reS]; omega
  | trans _ _ i1 i2 => rw [i1, i2]
theorem teK_of {L : List (List Int)} (hl : L.length ≤ 3) (m : Mon) : teK L (keyOf m.2) m.1 = teS L m.2 (unS m.1) L.length := by
  refine teS_congr (fun i hi => ?_)
  have : i = 0 ∨ i = 1 ∨ i = 2 := by omega
  rcases this with rfl | rfl | rfl <;> simp [keyOf]
theorem reS_map {L : List (List Int)} (hl : L.length ≤ 3) (n : Nat) : ∀ p : List Mon, reS L n (p.map keyM) = voS L n p
  | [] => rfl
  | m :: p => by
    rw [List.map_cons, reS, voS, reS_map hl n p]
    have := teK_of hl m
    simp only [keyM]
    rw [this]
def evS (L : List (List Int)) (p : List Mon) : List Int := tb (fun n => voS L n p % 10007) 7
@[simp] theorem evS_len (L : List (List Int)) (p : List Mon) : (evS L p).length = 7 := by simp [evS]
theorem evS_N (L : List (List Int)) (p : List Mon) : Ns (evS L p) := tb_N fun i _ => isN_mod _
end Go.Proofs.YtmojbncbbnjblaaGreat


namespace Go.Proofs.YtmojbncbbnjblaaGreat
open Go.Abs
set_option linter.unusedVariables false
set_option linter.unusedSimpArgs false
set_option maxHeartbeats 1000000
set_option maxRecDepth 100000 in
theorem series_c (c : Key → Option Int) (L : List (List Int)) (T : Nat → Int) (hL : L.length ≤ 3) (hr : ∀ r ∈ L, r.length = 7 ∧ Ns r) (hc : ∀ k x, c k = some x → EOk (k, x)) (hE : ∀ es, Enum c es → ∀ n, reS L n es % 10007 = T n) :
    Con Tryz.prog 134 [.fmp c, .sl L.length (mat L)] (.own 2 7 (avs (tb T 7))) := by
  refine con_of_vc Tryz.mixed ⟨11, [], [], []⟩ Tryz.func134 (by decide) rfl (by simp) (by decide) (by simp [freshOK, freshL, go_sem]) ?_
  rw [Tryz.ntmps134]
  simp [go_sem]
  intro es hes
  have hok : ∀ e ∈ es, EOk e := fun e he => hc e.1 e.2 (hes.val e he)
  have hsum := hE es hes
  refine loop_inv (5 :: 6 :: 7 :: 8 :: 9 :: 10 :: List.range' 13 30) (fun x : List Int × Option (Key × Int) × List (Key × Int) => [(5, .own 2 7 (avs x.1)), (13, .it x.2.1 x.2.2)]) (fun x => x.1.length = 7 ∧ Ns x.1 ∧ (∀ n, n < 7 → (x.1[n]?.getD 0 + reS L n x.2.2) % 10007 = T n) ∧ ∀ e ∈ x.2.2, EOk e) (fun x => x.2.2.length) ([0, 0, 0, 0, 0, 0, 0], none, es) ?_ ?_ (by simp [go_sem]) ?_
  · refine ⟨rfl, ?_, fun n _ => ?_, hok⟩
    · intro x hx
      simp at hx; subst hx; exact ⟨by omega, by omega⟩
    · have e : ([0, 0, 0, 0, 0, 0, 0] : List Int)[n]?.getD 0 = 0 := by
        rcases Nat.lt_or_ge n 7 with h | h
        · have : n = 0 ∨ n = 1 ∨ n = 2 ∨ n = 3 ∨ n = 4 ∨ n = 5 ∨ n = 6 := by omega
          rcases this with rfl | rfl | rfl | rfl | rfl | rfl | rfl <;> rfl
        · simp [List.getElem?_eq_none, h]
      simp only [e, Int.zero_add]
      exact hsum n
  · simp [go_sem, avs]
  rintro ⟨o, l, rem⟩ ⟨ho, hoN, hoT, hrem⟩
  simp only at ho hoN hoT hrem
  simp [go_sem, keyAV]
  refine ⟨fun hr => ?_, fun l1 k0 k1 k2 x l2 hr2 => ?_⟩
  · subst hr
    refine List.ext_getElem (by simp [ho]) fun n h1 h2 => ?_
    have h7 : n < 7 := by omega
    have t := hoT n h7
    have oN := hoN.get n
    simp only [reS, Int.add_zero] at t
    rw [Int.emod_eq_of_lt oN.1 (by have := oN.2; omega)] at t
    simpa [tb, h1] using t
  · subst hr2
    have hek := hrem ((k0, k1, k2), x) (by simp)
    have hx : isN x := hek.1
    have hg : ∀ i : Nat, 0 ≤ ([k0, k1, k2] : List Int)[i]?.getD 0 ∧ ([k0, k1, k2] : List Int)[i]?.getD 0 ≤ 1000 := by
      intro i
      obtain ⟨_, a1, a2, a3, a4, a5, a6⟩ := hek
      match i with
      | 0 => exact ⟨a1, a2⟩
      | 1 => exact ⟨a3, a4⟩
      | 2 => exact ⟨a5, a6⟩
      | i + 3 => simp
    have hu := unS_N hx
    refine loop_inv (8 :: 9 :: 10 :: List.range' 25 15) (fun i : Nat => [(8, .own 2 7 (avs (teS L [k0, k1, k2] (unS x) i))), (25, .int i)]) (fun i => i ≤ L.length) (fun i => L.length - i) 0 (by simp) (by simp [go_sem, teS, unS, avs]) (by simp [go_sem]) ?_
    intro i hi
    simp [go_sem]
    refine ⟨fun h => ?_, fun h => ?_⟩ <;> simp at h
    · have hiL := h
      have h3 : i < ([k0, k1, k2] : List Int).length := by simp; omega
      have e3 : ([.val (.int .i64 k0), .val (.int .i64 k1), .val (.int .i64 k2)] : List AV)[i]? = some (.val (.int .i64 (([k0, k1, k2] : List Int)[i]?.getD 0))) := avs_at' (xs := [k0, k1, k2]) h3
      have g := hg i
      have hy := hr (L[i]?.getD []) (by simp [hiL])
      have hs : teS L [k0, k1, k2] (unS x) (i + 1) = pwS (teS L [k0, k1, k2] (unS x) i) (L[i]?.getD []) (([k0, k1, k2] : List Int)[i]?.getD 0).toNat := rfl
      simp [go_sem, mat_drop hiL, e3]
      refine ⟨⟨hiL, by rintro rfl; simp at hiL⟩, by omega, ?_⟩
      have hteN := teS_N (L := L) (e := [k0, k1, k2]) hu i
      have htl := teS_len L [k0, k1, k2] (unS x) i
      have hul : (unS x).length = 7 := rfl
      rw [hul] at htl
      generalize teS L [k0, k1, k2] (unS x) i = te at *
      generalize ([k0, k1, k2] : List Int)[i]?.getD 0 = ki at *
      obtain ⟨m, rfl⟩ : ∃ m : Nat, ki = m := ⟨ki.toNat, by omega⟩
      simp only [Int.toNat_natCast] at hs
      refine loop_inv (8 :: List.range' 33 6) (fun t : Nat => [(8, .own 2 7 (avs (pwS te (L[i]?.getD []) t))), (33, .int t)]) (fun t => t ≤ m) (fun t => m - t) 0 (by simp) (by simp [go_sem, pwS]) (by simp [go_sem]) ?_
      intro t ht
      simp [go_sem]
      refine ⟨fun h => ?_, fun h => ?_⟩ <;> simp at h
      · have cT := timesSeries_c (pwS te (L[i]?.getD []) t) (L[i]?.getD []) (pwS_N hteN t) hy.2 (by rw [pwS_len]; omega) (by rw [pwS_len]; omega)
        rw [pwS_len, htl] at cT
        simp [go_sem]
        refine CallVC.of (cT) (by decide) ?_
        simp [go_sem]
        exact ⟨by omega, t + 1, by omega, by omega, Off_reset _ _ _ (by simp), rfl, by omega⟩
      · have e : t = m := by omega
        subst e
        simp [go_sem]
        exact ⟨by omega, i + 1, by omega, by omega, (Off.reset (by intro x hx; simp at hx ⊢; omega) (by simp) (by simp [go_sem, Off_reset])), by rw [hs], by omega⟩
    · have e : i = L.length := by omega
      subst e
      have hteN := teS_N (L := L) (e := [k0, k1, k2]) hu L.length
      have htl := teS_len L [k0, k1, k2] (unS x) L.length
      have hul : (unS x).length = 7 := rfl
      rw [hul] at htl
      have hinv : ∀ n, n < 7 → ((plusS o (teS L [k0, k1, k2] (unS x) L.length) 1)[n]?.getD 0 + reS L n (l1 ++ l2)) % 10007 = T n := by
        intro n hn
        have t := hoT n hn
        have q := tb_get (fun i => (o[i]?.getD 0 + 1 % 10007 * (teS L [k0, k1, k2] (unS x) L.length)[i]?.getD 0) % 10007) (show n < o.length by omega)
        have q2 : (plusS o (teS L [k0, k1, k2] (unS x) L.length) 1)[n]?.getD 0 = (o[n]?.getD 0 + 1 % 10007 * (teS L [k0, k1, k2] (unS x) L.length)[n]?.getD 0) % 10007 := q
        rw [reS_app, reS] at t
        simp only [teK] at t
        rw [q2, reS_app, ← t]
        omega
      have cP := plus_c o (teS L [k0, k1, k2] (unS x) L.length) 1 hoN hteN ⟨by omega, by omega⟩ (by omega) (by omega)
      rw [ho, htl] at cP
      simp [go_sem]
      refine CallVC.of (cP) (by decide) ?_
      simp [go_sem]
      refine ⟨_, _, _, ⟨?_, plusS_N _ _ _, hinv, fun a b c d he => hrem _ ?_⟩, ?_, (Off.reset (by intro x hx; simp at hx ⊢; omega) (by simp) (by simp [go_sem, Off_reset])), rfl, rfl, rfl⟩
      · rw [plusS_len, ho]
      · rcases List.mem_append.1 he with he | he <;> simp [he]
      · simp
end Go.Proofs.YtmojbncbbnjblaaGreat


namespace Go.Proofs.YtmojbncbbnjblaaGreat
open Go.Abs
set_option linter.unusedVariables false
set_option linter.unusedSimpArgs false
set_option maxHeartbeats 1000000
theorem partSeries_c {z : Int} {p : List Mon} {L : List (List Int)} (hz : z ≤ 3) (hp : partB z p = true) (hL : (L.length : Int) = z) (hr : ∀ r ∈ L, r.length = 7 ∧ Ns r) :
    Con Tryz.prog 134 [.fmp (polF p), .sl L.length (mat L)] (.own 2 7 (avs (evS L p))) := by
  refine series_c (polF p) L (fun n => voS L n p % 10007) (by omega) hr (fun k x hk => part_entries hz hp hk) (fun es he n => ?_)
  rw [reS_perm L n (enum_perm (keys_nd hz hp) he), reS_map (by omega) n p]
def fdS (L : List (List Int)) (f : List (List Mon)) : List (List Int) := f.map (evS L)
@[simp] theorem fdS_len (L : List (List Int)) (f : List (List Mon)) : (fdS L f).length = f.length := by simp [fdS]
theorem fdS_row {L : List (List Int)} {f : List (List Mon)} : ∀ r ∈ fdS L f, r.length = 7 ∧ Ns r := by
  intro r hr
  obtain ⟨p, _, rfl⟩ := List.mem_map.1 hr
  exact ⟨evS_len L p, evS_N L p⟩
theorem fdS_take {L : List (List Int)} {f : List (List Mon)} {i : Nat} (h : i < f.length) : fdS L (f.take (i + 1)) = fdS L (f.take i) ++ [evS L (f[i]?.getD [])] := by
  rw [List.take_add_one, List.getElem?_eq_getElem h]; simp only [fdS, List.map_append, Option.toList_some, List.map_cons, List.map_nil, Option.getD_some]
theorem voS_app (L : List (List Int)) (n : Nat) (p q : List Mon) : voS L n (p ++ q) = voS L n p + voS L n q := by
  induction p with
  | nil => simp [voS]
  | cons m p ih => simp [voS, ih]; omega
theorem evS_take {L : List (List Int)} {p : List Mon} {i : Nat} (h : i < p.length) :
    tb (fun n => ((evS L (p.take i))[n]?.getD 0 + (teS L (p[i]?.getD (0, [])).2 (unS (p[i]?.getD (0, [])).1) L.length)[n]?.getD 0) % 10007) 7 = evS L (p.take (i + 1)) := by
  rw [List.take_add_one, List.getElem?_eq_getElem h]
  unfold evS
  unfold tb
  refine List.map_congr_left fun n hn => ?_
  have hn : n < 7 := by simpa using hn
  have e := tb_get (fun n => voS L n (p.take i) % 10007) hn
  unfold tb at e
  rw [e, Option.toList_some, voS_app]
  simp [voS]
theorem evS_nil (L : List (List Int)) : evS L [] = [0, 0, 0, 0, 0, 0, 0] := by
  simp [evS, voS, tb, List.range, List.range.loop]
theorem unS_times (a : Int) (h : isN a) : tb (fun i => (tb (fun i => if i = 0 then (1 : Int) else 0) 7)[i]?.getD 0 * a % 10007) 7 = unS a := by
  have : a % 10007 = a := Int.emod_eq_of_lt h.1 (by have := h.2; omega)
  simp [unS, tb, List.range, List.range.loop, this]
end Go.Proofs.YtmojbncbbnjblaaGreat


namespace Go.Proofs.YtmojbncbbnjblaaGreat
open Go.Abs
set_option linter.unusedVariables false
set_option linter.unusedSimpArgs false
set_option maxHeartbeats 1000000
set_option maxRecDepth 100000 in
theorem l14ValueG_c {p : List Mon} {L : List (List Int)} (hp : ∀ m ∈ p, isN m.1 ∧ m.2.length = L.length ∧ ∀ k : Nat, 0 ≤ m.2[k]?.getD 0 ∧ m.2[k]?.getD 0 ≤ 1000000) (hpl : p.length ≤ 1000000000000) (hL : L.length ≤ 3) (hr : ∀ r ∈ L, r.length = 7 ∧ Ns r) :
    Con Tryz.prog 137 [.sl p.length (mons p), .sl L.length (mat L)] (.own 2 7 (avs (evS L p))) := by
  refine con_of_vc Tryz.mixed ⟨11, [], [], []⟩ Tryz.func137 (by decide) rfl (by simp) (by decide) (by simp [freshOK, freshL, go_sem]) ?_
  rw [Tryz.ntmps137]
  simp [go_sem]
  refine loop_inv (List.range' 6 48) (fun i : Nat => [(6, .own 2 7 (avs (evS L (p.take i)))), (7, .int i)]) (fun i => i ≤ p.length) (fun i => p.length - i) 0 (by simp) (by simp [go_sem, evS_nil, avs]) (by simp [go_sem]) ?_
  intro i hi
  simp [go_sem]
  refine ⟨fun h => ?_, fun h => ?_⟩ <;> simp at h
  · have hif := h
    have hx : p[i]?.getD (0, []) ∈ p := by simp [h]
    have hv := evS_take (L := L) h
    obtain ⟨mN, ml, mg⟩ := hp _ hx
    simp [go_sem]
    have cU := l02Unit_c 7 0 (by omega) (by omega)
    generalize hM : p[i]?.getD (0, []) = m at *
    have cT := l02Times_c (tb (fun i => if i = 0 then (1 : Int) else 0) 7) m.1 (tb_N fun i _ => by split <;> exact ⟨by omega, by omega⟩) mN (by simp)
    rw [tb_len, unS_times _ mN] at cT
    refine ⟨by kernel_rfl, ?_⟩
    refine CallD.of (cU) (by simp [roots, rootsL]) (by decide) ?_
    simp [go_sem]
    simp [go_sem, mons_drop hif, hM]
    refine ⟨⟨hif, by rintro rfl; simp at hif⟩, ?_⟩
    refine CallD.of (cT) (by simp [roots, rootsL]) (by decide) ?_
    simp [go_sem]
    refine ⟨by kernel_rfl, ?_⟩
    simp [go_sem]
    refine loop_inv (8 :: 9 :: 10 :: List.range' 27 24) (fun k : Nat => [(8, .own 2 7 (avs (teS L m.2 (unS m.1) k))), (9, .int k)]) (fun k => k ≤ L.length) (fun k => L.length - k) 0 (by simp) (by simp [go_sem, teS]) (by simp [go_sem]) ?_
    intro k hk
    simp [go_sem]
    refine ⟨fun h => ?_, fun h => ?_⟩ <;> simp at h
    · have hkL := h
      have hkm : k < m.2.length := by omega
      have hy := hr (L[k]?.getD []) (by simp [hkL])
      have g := mg k
      have hs : teS L m.2 (unS m.1) (k + 1) = pwS (teS L m.2 (unS m.1) k) (L[k]?.getD []) (m.2[k]?.getD 0).toNat := rfl
      have hteN := teS_N (L := L) (e := m.2) (unS_N mN) k
      have htl := teS_len L m.2 (unS m.1) k
      have hul : (unS m.1).length = 7 := rfl
      rw [hul] at htl
      generalize teS L m.2 (unS m.1) k = te at *
      simp [go_sem]
      refine loop_inv (8 :: 10 :: List.range' 33 18) (fun t : Nat => [(8, .own 2 7 (avs (pwS te (L[k]?.getD []) t))), (10, .int t)]) (fun t => (t : Int) ≤ m.2[k]?.getD 0) (fun t => (m.2[k]?.getD 0).toNat - t) 0 (by simp; omega) (by simp [go_sem, pwS]) (by simp [go_sem]) ?_
      intro t ht
      simp [go_sem, mons_drop hif, hM, avs_drop hkm]
      refine ⟨⟨hif, by rintro rfl; simp at hif⟩, ⟨hkm, by intro e; simp [e] at hkm⟩, ?_⟩
      refine ⟨fun h => ?_, fun h => ?_⟩ <;> simp at h
      · have cT := l02Mul_c (pwS te (L[k]?.getD []) t) (L[k]?.getD []) (pwS_N hteN t) hy.2 (by rw [pwS_len]; omega) (by rw [pwS_len]; omega)
        rw [pwS_len, htl] at cT
        simp [go_sem, mat_drop hkL]
        refine ⟨⟨hkL, by rintro rfl; simp at hkL⟩, ?_⟩
        refine CallVC.of (cT) (by decide) ?_
        simp [go_sem]
        exact ⟨⟨by omega, by omega⟩, t + 1, by omega, by omega, Off_reset _ _ _ (by simp), rfl, by omega⟩
      · have e : (m.2[k]?.getD 0).toNat = t := by omega
        rw [e] at hs
        simp [go_sem]
        exact ⟨by omega, k + 1, by omega, by omega, (Off.reset (by intro x hx; simp at hx ⊢; omega) (by simp) (by simp [go_sem, Off_reset])), by rw [hs], by omega⟩
    · have e : k = L.length := by omega
      subst e
      have hteN := teS_N (L := L) (e := m.2) (unS_N mN) L.length
      have htl := teS_len L m.2 (unS m.1) L.length
      have hul : (unS m.1).length = 7 := rfl
      rw [hul] at htl
      have cP := l02Add_c (evS L (p.take i)) (teS L m.2 (unS m.1) L.length) (evS_N _ _) hteN (by simp) (by simp; omega)
      rw [evS_len, htl, hv] at cP
      simp [go_sem]
      refine CallVC.of (cP) (by decide) ?_
      simp [go_sem]
      exact ⟨by omega, i + 1, by omega, by omega, (Off.reset (by intro x hx; simp at hx ⊢; omega) (by simp) (by simp [go_sem, Off_reset])), rfl, by omega⟩
  · have e : i = p.length := by omega
    subst e
    simp [go_sem]
theorem l14Value_c {z : Int} {p : List Mon} {L : List (List Int)} (hz : z ≤ 3) (hp : partB z p = true) (hpl : p.length ≤ 1048576) (hL : (L.length : Int) = z) (hr : ∀ r ∈ L, r.length = 7 ∧ Ns r) :
    Con Tryz.prog 137 [.sl p.length (mons p), .sl L.length (mat L)] (.own 2 7 (avs (evS L p))) :=
  l14ValueG_c (fun m hm => by
    have h := partB_mem hp hm
    have h1 := h.lo
    have h2 := h.hi
    have h3 := h.len
    exact ⟨⟨by omega, by omega⟩, by omega, fun k => ⟨(h.get k).1, by have := (h.get k).2; omega⟩⟩) (by omega) (by omega) hr
theorem l14Field_c {z : Int} {f : List (List Mon)} {L : List (List Int)} (hf : FieldOk z f) (hs : Small f) (hL : (L.length : Int) = z) (hr : ∀ r ∈ L, r.length = 7 ∧ Ns r) :
    Con Tryz.prog 85 [.agg [.int z, .sl f.length (prt f)], .sl L.length (mat L)] (.own 25 f.length (omat (fdS L f))) := by
  have fl := hs.1
  have z3 := hf.hi
  refine con_of_vc Tryz.mixed ⟨7, [], [], []⟩ Tryz.func85 (by decide) rfl (by simp) (by decide) (by simp [freshOK, freshL, go_sem]) ?_
  rw [Tryz.ntmps85]
  simp [go_sem]
  refine loop_inv (5 :: 6 :: List.range' 8 17) (fun i : Nat => [(5, .own 25 i (omat (fdS L (f.take i)))), (6, .int i)]) (fun i => i ≤ f.length) (fun i => f.length - i) 0 (by simp) (by simp [go_sem, fdS, omat_nil]) (by simp [go_sem]) ?_
  intro i hi
  simp [go_sem]
  refine ⟨fun h => ?_, fun h => ?_⟩ <;> simp at h
  · have hif := h
    have hx : f[i]?.getD [] ∈ f := by simp [h]
    have hv := fdS_take (L := L) h
    simp [go_sem, prt_drop hif]
    refine ⟨⟨hif, by rintro rfl; simp at hif⟩, ?_⟩
    refine CallVC.of (l14Value_c z3 (hf.part _ hx) (hs.2 _ hx).1 hL hr) (by decide) ?_
    simp [go_sem]
    refine ⟨⟨by omega, by omega⟩, by omega, i + 1, by omega, by omega, Off_reset _ _ _ (by simp), ?_, by omega⟩
    rw [hv, omat_app, omat_one]; simp
  · simp [go_sem]
    have e : i = f.length := by omega
    subst e; simp
theorem fieldSeries_c {z : Int} {f : List (List Mon)} {L : List (List Int)} (hf : FieldOk z f) (hs : Small f) (hL : (L.length : Int) = z) (hr : ∀ r ∈ L, r.length = 7 ∧ Ns r) :
    Con Tryz.prog 80 [.sl f.length (fpols f), .sl L.length (mat L)] (.own 25 f.length (omat (fdS L f))) := by
  have fl := hs.1
  have z3 := hf.hi
  refine con_of_vc Tryz.mixed ⟨8, [], [], []⟩ Tryz.func80 (by decide) rfl (by simp) (by decide) (by simp [freshOK, freshL, go_sem]) ?_
  rw [Tryz.ntmps80]
  simp [go_sem]
  refine loop_inv (5 :: 7 :: List.range' 11 11) (fun i : Nat => [(5, .own 25 i (omat (fdS L (f.take i)))), (11, .int i)]) (fun i => i ≤ f.length) (fun i => f.length - i) 0 (by simp) (by simp [go_sem, fdS, omat_nil]) (by simp [go_sem]) ?_
  intro i hi
  simp [go_sem]
  refine ⟨fun h => ?_, fun h => ?_⟩ <;> simp at h
  · have hif := h
    have hx : f[i]?.getD [] ∈ f := by simp [h]
    have hv := fdS_take (L := L) h
    simp [go_sem, fpols_drop hif]
    refine ⟨⟨hif, by rintro rfl; simp at hif⟩, ?_⟩
    refine CallVC.of (partSeries_c z3 (hf.part _ hx) hL hr) (by decide) ?_
    simp [go_sem]
    refine ⟨⟨by omega, by omega⟩, by omega, i + 1, by omega, by omega, Off_reset _ _ _ (by simp), ?_, by omega⟩
    rw [hv, omat_app, omat_one]; simp
  · simp [go_sem]
    have e : i = f.length := by omega
    subst e; simp
end Go.Proofs.YtmojbncbbnjblaaGreat


namespace Go.Proofs.YtmojbncbbnjblaaGreat
open Go.Abs
set_option linter.unusedVariables false
set_option linter.unusedSimpArgs false
set_option maxHeartbeats 1000000
abbrev z7 : List Int := [0, 0, 0, 0, 0, 0, 0]
def sloS (A : List (List Int)) (f : List (List Mon)) (start : List (List Int)) : Nat → List (List (List Int))
  | 0 => List.replicate A.length (List.replicate start.length z7)
  | n + 1 => A.map fun row => fdS (mvS start row (sloS A f start n) row.length) f
@[simp] theorem sloS_len (A : List (List Int)) (f : List (List Mon)) (start : List (List Int)) : ∀ n, (sloS A f start n).length = A.length
  | 0 => by simp [sloS]
  | n + 1 => by simp [sloS]
theorem sloS_row {A : List (List Int)} {f : List (List Mon)} {start : List (List Int)} (hl : f.length = start.length) : ∀ n, ∀ m ∈ sloS A f start n, m.length = start.length ∧ ∀ r ∈ m, r.length = 7 ∧ Ns r
  | 0, m, hm => by
    simp only [sloS, List.mem_replicate] at hm
    obtain ⟨_, rfl⟩ := hm
    refine ⟨by simp, fun r hr => ?_⟩
    obtain ⟨_, rfl⟩ := List.mem_replicate.1 hr
    refine ⟨rfl, fun x hx => ?_⟩
    simp at hx; subst hx; exact ⟨by omega, by omega⟩
  | n + 1, m, hm => by
    rw [sloS] at hm
    obtain ⟨row, _, rfl⟩ := List.mem_map.1 hm
    exact ⟨by simp [hl], fdS_row⟩
theorem omat_rep_succ (n : Nat) : omat (List.replicate (n + 1) z7) = omat (List.replicate n z7) ++ [.own 2 7 (avs z7)] := by
  rw [List.replicate_succ', omat_app, omat_one]; rfl
theorem ocube_rep_succ (n : Nat) (m : List (List Int)) : ocube (List.replicate (n + 1) m) = ocube (List.replicate n m) ++ [.own 25 m.length (omat m)] := by
  rw [List.replicate_succ', ocube_app, ocube_one]
theorem ocube_nil : ocube [] = [] := rfl
theorem ocube_take (X : List (List (List Int))) (i : Nat) (h : i < X.length) : ocube (X.take (i + 1)) = ocube (X.take i) ++ [.own 25 (X[i]?.getD []).length (omat (X[i]?.getD []))] := by
  rw [List.take_add_one, List.getElem?_eq_getElem h, ocube_app]; rfl
theorem sloS_at {A : List (List Int)} (f : List (List Mon)) (start : List (List Int)) (n : Nat) {i : Nat} (h : i < A.length) : (sloS A f start (n + 1))[i]?.getD [] = fdS (mvS start (A[i]?.getD []) (sloS A f start n) (A[i]?.getD []).length) f := by
  simp [sloS, h]
set_option maxRecDepth 100000 in
theorem slopes_c {z : Int} (A : List (List Int)) (B : List Int) (f : List (List Mon)) (start : List (List Int)) (hT : Tab A B) (hf : FieldOk z f) (hs : Small f) (hl : (start.length : Int) = z) (hr : ∀ r ∈ start, r.length = 7 ∧ Ns r) :
    Con Tryz.prog 36 [.agg [.sl A.length (mat A), .sl B.length (avs B)], .sl f.length (fpols f), .sl start.length (mat start)] (.own 24 A.length (ocube (sloS A f start 7))) := by
  have fl := hs.1
  have z3 := hf.hi
  have fz := hf.len
  have b8 := hT.le
  have ab := hT.len
  refine con_of_vc Tryz.mixed ⟨9, [], [], []⟩ Tryz.func36 (by decide) rfl (by simp) (by decide) (by simp [freshOK, freshL, go_sem]) ?_
  rw [Tryz.ntmps36]
  simp [go_sem]
  refine loop_inv (7 :: 8 :: List.range' 16 17) (fun i : Nat => [(7, .own 24 i (ocube (List.replicate i (List.replicate start.length z7)))), (16, .int i)]) (fun i => i ≤ B.length) (fun i => B.length - i) 0 (by simp) (by simp [go_sem, ocube_nil]) (by simp [go_sem]) ?_
  intro i hi
  simp [go_sem]
  refine ⟨fun h => ?_, fun h => ?_⟩ <;> simp at h
  · simp [go_sem]
    refine loop_inv (8 :: List.range' 21 7) (fun j : Nat => [(8, .own 25 j (omat (List.replicate j z7))), (21, .int j)]) (fun j => j ≤ start.length) (fun j => start.length - j) 0 (by simp) (by simp [go_sem, omat_nil]) (by simp [go_sem]) ?_
    intro j hj
    simp [go_sem]
    refine ⟨fun h => ?_, fun h => ?_⟩ <;> simp at h
    · simp [go_sem]
      refine ⟨⟨by omega, by omega⟩, by omega, j + 1, by omega, by omega, Off_reset _ _ _ (by simp), ?_, by omega⟩
      rw [omat_rep_succ]; exact ⟨rfl, rfl⟩
    · have e : j = start.length := by omega
      subst e
      simp [go_sem]
      refine ⟨⟨by omega, by omega⟩, by omega, i + 1, by omega, by omega, (Off.reset (by intro x hx; simp at hx ⊢; omega) (by simp) (by simp [go_sem, Off_reset])), ?_, by omega⟩
      rw [ocube_rep_succ]; simp
  · have e : i = B.length := by omega
    subst e
    simp [go_sem]
    refine loop_inv (7 :: 9 :: 11 :: List.range' 33 22) (fun n : Nat => [(7, .own 24 A.length (ocube (sloS A f start n))), (33, .int n)]) (fun n => n ≤ 7) (fun n => 7 - n) 0 (by simp) (by simp [go_sem, sloS, ab]) (by simp [go_sem]) ?_
    intro n hn
    simp [go_sem]
    refine ⟨fun h => ?_, fun h => ?_⟩ <;> simp at h
    · simp [go_sem]
      refine loop_inv (9 :: 11 :: List.range' 39 14) (fun i : Nat => [(9, .own 24 i (ocube ((sloS A f start (n + 1)).take i))), (39, .int i)]) (fun i => i ≤ A.length) (fun i => A.length - i) 0 (by simp) (by simp [go_sem, ocube_nil]) (by simp [go_sem]) ?_
      intro i hi
      simp [go_sem]
      refine ⟨fun h => ?_, fun h => ?_⟩ <;> simp at h
      · have hif := h
        have hx : A[i]?.getD [] ∈ A := by simp [h]
        have hm := hT.a _ hx
        have ht := ocube_take (sloS A f start (n + 1)) i (by rw [sloS_len]; exact hif)
        rw [sloS_at f start n hif, fdS_len] at ht
        have cM := moved_c start (A[i]?.getD []) (sloS A f start n) 7 (by omega) (by omega) hr (by omega) (by have := hm.1; omega) (by rw [sloS_len]; have := hm.1; omega) hm.2 (sloS_row (by omega) n) (by rw [sloS_len]; omega)
        rw [sloS_len] at cM
        have cF := fieldSeries_c (L := mvS start (A[i]?.getD []) (sloS A f start n) (A[i]?.getD []).length) hf hs (by rw [mvS_len]; exact hl) (mvS_row hr _)
        rw [mvS_len] at cF
        simp [go_sem, mat_drop hif]
        refine ⟨⟨hif, by rintro rfl; simp at hif⟩, ?_⟩
        refine CallVC.of (cM) (by decide) ?_
        simp [go_sem]
        refine CallVC.of (cF) (by decide) ?_
        simp [go_sem]
        refine ⟨⟨by omega, by omega⟩, by omega, i + 1, by omega, by omega, Off_reset _ _ _ (by simp), ?_, by omega⟩
        rw [ht]; exact ⟨rfl, rfl⟩
      · have e : i = A.length := by omega
        subst e
        simp [go_sem]
        have hfin : (sloS A f start (n + 1)).take A.length = sloS A f start (n + 1) := List.take_of_length_le (by simp)
        exact ⟨by omega, n + 1, by omega, by omega, (Off.reset (by intro x hx; simp at hx ⊢; omega) (by simp) (by simp [go_sem, Off_reset])), by rw [hfin], by omega⟩
    · have e : n = 7 := by omega
      subst e
      simp [go_sem]
set_option maxRecDepth 100000 in
theorem l15Slopes_c {z : Int} (A : List (List Int)) (B : List Int) (f : List (List Mon)) (start : List (List Int)) (hT : Tab A B) (hf : FieldOk z f) (hs : Small f) (hl : (start.length : Int) = z) (hr : ∀ r ∈ start, r.length = 7 ∧ Ns r) :
    Con Tryz.prog 41 [.agg [.sl A.length (mat A), .sl B.length (avs B)], .agg [.int z, .sl f.length (prt f)], .sl start.length (mat start)] (.own 24 A.length (ocube (sloS A f start 7))) := by
  have fl := hs.1
  have z3 := hf.hi
  have fz := hf.len
  have b8 := hT.le
  have ab := hT.len
  refine con_of_vc Tryz.mixed ⟨12, [], [], []⟩ Tryz.func41 (by decide) rfl (by simp) (by decide) (by simp [freshOK, freshL, go_sem]) ?_
  rw [Tryz.ntmps41]
  simp [go_sem]
  refine loop_inv (7 :: 8 :: 9 :: 10 :: List.range' 15 22) (fun i : Nat => [(7, .own 24 i (ocube (List.replicate i (List.replicate start.length z7)))), (8, .int i)]) (fun i => i ≤ B.length) (fun i => B.length - i) 0 (by simp) (by simp [go_sem, ocube_nil]) (by simp [go_sem]) ?_
  intro i hi
  simp [go_sem]
  refine ⟨fun h => ?_, fun h => ?_⟩ <;> simp at h
  · simp [go_sem]
    refine loop_inv (9 :: 10 :: List.range' 23 10) (fun j : Nat => [(9, .own 25 j (omat (List.replicate j z7))), (10, .int j)]) (fun j => j ≤ start.length) (fun j => start.length - j) 0 (by simp) (by simp [go_sem, omat_nil]) (by simp [go_sem]) ?_
    intro j hj
    simp [go_sem]
    refine ⟨fun h => ?_, fun h => ?_⟩ <;> simp at h
    · simp [go_sem]
      refine ⟨⟨by omega, by omega⟩, by omega, j + 1, by omega, by omega, Off_reset _ _ _ (by simp), ?_, by omega⟩
      rw [omat_rep_succ]; exact ⟨rfl, rfl⟩
    · have e : j = start.length := by omega
      subst e
      simp [go_sem]
      refine ⟨⟨by omega, by omega⟩, by omega, i + 1, by omega, by omega, (Off.reset (by intro x hx; simp at hx ⊢; omega) (by simp) (by simp [go_sem, Off_reset])), ?_, by omega⟩
      rw [ocube_rep_succ]; simp
  · have e : i = B.length := by omega
    subst e
    simp [go_sem]
    refine loop_inv (7 :: 11 :: 12 :: 13 :: List.range' 37 26) (fun n : Nat => [(7, .own 24 A.length (ocube (sloS A f start n))), (11, .int n)]) (fun n => n ≤ 7) (fun n => 7 - n) 0 (by simp) (by simp [go_sem, sloS, ab]) (by simp [go_sem]) ?_
    intro n hn
    simp [go_sem]
    refine ⟨fun h => ?_, fun h => ?_⟩ <;> simp at h
    · simp [go_sem]
      refine loop_inv (12 :: 13 :: List.range' 42 20) (fun i : Nat => [(12, .own 24 i (ocube ((sloS A f start (n + 1)).take i))), (13, .int i)]) (fun i => i ≤ A.length) (fun i => A.length - i) 0 (by simp) (by simp [go_sem, ocube_nil]) (by simp [go_sem]) ?_
      intro i hi
      simp [go_sem]
      refine ⟨fun h => ?_, fun h => ?_⟩ <;> simp at h
      · have hif : i < A.length := by omega
        have hx : A[i]?.getD [] ∈ A := by simp [hif]
        have hm := hT.a _ hx
        have ht := ocube_take (sloS A f start (n + 1)) i (by rw [sloS_len]; exact hif)
        rw [sloS_at f start n hif, fdS_len] at ht
        have cM := l15Sum_c start (A[i]?.getD []) (sloS A f start n) 7 (by omega) (by omega) hr (by omega) (by have := hm.1; omega) (by rw [sloS_len]; have := hm.1; omega) hm.2 (sloS_row (by omega) n) (by rw [sloS_len]; omega)
        rw [sloS_len, show A.length = (A[i]?.getD []).length by have := hm.1; omega] at cM
        have cF := l14Field_c (L := mvS start (A[i]?.getD []) (sloS A f start n) (A[i]?.getD []).length) hf hs (by rw [mvS_len]; exact hl) (mvS_row hr _)
        rw [mvS_len] at cF
        have hel : (A[i]?.getD []).length = A.length := by have := hm.1; omega
        simp [go_sem, mat_drop hif]
        refine ⟨by kernel_rfl, ⟨hif, by rintro rfl; simp at hif⟩, ?_⟩
        rw [← hel]
        refine CallD.of (cM) (by simp [roots, rootsL]) (by decide) ?_
        simp [go_sem]
        refine CallD.of (cF) (by simp [roots, rootsL]) (by decide) ?_
        simp [go_sem]
        refine ⟨⟨by omega, by omega⟩, ?_⟩
        refine ⟨by kernel_rfl, ?_⟩
        simp [go_sem]
        refine ⟨by omega, i + 1, by omega, by omega, Off_reset _ _ _ (by simp), ?_, by omega⟩
        rw [ht]; exact ⟨rfl, rfl⟩
      · have e : i = A.length := by omega
        subst e
        simp [go_sem]
        have hfin : (sloS A f start (n + 1)).take A.length = sloS A f start (n + 1) := List.take_of_length_le (by simp)
        exact ⟨by omega, n + 1, by omega, by omega, (Off.reset (by intro x hx; simp at hx ⊢; omega) (by simp) (by simp [go_sem, Off_reset])), by rw [hfin], by omega⟩
    · have e : n = 7 := by omega
      subst e
      simp [go_sem]
end Go.Proofs.YtmojbncbbnjblaaGreat


namespace Go.Proofs.YtmojbncbbnjblaaGreat
open Go.Abs
set_option linter.unusedVariables false
set_option linter.unusedSimpArgs false
set_option maxHeartbeats 1000000
theorem getD_mem {α : Type} {l : List α} {i : Nat} (d : α) (h : i < l.length) : l[i]?.getD d ∈ l := by simp [h]
theorem colS_N {a : List (List Int)} (h : ∀ r ∈ a, Ns r) (k : Nat) : Ns (colS a k) := tb_N fun i hi => (h (a[i]?.getD []) (by simp [hi])).get k
theorem turnS_row {n : Nat} {a : List (List Int)} (h7 : a.length = n) (h : ∀ r ∈ a, Ns r) : ∀ r ∈ turnS a, r.length = n ∧ Ns r := by
  intro r hr
  obtain ⟨k, _, rfl⟩ := List.mem_map.1 hr
  exact ⟨by rw [colS_len, h7], colS_N h k⟩
def steS (A : List (List Int)) (B : List Int) (f : List (List Mon)) (start : List (List Int)) : List (List Int) := mvS start B (sloS A f start 7) B.length
@[simp] theorem steS_len (A : List (List Int)) (B : List Int) (f : List (List Mon)) (start : List (List Int)) : (steS A B f start).length = start.length := mvS_len _ _ _ _
theorem steS_row {A : List (List Int)} {B : List Int} {f : List (List Mon)} {start : List (List Int)} (hr : ∀ r ∈ start, r.length = 7 ∧ Ns r) : ∀ r ∈ steS A B f start, r.length = 7 ∧ Ns r := mvS_row hr _
set_option maxRecDepth 100000 in
theorem stepped_c {z : Int} (A : List (List Int)) (B : List Int) (f : List (List Mon)) (start : List (List Int)) (hT : Tab A B) (hf : FieldOk z f) (hs : Small f) (hl : (start.length : Int) = z) (hr : ∀ r ∈ start, r.length = 7 ∧ Ns r) :
    Con Tryz.prog 44 [.agg [.sl A.length (mat A), .sl B.length (avs B)], .sl f.length (fpols f), .sl start.length (mat start)] (.own 25 start.length (omat (steS A B f start))) := by
  have fl := hs.1
  have z3 := hf.hi
  have fz := hf.len
  have b8 := hT.le
  have ab := hT.len
  have cS := slopes_c A B f start hT hf hs hl hr
  have cM := moved_c start B (sloS A f start 7) 7 (by omega) (by omega) hr (by omega) (by omega) (by rw [sloS_len]; omega) hT.b (sloS_row (by omega) 7) (by rw [sloS_len]; omega)
  rw [sloS_len] at cM
  refine con_of_vc Tryz.mixed ⟨7, [], [], []⟩ Tryz.func44 (by decide) rfl (by simp) (by decide) (by simp [freshOK, freshL, go_sem]) ?_
  rw [Tryz.ntmps44]
  simp [go_sem]
  refine ⟨by kernel_rfl, ?_⟩
  refine CallD.of (cS) (by simp [roots, rootsL]) (by decide) ?_
  simp [go_sem]
  refine CallD.of (cM) (by simp [roots, rootsL]) (by decide) ?_
  simp [go_sem]
  refine ⟨by kernel_rfl, ?_⟩
  simp [go_sem]
  rfl
end Go.Proofs.YtmojbncbbnjblaaGreat


namespace Go.Proofs.YtmojbncbbnjblaaGreat
open Go.Abs
set_option linter.unusedVariables false
set_option linter.unusedSimpArgs false
set_option maxHeartbeats 1000000
end Go.Proofs.YtmojbncbbnjblaaGreat


namespace Go.Proofs.YtmojbncbbnjblaaGreat
open Go.Abs
set_option linter.unusedVariables false
set_option linter.unusedSimpArgs false
set_option maxHeartbeats 1000000
def poS (y : List Int) : List (List Int) := y.map unS
@[simp] theorem poS_len (y : List Int) : (poS y).length = y.length := by simp [poS]
theorem poS_row {y : List Int} (h : Ns y) : ∀ r ∈ poS y, r.length = 7 ∧ Ns r := by
  intro r hr
  obtain ⟨a, ha, rfl⟩ := List.mem_map.1 hr
  exact ⟨rfl, unS_N (h a ha)⟩
theorem poS_take {y : List Int} {i : Nat} (h : i < y.length) : omat (poS (y.take (i + 1))) = omat (poS (y.take i)) ++ [.own 2 7 (avs (unS (y[i]?.getD 0)))] := by
  rw [List.take_add_one, List.getElem?_eq_getElem h]
  simp only [poS, List.map_append, omat_app]; rfl
def stV (y : List Int) : List (List Int) := y :: List.replicate 6 (List.replicate y.length 0)
@[simp] theorem stV_len (y : List Int) : (stV y).length = 7 := by simp [stV]
theorem stV_row {y : List Int} (h : Ns y) : ∀ r ∈ stV y, r.length = y.length ∧ Ns r := by
  intro r hr
  rcases List.mem_cons.1 hr with rfl | hr
  · exact ⟨rfl, h⟩
  · obtain ⟨_, rfl⟩ := List.mem_replicate.1 hr
    refine ⟨by simp, fun x hx => ?_⟩
    obtain ⟨_, rfl⟩ := List.mem_replicate.1 hx
    exact ⟨by omega, by omega⟩
theorem turn_stV (y : List Int) : turnS (stV y) = poS y := by
  refine List.ext_getElem (by simp [stV]) fun k h1 h2 => ?_
  have hk : k < y.length := by simpa using h2
  have e : (y :: List.replicate 6 (List.replicate y.length 0))[0]?.getD [] = y := rfl
  simp only [turnS, List.getElem_map, List.getElem_range, poS, colS, stV]
  simp [tb, List.range, List.range.loop, unS, hk, List.replicate]
theorem pointStart_c (y : List Int) (hy : y.length ≤ 1048576) : Con Tryz.prog 38 [.sl y.length (avs y)] (.own 25 y.length (omat (poS y))) := by
  refine con_of_vc Tryz.mixed ⟨7, [], [], []⟩ Tryz.func38 (by decide) rfl (by simp) (by decide) (by simp [freshOK, freshL, go_sem]) ?_
  rw [Tryz.ntmps38]
  simp [go_sem]
  refine loop_inv (3 :: 5 :: 6 :: List.range' 10 13) (fun i : Nat => [(3, .own 25 i (omat (poS (y.take i)))), (10, .int i)]) (fun i => i ≤ y.length) (fun i => y.length - i) 0 (by simp) (by simp [go_sem, poS, omat_nil]) (by simp [go_sem]) ?_
  intro i hi
  simp [go_sem]
  refine ⟨fun h => ?_, fun h => ?_⟩ <;> simp at h
  · have ht := poS_take h
    simp [go_sem, avs_drop h]
    refine ⟨⟨h, by rintro rfl; simp at h⟩, ⟨by omega, by omega⟩, by omega, i + 1, by omega, by omega, Off_reset _ _ _ (by simp), ⟨rfl, ?_⟩, by omega⟩
    rw [ht]; rfl
  · have e : i = y.length := by omega
    subst e
    simp [go_sem]
theorem l14Start_c (y : List Int) (hy : y.length ≤ 1048576) : Con Tryz.prog 43 [.sl y.length (avs y)] (.own 25 7 (omat (stV y))) := by
  refine con_of_vc Tryz.mixed ⟨4, [], [], []⟩ Tryz.func43 (by decide) rfl (by simp) (by decide) (by simp [freshOK, freshL, go_sem]) ?_
  rw [Tryz.ntmps43]
  simp [go_sem]
  refine CallVC.of (l01Own_c y (by omega)) (by decide) ?_
  simp [go_sem]
  have e0 : ∀ k, omat (y :: List.replicate (k + 1) (List.replicate y.length 0)) = omat (y :: List.replicate k (List.replicate y.length 0)) ++ [.own 2 y.length (avs (List.replicate y.length 0))] := fun k => by
    rw [List.replicate_succ', ← List.cons_append, omat_app, omat_one]; simp
  refine loop_inv (3 :: List.range' 7 9) (fun i : Nat => [(3, .own 25 (i + 1) (omat (y :: List.replicate i (List.replicate y.length 0))))]) (fun i => i ≤ 6) (fun i => 6 - i) 0 (by simp) (by simp [go_sem, omat]) (by simp [go_sem]) ?_
  intro i hi
  simp [go_sem]
  refine ⟨fun h => ?_, fun h => ?_⟩ <;> simp at h
  · have ht := e0 i
    simp [go_sem]
    refine ⟨⟨by omega, by omega⟩, ⟨by omega, by omega⟩, i + 1, by omega, by omega, Off_reset _ _ _ (by simp), ⟨by omega, ?_⟩⟩
    rw [ht, ← avs_repl]
  · have e : i = 6 := by omega
    subst e
    simp [go_sem]
    rfl
def ssX (A : List (List Int)) (B : List Int) (z : Int) (f : List (List Mon)) (y : List Int) : List (List Int) := if stE A B z f y = 0 then turnS (steS A B f (poS y)) else []
def ssR (A : List (List Int)) (B : List Int) (z : Int) (f : List (List Mon)) (y : List Int) : AV := .tup [.own 25 (ssX A B z f y).length (omat (ssX A B z f y)), .int (stE A B z f y)]
theorem stE_ok {A : List (List Int)} {B : List Int} {z : Int} {f : List (List Mon)} {y : List Int} (h : stE A B z f y = 0) : Tab A B ∧ FieldOk z f ∧ (y.length : Int) = z ∧ Ns y := by
  obtain ⟨hT, hF, hV⟩ := stE_zero h
  unfold vecB at hV
  simp only [Bool.and_eq_true, decide_eq_true_eq] at hV
  exact ⟨tabB_iff.1 hT, fieldB_iff.1 hF, hV.1, numsB_N.1 hV.2⟩
set_option maxRecDepth 100000 in
theorem StepSeries_c (A : List (List Int)) (B : List Int) (z : Int) (f : List (List Mon)) (y : List Int) (hA : A.length ≤ 1048576) (hB : B.length ≤ 1048576) (hr : ∀ r ∈ A, r.length ≤ 1048576) (hs : Small f) (hy : y.length ≤ 1048576) :
    Con Tryz.prog 11 [.agg [.sl A.length (mat A), .sl B.length (avs B)], .agg [.int z, .sl f.length (prt f)], .sl y.length (avs y)] (ssR A B z f y) := by
  have c1 := checkStep_c A B z f y hA hB hr hs hy
  unfold ssR ssX
  have hz := @stE_ok A B z f y
  generalize stE A B z f y = e at *
  by_cases he : e = 0
  · subst he
    obtain ⟨hT, hF, hl, hN⟩ := hz rfl
    have fl := hs.1
    have z1 := hF.lo
    have z3 := hF.hi
    have cP := polynomials_c z f hF hs
    have cU := pointStart_c y hy
    have cS := stepped_c A B f (poS y) hT hF hs (by rw [poS_len]; exact hl) (poS_row hN)
    have sl := steS_len A B f (poS y)
    have sr := steS_row (A := A) (B := B) (f := f) (poS_row hN)
    rw [poS_len] at cS sl
    have cE := turned_c (steS A B f (poS y)) (by omega) (by omega) (fun r h => by
      have s0 : ((steS A B f (poS y))[0]?.getD []) ∈ steS A B f (poS y) := getD_mem _ (by omega)
      have := (sr r h).1; have := (sr _ s0).1; omega) (by
      have s0 : ((steS A B f (poS y))[0]?.getD []) ∈ steS A B f (poS y) := getD_mem _ (by omega)
      have := (sr _ s0).1; omega)
    rw [sl] at cE
    rw [if_pos rfl]
    generalize turnS (steS A B f (poS y)) = X at *
    generalize steS A B f (poS y) = E at *
    generalize poS y = U at *
    refine con_of_vc Tryz.mixed ⟨9, [], [], []⟩ Tryz.func11 (by decide) rfl (by simp) (by decide) (by simp [freshOK, freshL, go_sem]) ?_
    rw [Tryz.ntmps11]
    simp [go_sem]
    refine CallVC.of (c1) (by decide) ?_
    simp [go_sem]
    refine ⟨by kernel_rfl, ?_⟩
    refine CallD.of (cP) (by simp [roots, rootsL]) (by decide) ?_
    simp [go_sem]
    refine CallD.of (cU) (by simp [roots, rootsL]) (by decide) ?_
    simp [go_sem]
    refine CallD.of (cS) (by simp [roots, rootsL]) (by decide) ?_
    simp [go_sem]
    refine CallD.of (cE) (by simp [roots, rootsL]) (by decide) ?_
    simp [go_sem]
    refine ⟨by kernel_rfl, ?_⟩
    simp [go_sem]
  · rw [if_neg he]
    refine Con.n1 _ ?_
    refine con_of_vc Tryz.mixed ⟨9, [], [], []⟩ Tryz.func11 (by decide) rfl (by simp) (by decide) (by simp [freshOK, freshL, go_sem]) ?_
    rw [Tryz.ntmps11]
    simp [go_sem]
    refine CallVC.of (c1) (by decide) ?_
    simp [go_sem]
    simp [go_sem, he]
end Go.Proofs.YtmojbncbbnjblaaGreat


namespace Go.Proofs.YtmojbncbbnjblaaGreat
open Go.Abs
set_option linter.unusedVariables false
set_option linter.unusedSimpArgs false
set_option maxHeartbeats 1000000
end Go.Proofs.YtmojbncbbnjblaaGreat


namespace Go.Proofs.YtmojbncbbnjblaaGreat
open Go.Abs
set_option linter.unusedVariables false
set_option linter.unusedSimpArgs false
set_option maxHeartbeats 2000000
end Go.Proofs.YtmojbncbbnjblaaGreat


namespace Go.Proofs.YtmojbncbbnjblaaGreat
open Go.Abs CR
set_option linter.unusedVariables false
set_option linter.unusedSimpArgs false
set_option maxHeartbeats 1000000
abbrev c7 : Cg (Ser Int) := cgS cgI 7
section
variable {α : Type} [CR α]
end
theorem poS_at {y : List Int} {k : Nat} (hk : k < y.length) : (poS y)[k]?.getD [] = unS (y[k]?.getD 0) := by simp [poS, hk]
end Go.Proofs.YtmojbncbbnjblaaGreat


namespace Go.Proofs.YtmojbncbbnjblaaGreat
open Go.Abs
set_option linter.unusedVariables false
set_option linter.unusedSimpArgs false
set_option maxHeartbeats 1000000
end Go.Proofs.YtmojbncbbnjblaaGreat


namespace Go.Proofs.YtmojbncbbnjblaaGreat
open Go.Abs
set_option linter.unusedVariables false
set_option linter.unusedSimpArgs false
set_option maxHeartbeats 1000000
end Go.Proofs.YtmojbncbbnjblaaGreat


namespace Go.Proofs.YtmojbncbbnjblaaGreat
open Go.Abs
set_option linter.unusedVariables false
set_option linter.unusedSimpArgs false
set_option maxHeartbeats 1000000
theorem mvS_first {start : List (List Int)} {c : List Int} {L : List (List (List Int))} (hs : ∀ r ∈ start, r.length = 7 ∧ Ns r) : ∀ i k, k < start.length → ((mvS start c L i)[k]?.getD [])[0]?.getD 0 = (start[k]?.getD [])[0]?.getD 0
  | 0, _, _ => rfl
  | i + 1, k, hk => by
    have ih := mvS_first (c := c) (L := L) hs i k hk
    have hm := mvS_row (c := c) (L := L) hs i _ (memD [] (show k < (mvS start c L i).length by rw [mvS_len]; exact hk))
    have e : (mvS start c L (i + 1))[k]?.getD [] = plusS ((mvS start c L i)[k]?.getD []) (raiS ((L[i]?.getD [])[k]?.getD [])) (c[i]?.getD 0) := by simp [mvS, hk]
    have e2 : (raiS ((L[i]?.getD [])[k]?.getD []))[0]?.getD 0 = 0 := by
      unfold raiS
      rcases Nat.lt_or_ge 0 ((L[i]?.getD [])[k]?.getD []).length with h | h
      · rw [tb_get _ h]; rfl
      · rw [List.getElem?_eq_none (by simpa using h)]; rfl
    have h3 := tb_get (fun j => (((mvS start c L i)[k]?.getD [])[j]?.getD 0 + c[i]?.getD 0 % 10007 * (raiS ((L[i]?.getD [])[k]?.getD []))[j]?.getD 0) % 10007) (show 0 < ((mvS start c L i)[k]?.getD []).length by omega)
    have hn := hm.2.get 0
    rw [e]
    unfold plusS
    rw [h3, e2, Int.mul_zero, Int.add_zero, Int.emod_eq_of_lt hn.1 (by have := hn.2; omega), ih]
end Go.Proofs.YtmojbncbbnjblaaGreat


namespace Go.Proofs.YtmojbncbbnjblaaGreat
open Go.Abs
set_option linter.unusedVariables false
set_option linter.unusedSimpArgs false
set_option maxHeartbeats 1000000
theorem ocube_get {X : List (List (List Int))} {k : Nat} (h : k < X.length) : (ocube X)[k]? = some (.own 25 (X[k]?.getD []).length (omat (X[k]?.getD []))) := by simp [ocube, h]
def sgX (A : List (List Int)) (B : List Int) (z : Int) (f : List (List Mon)) (y : List Int) : List (List (List Int)) := if stE A B z f y = 0 then (sloS A f (poS y) 7).map turnS else []
def sgR (A : List (List Int)) (B : List Int) (z : Int) (f : List (List Mon)) (y : List Int) : AV := .tup [.own 24 (sgX A B z f y).length (ocube (sgX A B z f y)), .int (stE A B z f y)]
theorem slo_turn {f : List (List Mon)} {m : List (List Int)} {n : Nat} (n1 : 1 ≤ n) (hm : m.length = n ∧ ∀ r ∈ m, r.length = 7 ∧ Ns r) : (turnS m).length = 7 ∧ ∀ r ∈ turnS m, r.length = n ∧ Ns r := by
  have h0 := getD_mem (i := 0) [] (l := m) (by omega)
  refine ⟨by rw [turnS_len, (hm.2 _ h0).1], fun r h => ?_⟩
  have := turnS_row rfl (fun r h => (hm.2 r h).2) r h
  rw [hm.1] at this
  exact this
theorem sgX_ok (A : List (List Int)) (B : List Int) (z : Int) (f : List (List Mon)) (y : List Int) : (sgX A B z f y).length ≤ 8 ∧ ∀ m ∈ sgX A B z f y, m.length ≤ 7 ∧ ∀ r ∈ m, r.length ≤ 3 := by
  unfold sgX
  split
  · rename_i h
    obtain ⟨hT, hF, hl, hy⟩ := stE_ok h
    have z1 := hF.lo
    have z3 := hF.hi
    have zl := hF.len
    refine ⟨by have := hT.len; have := hT.le; simp; omega, fun m hm => ?_⟩
    obtain ⟨m0, h0, rfl⟩ := List.mem_map.1 hm
    have := sloS_row (A := A) (f := f) (start := poS y) (by simp; omega) 7 m0 h0
    rw [poS_len] at this
    obtain ⟨e1, e2⟩ := slo_turn (f := f) (by omega) this
    exact ⟨by omega, fun r hr => by have := (e2 r hr).1; omega⟩
  · simp
theorem ocube_map_take {g : List (List Int) → List (List Int)} {X : List (List (List Int))} {i : Nat} (h : i < X.length) : ocube ((X.take (i + 1)).map g) = ocube ((X.take i).map g) ++ [.own 25 (g (X[i]?.getD [])).length (omat (g (X[i]?.getD [])))] := by
  rw [List.take_add_one, List.getElem?_eq_getElem h, List.map_append, ocube_app]; rfl
end Go.Proofs.YtmojbncbbnjblaaGreat


namespace Go.Proofs.YtmojbncbbnjblaaGreat
open Go.Abs
set_option linter.unusedVariables false
set_option linter.unusedSimpArgs false
set_option maxHeartbeats 1000000
set_option maxRecDepth 100000 in
theorem StageSeries_c (A : List (List Int)) (B : List Int) (z : Int) (f : List (List Mon)) (y : List Int) (hA : A.length ≤ 1048576) (hB : B.length ≤ 1048576) (hr : ∀ r ∈ A, r.length ≤ 1048576) (hs : Small f) (hy : y.length ≤ 1048576) :
    Con Tryz.prog 8 [.agg [.sl A.length (mat A), .sl B.length (avs B)], .agg [.int z, .sl f.length (prt f)], .sl y.length (avs y)] (sgR A B z f y) := by
  have c1 := checkStep_c A B z f y hA hB hr hs hy
  unfold sgR sgX
  have hz := @stE_ok A B z f y
  generalize stE A B z f y = e at *
  by_cases he : e = 0
  · subst he
    obtain ⟨hT, hF, hl, hN⟩ := hz rfl
    have fl := hs.1
    have z1 := hF.lo
    have z3 := hF.hi
    have zl := hF.len
    have b8 := hT.le
    have ab := hT.len
    have cP := polynomials_c z f hF hs
    have cU := pointStart_c y hy
    have cS := slopes_c A B f (poS y) hT hF hs (by rw [poS_len]; exact hl) (poS_row hN)
    have xr := sloS_row (A := A) (f := f) (start := poS y) (by simp; omega) 7
    rw [poS_len] at cS xr
    have xl := sloS_len A f (poS y) 7
    rw [if_pos rfl, List.length_map, xl]
    generalize sloS A f (poS y) 7 = X at *
    refine con_of_vc Tryz.mixed ⟨12, [25], [], []⟩ Tryz.func8 (by decide) rfl (by simp) (by decide) (by simp [freshOK, freshL, go_sem]) ?_
    rw [Tryz.ntmps8]
    simp [go_sem]
    refine CallVC.of (c1) (by decide) ?_
    simp [go_sem]
    refine ⟨by kernel_rfl, ?_⟩
    refine CallD.of (cP) (by simp [roots, rootsL]) (by decide) ?_
    simp [go_sem]
    refine CallD.of (cU) (by simp [roots, rootsL]) (by decide) ?_
    simp [go_sem]
    refine CallD.of (cS) (by simp [go_sem, roots, rootsL]) (by decide) ?_
    simp [go_sem]
    refine ⟨by kernel_rfl, ?_⟩
    simp [go_sem]
    refine loop_inv (9 :: 11 :: List.range' 27 10) (fun i : Nat => [(9, .own 24 i (ocube ((X.take i).map turnS))), (27, .int i)]) (fun i => i ≤ A.length) (fun i => A.length - i) 0 (by simp) (by simp [go_sem, ocube_nil]) (by simp [go_sem]) ?_
    intro i hi
    simp [go_sem]
    refine ⟨fun h => ?_, fun h => ?_⟩ <;> simp at h
    · have hif : i < X.length := by omega
      have hm := xr (X[i]?.getD []) (getD_mem _ hif)
      have h0 := getD_mem (i := 0) [] (l := X[i]?.getD []) (by omega)
      have r0 := (hm.2 _ h0).1
      have ht := ocube_map_take (g := turnS) hif
      have cT := turned_c (X[i]?.getD []) (by omega) (by omega) (fun r h => by have := (hm.2 r h).1; omega) (by omega)
      simp [go_sem, cube_drop hif]
      refine ⟨⟨by omega, by rintro rfl; simp at hif⟩, ?_⟩
      refine CallVC.of (cT) (by decide) ?_
      simp [go_sem]
      refine ⟨⟨by omega, by omega⟩, by omega, i + 1, by omega, by omega, Off_reset _ _ _ (by simp), ?_, by omega⟩
      simp only [List.map_take] at ht ⊢
      rw [ht, turnS_len]; trivial
    · have e : i = A.length := by omega
      subst e
      simp [go_sem]
      rw [← xl]
      first | done | (simp; done) | (rw [List.take_of_length_le (by simp)])
  · rw [if_neg he]
    refine Con.n1 _ ?_
    refine con_of_vc Tryz.mixed ⟨12, [], [], []⟩ Tryz.func8 (by decide) rfl (by simp) (by decide) (by simp [freshOK, freshL, go_sem]) ?_
    rw [Tryz.ntmps8]
    simp [go_sem]
    refine CallVC.of (c1) (by decide) ?_
    simp [go_sem]
    simp [go_sem, he]
set_option maxRecDepth 100000 in
theorem specStageSeries_c (A : List (List Int)) (B : List Int) (z : Int) (f : List (List Mon)) (y : List Int) (hA : A.length ≤ 1048576) (hB : B.length ≤ 1048576) (hr : ∀ r ∈ A, r.length ≤ 1048576) (hs : Small f) (hy : y.length ≤ 1048576) :
    Con Tryz.prog 9 [.agg [.sl A.length (mat A), .sl B.length (avs B)], .agg [.int z, .sl f.length (prt f)], .sl y.length (avs y)] (sgR A B z f y) := by
  have c1 := l15Code_c A B z f y hA hB hr hs hy
  unfold sgR sgX
  have hz := @stE_ok A B z f y
  generalize stE A B z f y = e at *
  by_cases he : e = 0
  · subst he
    obtain ⟨hT, hF, hl, hN⟩ := hz rfl
    have fl := hs.1
    have z1 := hF.lo
    have z3 := hF.hi
    have zl := hF.len
    have b8 := hT.le
    have ab := hT.len
    have cU := l14Start_c y hy
    have v0 : (stV y)[0]?.getD [] = y := rfl
    have cV := l14Turn_c (stV y) (by simp) (by simp) (fun r h => by rw [v0]; exact (stV_row hN r h).1) (by rw [v0]; omega)
    rw [turn_stV, stV_len, poS_len] at cV
    have cS := l15Slopes_c A B f (poS y) hT hF hs (by rw [poS_len]; exact hl) (poS_row hN)
    have xr := sloS_row (A := A) (f := f) (start := poS y) (by simp; omega) 7
    rw [poS_len] at cS xr
    have xl := sloS_len A f (poS y) 7
    rw [if_pos rfl, List.length_map, xl]
    generalize sloS A f (poS y) 7 = X at *
    refine con_of_vc Tryz.mixed ⟨12, [24], [], []⟩ Tryz.func9 (by decide) rfl (by simp) (by decide) (by simp [freshOK, freshL, go_sem]) ?_
    rw [Tryz.ntmps9]
    simp [go_sem]
    refine CallVC.of (c1) (by decide) ?_
    simp [go_sem]
    refine ⟨by kernel_rfl, ?_⟩
    refine CallD.of (cU) (by simp [roots, rootsL]) (by decide) ?_
    simp [go_sem]
    refine CallD.of (cV) (by simp [roots, rootsL]) (by decide) ?_
    simp [go_sem]
    refine CallD.of (cS) (by simp [go_sem, roots, rootsL]) (by decide) ?_
    simp [go_sem]
    refine ⟨by kernel_rfl, ?_⟩
    simp [go_sem]
    refine loop_inv (10 :: 11 :: List.range' 26 14) (fun i : Nat => [(10, .own 24 i (ocube ((X.take i).map turnS))), (11, .int i)]) (fun i => i ≤ A.length) (fun i => A.length - i) 0 (by simp) (by simp [go_sem, ocube_nil]) (by simp [go_sem]) ?_
    intro i hi
    simp [go_sem]
    refine ⟨fun h => ?_, fun h => ?_⟩ <;> simp at h
    · have hif : i < X.length := by omega
      have hm := xr (X[i]?.getD []) (getD_mem _ hif)
      have h0 := getD_mem (i := 0) [] (l := X[i]?.getD []) (by omega)
      have r0 := (hm.2 _ h0).1
      have ht := ocube_map_take (g := turnS) hif
      have cT := l14Turn_c (X[i]?.getD []) (by omega) (by omega) (fun r h => by have := (hm.2 r h).1; omega) (by omega)
      simp [go_sem, cube_drop hif]
      refine ⟨⟨by omega, by rintro rfl; simp at hif⟩, ?_⟩
      refine CallVC.of (cT) (by decide) ?_
      simp [go_sem]
      refine ⟨⟨by omega, by omega⟩, by omega, i + 1, by omega, by omega, Off_reset _ _ _ (by simp), ?_, by omega⟩
      simp only [List.map_take] at ht ⊢
      rw [ht, turnS_len]; trivial
    · have e : i = A.length := by omega
      subst e
      simp [go_sem]
      rw [← xl]
      first | done | (simp; done) | (rw [List.take_of_length_le (by simp)])
  · rw [if_neg he]
    refine Con.n1 _ ?_
    refine con_of_vc Tryz.mixed ⟨12, [], [], []⟩ Tryz.func9 (by decide) rfl (by simp) (by decide) (by simp [freshOK, freshL, go_sem]) ?_
    rw [Tryz.ntmps9]
    simp [go_sem]
    refine CallVC.of (c1) (by decide) ?_
    simp [go_sem]
    simp [go_sem, he]
end Go.Proofs.YtmojbncbbnjblaaGreat


namespace Go.Proofs.YtmojbncbbnjblaaGreat
open Go.Abs
set_option linter.unusedVariables false
set_option linter.unusedSimpArgs false
set_option maxHeartbeats 1000000
theorem pwS_0 (s x : List Int) (hs : 0 < s.length) : ∀ n, (pwS s x n)[0]?.getD 0 % 10007 = s[0]?.getD 0 * (x[0]?.getD 0) ^ n % 10007
  | 0 => by rw [pwS, Int.pow_zero, Int.mul_one]
  | n + 1 => by
    have ih := pwS_0 s x hs n
    have e : (pwS s x (n + 1))[0]?.getD 0 = (pwS s x n)[0]?.getD 0 * x[0]?.getD 0 % 10007 := by
      show (mulS (pwS s x n) x)[0]?.getD 0 = _
      unfold mulS
      rw [tb_get _ (by rw [pwS_len]; exact hs)]
      simp [cv]
    rw [e, Int.emod_emod_of_dvd _ (Int.dvd_refl _), Int.mul_emod, ih, ← Int.mul_emod, Int.pow_succ, Int.mul_assoc]
theorem teS_0 {L : List (List Int)} {y e : List Int} {x : Int} (hL : ∀ i : Nat, (L[i]?.getD [])[0]?.getD 0 = y[i]?.getD 0) : ∀ n, (teS L e (unS x) n)[0]?.getD 0 % 10007 = tmF y e x n % 10007
  | 0 => rfl
  | n + 1 => by
    have ih := teS_0 (e := e) (x := x) hL n
    rw [teS, tmF, Int.emod_emod_of_dvd _ (Int.dvd_refl _), pwS_0 _ _ (by rw [teS_len]; simp [unS]), hL n, Int.mul_emod, ih, ← Int.mul_emod]
    unfold pw
    rw [Int.mul_emod (tmF y e x n) (_ % 10007), Int.emod_emod_of_dvd _ (Int.dvd_refl _), ← Int.mul_emod]
theorem voS_0 {L : List (List Int)} {y : List Int} (hl : L.length = y.length) (hL : ∀ i : Nat, (L[i]?.getD [])[0]?.getD 0 = y[i]?.getD 0) : ∀ p : List Mon, voS L 0 p % 10007 = vsum y p % 10007
  | [] => rfl
  | m :: p => by
    rw [voS, vsum, Int.add_emod, voS_0 hl hL p, teS_0 hL, ← Int.add_emod, hl]
theorem slo_first {A : List (List Int)} {f : List (List Mon)} {y : List Int} (hy : Ns y) (hl : f.length = y.length) (n i : Nat) (hi : i < A.length) :
    colS ((sloS A f (poS y) (n + 1))[i]?.getD []) 0 = evL y f := by
  rw [sloS_at f (poS y) n hi]
  generalize hM : mvS (poS y) (A[i]?.getD []) (sloS A f (poS y) n) (A[i]?.getD []).length = M
  have Ml : M.length = y.length := by rw [← hM, mvS_len, poS_len]
  have M0 : ∀ k : Nat, (M[k]?.getD [])[0]?.getD 0 = y[k]?.getD 0 := fun k => by
    rcases Nat.lt_or_ge k y.length with hk | hk
    · rw [← hM, mvS_first (start := poS y) (c := A[i]?.getD []) (L := sloS A f (poS y) n) (poS_row hy) _ k (by rw [poS_len]; exact hk), poS_at hk]; rfl
    · have e1 : M[k]? = none := List.getElem?_eq_none (by omega)
      have e2 : y[k]? = none := List.getElem?_eq_none (by omega)
      rw [e1, e2]; rfl
  refine List.ext_getElem (by simp [fdS]) fun k h1 h2 => ?_
  have hk : k < f.length := by simpa using h2
  have e1 : (fdS M f)[k]?.getD [] = evS M (f[k]?.getD []) := by simp [fdS, hk]
  have e2 : (colS (fdS M f) 0)[k]?.getD 0 = (evS M (f[k]?.getD []))[0]?.getD 0 := by
    unfold colS
    rw [tb_get _ (by simp [fdS, hk]), e1]
  rw [List.getElem?_eq_getElem h1, Option.getD_some] at e2
  rw [e2]
  unfold evS
  rw [tb_get _ (by omega), voS_0 Ml M0]
  simp [evL, hk]
def slT (z n : Nat) (X : List (List (List Int))) (B : List Int) : Nat → List Int
  | 0 => List.replicate z 0
  | i + 1 => pl5 (slT z n X B i) (tm5 (((X[i]?.getD [])[n]?.getD [])) (B[i]?.getD 0))
theorem slT_len (z n : Nat) (X : List (List (List Int))) (B : List Int) : ∀ i, (slT z n X B i).length = z
  | 0 => by simp [slT]
  | i + 1 => by rw [slT, pl5_len, slT_len z n X B i]
theorem slT_N (z n : Nat) (X : List (List (List Int))) (B : List Int) : ∀ i, Ns (slT z n X B i)
  | 0 => fun x hx => by
    rw [slT, List.mem_replicate] at hx
    rw [hx.2]; exact ⟨by omega, by omega⟩
  | i + 1 => pl5_N _ _
theorem step_sum {A : List (List Int)} {B : List Int} {f : List (List Mon)} {y : List Int} (hy : Ns y) (hl : f.length = y.length) (y1 : 1 ≤ y.length) (hAB : A.length = B.length) {n : Nat} (hn : n < 6) :
    (turnS (steS A B f (poS y)))[n + 1]?.getD [] = slT y.length n ((sloS A f (poS y) 7).map turnS) B B.length := by
  have srow := sloS_row (A := A) (start := poS y) (f := f) (by rw [poS_len]; exact hl) 7
  have gen : ∀ i, i ≤ B.length → ∀ k, k < y.length → (slT y.length n ((sloS A f (poS y) 7).map turnS) B i)[k]?.getD 0 = ((mvS (poS y) B (sloS A f (poS y) 7) i)[k]?.getD [])[n + 1]?.getD 0 := by
    intro i
    induction i with
    | zero =>
      intro _ k hk
      rw [mvS, poS_at hk, slT]
      have h6 : n + 1 < 7 := by omega
      have e : (unS (y[k]?.getD 0))[n + 1]?.getD 0 = 0 := by
        have : n = 0 ∨ n = 1 ∨ n = 2 ∨ n = 3 ∨ n = 4 ∨ n = 5 := by omega
        rcases this with rfl | rfl | rfl | rfl | rfl | rfl <;> rfl
      rw [e]; simp [hk]
    | succ i ih =>
      intro hi k hk
      have hk2 : k < (poS y).length := by rw [poS_len]; exact hk
      have hm := mvS_row (c := B) (L := sloS A f (poS y) 7) (poS_row hy) i _ (memD [] (show k < (mvS (poS y) B (sloS A f (poS y) 7) i).length by rw [mvS_len]; exact hk2))
      have e : (mvS (poS y) B (sloS A f (poS y) 7) (i + 1))[k]?.getD [] = plusS ((mvS (poS y) B (sloS A f (poS y) 7) i)[k]?.getD []) (raiS (((sloS A f (poS y) 7)[i]?.getD [])[k]?.getD [])) (B[i]?.getD 0) := by
        simp only [mvS]
        simp [hk]
      have sl : (sloS A f (poS y) 7).length = A.length := by simp [sloS]
      have hi2 : i < (sloS A f (poS y) 7).length := by omega
      have hS := srow _ (memD [] hi2)
      have hSl : ((sloS A f (poS y) 7)[i]?.getD []).length = y.length := by rw [hS.1, poS_len]
      have hS7 := (hS.2 _ (memD [] (show k < ((sloS A f (poS y) 7)[i]?.getD []).length by omega))).1
      have hS0 := (hS.2 _ (memD [] (show 0 < ((sloS A f (poS y) 7)[i]?.getD []).length by omega))).1
      rw [e]
      unfold plusS
      rw [tb_get _ (by omega), ← ih (by omega) k hk]
      have r : (raiS (((sloS A f (poS y) 7)[i]?.getD [])[k]?.getD []))[n + 1]?.getD 0 = (((sloS A f (poS y) 7)[i]?.getD [])[k]?.getD [])[n]?.getD 0 := by
        unfold raiS
        rw [tb_get _ (by omega), if_neg (by omega)]; rfl
      rw [r, slT]
      have e3 : (((sloS A f (poS y) 7).map turnS)[i]?.getD []) = turnS ((sloS A f (poS y) 7)[i]?.getD []) := by rw [List.getElem?_map, List.getElem?_eq_getElem hi2]; rfl
      rw [e3]
      have e4 : (turnS ((sloS A f (poS y) 7)[i]?.getD []))[n]?.getD [] = colS ((sloS A f (poS y) 7)[i]?.getD []) n := by
        have : n < (((sloS A f (poS y) 7)[i]?.getD [])[0]?.getD []).length := by omega
        simp [turnS, this]
      rw [e4, pl5_get (by rw [slT_len]; exact hk), tm5_get (by rw [colS_len]; omega)]
      have e5 : (colS ((sloS A f (poS y) 7)[i]?.getD []) n)[k]?.getD 0 = (((sloS A f (poS y) 7)[i]?.getD [])[k]?.getD [])[n]?.getD 0 := by
        unfold colS; exact tb_get _ (by omega)
      rw [e5]
      generalize (((sloS A f (poS y) 7)[i]?.getD [])[k]?.getD [])[n]?.getD 0 = u
      generalize (slT y.length n ((sloS A f (poS y) 7).map turnS) B i)[k]?.getD 0 = v
      rw [Int.add_emod v (u * _ % 10007), Int.emod_emod_of_dvd _ (Int.dvd_refl _), ← Int.add_emod, Int.add_emod v (B[i]?.getD 0 % 10007 * u), Int.mul_emod (B[i]?.getD 0 % 10007), Int.emod_emod_of_dvd _ (Int.dvd_refl _), ← Int.mul_emod, ← Int.add_emod, Int.mul_comm u]
  have st := steS_row (A := A) (B := B) (f := f) (poS_row hy)
  have sl : (steS A B f (poS y)).length = y.length := by rw [steS_len, poS_len]
  have s0 := (st _ (memD (i := 0) [] (show 0 < (steS A B f (poS y)).length by omega))).1
  have e0 : (turnS (steS A B f (poS y)))[n + 1]?.getD [] = colS (steS A B f (poS y)) (n + 1) := by
    have : n + 1 < ((steS A B f (poS y))[0]?.getD []).length := by omega
    simp [turnS, this]
  rw [e0]
  refine List.ext_getElem (by rw [colS_len, slT_len, sl]) fun k h1 h2 => ?_
  have hk : k < y.length := by rw [slT_len] at h2; exact h2
  have g := gen B.length (Nat.le_refl _) k hk
  rw [List.getElem?_eq_getElem h2, Option.getD_some] at g
  have e5 : (colS (steS A B f (poS y)) (n + 1))[k]?.getD 0 = ((steS A B f (poS y))[k]?.getD [])[n + 1]?.getD 0 := by
    unfold colS; exact tb_get _ (by omega)
  rw [List.getElem?_eq_getElem h1, Option.getD_some] at e5
  rw [e5, g]; rfl
theorem step_first {A : List (List Int)} {B : List Int} {f : List (List Mon)} {y : List Int} (hy : Ns y) (y1 : 1 ≤ y.length) : (turnS (steS A B f (poS y)))[0]?.getD [] = y := by
  have st := steS_row (A := A) (B := B) (f := f) (poS_row hy)
  have sl : (steS A B f (poS y)).length = y.length := by rw [steS_len, poS_len]
  have s0 := (st _ (memD (i := 0) [] (show 0 < (steS A B f (poS y)).length by omega))).1
  have e0 : (turnS (steS A B f (poS y)))[0]?.getD [] = colS (steS A B f (poS y)) 0 := by
    have : 0 < ((steS A B f (poS y))[0]?.getD []).length := by omega
    simp [turnS, this]
  rw [e0]
  refine List.ext_getElem (by rw [colS_len, sl]) fun k h1 h2 => ?_
  have e5 : (colS (steS A B f (poS y)) 0)[k]?.getD 0 = ((steS A B f (poS y))[k]?.getD [])[0]?.getD 0 := by
    unfold colS; exact tb_get _ (by omega)
  rw [List.getElem?_eq_getElem h1, Option.getD_some] at e5
  rw [e5]
  unfold steS
  rw [mvS_first (poS_row hy) _ k (by rw [poS_len]; exact h2), poS_at h2]
  simp [unS, h2]
end Go.Proofs.YtmojbncbbnjblaaGreat


namespace Go.Proofs.YtmojbncbbnjblaaGreat
open Go.Abs
set_option linter.unusedVariables false
set_option linter.unusedSimpArgs false
set_option maxHeartbeats 4000000
theorem DrS.small2 {z : Int} {f : List (List Mon)} (h : DrS z f) : Small f := ⟨by have := h.2.2.1; omega, fun p hp => ⟨by have := (h.2.2.2 p hp).1; omega, fun q hq => by have := (h.2.2.2 p hp).2 q hq; omega⟩⟩
theorem evE_ok {z : Int} {f : List (List Mon)} {y : List Int} (hF : FieldOk z f) (hl : (y.length : Int) = z) (hy : Ns y) : evE z f y = 0 ∧ evX z f y = evL y f := by
  have h1 := fieldB_iff.2 hF
  have h2 := numsB_N.2 hy
  constructor
  · unfold evE; rw [if_pos h1, decide_eq_true hl, h2]; rfl
  · unfold evX; rw [if_pos ⟨h1, by rw [decide_eq_true hl, h2]; rfl⟩]
set_option maxRecDepth 100000 in
theorem FnSlopes_c (c : List Int) (hl : c.length ≤ 9223372036854775807) (hb : ∀ x ∈ c, 0 ≤ x ∧ x ≤ 255) : Con Tryz.prog 3 [.sl c.length (bys c)] (.bool true) := by
  have cB := big_c c hl
  by_cases hc4 : 4096 < c.length
  · refine con_of_vc Tryz.mixed ⟨19, [], [2000000 + 7], []⟩ Tryz.func3 (by decide) rfl (by simp) (by decide) (by simp [freshOK, freshL, go_sem]) ?_
    rw [Tryz.ntmps3]
    simp [go_sem]
    refine CallVC.of (cB) (by decide) ?_
    simp [go_sem]
    simp [go_sem, hc4]
  · have hc : Byt c := ⟨by omega, hb⟩
    have cD := DrawStageSeries_r c hc
    refine con_of_vc Tryz.mixed ⟨19, [], [2000000 + 7], []⟩ Tryz.func3 (by decide) rfl (by simp) (by decide) (by simp [freshOK, freshL, go_sem]) ?_
    rw [Tryz.ntmps3]
    simp [go_sem]
    refine CallVC.of (cB) (by decide) ?_
    simp [go_sem]
    simp [go_sem, hc4]
    refine ⟨_, cD, ?_⟩
    rintro _ _ ⟨rfl, A, B, z, f, y, hz, hD, hy, rfl⟩
    obtain ⟨z1, z2, z3⟩ := hz
    have hS := hD.small2
    have c1 := StageSeries_c A B z f y (by omega) (by omega) (fun r h => by have := z3 r h; omega) hS (by omega)
    have c2 := specStageSeries_c A B z f y (by omega) (by omega) (fun r h => by have := z3 r h; omega) hS (by omega)
    have c3 := StepSeries_c A B z f y (by omega) (by omega) (fun r h => by have := z3 r h; omega) hS (by omega)
    have c4 := EvaluateField_c z f y hS (by omega)
    have gok := sgX_ok A B z f y
    unfold sgR at c1 c2
    unfold ssR at c3
    unfold evR at c4
    simp [go_sem]
    refine CallVC.of (c1) (by decide) ?_
    simp [go_sem]
    refine CallVC.of (c2) (by decide) ?_
    simp [go_sem]
    refine loop_inv (2 :: 10 :: List.range' 51 16) (fun i : Nat => [(10, .int i)]) (fun i => i ≤ (sgX A B z f y).length) (fun i => (sgX A B z f y).length - i) 0 (by simp) (by simp [go_sem]) (by simp [go_sem]) ?_
    intro i hi
    by_cases hiX : i < (sgX A B z f y).length
    · have hii : (i : Int) < (sgX A B z f y).length := by omega
      have og := ocube_get hiX
      have mem := getD_mem (l := sgX A B z f y) [] hiX
      have g2 := gok.2 _ mem
      have cR := likeRows5_c ((sgX A B z f y)[i]?.getD []) ((sgX A B z f y)[i]?.getD []) (by omega) (fun r hr => by have := g2.2 r hr; omega)
      simp only [decide_true] at cR
      generalize (sgX A B z f y)[i]?.getD [] = row at *
      simp [go_sem, hii, og]
      refine ⟨by kernel_rfl, ?_⟩
      refine CallD.of (cR) (by simp [roots, rootsL]) (by decide) ?_
      simp [go_sem]
      refine ⟨by kernel_rfl, ?_⟩
      simp [go_sem]
      exact ⟨⟨by omega, by omega⟩, i + 1, by omega, by omega, Off_reset _ _ _ (by simp), by omega⟩
    · have hii : ¬ (i : Int) < (sgX A B z f y).length := by omega
      simp [go_sem, hii]
      by_cases hE : stE A B z f y = 0
      · obtain ⟨tab, hF, hyl, hyN⟩ := stE_ok hE
        have y1 : 1 ≤ y.length := by have := hF.lo; omega
        have hfl : f.length = y.length := by have := hF.len; omega
        have eX : sgX A B z f y = (sloS A f (poS y) 7).map turnS := by unfold sgX; rw [if_pos hE]
        have eS : ssX A B z f y = turnS (steS A B f (poS y)) := by unfold ssX; rw [if_pos hE]
        have ev := evE_ok hF hyl hyN
        have law1 := fun n (hn : n < 6) => step_sum (A := A) (B := B) (f := f) hyN hfl y1 tab.len hn
        have law2 := step_first (A := A) (B := B) (f := f) hyN y1
        have law3 := fun i (hi : i < A.length) => slo_first (f := f) hyN hfl 6 i hi
        have Xl : ((sloS A f (poS y) 7).map turnS).length = B.length := by simp [sloS, tab.len]
        have X7 : ∀ i, i < B.length → (((sloS A f (poS y) 7).map turnS)[i]?.getD []).length = 7 ∧ ∀ r ∈ ((sloS A f (poS y) 7).map turnS)[i]?.getD [], r.length = y.length ∧ Ns r := fun i hi => by
          have hs := sloS_row (A := A) (start := poS y) (f := f) (by rw [poS_len]; exact hfl) 7
          have hi2 : i < (sloS A f (poS y) 7).length := by simpa using (show i < ((sloS A f (poS y) 7).map turnS).length by omega)
          have hm := hs _ (getD_mem (l := sloS A f (poS y) 7) [] hi2)
          have e : ((sloS A f (poS y) 7).map turnS)[i]?.getD [] = turnS ((sloS A f (poS y) 7)[i]?.getD []) := by rw [List.getElem?_map, List.getElem?_eq_getElem hi2]; rfl
          rw [e]
          exact slo_turn (f := f) (m := (sloS A f (poS y) 7)[i]?.getD []) y1 ⟨by rw [hm.1, poS_len], hm.2⟩
        have X0 : ∀ i, i < B.length → ((((sloS A f (poS y) 7).map turnS)[i]?.getD [])[0]?.getD []) = evL y f := fun i hi => by
          have hi2 : i < (sloS A f (poS y) 7).length := by simpa using (show i < ((sloS A f (poS y) 7).map turnS).length by omega)
          have hs := sloS_row (A := A) (start := poS y) (f := f) (by rw [poS_len]; exact hfl) 7
          have hm := hs _ (getD_mem (l := sloS A f (poS y) 7) [] hi2)
          have e : ((sloS A f (poS y) 7).map turnS)[i]?.getD [] = turnS ((sloS A f (poS y) 7)[i]?.getD []) := by rw [List.getElem?_map, List.getElem?_eq_getElem hi2]; rfl
          have h0 : 0 < ((sloS A f (poS y) 7)[i]?.getD []).length := by rw [hm.1, poS_len]; omega
          have h7 := (hm.2 _ (getD_mem (l := (sloS A f (poS y) 7)[i]?.getD []) [] h0)).1
          rw [e, ← law3 i (by rw [tab.len]; exact hi)]
          have : 0 < (((sloS A f (poS y) 7)[i]?.getD [])[0]?.getD []).length := by omega
          simp [turnS, this]
        have St := steS_row (A := A) (B := B) (f := f) (poS_row hyN)
        have Sl : (steS A B f (poS y)).length = y.length := by rw [steS_len, poS_len]
        have tS := slo_turn (f := f) (m := steS A B f (poS y)) y1 ⟨Sl, St⟩
        have evN : (evL y f).length = y.length := by simp [hfl]
        have evNs : Ns (evL y f) := fun x hx => by
          obtain ⟨p, _, rfl⟩ := List.mem_map.1 hx
          exact isN_mod _
        have BN := tab.b
        have B8 := tab.le
        rw [eS, hE] at c3
        rw [ev.1, ev.2] at c4
        rw [eX]
        generalize (sloS A f (poS y) 7).map turnS = X at *
        generalize turnS (steS A B f (poS y)) = S at *
        generalize evL y f = V at *
        have gS0 := omat_get (A := S) (k := 0) (by omega)
        rw [law2] at gS0
        have S7 : (S.length : Int) = 7 := by omega
        have cY := likeInts_c y y (by omega)
        simp only [decide_true] at cY
        simp [go_sem, hE]
        refine CallVC.of (c3) (by decide) ?_
        simp [go_sem]
        refine CallVC.of (c4) (by decide) ?_
        simp [go_sem]
        simp [go_sem, S7, gS0, -getElem?_pos]
        refine CallVC.of (cY) (by decide) ?_
        simp [go_sem]
        refine loop_inv (2 :: List.range' 15 3 ++ List.range' 101 36) (fun n : Nat => [(15, .int n)]) (fun n => n ≤ 6) (fun n => 6 - n) 0 (by simp) (by simp [go_sem]) (by simp [go_sem]) ?_
        intro n hn
        by_cases hn6 : n < 6
        · have f1 : (n : Int) < 6 := by omega
          have hz0 : z = ((y.length : Nat) : Int) := hyl.symm
          have e0 : avs (slT y.length n X B 0) = List.replicate y.length (AV.val (.int .i64 0)) := by rw [slT, avs_repl]
          simp [go_sem, f1, hz0]
          refine ⟨⟨by omega, by omega⟩, ?_⟩
          refine loop_inv (16 :: 17 :: List.range' 108 21) (fun i : Nat => [(16, .own 2 y.length (avs (slT y.length n X B i))), (17, .int i)]) (fun i => i ≤ B.length) (fun i => B.length - i) 0 (by simp) (by simp [go_sem, e0]) (by simp [go_sem]) ?_
          intro i hi
          by_cases hiB : i < B.length
          · have hii : (i : Int) < X.length := by omega
            have hiX : i < X.length := by omega
            have og := ocube_get hiX
            have x7 := X7 i hiB
            have hnr : n < (X[i]?.getD []).length := by omega
            have om := omat_get hnr
            have xr := x7.2 _ (getD_mem (l := X[i]?.getD []) [] hnr)
            have dB := avs_drop hiB
            rw [List.getD_eq_getElem?_getD] at dB
            have nB := BN.get i
            have sN := slT_N y.length n X B i
            have sl := slT_len y.length n X B i
            have ss : slT y.length n X B (i + 1) = pl5 (slT y.length n X B i) (tm5 ((X[i]?.getD [])[n]?.getD []) (B[i]?.getD 0)) := rfl
            have ne : ¬ B = [] := by rintro rfl; simp at hiB
            generalize hnw : slT y.length n X B (i + 1) = new at *
            generalize slT y.length n X B i = old at *
            generalize (X[i]?.getD [])[n]?.getD [] = w at *
            generalize B[i]?.getD 0 = b at *
            have cT := times5_c w b (by omega) xr.2 nB
            have cP := plus5_c old (tm5 w b) (by omega) (by rw [tm5_len]; omega) sN (tm5_N _ _)
            rw [← ss, tm5_len] at cP
            rw [xr.1] at cT cP om
            rw [sl] at cP
            simp [go_sem, hii, og, om, dB]
            refine ⟨by kernel_rfl, hnr, ⟨by omega, ne⟩, ?_⟩
            refine CallD.of (cT) (by simp [roots, rootsL]) (by decide) ?_
            simp [go_sem]
            refine CallD.of (cP) (by simp [roots, rootsL]) (by decide) ?_
            simp [go_sem]
            refine ⟨by kernel_rfl, ?_⟩
            simp [go_sem]
            exact ⟨⟨by omega, by omega⟩, i + 1, by omega, by omega, Off_reset _ _ _ (by simp), by rw [hnw], by omega⟩
          · have e : i = B.length := by omega
            have hii : ¬ (i : Int) < X.length := by omega
            have hS1 : n + 1 < S.length := by omega
            have oS := omat_get hS1
            have lw := law1 n hn6
            rw [lw] at oS
            have sl := slT_len y.length n X B B.length
            rw [e] at hii ⊢
            generalize slT y.length n X B B.length = T at *
            have cT := likeInts_c T T (by omega)
            simp only [decide_true] at cT
            rw [sl] at cT oS
            simp [go_sem, hii, oS]
            refine ⟨⟨by omega, by omega⟩, ⟨by omega, by omega⟩, ?_⟩
            refine CallVC.of (cT) (by decide) ?_
            simp [go_sem]
            exact ⟨⟨by omega, by omega⟩, n + 1, by omega, by omega, (Off.reset (by intro x hx; simp at hx ⊢; omega) (by simp) (by simp [go_sem, Off_reset])), by omega⟩
        · have f1 : ¬ (n : Int) < 6 := by omega
          simp [go_sem, f1]
          refine loop_inv (2 :: 18 :: List.range' 137 15) (fun i : Nat => [(18, .int i)]) (fun i => i ≤ B.length) (fun i => B.length - i) 0 (by simp) (by simp [go_sem]) (by simp [go_sem]) ?_
          intro i hi
          by_cases hiB : i < B.length
          · have hii : (i : Int) < X.length := by omega
            have hiX : i < X.length := by omega
            have og := ocube_get hiX
            have x7 := X7 i hiB
            have hnr : 0 < (X[i]?.getD []).length := by omega
            have om := omat_get hnr
            rw [X0 i hiB] at om
            have cT := likeInts_c V V (by omega)
            simp only [decide_true] at cT
            simp [go_sem, hii, og, om]
            refine ⟨hnr, ?_⟩
            refine CallVC.of (cT) (by decide) ?_
            simp [go_sem]
            exact ⟨⟨by omega, by omega⟩, i + 1, by omega, by omega, Off_reset _ _ _ (by simp), by omega⟩
          · have hii : ¬ (i : Int) < X.length := by omega
            simp [go_sem, hii]
      · simp [go_sem, hE]
end Go.Proofs.YtmojbncbbnjblaaGreat

