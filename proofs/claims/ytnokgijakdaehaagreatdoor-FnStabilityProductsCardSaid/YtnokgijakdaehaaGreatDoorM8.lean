/- Texts of the own layer and contracts, part 8: N2 N4 Q36 N6 E24 E28 E29 E30 E32 E33 O W2 L44. -/
import Derived.Test.YtnokgijakdaehaaGreatDoorRows
import Derived.WalkKit
import Derived.ProofKit
import Derived.OpenShut
import Derived.Test.YtnokgijakdaehaaGreatDoorM7
namespace Go.Proofs.YtnokgijakdaehaaGreatDoor
open Go.Abs
set_option linter.unusedSectionVars false
set_option linter.unusedVariables false
set_option linter.unusedSimpArgs false
set_option maxHeartbeats 4000000
theorem RepL_avs {P : Program} {w : World} {F : Nat → Prop} : ∀ {zs : List Int} {vs : List Value} {os : List Nat}, RepL P w F (avs zs) vs os → ∀ j, j < zs.length → vs[j]? = some (.int .i64 (zs[j]?.getD 0))
  | [], _, _, _, j, hj => by simp at hj
  | z :: zs, vs, os, h, j, hj => by
    have e : avs (z :: zs) = .val (.int .i64 z) :: avs zs := rfl
    rw [e] at h
    cases h with
    | cons c v o cs vs os' h t =>
      cases h with
      | val _ _ =>
        cases j with
        | zero => rfl
        | succ j => exact RepL_avs t j (by simpa using hj)
theorem back_list {zs : List Int} (hN : Ns zs) : (upto (bkF hN zs.length) zs.length).map (·.2.1) = zs.reverse := by
  refine List.ext_getElem (by simp [upto]) fun k h1 h2 => ?_
  have hk : k < zs.length := by simpa using h2
  have h3 : zs.length - 1 - k < zs.length := by omega
  simp [upto, bkF, h3]
theorem valueOfPolynomial_c (zs : List Int) (z : Int) (h1 : 1 ≤ zs.length) (h2 : zs.length ≤ 1000) (hN : Ns zs) (hz : isN z) :
    Con Tryz.prog 62 [.sl zs.length (avs zs), .int z] (.int (hor z zs.reverse)) := by
  refine ⟨⟨_, Tryz.func62, by decide, rfl⟩, fun w vs hl ha => ?_⟩
  have k := ha (fun _ => undef) (fun _ => [])
  generalize hoz : ([] : List Nat) = oz at k
  cases k with
  | cons c v o cs vs os hc ht =>
    cases ht with
    | cons c2 v2 o2 cs2 vs2 os2 hc2 ht2 =>
      have e2 : vs2 = [] := by simpa using hl
      subst e2
      cases hc2 with
      | cell _ _ _ hc2 =>
        cases hc2 with
        | val _ _ =>
          generalize hn : zs.length = n at hc
          generalize hcs : avs zs = ac at hc
          cases hc with
          | cell _ _ _ hc =>
            cases hc with
            | sl0 base cap => omega
            | sl b off n cap cc e fr cs hF hb hlr hn2 =>
              subst hn; subst hcs
              have cells : ∀ j, j < zs.length → w.cell? ⟨b, off + j, none⟩ = some (.int .i64 (zs[j]?.getD 0)) := fun j hj => by
                have := RepL_avs hlr j hj
                rw [List.getElem?_drop, Array.getElem?_toList] at this
                simp [World.cell?, hb, this]
              refine (valueOfPolynomial_calls zs z b off cap w (by omega) hF cells hN hz).mono ?_
              rintro e w' ⟨rfl, hB⟩
              rw [back_list]
              exact ⟨_, [], rfl, ⟨hB.os, hB.tape, hB.output, hB.size, hB.block, by rw [show dK = 0 from rfl]; omega⟩, fun tm oss => .cell _ _ _ (.val _ rfl), List.nodup_nil, by simp⟩
def atS (z : Int) (p : List Int) : Nat → Int
  | 0 => 0
  | k + 1 => (atS z p k + p[k]?.getD 0 * pw z k % 10007) % 10007
theorem atS_N (z : Int) (p : List Int) : ∀ k, isN (atS z p k)
  | 0 => ⟨by simp [atS], by simp [atS]⟩
  | k + 1 => isN_mod _
theorem hor_dsum (z : Int) : ∀ l : List Int, hor z l.reverse % 10007 = dsum (fun i => l[i]?.getD 0 * z ^ i) l.length % 10007
  | [] => rfl
  | a :: l => by
    have ih := hor_dsum z l
    rw [List.reverse_cons, hor_snoc, List.length_cons, dsum_shift, Int.emod_emod_of_dvd _ (Int.dvd_refl _)]
    have e : dsum (fun i => (a :: l)[i + 1]?.getD 0 * z ^ (i + 1)) l.length = z * dsum (fun i => l[i]?.getD 0 * z ^ i) l.length := by
      rw [dsum_mul]
      refine dsum_congr fun i _ => ?_
      rw [Int.pow_succ]
      show l[i]?.getD 0 * (z ^ i * z) = z * (l[i]?.getD 0 * z ^ i)
      ac_rfl
    rw [e]
    show _ = (a * z ^ 0 + _) % 10007
    rw [Int.pow_zero, Int.mul_one, Int.add_comm a, Int.add_emod, Int.mul_comm, Int.mul_emod, ih, ← Int.mul_emod, ← Int.add_emod]
theorem at_dsum (z : Int) (p : List Int) : ∀ k, atS z p k % 10007 = dsum (fun i => p[i]?.getD 0 * z ^ i) k % 10007
  | 0 => rfl
  | k + 1 => by
    have ih := at_dsum z p k
    rw [atS, dsum, Int.emod_emod_of_dvd _ (Int.dvd_refl _), Int.add_emod, ih, Int.emod_emod_of_dvd _ (Int.dvd_refl _)]
    have e : p[k]?.getD 0 * pw z k % 10007 = p[k]?.getD 0 * z ^ k % 10007 := by
      unfold pw
      rw [Int.toNat_natCast, mul_mod_r]
    rw [e, ← Int.add_emod]
theorem at_hor (z : Int) (p : List Int) : hor z p.reverse = atS z p p.length := by
  have h1 := hor_dsum z p
  rw [← at_dsum] at h1
  have n1 := hor_N z p.reverse
  have n2 := atS_N z p p.length
  have := n1.1; have := n1.2; have := n2.1; have := n2.2
  omega
set_option maxRecDepth 100000 in
theorem l19At_c (p : List Int) (z : Int) (hp : p.length ≤ 1000) (hN : Ns p) (hz : isN z) : Con Tryz.prog 83 [.sl p.length (avs p), .int z] (.int (atS z p p.length)) := by
  refine con_of_vc Tryz.mixed ⟨7, [], [], []⟩ Tryz.func83 (by decide) rfl (by simp) (by decide) (by simp [freshOK, freshL, go_sem]) ?_
  rw [Tryz.ntmps83]
  simp [go_sem]
  refine loop_inv ([5, 6] ++ List.range' 7 16) (fun k : Nat => [(5, .int (atS z p k)), (6, .int k)]) (fun k => k ≤ p.length) (fun k => p.length - k) 0 (by simp) (by simp [go_sem, atS]) (by simp [go_sem]) ?_
  intro k hk
  by_cases hkp : k < p.length
  · have hki : (k : Int) < p.length := by omega
    have dk := avs_drop hkp
    rw [List.getD_eq_getElem?_getD] at dk
    have np := hN.get k
    have ne : ¬ p = [] := by rintro rfl; simp at hkp
    have cP := l01Pow_c z k hz (by omega) (by omega)
    have hw : isN (pw z k) := isN_mod _
    have fm := mul_fits np hw
    have cM := l01Mul_c _ _ fm
    have ns := atS_N z p k
    have nm : isN (p[k]?.getD 0 * pw z k % 10007) := isN_mod _
    have fa := add_fits ns nm
    have cA := l01Add_c _ _ fa
    have ea : atS z p (k + 1) = (atS z p k + p[k]?.getD 0 * pw z k % 10007) % 10007 := rfl
    rw [← ea] at cA
    generalize atS z p k = s at *
    generalize hs' : atS z p (k + 1) = s' at *
    simp [go_sem, hki, dk]
    refine ⟨by kernel_rfl, ne, ?_⟩
    refine CallD.of (cP) (by simp [roots, rootsL]) (by decide) ?_
    simp [go_sem]
    refine CallD.of (cM) (by simp [roots, rootsL]) (by decide) ?_
    simp [go_sem]
    refine CallD.of (cA) (by simp [roots, rootsL]) (by decide) ?_
    simp [go_sem]
    refine ⟨by kernel_rfl, ?_⟩
    simp [go_sem]
    exact ⟨⟨by omega, by omega⟩, k + 1, by omega, by omega, Off_reset _ _ _ (by simp), hs'.symm, by omega⟩
  · have e : k = p.length := by omega
    simp [go_sem, e]
def saB (A : List (List Int)) (B : List Int) (z : Int) : Int := hor z (chL B.length A).reverse
def saE (A : List (List Int)) (B : List Int) (z : Int) : Int := if tabB A B = true then (if 0 ≤ z ∧ z ≤ 10006 then (if saB A B z = 0 then 5 else 0) else 2) else 1
def saX (A : List (List Int)) (B : List Int) (z : Int) : Int := if saE A B z = 0 then hor z (chL B.length (lesM A B)).reverse * pw (saB A B z) 10005 % 10007 else 0
def saR (A : List (List Int)) (B : List Int) (z : Int) : AV := .tup [.int (saX A B z), .int (saE A B z)]
set_option maxRecDepth 100000 in
theorem StabilityAt_c (A : List (List Int)) (B : List Int) (z : Int) (hA : A.length ≤ 1048576) (hr : ∀ r ∈ A, r.length ≤ 1048576) (hB : B.length ≤ 1048576) :
    Con Tryz.prog 12 [.agg [.sl A.length (mat A), .sl B.length (avs B)], .int z] (saR A B z) := by
  have cI := IsTableau_c A B (by omega) (by omega) (fun r h => by have := hr r h; omega)
  have cN := IsNumber_c z
  unfold saR saX saE
  by_cases h : tabB A B = true
  · have hT := tabB_iff.1 h
    rw [h] at cI
    by_cases hz : 0 ≤ z ∧ z ≤ 10006
    · have zN : isN z := ⟨hz.1, by omega⟩
      rw [decide_eq_true hz] at cN
      have cF := fraction_c A B hT
      have b8 := hT.le
      have cQ := valueOfPolynomial_c (chL B.length A) z (by simp) (by simp; omega) (chL_N _ _) zN
      have cP := valueOfPolynomial_c (chL B.length (lesM A B)) z (by simp) (by simp; omega) (chL_N _ _) zN
      rw [chL_len] at cQ cP
      have nQ := hor_N z (chL B.length A).reverse
      have nP := hor_N z (chL B.length (lesM A B)).reverse
      have cV := inv_c _ nQ
      have hw : isN (pw (hor z (chL B.length A).reverse) 10005) := isN_mod _
      have fm := mul_fits nP hw
      have cM := num_c _ fm.1 fm.2
      have hs : saB A B z = hor z (chL B.length A).reverse := rfl
      rw [if_pos h, if_pos hz, hs]
      generalize hor z (chL B.length A).reverse = q at *
      generalize hor z (chL B.length (lesM A B)).reverse = p at *
      by_cases q0 : q = 0
      · rw [if_pos q0]
        refine con_of_vc Tryz.mixed ⟨9, [], [], []⟩ Tryz.func12 (by decide) rfl (by simp) (by decide) (by simp [freshOK, freshL, go_sem]) ?_
        rw [Tryz.ntmps12]
        simp [go_sem]
        refine CallVC.of (cI) (by decide) ?_
        simp [go_sem]
        refine CallVC.of (cN) (by decide) ?_
        simp [go_sem]
        refine CallVC.of (cF) (by decide) ?_
        simp [go_sem]
        refine CallVC.of (cQ) (by decide) ?_
        simp [go_sem]
        simp [go_sem, q0]
      · rw [if_neg q0]
        refine con_of_vc Tryz.mixed ⟨9, [], [], []⟩ Tryz.func12 (by decide) rfl (by simp) (by decide) (by simp [freshOK, freshL, go_sem]) ?_
        rw [Tryz.ntmps12]
        simp [go_sem]
        refine CallVC.of (cI) (by decide) ?_
        simp [go_sem]
        refine CallVC.of (cN) (by decide) ?_
        simp [go_sem]
        refine CallVC.of (cF) (by decide) ?_
        simp [go_sem]
        refine CallVC.of (cQ) (by decide) ?_
        simp [go_sem]
        simp [go_sem, q0]
        refine CallVC.of (cP) (by decide) ?_
        simp [go_sem]
        refine CallVC.of (cV) (by decide) ?_
        simp [go_sem]
        refine ⟨fm, ?_⟩
        refine CallVC.of (cM) (by decide) ?_
        simp [go_sem]
    · rw [decide_eq_false hz] at cN
      rw [if_pos h, if_neg hz]
      refine con_of_vc Tryz.mixed ⟨9, [], [], []⟩ Tryz.func12 (by decide) rfl (by simp) (by decide) (by simp [freshOK, freshL, go_sem]) ?_
      rw [Tryz.ntmps12]
      simp [go_sem]
      refine CallVC.of (cI) (by decide) ?_
      simp [go_sem]
      refine CallVC.of (cN) (by decide) ?_
      simp [go_sem]
  · have hf : tabB A B = false := by simpa using h
    rw [hf] at cI
    rw [if_neg h]
    refine con_of_vc Tryz.mixed ⟨9, [], [], []⟩ Tryz.func12 (by decide) rfl (by simp) (by decide) (by simp [freshOK, freshL, go_sem]) ?_
    rw [Tryz.ntmps12]
    simp [go_sem]
    refine CallVC.of (cI) (by decide) ?_
    simp [go_sem]
set_option maxRecDepth 100000 in
theorem specStabilityAt_c (A : List (List Int)) (B : List Int) (z : Int) (hA : A.length ≤ 1048576) (hr : ∀ r ∈ A, r.length ≤ 1048576) (hB : B.length ≤ 1048576) :
    Con Tryz.prog 22 [.agg [.sl A.length (mat A), .sl B.length (avs B)], .int z] (saR A B z) := by
  have cI := l09Is_c A B (by omega) (by omega) (fun r h => by have := hr r h; omega)
  have cN := specIsNumber_c z
  unfold saR saX saE
  by_cases h : tabB A B = true
  · have hT := tabB_iff.1 h
    rw [h] at cI
    by_cases hz : 0 ≤ z ∧ z ≤ 10006
    · have zN : isN z := ⟨hz.1, by omega⟩
      rw [decide_eq_true hz] at cN
      have cF := l19Fraction_c A B hT
      have b8 := hT.le
      have cQ := l19At_c (chL B.length A) z (by simp; omega) (chL_N _ _) zN
      have cP := l19At_c (chL B.length (lesM A B)) z (by simp; omega) (chL_N _ _) zN
      rw [← at_hor, chL_len] at cQ cP
      have nQ := hor_N z (chL B.length A).reverse
      have nP := hor_N z (chL B.length (lesM A B)).reverse
      have cV := l01Inv_c _ nQ
      have hw : isN (pw (hor z (chL B.length A).reverse) 10005) := isN_mod _
      have fm := mul_fits nP hw
      have cM := l01Mul_c _ _ fm
      have hs : saB A B z = hor z (chL B.length A).reverse := rfl
      rw [if_pos h, if_pos hz, hs]
      generalize hor z (chL B.length A).reverse = q at *
      generalize hor z (chL B.length (lesM A B)).reverse = p at *
      by_cases q0 : q = 0
      · rw [if_pos q0]
        refine con_of_vc Tryz.mixed ⟨9, [], [], []⟩ Tryz.func22 (by decide) rfl (by simp) (by decide) (by simp [freshOK, freshL, go_sem]) ?_
        rw [Tryz.ntmps22]
        simp [go_sem]
        refine CallVC.of (cI) (by decide) ?_
        simp [go_sem]
        refine CallVC.of (cN) (by decide) ?_
        simp [go_sem]
        refine CallVC.of (cF) (by decide) ?_
        simp [go_sem]
        refine CallVC.of (cQ) (by decide) ?_
        simp [go_sem]
        simp [go_sem, q0]
      · rw [if_neg q0]
        refine con_of_vc Tryz.mixed ⟨9, [], [], []⟩ Tryz.func22 (by decide) rfl (by simp) (by decide) (by simp [freshOK, freshL, go_sem]) ?_
        rw [Tryz.ntmps22]
        simp [go_sem]
        refine CallVC.of (cI) (by decide) ?_
        simp [go_sem]
        refine CallVC.of (cN) (by decide) ?_
        simp [go_sem]
        refine CallVC.of (cF) (by decide) ?_
        simp [go_sem]
        refine CallVC.of (cQ) (by decide) ?_
        simp [go_sem]
        simp [go_sem, q0]
        refine CallVC.of (cP) (by decide) ?_
        simp [go_sem]
        refine CallVC.of (cV) (by decide) ?_
        simp [go_sem]
        refine CallVC.of (cM) (by decide) ?_
        simp [go_sem]
    · rw [decide_eq_false hz] at cN
      rw [if_pos h, if_neg hz]
      refine con_of_vc Tryz.mixed ⟨9, [], [], []⟩ Tryz.func22 (by decide) rfl (by simp) (by decide) (by simp [freshOK, freshL, go_sem]) ?_
      rw [Tryz.ntmps22]
      simp [go_sem]
      refine CallVC.of (cI) (by decide) ?_
      simp [go_sem]
      refine CallVC.of (cN) (by decide) ?_
      simp [go_sem]
  · have hf : tabB A B = false := by simpa using h
    rw [hf] at cI
    rw [if_neg h]
    refine con_of_vc Tryz.mixed ⟨9, [], [], []⟩ Tryz.func22 (by decide) rfl (by simp) (by decide) (by simp [freshOK, freshL, go_sem]) ?_
    rw [Tryz.ntmps22]
    simp [go_sem]
    refine CallVC.of (cI) (by decide) ?_
    simp [go_sem]
end Go.Proofs.YtnokgijakdaehaaGreatDoor


namespace Go.Proofs.YtnokgijakdaehaaGreatDoor
open Go.RowKit Go.Shelf Go.Abs
set_option linter.unusedSectionVars false
set_option linter.unusedVariables false
set_option linter.unusedSimpArgs false
attribute [local go_sem] Oper.semAt_some
end Go.Proofs.YtnokgijakdaehaaGreatDoor


namespace Go.Proofs.YtnokgijakdaehaaGreatDoor
open Go.Abs
set_option linter.unusedSectionVars false
set_option linter.unusedVariables false
set_option linter.unusedSimpArgs false
set_option maxHeartbeats 1000000
theorem at0 {A : List (List Int)} (h : 0 < A.length) : mat A = .sl (A[0]?.getD []).length (avs (A[0]?.getD [])) :: mat A.tail := by cases A with | nil => simp at h | cons x l => simp [mat]
end Go.Proofs.YtnokgijakdaehaaGreatDoor


namespace Go.Proofs.YtnokgijakdaehaaGreatDoor
open Go.Abs
set_option linter.unusedSectionVars false
set_option linter.unusedVariables false
set_option linter.unusedSimpArgs false
set_option maxHeartbeats 4000000
end Go.Proofs.YtnokgijakdaehaaGreatDoor


namespace Go.Proofs.YtnokgijakdaehaaGreatDoor
open Go.Abs CR
set_option linter.unusedSectionVars false
set_option linter.unusedVariables false
set_option linter.unusedSimpArgs false
set_option maxHeartbeats 1000000
end Go.Proofs.YtnokgijakdaehaaGreatDoor


namespace Go.Proofs.YtnokgijakdaehaaGreatDoor
open Go.Abs
set_option linter.unusedSectionVars false
set_option linter.unusedVariables false
set_option linter.unusedSimpArgs false
set_option maxHeartbeats 1000000
section
variable {A : List (List Int)} {B : List Int} {H : List (List Int)} {C : List Int}
theorem Ns_app {x y : List Int} (hx : Ns x) (hy : Ns y) : Ns (x ++ y) := fun a ha => by
  rcases List.mem_append.1 ha with h | h
  · exact hx a h
  · exact hy a h
theorem cmp_tab (hT : Tab A B) (hH : Tab H C) (h8 : B.length + C.length ≤ 8) : Tab (cmpA A B H) (B ++ C) := by
  have p := hT.pos
  refine ⟨by rw [List.length_append]; omega, by rw [List.length_append]; exact h8, by rw [List.length_append]; simp [cmpA, hT.len, hH.len], Ns_app hT.b hH.b, fun r hr => ?_⟩
  rw [List.length_append]
  rcases List.mem_append.1 hr with h | h
  · obtain ⟨q, hq, rfl⟩ := List.mem_map.1 h
    have a := hT.a q hq
    refine ⟨by rw [List.length_append, a.1, List.length_replicate, hH.len], Ns_app a.2 fun x hx => ?_⟩
    obtain ⟨_, rfl⟩ := List.mem_replicate.1 hx
    exact ⟨by omega, by omega⟩
  · obtain ⟨q, hq, rfl⟩ := List.mem_map.1 h
    have a := hH.a q hq
    exact ⟨by rw [List.length_append, a.1], Ns_app hT.b a.2⟩
variable {z : Int} {f : List (List Mon)} {L : List (List Int)}
end
end Go.Proofs.YtnokgijakdaehaaGreatDoor


namespace Go.Proofs.YtnokgijakdaehaaGreatDoor
open Go.Abs CR
set_option linter.unusedSectionVars false
set_option linter.unusedVariables false
set_option linter.unusedSimpArgs false
set_option maxHeartbeats 1000000
theorem conv_sum (g : Nat → Int) (M : Nat) (hg : ∀ i, M ≤ i → g i = 0) : ∀ (N : Nat) (f : Nat → Int) (w : Nat → Int), (∀ j, N ≤ j → f j = 0) →
    dsum (fun j => f j * dsum (fun i => g i * w (i + j)) M) N = dsum (fun l => cmul l f g * w l) (N + M)
  | 0, f, w, hf => by
    rw [dsum_zero (n := 0 + M) (fun l _ => by rw [cmul_nil g l f (fun i => hf i (Nat.zero_le _)), Int.zero_mul])]
    rfl
  | N + 1, f, w, hf => by
    have ih := conv_sum g M hg N (sh f) (fun l => w (l + 1)) (fun j hj => hf (j + 1) (by omega))
    have e1 : dsum (fun j => f (j + 1) * dsum (fun i => g i * w (i + (j + 1))) M) N = dsum (fun l => cmul l (sh f) g * w (l + 1)) (N + M) := by
      rw [← ih]
      exact dsum_congr fun j _ => rfl
    rw [dsum_shift, e1, show N + 1 + M = (N + M) + 1 by omega, dsum_shift]
    have e2 : dsum (fun l => cmul (l + 1) f g * w (l + 1)) (N + M) = dsum (fun l => f 0 * (g (l + 1) * w (l + 1)) + cmul l (sh f) g * w (l + 1)) (N + M) := dsum_congr fun l _ => by
      show (f 0 * g (l + 1) + cmul l (sh f) g) * w (l + 1) = _
      rw [Int.add_mul, Int.mul_assoc]
    rw [e2, dsum_plus, ← dsum_mul]
    have e3 : dsum (fun i => g i * w (i + 0)) M = g 0 * w 0 + dsum (fun l => g (l + 1) * w (l + 1)) (N + M) := by
      rw [← dsum_shift (fun i => g i * w i), show N + M + 1 = M + (N + 1) by omega, dsum_split, dsum_zero (n := N + 1) (fun i _ => by rw [hg (M + i) (by omega), Int.zero_mul]), Int.add_zero]
      rfl
    rw [e3, Int.mul_add]
    show f 0 * (g 0 * w 0) + f 0 * dsum (fun l => g (l + 1) * w (l + 1)) (N + M) + _ = f 0 * g 0 * w 0 + _
    rw [Int.mul_assoc, Int.add_assoc]
section
variable {n : Nat} {S : List (List Int)}
end
structure Blk (s t : Nat) (A H M : Mx) (B : Nat → Int) : Prop where
  aa : ∀ r c, r < s → c < s → M r c = A r c
  ah : ∀ r c, r < s → c < t → M r (s + c) = 0
  ha : ∀ r c, r < t → c < s → M (s + r) c = B c
  hh : ∀ r c, r < t → c < t → M (s + r) (s + c) = H r c
section
variable {s t : Nat} {A H M : Mx} {B : Nat → Int}
theorem blk_ev (h : Blk s t A H M B) : ∀ k, (∀ r, r < s → evN (s + t) M k r = evN s A k r) ∧ ∀ r, r < t → evN (s + t) M k (s + r) = cmul k (rsS s A B) (fun i => evN t H i r)
  | 0 => ⟨fun r _ => rfl, fun r _ => by show (1 : Int) = rsS s A B 0 * 1; rw [rsS_0]; rfl⟩
  | k + 1 => by
    obtain ⟨i1, i2⟩ := blk_ev h k
    refine ⟨fun r hr => ?_, fun r hr => ?_⟩
    · show dsum (fun c => M r c * evN (s + t) M k c) (s + t) = dsum (fun c => A r c * evN s A k c) s
      rw [dsum_split, dsum_zero (n := t) (fun c hc => by rw [h.ah r c hr hc, Int.zero_mul]), Int.add_zero]
      exact dsum_congr fun c hc => by rw [h.aa r c hr hc, i1 c hc]
    · show dsum (fun c => M (s + r) c * evN (s + t) M k c) (s + t) = _
      rw [dsum_split, dsum_congr (g := fun c => B c * evN s A k c) (fun c hc => by rw [h.ha r c hr hc, i1 c hc]), ← rs_dot, cmul_dsum]
      rw [dsum_congr (g := fun c => dsum (fun i => rsS s A B i * (H r c * evN t H (k - i) c)) (k + 1)) (fun c hc => by
        rw [h.hh r c hr hc, i2 c hc, cmul_dsum, dsum_mul]
        exact dsum_congr fun i _ => by ac_rfl), dsum_swap (fun c i => rsS s A B i * (H r c * evN t H (k - i) c))]
      show _ = dsum (fun i => rsS s A B i * evN t H (k + 1 - i) r) (k + 1) + rsS s A B (k + 1) * evN t H (k + 1 - (k + 1)) r
      rw [Nat.sub_self, Int.add_comm]
      congr 1
      · refine dsum_congr fun i hi => ?_
        rw [show k + 1 - i = (k - i) + 1 by omega]
        show _ = rsS s A B i * dsum (fun c => H r c * evN t H (k - i) c) t
        rw [dsum_mul]
      · show _ = rsS s A B (k + 1) * 1
        rw [Int.mul_one]
theorem blk_rs (h : Blk s t A H M B) (C D : Nat → Int) (d1 : ∀ r, r < s → D r = B r) (d2 : ∀ r, r < t → D (s + r) = C r) : rsS (s + t) M D = rsS t H C * rsS s A B := by
  refine funext fun k => ?_
  rw [mulC, ser_mul, cmul_dsum]
  cases k with
  | zero => rw [rsS_0]; show (1 : Int) = 0 + rsS s A B 0 * rsS t H C 0; rw [rsS_0, rsS_0]; rfl
  | succ k =>
    have ev := blk_ev h k
    rw [rs_dot, dsum_split, dsum_congr (g := fun r => B r * evN s A k r) (fun r hr => by rw [d1 r hr, ev.1 r hr]), ← rs_dot]
    rw [dsum_congr (g := fun r => dsum (fun i => rsS s A B i * (C r * evN t H (k - i) r)) (k + 1)) (fun r hr => by
      rw [d2 r hr, ev.2 r hr, cmul_dsum, dsum_mul]
      exact dsum_congr fun i _ => by ac_rfl), dsum_swap (fun r i => rsS s A B i * (C r * evN t H (k - i) r))]
    show _ = dsum (fun i => rsS s A B i * rsS t H C (k + 1 - i)) (k + 1) + rsS s A B (k + 1) * rsS t H C (k + 1 - (k + 1))
    rw [Nat.sub_self, rsS_0, Int.mul_one, Int.add_comm]
    congr 1
    refine dsum_congr fun i hi => ?_
    rw [show k + 1 - i = (k - i) + 1 by omega, rs_dot, dsum_mul]
end
end Go.Proofs.YtnokgijakdaehaaGreatDoor


namespace Go.Proofs.YtnokgijakdaehaaGreatDoor
open Go.Abs CR
set_option linter.unusedSectionVars false
set_option linter.unusedVariables false
set_option linter.unusedSimpArgs false
set_option maxHeartbeats 1000000
section
variable {A : List (List Int)} {B : List Int} {H : List (List Int)} {C : List Int}
theorem cmp_blk (hT : Tab A B) (hH : Tab H C) : Blk B.length C.length (mx A) (mx H) (mx (cmpA A B H)) (fun r => B[r]?.getD 0) := by
  have al : (A.map (fun r => r ++ List.replicate H.length (0 : Int))).length = B.length := by simp [hT.len]
  have rl : ∀ i, i < B.length → (A[i]?.getD []).length = B.length := fun i hi => (hT.rws.at (by rw [hT.len]; exact hi)).1
  have c1 : ∀ i, i < B.length → (cmpA A B H)[i]?.getD [] = A[i]?.getD [] ++ List.replicate H.length 0 := fun i hi => by
    unfold cmpA
    rw [app_lt _ (by rw [al]; exact hi)]
    have : i < A.length := by rw [hT.len]; exact hi
    simp [this]
  have c2 : ∀ i, i < C.length → (cmpA A B H)[B.length + i]?.getD [] = B ++ H[i]?.getD [] := fun i hi => by
    unfold cmpA
    have := app_ge (l := A.map (fun r => r ++ List.replicate H.length (0 : Int))) (m := H.map (fun r => B ++ r)) (q := i) []
    rw [al] at this
    rw [this]
    have : i < H.length := by rw [hH.len]; exact hi
    simp [this]
  refine ⟨fun r c hr hc => ?_, fun r c hr hc => ?_, fun r c hr hc => ?_, fun r c hr hc => ?_⟩
  · show ((cmpA A B H)[r]?.getD [])[c]?.getD 0 = _
    rw [c1 r hr, app_lt _ (by rw [rl r hr]; exact hc)]; rfl
  · show ((cmpA A B H)[r]?.getD [])[B.length + c]?.getD 0 = _
    have := app_ge (l := A[r]?.getD []) (m := List.replicate H.length (0 : Int)) (q := c) 0
    rw [rl r hr] at this
    rw [c1 r hr, this]
    have hc2 : c < H.length := by rw [hH.len]; exact hc
    simp [hc2]
  · show ((cmpA A B H)[B.length + r]?.getD [])[c]?.getD 0 = _
    rw [c2 r hr, app_lt _ hc]
  · show ((cmpA A B H)[B.length + r]?.getD [])[B.length + c]?.getD 0 = _
    rw [c2 r hr, app_ge]; rfl
variable {m : List (List Int)} {y : List Int} {h : Int}
end
end Go.Proofs.YtnokgijakdaehaaGreatDoor


namespace Go.Proofs.YtnokgijakdaehaaGreatDoor
open Go.Abs CR
set_option linter.unusedSectionVars false
set_option linter.unusedVariables false
set_option linter.unusedSimpArgs false
set_option maxHeartbeats 1000000
def pM (n : Nat) (M : Mx) : Nat → Mx
  | 0 => idM
  | k + 1 => fun r c => dsum (fun q => M r q * pM n M k q c) n
def trM (n : Nat) (M : Mx) : Ser Int := fun k => dsum (fun i => pM n M (k + 1) i i) n
theorem ad_pow (n : Nat) (M : Mx) : ∀ (k j i : Nat), j < n → i < n → adS n M j i k = dsum (fun l => chS n M l * pM n M (k - l) j i) (k + 1)
  | 0, j, i, hj, hi => by
    rw [ad_0 n M hj hi]
    show _ = 0 + chS n M 0 * idM j i
    rw [ch_0, Int.zero_add, Int.one_mul]
  | k + 1, j, i, hj, hi => by
    rw [ad_step n M hj hi k]
    show _ = dsum (fun l => chS n M l * pM n M (k + 1 - l) j i) (k + 1) + chS n M (k + 1) * pM n M (k + 1 - (k + 1)) j i
    rw [Nat.sub_self]
    have e1 : dsum (fun c => M j c * adS n M c i k) n = dsum (fun l => chS n M l * pM n M (k + 1 - l) j i) (k + 1) := by
      rw [dsum_congr (g := fun c => dsum (fun l => chS n M l * (M j c * pM n M (k - l) c i)) (k + 1)) (fun c hc => by
        rw [ad_pow n M k c i hc hi, dsum_mul]
        exact dsum_congr fun l _ => by ac_rfl), dsum_swap (fun c l => chS n M l * (M j c * pM n M (k - l) c i))]
      refine dsum_congr fun l hl => ?_
      rw [show k + 1 - l = (k - l) + 1 by omega, ← dsum_mul]
      rfl
    rw [e1]
    congr 1
    show _ = chS n M (k + 1) * idM j i
    unfold idM
    by_cases e : j = i
    · rw [if_pos e.symm, if_pos e, Int.mul_one]
    · rw [if_neg (fun x => e x.symm), if_neg e, Int.mul_zero]
theorem ch_tr (n : Nat) (M : Mx) (k : Nat) : ((k : Int) + 1) * chS n M (k + 1) = - cmul k (chS n M) (trM n M) := by
  rw [ch_step, cmul_dsum]
  congr 1
  rw [dsum_congr (g := fun i => dsum (fun l => chS n M l * pM n M (k - l + 1) i i) (k + 1)) (fun i hi => by
    rw [dsum_congr (g := fun c => dsum (fun l => chS n M l * (M i c * pM n M (k - l) c i)) (k + 1)) (fun c hc => by
      rw [ad_pow n M k c i hc hi, dsum_mul]
      exact dsum_congr fun l _ => by ac_rfl), dsum_swap (fun c l => chS n M l * (M i c * pM n M (k - l) c i))]
    exact dsum_congr fun l _ => by rw [← dsum_mul]; rfl), dsum_swap (fun i l => chS n M l * pM n M (k - l + 1) i i)]
  exact dsum_congr fun l _ => by rw [← dsum_mul]; rfl
theorem ser_known {a b t : Ser Int} (h0 : a 0 = b 0) (ha : ∀ k : Nat, ((k : Int) + 1) * a (k + 1) = - cmul k a t) (hb : ∀ k : Nat, ((k : Int) + 1) * b (k + 1) = - cmul k b t) : a = b := by
  have gen : ∀ n, ∀ i, i ≤ n → a i = b i := by
    intro n
    induction n with
    | zero => intro i hi; have : i = 0 := by omega
              subst this; exact h0
    | succ n ih =>
      intro i hi
      rcases Nat.lt_or_ge i (n + 1) with h | h
      · exact ih i (by omega)
      · have e : i = n + 1 := by omega
        subst e
        have e1 := ha n
        have e2 := hb n
        rw [cmul_dsum, dsum_congr (g := fun i => b i * t (n - i)) (fun i hi => by rw [ih i (by omega)]), ← cmul_dsum, ← e2] at e1
        exact Int.eq_of_mul_eq_mul_left (by omega) e1
  exact funext fun i => gen i i (Nat.le_refl _)
theorem dcmul (k : Nat) : ∀ (a b : Ser Int), ((k : Int) + 1) * cmul (k + 1) a b = cmul k (fun i => ((i : Int) + 1) * a (i + 1)) b + cmul k a (fun i => ((i : Int) + 1) * b (i + 1)) := by
  intro a b
  rw [cmul_dsum, cmul_dsum, cmul_dsum, dsum_mul]
  have e1 : dsum (fun i => ((k : Int) + 1) * (a i * b (k + 1 - i))) (k + 1 + 1) = dsum (fun i => (i : Int) * (a i * b (k + 1 - i))) (k + 1 + 1) + dsum (fun i => ((k + 1 - i : Nat) : Int) * (a i * b (k + 1 - i))) (k + 1 + 1) := by
    rw [← dsum_plus]
    refine dsum_congr fun i hi => ?_
    rw [← Int.add_mul]
    congr 1
    omega
  rw [e1]
  congr 1
  · rw [dsum_shift]
    have z : ((0 : Nat) : Int) * (a 0 * b (k + 1 - 0)) = 0 := by simp
    rw [z, Int.zero_add]
    refine dsum_congr fun i hi => ?_
    rw [show k + 1 - (i + 1) = k - i by omega, Int.mul_assoc]
    congr 1
  · show dsum (fun i => ((k + 1 - i : Nat) : Int) * (a i * b (k + 1 - i))) (k + 1) + ((k + 1 - (k + 1) : Nat) : Int) * (a (k + 1) * b (k + 1 - (k + 1))) = _
    rw [Nat.sub_self]
    have z : ((0 : Nat) : Int) * (a (k + 1) * b 0) = 0 := by simp
    rw [z, Int.add_zero]
    refine dsum_congr fun i hi => ?_
    rw [show k + 1 - i = (k - i) + 1 by omega]
    have c : (((k - i) + 1 : Nat) : Int) = ((k - i : Nat) : Int) + 1 := by omega
    rw [c]
    ac_rfl
section
variable {s t : Nat} {A H M : Mx} {B : Nat → Int}
theorem blk_pow (h : Blk s t A H M B) : ∀ k, (∀ j i, j < s → i < s → pM (s + t) M k j i = pM s A k j i) ∧ (∀ j i, j < s → i < t → pM (s + t) M k j (s + i) = 0) ∧ ∀ j i, j < t → i < t → pM (s + t) M k (s + j) (s + i) = pM t H k j i
  | 0 => by
    refine ⟨fun j i _ _ => rfl, fun j i hj hi => ?_, fun j i hj hi => ?_⟩
    · show idM j (s + i) = 0; unfold idM; rw [if_neg (by omega)]
    · show idM (s + j) (s + i) = idM j i; unfold idM
      by_cases e : j = i
      · rw [if_pos e, if_pos (by omega)]
      · rw [if_neg e, if_neg (by omega)]
  | k + 1 => by
    obtain ⟨i1, i2, i3⟩ := blk_pow h k
    refine ⟨fun j i hj hi => ?_, fun j i hj hi => ?_, fun j i hj hi => ?_⟩
    · show dsum (fun q => M j q * pM (s + t) M k q i) (s + t) = dsum (fun q => A j q * pM s A k q i) s
      rw [dsum_split, dsum_zero (n := t) (fun c hc => by rw [h.ah j c hj hc, Int.zero_mul]), Int.add_zero]
      exact dsum_congr fun c hc => by rw [h.aa j c hj hc, i1 c i hc hi]
    · show dsum (fun q => M j q * pM (s + t) M k q (s + i)) (s + t) = 0
      rw [dsum_split, dsum_zero (n := s) (fun c hc => by rw [i2 c i hc hi, Int.mul_zero]), dsum_zero (n := t) (fun c hc => by rw [h.ah j c hj hc, Int.zero_mul])]
      rfl
    · show dsum (fun q => M (s + j) q * pM (s + t) M k q (s + i)) (s + t) = dsum (fun q => H j q * pM t H k q i) t
      rw [dsum_split, dsum_zero (n := s) (fun c hc => by rw [i2 c i hc hi, Int.mul_zero]), Int.zero_add]
      exact dsum_congr fun c hc => by rw [h.hh j c hj hc, i3 c i hc hi]
theorem blk_ch (h : Blk s t A H M B) : chS (s + t) M = chS s A * chS t H := by
  have tr : trM (s + t) M = trM s A + trM t H := funext fun k => by
    obtain ⟨i1, _, i3⟩ := blk_pow h (k + 1)
    show dsum (fun i => pM (s + t) M (k + 1) i i) (s + t) = dsum (fun i => pM s A (k + 1) i i) s + dsum (fun i => pM t H (k + 1) i i) t
    rw [dsum_split, dsum_congr (fun i hi => i1 i i hi hi), dsum_congr (f := fun j => pM (s + t) M (k + 1) (s + j) (s + j)) (fun i hi => i3 i i hi hi)]
  have neg : ∀ (a b : Ser Int) (k : Nat), cmul k (fun i => - a i) b = - cmul k a b := fun a b k => by
    rw [cmul_dsum, cmul_dsum, ← Int.neg_one_mul, dsum_mul]
    exact dsum_congr fun i _ => by rw [Int.neg_mul, Int.neg_mul, Int.one_mul]
  refine ser_known (t := trM (s + t) M) ?_ (ch_tr (s + t) M) fun k => ?_
  · rw [ch_0]
    show (1 : Int) = chS s A 0 * chS t H 0
    rw [ch_0, ch_0]; rfl
  · show ((k : Int) + 1) * cmul (k + 1) (chS s A) (chS t H) = _
    rw [dcmul]
    have e1 : (fun i : Nat => ((i : Int) + 1) * chS s A (i + 1)) = fun i => - (chS s A * trM s A) i := funext fun i => ch_tr s A i
    have e2 : (fun i : Nat => ((i : Int) + 1) * chS t H (i + 1)) = fun i => - (chS t H * trM t H) i := funext fun i => ch_tr t H i
    rw [e1, e2, neg]
    have e3 : cmul k (chS s A) (fun i => - (chS t H * trM t H) i) = - (chS s A * (chS t H * trM t H)) k := by
      have := neg (chS t H * trM t H) (chS s A) k
      show ((chS s A) * (fun i => - (chS t H * trM t H) i) : Ser Int) k = _
      rw [mulC]
      show cmul k (fun i => - (chS t H * trM t H) i) (chS s A) = _
      rw [this, mulC (chS s A)]
      rfl
    rw [e3, tr]
    show - ((chS s A * trM s A) * chS t H) k + _ = - ((chS s A * chS t H) * (trM s A + trM t H)) k
    rw [mulD, ser_add]
    have c1 : (chS s A * trM s A) * chS t H = (chS s A * chS t H) * trM s A := by ac_rfl
    have c2 : chS s A * (chS t H * trM t H) = (chS s A * chS t H) * trM t H := by ac_rfl
    rw [c1, c2]
    omega
end
end Go.Proofs.YtnokgijakdaehaaGreatDoor


namespace Go.Proofs.YtnokgijakdaehaaGreatDoor
open Go.Abs CR
set_option linter.unusedSectionVars false
set_option linter.unusedVariables false
set_option linter.unusedSimpArgs false
set_option maxHeartbeats 1000000
theorem ch_of_tr (n : Nat) {M N : Mx} (h : trM n M = trM n N) : chS n M = chS n N :=
  ser_known (t := trM n M) (by rw [ch_0, ch_0]) (ch_tr n M) (fun k => by rw [h]; exact ch_tr n N k)
theorem pM_rev (n : Nat) (M : Mx) : ∀ k r c, r < n → c < n → pM n (revM n M) k r c = pM n M k (n - 1 - r) (n - 1 - c)
  | 0, r, c, hr, hc => by
    show idM r c = idM (n - 1 - r) (n - 1 - c)
    unfold idM
    by_cases e : r = c
    · rw [if_pos e, if_pos (by omega)]
    · rw [if_neg e, if_neg (by omega)]
  | k + 1, r, c, hr, hc => by
    show dsum (fun q => M (n - 1 - r) (n - 1 - q) * pM n (revM n M) k q c) n = dsum (fun q => M (n - 1 - r) q * pM n M k q (n - 1 - c)) n
    rw [← dsum_rev (fun q => M (n - 1 - r) q * pM n M k q (n - 1 - c)) n]
    exact dsum_congr fun q hq => by rw [pM_rev n M k q c hq hc]
theorem ch_rev (n : Nat) (M : Mx) : chS n (revM n M) = chS n M := ch_of_tr n (funext fun k => by
  show dsum (fun i => pM n (revM n M) (k + 1) i i) n = dsum (fun i => pM n M (k + 1) i i) n
  rw [← dsum_rev (fun i => pM n M (k + 1) i i) n]
  exact dsum_congr fun i hi => pM_rev n M (k + 1) i i hi hi)
def sclM (k : Int) (M : Mx) : Mx := fun r c => k * M r c
theorem pM_scl (n : Nat) (k : Int) (M : Mx) : ∀ j r c, pM n (sclM k M) j r c = k ^ j * pM n M j r c
  | 0, r, c => by show idM r c = k ^ 0 * idM r c; rw [Int.pow_zero, Int.one_mul]
  | j + 1, r, c => by
    show dsum (fun q => k * M r q * pM n (sclM k M) j q c) n = k ^ (j + 1) * dsum (fun q => M r q * pM n M j q c) n
    rw [dsum_mul]
    refine dsum_congr fun q _ => ?_
    rw [pM_scl n k M j q c, Int.pow_succ]
    ac_rfl
theorem ch_scl (n : Nat) (k : Int) (M : Mx) : chS n (sclM k M) = fun i => k ^ i * chS n M i := by
  refine ser_known (t := trM n (sclM k M)) (by rw [ch_0]; show (1 : Int) = k ^ 0 * chS n M 0; rw [ch_0, Int.pow_zero]; rfl) (ch_tr n (sclM k M)) fun i => ?_
  show ((i : Int) + 1) * (k ^ (i + 1) * chS n M (i + 1)) = _
  have e : ((i : Int) + 1) * (k ^ (i + 1) * chS n M (i + 1)) = k ^ (i + 1) * (((i : Int) + 1) * chS n M (i + 1)) := by ac_rfl
  rw [e, ch_tr, Int.mul_neg]
  congr 1
  rw [cmul_dsum, cmul_dsum, dsum_mul]
  refine dsum_congr fun j hj => ?_
  have t1 : trM n (sclM k M) (i - j) = k ^ (i - j + 1) * trM n M (i - j) := by
    show dsum (fun q => pM n (sclM k M) (i - j + 1) q q) n = k ^ (i - j + 1) * dsum (fun q => pM n M (i - j + 1) q q) n
    rw [dsum_mul]
    exact dsum_congr fun q _ => pM_scl n k M _ q q
  rw [t1, show i + 1 = j + (i - j + 1) by omega, Int.pow_add]
  ac_rfl
def vlZ (z : Int) (a : Ser Int) (n : Nat) : Int := dsum (fun i => a i * z ^ i) n
theorem vlZ_mod {z w : Int} {a b : Ser Int} (hz : z % 10007 = w % 10007) (h : serEq a b) (n : Nat) : vlZ z a n % 10007 = vlZ w b n % 10007 := by
  have pz : ∀ i : Nat, z ^ i % 10007 = w ^ i % 10007 := fun i => by
    induction i with
    | zero => rw [Int.pow_zero, Int.pow_zero]
    | succ i ih => rw [Int.pow_succ, Int.pow_succ]; exact mod_mulc ih hz
  exact dsum_mod fun i _ => mod_mulc (h i) (pz i)
theorem vlZ_mul (z : Int) {a b : Ser Int} {n m : Nat} (ha : ∀ i, n ≤ i → a i = 0) (hb : ∀ i, m ≤ i → b i = 0) : vlZ z (a * b) (n + m) = vlZ z a n * vlZ z b m := by
  show dsum (fun l => cmul l a b * z ^ l) (n + m) = _
  rw [← conv_sum b m hb n a (fun l => z ^ l) ha]
  unfold vlZ
  rw [Int.mul_comm, dsum_mul]
  refine dsum_congr fun j _ => ?_
  rw [Int.mul_comm (dsum _ _), Int.mul_assoc]
  congr 1
  rw [dsum_mul]
  exact dsum_congr fun i _ => by rw [Int.pow_add]; ac_rfl
theorem vlZ_more (z : Int) {a : Ser Int} {n : Nat} (ha : ∀ i, n ≤ i → a i = 0) (m : Nat) : vlZ z a (n + m) = vlZ z a n := by
  unfold vlZ
  rw [dsum_split, dsum_zero (n := m) (fun i _ => by rw [ha (n + i) (by omega), Int.zero_mul]), Int.add_zero]
def saP (A : List (List Int)) (B : List Int) (z : Int) : Int := hor z (chL B.length (lesM A B)).reverse
theorem hor_val (n : Nat) (A : List (List Int)) (z : Int) : hor z (chL n A).reverse = vlZ z (chS n (mx A)) (n + 1) % 10007 := by
  have h := hor_N z (chL n A).reverse
  have e : hor z (chL n A).reverse = hor z (chL n A).reverse % 10007 := (Int.emod_eq_of_lt h.1 (by have := h.2; omega)).symm
  rw [e, hor_dsum, chL_len]
  exact dsum_mod fun i _ => by rw [chL_get]; exact mod_mulc (Int.emod_emod_of_dvd _ (Int.dvd_refl _)) rfl
section
variable {A : List (List Int)} {B : List Int} {H : List (List Int)} {C : List Int}
theorem saB_val (z : Int) : saB A B z = vlZ z (chS B.length (mx A)) (B.length + 1) % 10007 := hor_val _ _ _
theorem saP_val (hT : Tab A B) (z : Int) : saP A B z = vlZ z (chS B.length (lessM (mx A) (fun r => B[r]?.getD 0))) (B.length + 1) % 10007 := by
  unfold saP
  rw [hor_val]
  exact vlZ_mod rfl (ch_mod fun r c hr hc => les_mod hT hr hc) _
theorem saB_N (z : Int) : isN (saB A B z) := hor_N _ _
theorem saP_N (z : Int) : isN (saP A B z) := hor_N _ _
theorem cmp_val (hT : Tab A B) (hH : Tab H C) (h8 : B.length + C.length ≤ 8) (z : Int) :
    saB (cmpA A B H) (B ++ C) z = saB A B z * saB H C z % 10007 ∧ saP (cmpA A B H) (B ++ C) z = saP A B z * saP H C z % 10007 := by
  have hC := cmp_tab hT hH h8
  have bk := cmp_blk hT hH
  have e1 : chS (B ++ C).length (mx (cmpA A B H)) = chS B.length (mx A) * chS C.length (mx H) := by rw [List.length_append]; exact blk_ch bk
  have e3 : rsS (B ++ C).length (mx (cmpA A B H)) (fun r => (B ++ C)[r]?.getD 0) = rsS C.length (mx H) (fun r => C[r]?.getD 0) * rsS B.length (mx A) (fun r => B[r]?.getD 0) := by
    rw [List.length_append]
    exact blk_rs bk _ _ (fun r hr => app_lt _ hr) (fun r hr => app_ge _)
  have e2 : chS (B ++ C).length (lessM (mx (cmpA A B H)) (fun r => (B ++ C)[r]?.getD 0)) = chS B.length (lessM (mx A) (fun r => B[r]?.getD 0)) * chS C.length (lessM (mx H) (fun r => C[r]?.getD 0)) := by
    rw [ch_less, ch_less, ch_less, e1, e3]
    ac_rfl
  have far : ∀ {n : Nat} (M : Mx) (i : Nat), n + 1 ≤ i → chS n M i = 0 := fun M i h => ch_far M (by omega)
  have pr : ∀ (M N : Mx), vlZ z (chS B.length M * chS C.length N) ((B ++ C).length + 1) = vlZ z (chS B.length M) (B.length + 1) * vlZ z (chS C.length N) (C.length + 1) := fun M N => by
    rw [← vlZ_mul z (far M) (far N), List.length_append, show B.length + 1 + (C.length + 1) = (B.length + C.length + 1) + 1 by omega]
    refine (vlZ_more z (fun i hi => ?_) 1).symm
    show cmul i (chS B.length M) (chS C.length N) = 0
    rw [cmul_dsum]
    refine dsum_zero fun j hj => ?_
    by_cases h : B.length < j
    · rw [ch_far M h, Int.zero_mul]
    · rw [ch_far N (by omega), Int.mul_zero]
  constructor
  · rw [saB_val, e1, pr, saB_val, saB_val, Int.mul_emod]
  · rw [saP_val hC, e2, pr, saP_val hT, saP_val hH, Int.mul_emod]
theorem vlZ_sg (z : Int) (a : Ser Int) (n : Nat) : vlZ (-z) (sgS a) n = vlZ z a n := by
  refine dsum_congr fun i _ => ?_
  show sgd i * a i * (-z) ^ i = a i * z ^ i
  have e : ∀ i : Nat, (-z) ^ i = sgd i * z ^ i := fun i => by
    induction i with
    | zero => rw [Int.pow_zero, Int.pow_zero]; rfl
    | succ i ih => rw [Int.pow_succ, ih, sgd_succ, Int.pow_succ, Int.mul_neg, Int.neg_mul, Int.mul_assoc]
  rw [e, show sgd i * a i * (sgd i * z ^ i) = (sgd i * sgd i) * (a i * z ^ i) by ac_rfl, sgd_sq, Int.one_mul]
theorem adj_val {A' : List (List Int)} {B' : List Int} (hT : Tab A B) (h : Adj A B A' B') (z : Int) :
    saB A' B' (-z % 10007) = saP A B z ∧ saP A' B' (-z % 10007) = saB A B z := by
  have zz : (-z % 10007) % 10007 = (-z) % 10007 := Int.emod_emod_of_dvd _ (Int.dvd_refl _)
  have e1 : negM (lessM (mx A) (fun r => B[r]?.getD 0)) = adjM (mx A) (fun r => B[r]?.getD 0) := funext fun r => funext fun c => by show - (mx A r c - B[c]?.getD 0) = B[c]?.getD 0 - mx A r c; omega
  have e2 : lessM (adjM (mx A) (fun r => B[r]?.getD 0)) (fun r => B[r]?.getD 0) = negM (mx A) := funext fun r => funext fun c => by show B[c]?.getD 0 - mx A r c - B[c]?.getD 0 = - mx A r c; omega
  constructor
  · rw [saB_val, saP_val hT, h.len, ← vlZ_sg z, ← ch_neg, e1, ← ch_rev B.length (adjM _ _)]
    exact vlZ_mod zz (ch_mod fun r c hr hc => h.a r c hr hc) _
  · rw [saP_val h.tab, saB_val, h.len, ← vlZ_sg z, ← ch_neg, ← e2, ← ch_rev B.length (lessM (adjM _ _) _)]
    refine vlZ_mod zz (ch_mod fun r c hr hc => ?_) _
    show (mx A' r c - B'[c]?.getD 0) % 10007 = (adjM (mx A) (fun r => B[r]?.getD 0) (B.length - 1 - r) (B.length - 1 - c) - B[B.length - 1 - c]?.getD 0) % 10007
    have a1 : mx A' r c % 10007 = (adjM (mx A) (fun r => B[r]?.getD 0) (B.length - 1 - r) (B.length - 1 - c)) % 10007 := h.a r c hr hc
    have a2 := h.b c hc
    omega
theorem scl_val {A' : List (List Int)} {B' : List Int} {k z w : Int} (hT : Tab A B) (hT' : Tab A' B') (hl : B'.length = B.length)
    (ha : ∀ r c, r < B.length → c < B.length → mx A' r c % 10007 = k * mx A r c % 10007) (hb : ∀ r, r < B.length → B'[r]?.getD 0 % 10007 = k * B[r]?.getD 0 % 10007) (hw : k * w % 10007 = z % 10007) :
    saB A' B' w = saB A B z ∧ saP A' B' w = saP A B z := by
  have vs : ∀ M : Mx, vlZ w (chS B.length (sclM k M)) (B.length + 1) % 10007 = vlZ z (chS B.length M) (B.length + 1) % 10007 := fun M => by
    rw [ch_scl]
    have e : vlZ w (fun i => k ^ i * chS B.length M i) (B.length + 1) = vlZ (k * w) (chS B.length M) (B.length + 1) := dsum_congr fun i _ => by
      show k ^ i * chS B.length M i * w ^ i = chS B.length M i * (k * w) ^ i
      have p : ∀ i : Nat, (k * w) ^ i = k ^ i * w ^ i := fun i => by
        induction i with
        | zero => rw [Int.pow_zero, Int.pow_zero, Int.pow_zero]; rfl
        | succ i ih => rw [Int.pow_succ, ih, Int.pow_succ, Int.pow_succ]; ac_rfl
      rw [p]; ac_rfl
    rw [e]
    exact vlZ_mod hw (fun _ => rfl) _
  constructor
  · rw [saB_val, saB_val, hl, ← vs]
    exact vlZ_mod rfl (ch_mod fun r c hr hc => ha r c hr hc) _
  · rw [saP_val hT', saP_val hT, hl, ← vs]
    refine vlZ_mod rfl (ch_mod fun r c hr hc => ?_) _
    show (mx A' r c - B'[c]?.getD 0) % 10007 = (k * (mx A r c - B[c]?.getD 0)) % 10007
    rw [Int.mul_sub]
    have a1 := ha r c hr hc
    have a2 := hb c hc
    omega
end
theorem sa_inv {q : Int} (h : isN q) (h0 : q ≠ 0) : q * pw q 10005 % 10007 = 1 := inv_ok h h0
theorem sa_nz {a b : Int} (ha : isN a) (hb : isN b) (h0 : a ≠ 0) (h : a * b % 10007 = 0) : b = 0 := by
  have i := inv_ok ha h0
  have e : a * pw a 10005 * b % 10007 = 0 := by
    rw [Int.mul_right_comm, ← mul_mod_l, h, Int.zero_mul]; rfl
  rw [← mul_mod_l, i, Int.one_mul] at e
  have := hb.1; have := hb.2
  omega
theorem quo_mul {p q r s i j k : Int} (h1 : q * i % 10007 = 1) (h2 : s * j % 10007 = 1) (h3 : q * s % 10007 * k % 10007 = 1) :
    p * r % 10007 * k % 10007 = p * i % 10007 * (r * j % 10007) % 10007 := by
  have e1 : k % 10007 = i * j % 10007 := by
    have a : k * (q * i % 10007) * (s * j % 10007) % 10007 = k % 10007 := by rw [h1, h2, Int.mul_one, Int.mul_one]
    have b : (q * s % 10007 * k % 10007) * (i * j) % 10007 = i * j % 10007 := by rw [h3, Int.one_mul]
    rw [← a, ← b]
    have l : k * (q * i % 10007) * (s * j % 10007) % 10007 = k * (q * i) * (s * j) % 10007 := mod_mulc (mod_mulc rfl (Int.emod_emod_of_dvd _ (Int.dvd_refl _))) (Int.emod_emod_of_dvd _ (Int.dvd_refl _))
    have m : (q * s % 10007 * k % 10007) * (i * j) % 10007 = q * s * k * (i * j) % 10007 := by rw [mul_mod_l]; exact mod_mulc (mul_mod_l _ _) rfl
    rw [l, m]
    congr 1
    ac_rfl
  have l : p * r % 10007 * k % 10007 = p * r * (i * j) % 10007 := mod_mulc (Int.emod_emod_of_dvd _ (Int.dvd_refl _)) e1
  have m : p * i % 10007 * (r * j % 10007) % 10007 = p * i * (r * j) % 10007 := by rw [mul_mod_l, mul_mod_r]
  rw [l, m]
  congr 1
  ac_rfl
theorem quo_one {p q i j : Int} (h1 : q * i % 10007 = 1) (h2 : p * j % 10007 = 1) : (q * j % 10007) * (p * i % 10007) % 10007 = 1 := by
  have e : (q * j % 10007) * (p * i % 10007) % 10007 = (q * i % 10007) * (p * j % 10007) % 10007 := by
    rw [mul_mod_l, mul_mod_r, mul_mod_l, mul_mod_r]
    congr 1
    ac_rfl
  rw [e, h1, h2]; rfl
end Go.Proofs.YtnokgijakdaehaaGreatDoor


namespace Go.Proofs.YtnokgijakdaehaaGreatDoor
open Go.ChangeShapes Go.WideShapes Go.ChangeAt Go.RowKit Go.Abs Go.Deep
set_option linter.unusedSectionVars false
set_option linter.unusedVariables false
section
variable {H : Type} {enc : TypeId × Value → H} {w : World} {sp : Nat → Bool} {held : Bool} {base : Nat}
theorem kids : Kids Tryz.prog (· < Tryz.prog.types.size) := kids_rows (by kernel_rfl) (by kernel_rfl)
theorem full : ∀ t e, t < Tryz.prog.types.size → Tryz.prog.underlying t = some (.slice e) → 0 < Tryz.prog.cellsOf e := slices_full_of Tryz.prog (by kernel_rfl)
theorem flat1 {α β : Type} (g : α → β) : ∀ qs : List α, qs.flatMap (fun a => [g a]) = qs.map g
  | [] => rfl
  | a :: qs => by rw [List.flatMap_cons, flat1 g qs]; rfl
theorem rep_one {F : Nat → Prop} {tm : Nat → Value} {oss : Nat → List Nat} {c : AV} {v : Value} (h : RepL Tryz.prog w F [c] [v] []) : RepT Tryz.prog w F tm oss c v [] := .cell _ _ _ (RepL.one h)
set_option maxRecDepth 100000 in
theorem repV {F : Nat → Prop} {tm : Nat → Value} {oss : Nat → List Nat} {t e : TypeId} {v : Value} {c : AV} {r : Reach} {b0 : Nat} (ht : Tryz.prog.underlying t = some (.slice e)) (hv : Value.okWide Tryz.prog w r b0 t v) (h : RepL Tryz.prog w F [c] v.cells.toList []) :
    RepT Tryz.prog w F tm oss c v [] := by
  have hc : v.cells.toList = [v] := by
    simp only [Value.okWide, ht] at hv
    cases v <;> simp_all [Value.cells, Cell.okWide, Cell.ok]
  rw [hc] at h
  exact rep_one h
end
end Go.Proofs.YtnokgijakdaehaaGreatDoor


namespace Go.Proofs.YtnokgijakdaehaaGreatDoor
open Go.Abs
set_option linter.unusedSectionVars false
set_option linter.unusedVariables false
set_option linter.unusedSimpArgs false
set_option maxHeartbeats 1000000
open Go.ChangeShapes Go.WideShapes Go.ChangeAt Go.RowKit Go.Deep
theorem big_c (c : List Int) (hl : c.length ≤ 9223372036854775807) : Con Tryz.prog 7 [.sl c.length (bys c)] (.bool (decide (4096 < c.length))) := by
  refine con_of_vc Tryz.mixed ⟨3, [], [], []⟩ Tryz.func7 (by decide) rfl (by simp) (by decide) (by simp [freshOK, freshL, go_sem]) ?_
  rw [Tryz.ntmps7]
  simp [go_sem]
  omega
section
variable {H : Type} {enc : TypeId × Value → H} {w : World} {sp : Nat → Bool} {held : Bool} {base : Nat}
theorem open_bys {n : Nat} {cs : List Value} {x : DataW H × List MemPlace} (h : DataW.trod enc Tryz.prog w base sp held n 22 cs = some x) :
    ∃ xs : List Int, (∀ z ∈ xs, 0 ≤ z ∧ z ≤ 255) ∧ xs.length ≤ 9223372036854775807 ∧ RepL Tryz.prog w (fun b => b < w.heap.size) [.sl xs.length (bys xs)] cs [] ∧ cs.length = 1 := by
  obtain ⟨qs, h1, h2, h3, h4⟩ := open_sl (f := fun z : Int => [AV.val (.int .u8 z)]) (Good := fun z => (Lit.int .u8 z).wf = true) Tryz.underlying22 (s := 1) (by kernel_rfl) (by decide) (fun _ => rfl)
    (fun n cs y hy => by obtain ⟨z, k1, k2, _⟩ := open_i Tryz.underlying5 hy; exact ⟨z, k1, k2⟩) h
  refine ⟨qs, fun z hz => ?_, h2, by rw [flat1] at h3; exact h3, h4⟩
  have := h1 z hz
  simp [Lit.wf, IntKind.min, IntKind.max, IntKind.signed, IntKind.bits] at this
  omega
end
end Go.Proofs.YtnokgijakdaehaaGreatDoor


namespace Go.Proofs.YtnokgijakdaehaaGreatDoor
open Go.Abs
set_option linter.unusedSectionVars false
set_option linter.unusedVariables false
set_option linter.unusedSimpArgs false
set_option maxHeartbeats 4000000
def NmTab (b : ByteArray) : Prop := ∃ (H : List (List Int)) (C : List Int), tabB H C = true ∧ C.length ≤ 4 ∧ Con Tryz.prog 14 [.val (.string b)] (.tup [.agg [.own 25 H.length (omat H), .own 2 C.length (avs C)], .int 0])
theorem all_names : ∀ b ∈ tabNames, NmTab b := by
  intro b hb
  simp only [tabNames, List.mem_cons, List.mem_nil_iff, or_false] at hb
  rcases hb with rfl | rfl | rfl | rfl | rfl | rfl | rfl | rfl | rfl | rfl | rfl | rfl
  · exact ⟨[[0]], [1], by decide, by decide, nm_euler⟩
  · exact ⟨[[2502, 588], [4416, 2502]], [5004, 5004], by decide, by decide, nm_gauss⟩
  · exact ⟨[[0, 0], [1, 0]], [5004, 5004], by decide, by decide, nm_heun⟩
  · exact ⟨[[1]], [1], by decide, by decide, nm_implicit⟩
  · exact ⟨[[0, 0, 0], [5004, 0, 0], [10006, 2, 0]], [1668, 6672, 1668], by decide, by decide, nm_kutta⟩
  · exact ⟨[[0, 0, 0], [2085, 3336, 9590], [1668, 6672, 1668]], [1668, 6672, 1668], by decide, by decide, nm_lobatto⟩
  · exact ⟨[[5004]], [1], by decide, by decide, nm_middle⟩
  · exact ⟨[[0, 0], [5004, 0]], [0, 1], by decide, by decide, nm_midpoint⟩
  · exact ⟨[[4170, 9173], [7506, 2502]], [7506, 2502], by decide, by decide, nm_radau⟩
  · exact ⟨[[0, 0], [6672, 0]], [2502, 7506], by decide, by decide, nm_ralston⟩
  · exact ⟨[[0, 0, 0, 0], [5004, 0, 0, 0], [0, 5004, 0, 0], [0, 0, 1, 0]], [1668, 3336, 3336, 1668], by decide, by decide, nm_runge⟩
  · exact ⟨[[0, 0], [5004, 5004]], [5004, 5004], by decide, by decide, nm_trapezoid⟩
theorem name_at {k : Nat} (hk : k < 12) : ∃ b, (strs tabNames)[k]? = some (.val (.string b)) ∧ NmTab b := by
  have h : k < tabNames.length := hk
  exact ⟨tabNames[k], by simp [strs, h], all_names _ (List.getElem_mem h)⟩
theorem saE_zero {A : List (List Int)} {B : List Int} {z : Int} (h : saE A B z = 0) : Tab A B ∧ isN z ∧ saB A B z ≠ 0 := by
  unfold saE at h
  by_cases h1 : tabB A B = true
  · by_cases h2 : 0 ≤ z ∧ z ≤ 10006
    · by_cases h3 : saB A B z = 0
      · simp [h1, h2, h3] at h
      · exact ⟨tabB_iff.1 h1, ⟨h2.1, by omega⟩, h3⟩
    · simp [h1, h2] at h
  · simp [h1] at h
theorem saE_mk {A : List (List Int)} {B : List Int} {z : Int} (h1 : Tab A B) (h2 : isN z) : saE A B z = if saB A B z = 0 then 5 else 0 := by
  unfold saE
  rw [if_pos (tabB_iff.2 h1), if_pos ⟨h2.1, by have := h2.2; omega⟩]
theorem saX_mk {A : List (List Int)} {B : List Int} {z : Int} (h : saE A B z = 0) : saX A B z = saP A B z * pw (saB A B z) 10005 % 10007 := by
  unfold saX; rw [if_pos h]; rfl
theorem sc_at {l : List Int} {k : Int} {i : Nat} (h : i < l.length) : (scalS l k)[i]?.getD 0 % 10007 = k * l[i]?.getD 0 % 10007 := by
  have e : (scalS l k)[i]?.getD 0 = l[i]?.getD 0 * (k % 10007) % 10007 := tb_get (fun i => l[i]?.getD 0 * (k % 10007) % 10007) h
  rw [e, Int.emod_emod_of_dvd _ (Int.dvd_refl _), mul_mod_r, Int.mul_comm]
theorem tms_tab {A : List (List Int)} {B : List Int} (h : Tab A B) (k : Int) : Tab (tmsM A k) (scalS B k) := by
  refine ⟨by rw [scalS_len]; exact h.pos, by rw [scalS_len]; exact h.le, by rw [tmsM_len, scalS_len]; exact h.len, scalS_N _ _, fun r hr => ?_⟩
  obtain ⟨i, hi, rfl⟩ := List.mem_map.1 hr
  have hi : i < A.length := by simpa using hi
  exact ⟨by rw [scalS_len, scalS_len]; exact (h.rws.at hi).1, scalS_N _ _⟩
theorem tms_at {A : List (List Int)} {B : List Int} {k : Int} (hT : Tab A B) : ∀ r c, r < B.length → c < B.length → mx (tmsM A k) r c % 10007 = k * mx A r c % 10007 := fun r c hr hc => by
  have al := hT.len
  have rl := (hT.rws.at (show r < A.length by omega)).1
  have e : (tmsM A k)[r]?.getD [] = scalS (A[r]?.getD []) k := by unfold tmsM; simp [show r < A.length by omega]
  show ((tmsM A k)[r]?.getD [])[c]?.getD 0 % 10007 = _
  rw [e]
  exact sc_at (by omega)
set_option maxRecDepth 100000 in
theorem FnStabilityProducts_c (c : List Int) (hl : c.length ≤ 9223372036854775807) (hb : ∀ x ∈ c, 0 ≤ x ∧ x ≤ 255) : Con Tryz.prog 5 [.sl c.length (bys c)] (.bool true) := by
  have cB := big_c c hl
  by_cases hc4 : 4096 < c.length
  · refine con_of_vc Tryz.mixed ⟨30, [], [1000000 + 25, 2000000 + 21, 2000000 + 23], []⟩ Tryz.func5 (by decide) rfl (by simp) (by decide) (by simp [freshOK, freshL, go_sem]) ?_
    rw [Tryz.ntmps5]
    simp [go_sem]
    refine CallVC.of (cB) (by decide) ?_
    simp [go_sem]
    simp [go_sem, hc4]
  · have hc : Byt c := ⟨by omega, hb⟩
    have cD := DrawStabilityAt_f c hc
    have cR := roll_r c 620 hc
    refine con_of_vc Tryz.mixed ⟨30, [], [1000000 + 25, 2000000 + 21, 2000000 + 23], []⟩ Tryz.func5 (by decide) rfl (by simp) (by decide) (by simp [freshOK, freshL, go_sem]) ?_
    rw [Tryz.ntmps5]
    simp [go_sem]
    refine CallVC.of (cB) (by decide) ?_
    simp [go_sem]
    simp [go_sem, hc4]
    refine ⟨_, cD, ?_⟩
    rintro _ _ ⟨rfl, A, B, z, hz, rfl⟩
    obtain ⟨z1, z2, z3⟩ := hz
    have c1 := StabilityAt_c A B z (by omega) (fun r h => by have := z3 r h; omega) (by omega)
    have c2 := specStabilityAt_c A B z (by omega) (fun r h => by have := z3 r h; omega) (by omega)
    unfold saR at c1 c2
    simp [go_sem]
    refine CallVC.of (c1) (by decide) ?_
    simp [go_sem]
    refine CallVC.of (c2) (by decide) ?_
    simp [go_sem]
    by_cases hE : saE A B z = 0
    · obtain ⟨hT, zN, nz⟩ := saE_zero hE
      have b8 := hT.le
      have al := hT.len
      by_cases h4 : 4 < B.length
      · have h4i : 4 < (B.length : Int) := by omega
        simp [go_sem, hE, h4i]
      · have h4i : ¬ 4 < (B.length : Int) := by omega
        simp [go_sem, hE, h4i]
        refine ⟨_, cR, ?_⟩
        rintro _ _ ⟨rfl, h, rfl⟩
        have s0 : SOk ((0, h) : Src) := by unfold SOk; simp
        have c3 := below_c c (0, h) 12 hc s0
        have s1 := nx2_ok hc s0 12
        have b3 := nx1_b hc (0, h) (n := 12) (by omega)
        obtain ⟨j, hj⟩ : ∃ j : Nat, nx1 c (0, h) 12 = j := ⟨(nx1 c (0, h) 12).toNat, by omega⟩
        rw [hj] at c3 b3
        generalize nx2 c (0, h) 12 = τ at *
        have c4 := below_c c τ 10006 hc s1
        have s2 := nx2_ok hc s1 10006
        have b4 := nx1_b hc τ (n := 10006) (by omega)
        generalize nx1 c τ 10006 = k0 at *
        generalize nx2 c τ 10006 = τ2 at *
        obtain ⟨b, hat, H, C, hHb, hC4, cN⟩ := name_at (k := j) (by omega)
        have hH := tabB_iff.1 hHb
        have hl8 := hH.len
        have h8 : B.length + C.length ≤ 8 := by omega
        have cC := ComposeTableaus_c A B H C hT hH
        rw [if_pos h8] at cC
        have hCT := cmp_tab hT hH h8
        have cl : (cmpA A B H).length = A.length + H.length := by simp [cmpA]
        have c5 := StabilityAt_c H C z (by omega) (fun r h => by have := (hH.a r h).1; omega) (by omega)
        have c6 := StabilityAt_c (cmpA A B H) (B ++ C) z (by omega) (fun r h => by have := (hCT.a r h).1; rw [List.length_append] at this; omega) (by rw [List.length_append]; omega)
        unfold saR at c5 c6
        rw [cl, List.length_append] at c6
        obtain ⟨v1, v2⟩ := cmp_val hT hH h8 z
        have e6 : saE H C z = 0 → saE (cmpA A B H) (B ++ C) z = 0 ∧ saX (cmpA A B H) (B ++ C) z = saX A B z * saX H C z % 10007 := fun e5 => by
          obtain ⟨_, _, nz2⟩ := saE_zero e5
          have nz3 : saB (cmpA A B H) (B ++ C) z ≠ 0 := fun e0 => by
            rw [v1] at e0
            exact nz2 (sa_nz (saB_N z) (saB_N z) nz e0)
          have e0 : saE (cmpA A B H) (B ++ C) z = 0 := by rw [saE_mk hCT zN, if_neg nz3]
          refine ⟨e0, ?_⟩
          rw [saX_mk e0, saX_mk hE, saX_mk e5, v2]
          have i1 := sa_inv (saB_N z) nz
          have i2 := sa_inv (saB_N z) nz2
          have i3 := sa_inv (saB_N z) nz3
          rw [v1] at i3 ⊢
          exact quo_mul i1 i2 i3
        have cJ := AdjointTableau_c A B hT
        have hJ := ad_tab hT
        have jl := adA_len A B
        have jb := adB_len B
        have nN : isN (-z % 10007) := isN_mod _
        have zN0 := zN.1; have zN1 := zN.2
        have cM0 := mod5_c (-z) (by omega) (by omega)
        have c7 := StabilityAt_c (adA A B) (adB B) (-z % 10007) (by omega) (fun r h => by have := (hJ.a r h).1; omega) (by omega)
        unfold saR at c7
        obtain ⟨w1, w2⟩ := adj_val hT (ad_adj hT) z
        have RN : isN (saX A B z) := by rw [saX_mk hE]; exact isN_mod _
        have eJ : saE (adA A B) (adB B) (-z % 10007) = if saX A B z = 0 then 5 else 0 := by
          rw [saE_mk hJ nN, w1]
          have i1 := sa_inv (saB_N z) nz
          by_cases p0 : saP A B z = 0
          · have x0 : saX A B z = 0 := by rw [saX_mk hE, p0, Int.zero_mul]; rfl
            rw [if_pos p0, if_pos x0]
          · have x0 : saX A B z ≠ 0 := fun e0 => by
              rw [saX_mk hE] at e0
              have w0 : pw (saB A B z) 10005 = 0 := sa_nz (saP_N z) (pw_N _ _) p0 e0
              rw [w0, Int.mul_zero] at i1
              simp at i1
            rw [if_neg p0, if_neg x0]
        have XJ : saX A B z ≠ 0 → saX (adA A B) (adB B) (-z % 10007) * saX A B z % 10007 = 1 := fun x0 => by
          rw [if_neg x0] at eJ
          have p0 : saP A B z ≠ 0 := fun p0 => x0 (by rw [saX_mk hE, p0, Int.zero_mul]; rfl)
          rw [saX_mk eJ, saX_mk hE, w1, w2]
          exact quo_one (sa_inv (saB_N z) nz) (sa_inv (saP_N z) p0)
        have kN : isN (k0 + 1) := ⟨by omega, by omega⟩
        have cT := ScaleTableau_c A B (k0 + 1) hT kN
        have cV := DivideNumbers_c z (k0 + 1) zN kN (by omega)
        have hw : (k0 + 1) * (z * pw (k0 + 1) 10005 % 10007) % 10007 = z % 10007 := by
          have i1 := sa_inv kN (by omega)
          have e : (k0 + 1) * (z * pw (k0 + 1) 10005 % 10007) % 10007 = (k0 + 1) * (z * pw (k0 + 1) 10005) % 10007 := mul_mod_r _ _
          rw [e]
          have e2 : (k0 + 1) * (z * pw (k0 + 1) 10005) = z * ((k0 + 1) * pw (k0 + 1) 10005) := by ac_rfl
          rw [e2, ← mul_mod_r, i1, Int.mul_one]
        have wN : isN (z * pw (k0 + 1) 10005 % 10007) := isN_mod _
        generalize z * pw (k0 + 1) 10005 % 10007 = w at *
        have hTs : Tab (tmsM A (k0 + 1)) (scalS B (k0 + 1)) := tms_tab hT _
        have sl := scalS_len B (k0 + 1)
        have tl := tmsM_len A (k0 + 1)
        obtain ⟨u1, u2⟩ := scl_val (k := k0 + 1) (z := z) (w := w) hT hTs sl (tms_at hT) (fun r hr => sc_at hr) hw
        have c8 := StabilityAt_c (tmsM A (k0 + 1)) (scalS B (k0 + 1)) w (by omega) (fun r h => by have := (hTs.a r h).1; omega) (by omega)
        unfold saR at c8
        have e8 : saE (tmsM A (k0 + 1)) (scalS B (k0 + 1)) w = 0 := by rw [saE_mk hTs wN, u1, if_neg nz]
        have x8 : saX (tmsM A (k0 + 1)) (scalS B (k0 + 1)) w = saX A B z := by rw [saX_mk e8, saX_mk hE, u1, u2]
        rw [e8, x8, sl, tl] at c8
        rw [jl, jb] at c7 cJ
        rw [eJ] at c7
        have SN : saE H C z = 0 → isN (saX H C z) := fun e5 => by rw [saX_mk e5]; exact isN_mod _
        have JN : saX A B z ≠ 0 → isN (saX (adA A B) (adB B) (-z % 10007)) := fun x0 => by rw [if_neg x0] at eJ; rw [saX_mk eJ]; exact isN_mod _
        generalize saX (cmpA A B H) (B ++ C) z = t at *
        generalize saE (cmpA A B H) (B ++ C) z = tE at *
        generalize saX H C z = s at *
        generalize saE H C z = sE at *
        generalize saX A B z = r at *
        generalize saX (adA A B) (adB B) (-z % 10007) = u at *
        unfold dicA at *
        simp [go_sem]
        refine CallVC.of (TableauNames_c) (by decide) ?_
        simp [go_sem]
        refine ⟨_, _, c3, ?_⟩
        simp [go_sem]
        simp [go_sem, hat]
        refine ⟨by omega, ?_⟩
        refine CallVC.of (cN) (by decide) ?_
        simp [go_sem]
        refine CallVC.of (cC) (by decide) ?_
        simp [go_sem]
        refine CallVC.of (c5) (by decide) ?_
        simp [go_sem]
        refine CallVC.of (c6) (by decide) ?_
        simp [go_sem]
        have rb := RN.1; have rb1 := RN.2
        by_cases e5 : sE = 0
        · obtain ⟨t0, tx⟩ := e6 e5
          have sN := SN e5
          have fm := mul_fits RN sN
          have cM1 := mod5_c (r * s) fm.1 fm.2
          rw [← tx] at cM1
          simp -implicitDefEqProofs [go_sem, e5, t0]
          refine ⟨fm, ?_⟩
          refine CallVC.of (cM1) (by decide) ?_
          simp -implicitDefEqProofs [go_sem]
          refine CallVC.of (cJ) (by decide) ?_
          simp [go_sem]
          refine ⟨by kernel_rfl, ⟨by omega, by omega⟩, ?_⟩
          refine CallD.of (cM0) (by simp [roots, rootsL]) (by decide) ?_
          simp [go_sem]
          refine CallD.of (c7) (by simp [roots, rootsL]) (by decide) ?_
          simp [go_sem]
          refine ⟨by kernel_rfl, ?_⟩
          simp [go_sem]
          by_cases x0 : r = 0
          · subst x0
            simp -implicitDefEqProofs [go_sem]
            refine ⟨_, _, c4, ?_⟩
            simp [go_sem]
            refine ⟨⟨by omega, by omega⟩, ?_⟩
            refine CallVC.of (cT) (by decide) ?_
            simp [go_sem]
            refine CallVC.of (cV) (by decide) ?_
            simp [go_sem]
            refine CallVC.of (c8) (by decide) ?_
            simp [go_sem]
          · have uN := JN x0
            have fm2 := mul_fits uN RN
            have cM2 := mod5_c (u * r) fm2.1 fm2.2
            rw [XJ x0] at cM2
            simp -implicitDefEqProofs [go_sem, x0]
            refine ⟨fm2, ?_⟩
            refine CallVC.of (cM2) (by decide) ?_
            simp -implicitDefEqProofs [go_sem, x0]
            refine ⟨_, _, c4, ?_⟩
            simp [go_sem]
            refine ⟨⟨by omega, by omega⟩, ?_⟩
            refine CallVC.of (cT) (by decide) ?_
            simp [go_sem]
            refine CallVC.of (cV) (by decide) ?_
            simp [go_sem]
            refine CallVC.of (c8) (by decide) ?_
            simp [go_sem]
        · simp -implicitDefEqProofs [go_sem, e5]
          refine CallVC.of (cJ) (by decide) ?_
          simp [go_sem]
          refine ⟨by kernel_rfl, ⟨by omega, by omega⟩, ?_⟩
          refine CallD.of (cM0) (by simp [roots, rootsL]) (by decide) ?_
          simp [go_sem]
          refine CallD.of (c7) (by simp [roots, rootsL]) (by decide) ?_
          simp [go_sem]
          refine ⟨by kernel_rfl, ?_⟩
          simp [go_sem]
          by_cases x0 : r = 0
          · subst x0
            simp -implicitDefEqProofs [go_sem]
            refine ⟨_, _, c4, ?_⟩
            simp [go_sem]
            refine ⟨⟨by omega, by omega⟩, ?_⟩
            refine CallVC.of (cT) (by decide) ?_
            simp [go_sem]
            refine CallVC.of (cV) (by decide) ?_
            simp [go_sem]
            refine CallVC.of (c8) (by decide) ?_
            simp [go_sem]
          · have uN := JN x0
            have fm2 := mul_fits uN RN
            have cM2 := mod5_c (u * r) fm2.1 fm2.2
            rw [XJ x0] at cM2
            simp -implicitDefEqProofs [go_sem, x0]
            refine ⟨fm2, ?_⟩
            refine CallVC.of (cM2) (by decide) ?_
            simp -implicitDefEqProofs [go_sem, x0]
            refine ⟨_, _, c4, ?_⟩
            simp [go_sem]
            refine ⟨⟨by omega, by omega⟩, ?_⟩
            refine CallVC.of (cT) (by decide) ?_
            simp [go_sem]
            refine CallVC.of (cV) (by decide) ?_
            simp [go_sem]
            refine CallVC.of (c8) (by decide) ?_
            simp [go_sem]
    · simp [go_sem, hE]
end Go.Proofs.YtnokgijakdaehaaGreatDoor

