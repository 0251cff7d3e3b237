/- Texts of the own layer and contracts, part 7: Q24 Q25 Q26 Q30 Q31 Q32 Q33 Q40 Q27 Q28 W0 E10 E27 U0 W12 W13 V2 Q35 Q37 V0 V1 W1 W3 W14 W15 W6 W7 W9 W10 W19 W22 W23 U1 T0 T1 T2 T3 E28 O W2 W8 L52. -/
import Derived.Test.YtnokgijakdaehaaGreatDoorRows
import Derived.WalkKit
import Derived.ProofKit
import Derived.OpenShut
import Derived.Test.YtnokgijakdaehaaGreatDoorM6
namespace Go.Proofs.YtnokgijakdaehaaGreatDoor
open Go.Abs
set_option linter.unusedSectionVars false
set_option linter.unusedVariables false
set_option linter.unusedSimpArgs false
set_option maxHeartbeats 1000000
theorem getD_mem {α : Type} {l : List α} {i : Nat} (d : α) (h : i < l.length) : l[i]?.getD d ∈ l := by simp [h]
theorem colS_N {a : List (List Int)} (h : ∀ r ∈ a, Ns r) (k : Nat) : Ns (colS a k) := tb_N fun i hi => (h (a[i]?.getD []) (by simp [hi])).get k
theorem turnS_row {n : Nat} {a : List (List Int)} (h7 : a.length = n) (h : ∀ r ∈ a, Ns r) : ∀ r ∈ turnS a, r.length = n ∧ Ns r := by
  intro r hr
  obtain ⟨k, _, rfl⟩ := List.mem_map.1 hr
  exact ⟨by rw [colS_len, h7], colS_N h k⟩
def steS (A : List (List Int)) (B : List Int) (f : List (List Mon)) (start : List (List Int)) : List (List Int) := mvS start B (sloS A f start 7) B.length
@[simp] theorem steS_len (A : List (List Int)) (B : List Int) (f : List (List Mon)) (start : List (List Int)) : (steS A B f start).length = start.length := mvS_len _ _ _ _
theorem steS_row {A : List (List Int)} {B : List Int} {f : List (List Mon)} {start : List (List Int)} (hr : ∀ r ∈ start, r.length = 7 ∧ Ns r) : ∀ r ∈ steS A B f start, r.length = 7 ∧ Ns r := mvS_row hr _
set_option maxRecDepth 100000 in
theorem stepped_c {z : Int} (A : List (List Int)) (B : List Int) (f : List (List Mon)) (start : List (List Int)) (hT : Tab A B) (hf : FieldOk z f) (hs : Small f) (hl : (start.length : Int) = z) (hr : ∀ r ∈ start, r.length = 7 ∧ Ns r) :
    Con Tryz.prog 75 [.agg [.sl A.length (mat A), .sl B.length (avs B)], .sl f.length (fpols f), .sl start.length (mat start)] (.own 25 start.length (omat (steS A B f start))) := by
  have fl := hs.1
  have z3 := hf.hi
  have fz := hf.len
  have b8 := hT.le
  have ab := hT.len
  have cS := slopes_c A B f start hT hf hs hl hr
  have cM := moved_c start B (sloS A f start 7) 7 (by omega) (by omega) hr (by omega) (by omega) (by rw [sloS_len]; omega) hT.b (sloS_row (by omega) 7) (by rw [sloS_len]; omega)
  rw [sloS_len] at cM
  refine con_of_vc Tryz.mixed ⟨7, [], [], []⟩ Tryz.func75 (by decide) rfl (by simp) (by decide) (by simp [freshOK, freshL, go_sem]) ?_
  rw [Tryz.ntmps75]
  simp [go_sem]
  refine ⟨by kernel_rfl, ?_⟩
  refine CallD.of (cS) (by simp [roots, rootsL]) (by decide) ?_
  simp [go_sem]
  refine CallD.of (cM) (by simp [roots, rootsL]) (by decide) ?_
  simp [go_sem]
  refine ⟨by kernel_rfl, ?_⟩
  simp [go_sem]
  rfl
set_option maxRecDepth 100000 in
theorem l15Step_c {z : Int} (A : List (List Int)) (B : List Int) (f : List (List Mon)) (start : List (List Int)) (hT : Tab A B) (hf : FieldOk z f) (hs : Small f) (h7 : start.length = 7) (hr : ∀ r ∈ start, (r.length : Int) = z ∧ Ns r) :
    Con Tryz.prog 79 [.agg [.sl A.length (mat A), .sl B.length (avs B)], .agg [.int z, .sl f.length (prt f)], .sl start.length (mat start)] (.own 25 7 (omat (turnS (steS A B f (turnS start))))) := by
  have fl := hs.1
  have z3 := hf.hi
  have z1 := hf.lo
  have fz := hf.len
  have b8 := hT.le
  have ab := hT.len
  have h0 : (start[0]?.getD []) ∈ start := by simp [show 0 < start.length by omega]
  have hz := (hr _ h0).1
  have tl : (turnS start).length = (start[0]?.getD []).length := turnS_len _
  have tr : ∀ r ∈ turnS start, r.length = 7 ∧ Ns r := turnS_row h7 (fun r h => (hr r h).2)
  have cT := l14Turn_c start (by omega) (by omega) (fun r h => by have := (hr r h).1; omega) (by omega)
  have cS := l15Slopes_c A B f (turnS start) hT hf hs (by omega) tr
  have cM := l15Sum_c (turnS start) B (sloS A f (turnS start) 7) 7 (by omega) (by omega) tr (by omega) (by omega) (by rw [sloS_len]; omega) hT.b (sloS_row (by omega) 7) (by rw [sloS_len]; omega)
  rw [sloS_len] at cM
  have sl := steS_len A B f (turnS start)
  have sr := steS_row (A := A) (B := B) (f := f) tr
  have s0 : ((steS A B f (turnS start))[0]?.getD []) ∈ steS A B f (turnS start) := getD_mem _ (by rw [steS_len]; omega)
  have s7 := (sr _ s0).1
  have cE := l14Turn_c (steS A B f (turnS start)) (by omega) (by omega) (fun r h => by have := (sr r h).1; omega) (by omega)
  rw [turnS_len, s7] at cE
  have hm : mvS (turnS start) B (sloS A f (turnS start) 7) A.length = steS A B f (turnS start) := by unfold steS; rw [ab]
  rw [hm] at cM
  generalize steS A B f (turnS start) = E at *
  rw [sl] at cE
  generalize turnS start = U at *
  refine con_of_vc Tryz.mixed ⟨8, [], [], []⟩ Tryz.func79 (by decide) rfl (by simp) (by decide) (by simp [freshOK, freshL, go_sem]) ?_
  rw [Tryz.ntmps79]
  simp [go_sem]
  refine CallVC.of (cT) (by decide) ?_
  simp [go_sem]
  refine ⟨by kernel_rfl, ?_⟩
  refine CallD.of (cS) (by simp [roots, rootsL]) (by decide) ?_
  simp [go_sem]
  refine CallD.of (cM) (by simp [roots, rootsL]) (by decide) ?_
  simp [go_sem]
  refine CallD.of (cE) (by simp [roots, rootsL]) (by decide) ?_
  simp [go_sem]
  refine ⟨by kernel_rfl, ?_⟩
  simp [go_sem]
def serB (z : Int) (L : List (List Int)) : Bool := decide (L.length = 7) && L.all (vecB z)
theorem notSeries_c (z : Int) (n : Nat) (cs : List AV) (y : List Int) (hl : y.length ≤ 9223372036854775807) :
    Con Tryz.prog 143 [.sl y.length (avs y), .fptr [.int z, .sl n cs]] (.bool (!vecB z y)) := by
  refine con_of_vc Tryz.mixed ⟨4, [], [], []⟩ Tryz.func143 (by decide) rfl (by simp) (by decide) (by simp [freshOK, freshL, go_sem]) ?_
  rw [Tryz.ntmps143]
  simp [go_sem]
  refine CallVC.of (isVector_c z n cs y hl) (by decide) ?_
  simp [go_sem]
theorem isVectorSeries_c (z : Int) (n : Nat) (cs : List AV) (L : List (List Int)) (hl : L.length ≤ 9223372036854775807) (hr : ∀ y ∈ L, y.length ≤ 9223372036854775807) :
    Con Tryz.prog 73 [.agg [.int z, .sl n cs], .sl L.length (mat L)] (.bool (serB z L)) := by
  have cC := ContainsFuncV_c 143 [.int z, .sl n cs] (fun y => !vecB z y) L hl (fun y hy => notSeries_c z n cs y (hr y hy))
  have e : L.any (fun y => !vecB z y) = !L.all (vecB z) := by rw [List.not_all_eq_any_not]
  rw [e] at cC
  unfold serB
  generalize L.all (vecB z) = b at *
  refine con_of_vc Tryz.mixed ⟨5, [], [], []⟩ Tryz.func73 (by decide) rfl (by simp) (by decide) (by simp [freshOK, freshL, go_sem]) ?_
  rw [Tryz.ntmps73]
  simp [go_sem]
  by_cases h : L.length = 7
  · have h2 : (L.length : Int) = 7 := by omega
    simp [go_sem, h2]
    refine CallVC.of (cC) (by decide) ?_
    simp [go_sem]
    cases b <;> simp [h]
  · have h2 : ¬ (L.length : Int) = 7 := by omega
    simp [go_sem, h2]
    simp [h]
theorem l14Series_c (z : Int) (L : List (List Int)) (hl : L.length ≤ 9223372036854775807) (hr : ∀ y ∈ L, y.length ≤ 9223372036854775807) :
    Con Tryz.prog 78 [.int z, .sl L.length (mat L)] (.bool (serB z L)) := by
  unfold serB
  refine con_of_vc Tryz.mixed ⟨6, [], [], []⟩ Tryz.func78 (by decide) rfl (by simp) (by decide) (by simp [freshOK, freshL, go_sem]) ?_
  rw [Tryz.ntmps78]
  simp [go_sem]
  by_cases h7 : L.length = 7
  · have h2 : (L.length : Int) = 7 := by omega
    simp [go_sem, h2, h7]
    refine loop_inv (4 :: 5 :: List.range' 9 13) (fun i : Nat => [(5, .int i)]) (fun i => i ≤ L.length ∧ ∀ p ∈ L.take i, vecB z p = true) (fun i => L.length - i) 0 (by simp) (by simp [go_sem]) (by simp [go_sem]) ?_
    rintro i ⟨hi, hp⟩
    simp [go_sem]
    refine ⟨fun h => ?_, fun h => ?_⟩ <;> simp at h
    · have hif : i < L.length := by omega
      have hx : L[i]?.getD [] ∈ L := getD_mem _ hif
      have cR := l13Point_c z (L[i]?.getD []) (hr _ hx)
      have hvb : (decide (((L[i]?.getD []).length : Int) = z) && numsB (L[i]?.getD [])) = vecB z (L[i]?.getD []) := rfl
      rw [hvb] at cR
      simp [go_sem, mat_drop hif]
      refine ⟨⟨by omega, by rintro rfl; simp at hif⟩, ?_⟩
      cases hv : vecB z (L[i]?.getD []) with
      | false =>
        rw [hv] at cR
        refine CallVC.of (cR) (by decide) ?_
        simp [go_sem]
        exact ⟨_, hx, hv⟩
      | true =>
        rw [hv] at cR
        refine CallVC.of (cR) (by decide) ?_
        simp [go_sem]
        refine ⟨by omega, i + 1, ⟨by omega, take_all hif hp (by simpa [hif] using hv)⟩, by omega, Off_reset _ _ _ (by simp), by omega⟩
    · simp [go_sem]
      rw [List.take_of_length_le (by omega)] at hp
      exact hp
  · have h2 : ¬ (L.length : Int) = 7 := by omega
    simp [go_sem, h2, h7]
end Go.Proofs.YtnokgijakdaehaaGreatDoor


namespace Go.Proofs.YtnokgijakdaehaaGreatDoor
open Go.Abs
set_option linter.unusedSectionVars false
set_option linter.unusedVariables false
set_option linter.unusedSimpArgs false
set_option maxHeartbeats 1000000
def sfE (A : List (List Int)) (B : List Int) (z : Int) (f : List (List Mon)) (L : List (List Int)) : Int := if (tabB A B && fieldB z f) = false then 1 else if serB z L = false then 2 else 0
def sfX (A : List (List Int)) (B : List Int) (z : Int) (f : List (List Mon)) (L : List (List Int)) : List (List Int) := if sfE A B z f L = 0 then turnS (steS A B f (turnS L)) else []
def sfR (A : List (List Int)) (B : List Int) (z : Int) (f : List (List Mon)) (L : List (List Int)) : AV := .tup [.own 25 (sfX A B z f L).length (omat (sfX A B z f L)), .int (sfE A B z f L)]
theorem sfE_zero {A : List (List Int)} {B : List Int} {z : Int} {f : List (List Mon)} {L : List (List Int)} (h : sfE A B z f L = 0) : tabB A B = true ∧ fieldB z f = true ∧ serB z L = true := by
  unfold sfE at h
  generalize tabB A B = a at *
  generalize fieldB z f = b at *
  generalize serB z L = c at *
  cases a <;> cases b <;> cases c <;> simp_all
theorem serB_iff {z : Int} {L : List (List Int)} : serB z L = true ↔ L.length = 7 ∧ ∀ y ∈ L, (y.length : Int) = z ∧ Ns y := by
  unfold serB vecB
  simp [numsB_N]
theorem ste_turn {A : List (List Int)} {B : List Int} {z : Int} {f : List (List Mon)} {L : List (List Int)} (z1 : 1 ≤ z) (hL : L.length = 7 ∧ ∀ y ∈ L, (y.length : Int) = z ∧ Ns y) :
    ((turnS L).length : Int) = z ∧ (∀ r ∈ turnS L, r.length = 7 ∧ Ns r) ∧ (turnS (steS A B f (turnS L))).length = 7 ∧ ∀ r ∈ turnS (steS A B f (turnS L)), (r.length : Int) = z ∧ Ns r := by
  have h0 : (L[0]?.getD []) ∈ L := getD_mem _ (by omega)
  have hz := (hL.2 _ h0).1
  have tl : (turnS L).length = (L[0]?.getD []).length := turnS_len _
  have tr : ∀ r ∈ turnS L, r.length = 7 ∧ Ns r := turnS_row hL.1 (fun r h => (hL.2 r h).2)
  have sl := steS_len A B f (turnS L)
  have sr := steS_row (A := A) (B := B) (f := f) tr
  have s0 : ((steS A B f (turnS L))[0]?.getD []) ∈ steS A B f (turnS L) := getD_mem _ (by rw [steS_len]; omega)
  have s7 := (sr _ s0).1
  refine ⟨by omega, tr, by rw [turnS_len, s7], fun r h => ?_⟩
  have := turnS_row (a := steS A B f (turnS L)) rfl (fun r h => (sr r h).2) r h
  exact ⟨by omega, this.2⟩
theorem sfX_ok (A : List (List Int)) (B : List Int) (z : Int) (f : List (List Mon)) (L : List (List Int)) : (sfX A B z f L).length ≤ 7 ∧ ∀ r ∈ sfX A B z f L, r.length ≤ 3 := by
  unfold sfX
  split
  · rename_i h
    obtain ⟨hT, hF, hS⟩ := sfE_zero h
    have hF := fieldB_iff.1 hF
    have hL := serB_iff.1 hS
    obtain ⟨_, _, e1, e2⟩ := ste_turn (A := A) (B := B) (f := f) hF.lo hL
    have := hF.hi
    exact ⟨by omega, fun r hr => by have := (e2 r hr).1; omega⟩
  · simp
set_option maxRecDepth 100000 in
theorem StepFrom_c (A : List (List Int)) (B : List Int) (z : Int) (f : List (List Mon)) (L : List (List Int)) (hA : A.length ≤ 1048576) (hB : B.length ≤ 1048576) (hr : ∀ r ∈ A, r.length ≤ 1048576) (hs : Small f) (hl : L.length ≤ 1048576) (hrl : ∀ r ∈ L, r.length ≤ 1048576) :
    Con Tryz.prog 17 [.agg [.sl A.length (mat A), .sl B.length (avs B)], .agg [.int z, .sl f.length (prt f)], .sl L.length (mat L)] (sfR A B z f L) := by
  have cA := IsTableau_c A B (by omega) (by omega) (fun r h => by have := hr r h; omega)
  have cT := IsField_c z f hs
  have cR := isVectorSeries_c z f.length (prt f) L (by omega) (fun r h => by have := hrl r h; omega)
  unfold sfR sfX
  have hz := @sfE_zero A B z f L
  have hd : sfE A B z f L = if (tabB A B && fieldB z f) = false then 1 else if serB z L = false then 2 else 0 := rfl
  generalize sfE A B z f L = e at *
  by_cases he : e = 0
  · subst he
    obtain ⟨hT, hF, hS⟩ := hz rfl
    rw [hT] at cA
    rw [hF] at cT
    rw [hS] at cR
    have hT := tabB_iff.1 hT
    have hF := fieldB_iff.1 hF
    have hL := serB_iff.1 hS
    have fl := hs.1
    have z1 := hF.lo
    have z3 := hF.hi
    have h0 : (L[0]?.getD []) ∈ L := getD_mem _ (by omega)
    have h0z := (hL.2 _ h0).1
    obtain ⟨t1, t2, t3, t4⟩ := ste_turn (A := A) (B := B) (f := f) z1 hL
    have cP := polynomials_c z f hF hs
    have cU := turned_c L (by omega) (by omega) (fun r h => by have := (hL.2 r h).1; omega) (by omega)
    have cS := stepped_c A B f (turnS L) hT hF hs t1 t2
    have sl := steS_len A B f (turnS L)
    have sr := steS_row (A := A) (B := B) (f := f) t2
    have s0 : ((steS A B f (turnS L))[0]?.getD []) ∈ steS A B f (turnS L) := getD_mem _ (by rw [steS_len]; omega)
    have s7 := (sr _ s0).1
    have cE := turned_c (steS A B f (turnS L)) (by omega) (by omega) (fun r h => by have := (sr r h).1; omega) (by omega)
    rw [sl] at cE
    rw [if_pos rfl]
    generalize turnS (steS A B f (turnS L)) = X at *
    generalize steS A B f (turnS L) = E at *
    generalize turnS L = U at *
    refine con_of_vc Tryz.mixed ⟨8, [], [], []⟩ Tryz.func17 (by decide) rfl (by simp) (by decide) (by simp [freshOK, freshL, go_sem]) ?_
    rw [Tryz.ntmps17]
    simp [go_sem]
    refine CallVC.of (cA) (by decide) ?_
    simp [go_sem]
    refine CallVC.of (cT) (by decide) ?_
    simp [go_sem]
    refine CallVC.of (cR) (by decide) ?_
    simp [go_sem]
    refine ⟨by kernel_rfl, ?_⟩
    refine CallD.of (cP) (by simp [roots, rootsL]) (by decide) ?_
    simp [go_sem]
    refine CallD.of (cU) (by simp [roots, rootsL]) (by decide) ?_
    simp [go_sem]
    refine CallD.of (cS) (by simp [roots, rootsL]) (by decide) ?_
    simp [go_sem]
    refine CallD.of (cE) (by simp [roots, rootsL]) (by decide) ?_
    simp [go_sem]
    refine ⟨by kernel_rfl, ?_⟩
    simp [go_sem]
  · rw [if_neg he]
    refine Con.n1 _ ?_
    generalize tabB A B = a at *
    generalize fieldB z f = b at *
    generalize serB z L = c at *
    clear hz
    cases a <;> cases b <;> cases c
    all_goals simp only [Bool.and_self, Bool.and_false, Bool.false_and, Bool.true_and, Bool.false_eq_true, if_true, if_false, reduceCtorEq] at hd
    all_goals subst hd
    · refine con_of_vc Tryz.mixed ⟨8, [], [], []⟩ Tryz.func17 (by decide) rfl (by simp) (by decide) (by simp [freshOK, freshL, go_sem]) ?_
      rw [Tryz.ntmps17]
      simp [go_sem]
      refine CallVC.of (cA) (by decide) ?_
      simp [go_sem]
    · refine con_of_vc Tryz.mixed ⟨8, [], [], []⟩ Tryz.func17 (by decide) rfl (by simp) (by decide) (by simp [freshOK, freshL, go_sem]) ?_
      rw [Tryz.ntmps17]
      simp [go_sem]
      refine CallVC.of (cA) (by decide) ?_
      simp [go_sem]
    · refine con_of_vc Tryz.mixed ⟨8, [], [], []⟩ Tryz.func17 (by decide) rfl (by simp) (by decide) (by simp [freshOK, freshL, go_sem]) ?_
      rw [Tryz.ntmps17]
      simp [go_sem]
      refine CallVC.of (cA) (by decide) ?_
      simp [go_sem]
    · refine con_of_vc Tryz.mixed ⟨8, [], [], []⟩ Tryz.func17 (by decide) rfl (by simp) (by decide) (by simp [freshOK, freshL, go_sem]) ?_
      rw [Tryz.ntmps17]
      simp [go_sem]
      refine CallVC.of (cA) (by decide) ?_
      simp [go_sem]
    · refine con_of_vc Tryz.mixed ⟨8, [], [], []⟩ Tryz.func17 (by decide) rfl (by simp) (by decide) (by simp [freshOK, freshL, go_sem]) ?_
      rw [Tryz.ntmps17]
      simp [go_sem]
      refine CallVC.of (cA) (by decide) ?_
      simp [go_sem]
      refine CallVC.of (cT) (by decide) ?_
      simp [go_sem]
    · refine con_of_vc Tryz.mixed ⟨8, [], [], []⟩ Tryz.func17 (by decide) rfl (by simp) (by decide) (by simp [freshOK, freshL, go_sem]) ?_
      rw [Tryz.ntmps17]
      simp [go_sem]
      refine CallVC.of (cA) (by decide) ?_
      simp [go_sem]
      refine CallVC.of (cT) (by decide) ?_
      simp [go_sem]
    · refine con_of_vc Tryz.mixed ⟨8, [], [], []⟩ Tryz.func17 (by decide) rfl (by simp) (by decide) (by simp [freshOK, freshL, go_sem]) ?_
      rw [Tryz.ntmps17]
      simp [go_sem]
      refine CallVC.of (cA) (by decide) ?_
      simp [go_sem]
      refine CallVC.of (cT) (by decide) ?_
      simp [go_sem]
      refine CallVC.of (cR) (by decide) ?_
      simp [go_sem]
    · exact absurd rfl he
set_option maxRecDepth 100000 in
theorem specStepFrom_c (A : List (List Int)) (B : List Int) (z : Int) (f : List (List Mon)) (L : List (List Int)) (hA : A.length ≤ 1048576) (hB : B.length ≤ 1048576) (hr : ∀ r ∈ A, r.length ≤ 1048576) (hs : Small f) (hl : L.length ≤ 1048576) (hrl : ∀ r ∈ L, r.length ≤ 1048576) :
    Con Tryz.prog 18 [.agg [.sl A.length (mat A), .sl B.length (avs B)], .agg [.int z, .sl f.length (prt f)], .sl L.length (mat L)] (sfR A B z f L) := by
  have cA := l09Is_c A B (by omega) (by omega) (fun r h => by have := hr r h; omega)
  have cT := l13Is_c z f hs
  have cR := l14Series_c z L (by omega) (fun r h => by have := hrl r h; omega)
  unfold sfR sfX
  have hz := @sfE_zero A B z f L
  have hd : sfE A B z f L = if (tabB A B && fieldB z f) = false then 1 else if serB z L = false then 2 else 0 := rfl
  generalize sfE A B z f L = e at *
  by_cases he : e = 0
  · subst he
    obtain ⟨hT, hF, hS⟩ := hz rfl
    rw [hT] at cA
    rw [hF] at cT
    rw [hS] at cR
    have hT := tabB_iff.1 hT
    have hF := fieldB_iff.1 hF
    have hL := serB_iff.1 hS
    obtain ⟨t1, t2, t3, t4⟩ := ste_turn (A := A) (B := B) (f := f) hF.lo hL
    have cS := l15Step_c A B f L hT hF hs hL.1 hL.2
    rw [if_pos rfl, t3]
    generalize turnS (steS A B f (turnS L)) = X at *
    refine con_of_vc Tryz.mixed ⟨8, [], [], []⟩ Tryz.func18 (by decide) rfl (by simp) (by decide) (by simp [freshOK, freshL, go_sem]) ?_
    rw [Tryz.ntmps18]
    simp [go_sem]
    refine CallVC.of (cA) (by decide) ?_
    simp [go_sem]
    refine CallVC.of (cT) (by decide) ?_
    simp [go_sem]
    refine CallVC.of (cR) (by decide) ?_
    simp [go_sem]
    refine CallVC.of (cS) (by decide) ?_
    simp [go_sem]
  · rw [if_neg he]
    refine Con.n1 _ ?_
    generalize tabB A B = a at *
    generalize fieldB z f = b at *
    generalize serB z L = c at *
    clear hz
    cases a <;> cases b <;> cases c
    all_goals simp only [Bool.and_self, Bool.and_false, Bool.false_and, Bool.true_and, Bool.false_eq_true, if_true, if_false, reduceCtorEq] at hd
    all_goals subst hd
    · refine con_of_vc Tryz.mixed ⟨8, [], [], []⟩ Tryz.func18 (by decide) rfl (by simp) (by decide) (by simp [freshOK, freshL, go_sem]) ?_
      rw [Tryz.ntmps18]
      simp [go_sem]
      refine CallVC.of (cA) (by decide) ?_
      simp [go_sem]
    · refine con_of_vc Tryz.mixed ⟨8, [], [], []⟩ Tryz.func18 (by decide) rfl (by simp) (by decide) (by simp [freshOK, freshL, go_sem]) ?_
      rw [Tryz.ntmps18]
      simp [go_sem]
      refine CallVC.of (cA) (by decide) ?_
      simp [go_sem]
    · refine con_of_vc Tryz.mixed ⟨8, [], [], []⟩ Tryz.func18 (by decide) rfl (by simp) (by decide) (by simp [freshOK, freshL, go_sem]) ?_
      rw [Tryz.ntmps18]
      simp [go_sem]
      refine CallVC.of (cA) (by decide) ?_
      simp [go_sem]
    · refine con_of_vc Tryz.mixed ⟨8, [], [], []⟩ Tryz.func18 (by decide) rfl (by simp) (by decide) (by simp [freshOK, freshL, go_sem]) ?_
      rw [Tryz.ntmps18]
      simp [go_sem]
      refine CallVC.of (cA) (by decide) ?_
      simp [go_sem]
    · refine con_of_vc Tryz.mixed ⟨8, [], [], []⟩ Tryz.func18 (by decide) rfl (by simp) (by decide) (by simp [freshOK, freshL, go_sem]) ?_
      rw [Tryz.ntmps18]
      simp [go_sem]
      refine CallVC.of (cA) (by decide) ?_
      simp [go_sem]
      refine CallVC.of (cT) (by decide) ?_
      simp [go_sem]
    · refine con_of_vc Tryz.mixed ⟨8, [], [], []⟩ Tryz.func18 (by decide) rfl (by simp) (by decide) (by simp [freshOK, freshL, go_sem]) ?_
      rw [Tryz.ntmps18]
      simp [go_sem]
      refine CallVC.of (cA) (by decide) ?_
      simp [go_sem]
      refine CallVC.of (cT) (by decide) ?_
      simp [go_sem]
    · refine con_of_vc Tryz.mixed ⟨8, [], [], []⟩ Tryz.func18 (by decide) rfl (by simp) (by decide) (by simp [freshOK, freshL, go_sem]) ?_
      rw [Tryz.ntmps18]
      simp [go_sem]
      refine CallVC.of (cA) (by decide) ?_
      simp [go_sem]
      refine CallVC.of (cT) (by decide) ?_
      simp [go_sem]
      refine CallVC.of (cR) (by decide) ?_
      simp [go_sem]
    · exact absurd rfl he
end Go.Proofs.YtnokgijakdaehaaGreatDoor


namespace Go.Proofs.YtnokgijakdaehaaGreatDoor
open Go.Abs
set_option linter.unusedSectionVars false
set_option linter.unusedVariables false
set_option linter.unusedSimpArgs false
set_option maxHeartbeats 1000000
end Go.Proofs.YtnokgijakdaehaaGreatDoor


namespace Go.Proofs.YtnokgijakdaehaaGreatDoor
open Go.Abs
set_option linter.unusedSectionVars false
set_option linter.unusedVariables false
set_option linter.unusedSimpArgs false
set_option maxHeartbeats 1000000
end Go.Proofs.YtnokgijakdaehaaGreatDoor


namespace Go.Proofs.YtnokgijakdaehaaGreatDoor
open Go.Abs
set_option linter.unusedSectionVars false
set_option linter.unusedVariables false
set_option linter.unusedSimpArgs false
set_option maxHeartbeats 2000000
end Go.Proofs.YtnokgijakdaehaaGreatDoor


namespace Go.Proofs.YtnokgijakdaehaaGreatDoor
open Go.Abs CR
set_option linter.unusedSectionVars false
set_option linter.unusedVariables false
set_option linter.unusedSimpArgs false
set_option maxHeartbeats 1000000
def toS (a : List Int) : Ser Int := fun n => a[n]?.getD 0
def csum (A B : Nat → Int) (n : Nat) : Nat → Int
  | 0 => 0
  | m + 1 => csum A B n m + A m * B (n - m)
theorem csum_shift (A B : Nat → Int) (n : Nat) : ∀ m, csum A B (n + 1) (m + 1) = A 0 * B (n + 1) + csum (sh A) B n m
  | 0 => by simp [csum]
  | m + 1 => by
    rw [csum, csum_shift A B n m, csum]
    have : n + 1 - (m + 1) = n - m := by omega
    rw [this, Int.add_assoc]; rfl
theorem csum_all : ∀ (n : Nat) (A B : Nat → Int), csum A B n (n + 1) = cmul n A B
  | 0, A, B => by simp [csum, cmul]
  | n + 1, A, B => by rw [csum_shift, csum_all n, cmul]
theorem cv_csum (a b : List Int) (n : Nat) : ∀ m, cv a b n m = csum (toS a) (toS b) n m
  | 0 => rfl
  | m + 1 => by rw [cv, cv_csum a b n m]; rfl
abbrev c7 : Cg (Ser Int) := cgS cgI 7
theorem mulS_ser {a b : List Int} (ha : a.length = 7) : c7.r (toS (mulS a b)) (toS a * toS b) := by
  intro n hn
  show (toS (mulS a b) n) % 10007 = (cmul n (toS a) (toS b)) % 10007
  rw [← csum_all, ← cv_csum]
  have e := tb_get (fun n => cv a b n (n + 1) % 10007) (show n < a.length by omega)
  have e2 : toS (mulS a b) n = cv a b n (n + 1) % 10007 := e
  rw [e2, Int.emod_emod_of_dvd _ (Int.dvd_refl _)]
theorem pwS_ser {s x : List Int} (hs : s.length = 7) : ∀ n, c7.r (toS (pwS s x n)) (toS s * pwr (toS x) n)
  | 0 => c7.eq (mul1 _).symm
  | n + 1 => by
    refine c7.trans (mulS_ser (by rw [pwS_len, hs])) ?_
    refine c7.trans (c7.mul (pwS_ser hs n) (c7.refl _)) (c7.eq ?_)
    rw [pwr, mulA]
def toU (L : List (List Int)) : Nat → Ser Int := fun k => toS (L[k]?.getD [])
theorem teS_ser {L : List (List Int)} {e s : List Int} (hs : s.length = 7) : ∀ d, c7.r (toS (teS L e s d)) (toS s * mon (toU L) (ex e) d)
  | 0 => c7.eq (mul1 _).symm
  | d + 1 => by
    refine c7.trans (pwS_ser (by rw [teS_len, hs]) _) ?_
    refine c7.trans (c7.mul (teS_ser hs d) (c7.refl _)) (c7.eq ?_)
    rw [mon, mulA]; rfl
theorem unS_ser (a : Int) : toS (unS a) = ofI a := funext fun n => by
  show ([a, 0, 0, 0, 0, 0, 0] : List Int)[n]?.getD 0 = if n = 0 then a else 0
  match n with
  | 0 => rfl
  | 1 => rfl
  | 2 => rfl
  | 3 => rfl
  | 4 => rfl
  | 5 => rfl
  | 6 => rfl
  | n + 7 => simp
theorem voS_ser (L : List (List Int)) : ∀ p : List Mon, c7.r (fun n => voS L n p) (evM L.length (toU L) p)
  | [] => fun n hn => by
    show (0 : Int) % 10007 = (evM L.length (toU L) [] n) % 10007
    rw [evM_nil]
    cases n <;> rfl
  | m :: p => by
    rw [evM_cons, ← unS_ser]
    have h1 := teS_ser (L := L) (e := m.2) (s := unS m.1) rfl L.length
    exact c7.add h1 (voS_ser L p)
section
variable {α : Type} [CR α]
theorem Cg.evM (c : Cg α) {d : Nat} {U V : Nat → α} (h : ∀ k, k < d → c.r (U k) (V k)) (L : List Mon) : c.r (evM d U L) (evM d V L) := c.ev h _
end
end Go.Proofs.YtnokgijakdaehaaGreatDoor


namespace Go.Proofs.YtnokgijakdaehaaGreatDoor
open Go.Abs
set_option linter.unusedSectionVars false
set_option linter.unusedVariables false
set_option linter.unusedSimpArgs false
set_option maxHeartbeats 1000000
end Go.Proofs.YtnokgijakdaehaaGreatDoor


namespace Go.Proofs.YtnokgijakdaehaaGreatDoor
open Go.Abs
set_option linter.unusedSectionVars false
set_option linter.unusedVariables false
set_option linter.unusedSimpArgs false
set_option maxHeartbeats 1000000
theorem mvS_first {start : List (List Int)} {c : List Int} {L : List (List (List Int))} (hs : ∀ r ∈ start, r.length = 7 ∧ Ns r) : ∀ i k, k < start.length → ((mvS start c L i)[k]?.getD [])[0]?.getD 0 = (start[k]?.getD [])[0]?.getD 0
  | 0, _, _ => rfl
  | i + 1, k, hk => by
    have ih := mvS_first (c := c) (L := L) hs i k hk
    have hm := mvS_row (c := c) (L := L) hs i _ (memD [] (show k < (mvS start c L i).length by rw [mvS_len]; exact hk))
    have e : (mvS start c L (i + 1))[k]?.getD [] = plusS ((mvS start c L i)[k]?.getD []) (raiS ((L[i]?.getD [])[k]?.getD [])) (c[i]?.getD 0) := by simp [mvS, hk]
    have e2 : (raiS ((L[i]?.getD [])[k]?.getD []))[0]?.getD 0 = 0 := by
      unfold raiS
      rcases Nat.lt_or_ge 0 ((L[i]?.getD [])[k]?.getD []).length with h | h
      · rw [tb_get _ h]; rfl
      · rw [List.getElem?_eq_none (by simpa using h)]; rfl
    have h3 := tb_get (fun j => (((mvS start c L i)[k]?.getD [])[j]?.getD 0 + c[i]?.getD 0 % 10007 * (raiS ((L[i]?.getD [])[k]?.getD []))[j]?.getD 0) % 10007) (show 0 < ((mvS start c L i)[k]?.getD []).length by omega)
    have hn := hm.2.get 0
    rw [e]
    unfold plusS
    rw [h3, e2, Int.mul_zero, Int.add_zero, Int.emod_eq_of_lt hn.1 (by have := hn.2; omega), ih]
end Go.Proofs.YtnokgijakdaehaaGreatDoor


namespace Go.Proofs.YtnokgijakdaehaaGreatDoor
open Go.Abs
set_option linter.unusedSectionVars false
set_option linter.unusedVariables false
set_option linter.unusedSimpArgs false
set_option maxHeartbeats 1000000
end Go.Proofs.YtnokgijakdaehaaGreatDoor


namespace Go.Proofs.YtnokgijakdaehaaGreatDoor
open Go.Abs
set_option linter.unusedSectionVars false
set_option linter.unusedVariables false
set_option linter.unusedSimpArgs false
set_option maxHeartbeats 1000000
end Go.Proofs.YtnokgijakdaehaaGreatDoor


namespace Go.Proofs.YtnokgijakdaehaaGreatDoor
open Go.Abs
set_option linter.unusedSectionVars false
set_option linter.unusedVariables false
set_option linter.unusedSimpArgs false
set_option maxHeartbeats 1000000
def bys (c : List Int) : List AV := c.map fun x => .val (.int .u8 x)
@[simp] theorem bys_len (c : List Int) : (bys c).length = c.length := by simp [bys]
theorem bys_drop {c : List Int} {k : Nat} (h : k < c.length) : (bys c).drop k = .val (.int .u8 (c[k]?.getD 0)) :: bys (c.drop (k + 1)) := by
  rw [bys, ← List.map_drop, List.drop_eq_getElem_cons h, List.map_cons]; simp [h, bys]
def Byt (c : List Int) : Prop := c.length ≤ 4096 ∧ ∀ x ∈ c, 0 ≤ x ∧ x ≤ 255
theorem Byt.get {c : List Int} (h : Byt c) (k : Nat) : 0 ≤ c[k]?.getD 0 ∧ c[k]?.getD 0 ≤ 255 := by
  rcases Nat.lt_or_ge k c.length with hk | hk
  · simp [hk]; exact h.2 _ (List.getElem_mem hk)
  · simp [hk]
abbrev Src := Nat × Int
def srcA (c : List Int) (σ : Src) : AV := .box 136 [.sl c.length (bys c), .int σ.1, .val (.int .u64 σ.2)]
theorem srcA_eq (c : List Int) (σ : Src) : srcA c σ = .box 136 [.sl c.length (bys c), .int σ.1, .val (.int .u64 σ.2)] := rfl
def nxH (h : Int) : Int := IntKind.u64.wrap (IntKind.u64.wrap (h * 6364136223846793005) + 1442695040888963407)
def nxX (h : Int) : Int := andI IntKind.u64 (shrI IntKind.u64 (nxH h) 33) 16777215
def byV (c : List Int) (k : Nat) : Int := if k < c.length then c[k]?.getD 0 else 0
def nx1 (c : List Int) (σ : Src) (n : Int) : Int := if n < 1 then 0 else (nxX σ.2 + byV c σ.1).tmod n
def nx2 (c : List Int) (σ : Src) (n : Int) : Src := if n < 1 then σ else (if σ.1 < c.length then σ.1 + 1 else σ.1, nxH σ.2)
def SOk (σ : Src) : Prop := σ.1 ≤ 4096
theorem nx2_ok {c : List Int} (hc : Byt c) {σ : Src} (h : SOk σ) (n : Int) : SOk (nx2 c σ n) := by
  unfold SOk nx2 at *
  have := hc.1
  split
  · exact h
  · simp only; split <;> omega
theorem nxX_b (h : Int) : 0 ≤ nxX h ∧ nxX h ≤ 16777215 := by
  unfold nxX andI
  generalize shrI IntKind.u64 (nxH h) 33 = y
  have h1 : (BitVec.ofInt IntKind.u64.bits y &&& BitVec.ofInt IntKind.u64.bits 16777215).toNat ≤ 16777215 := by
    rw [BitVec.toNat_and]
    exact Nat.le_trans Nat.and_le_right (by decide)
  generalize (BitVec.ofInt IntKind.u64.bits y &&& BitVec.ofInt IntKind.u64.bits 16777215).toNat = m at *
  simp [IntKind.wrap, IntKind.signed, IntKind.bits]
  omega
theorem byV_b {c : List Int} (hc : Byt c) (k : Nat) : 0 ≤ byV c k ∧ byV c k ≤ 255 := by
  unfold byV
  split
  · exact hc.get k
  · omega
theorem nx1_b {c : List Int} (hc : Byt c) (σ : Src) {n : Int} (hn : 1 ≤ n) : 0 ≤ nx1 c σ n ∧ nx1 c σ n < n := by
  have h1 := nxX_b σ.2
  have h2 := byV_b hc σ.1
  unfold nx1
  rw [if_neg (by omega), Int.tmod_eq_emod_of_nonneg (by omega)]
  exact ⟨Int.emod_nonneg _ (by omega), Int.emod_lt_of_pos _ (by omega)⟩
set_option maxRecDepth 100000 in
theorem l01Next_c (c : List Int) (σ : Src) (n : Int) (hc : Byt c) (hs : SOk σ) : GCon Tryz.prog 38 [srcA c σ, .int n] (.int (nx1 c σ n)) [srcA c (nx2 c σ n), .any] := by
  have hx := nxX_b σ.2
  have hy := byV_b hc σ.1
  have hcl := hc.1
  unfold SOk at hs
  unfold nx1 nx2
  by_cases h0 : n < 1
  · rw [if_pos h0, if_pos h0]
    unfold srcA
    refine gcon_of_vc Tryz.mixed ⟨6, [], [], []⟩ [4] [0] Tryz.func38 (by decide) rfl rfl (by simp) (by simp) (by decide) ?_
    rw [Tryz.ntmps38]
    simp [go_sem]
    simp [go_sem, h0]
  · rw [if_neg h0, if_neg h0]
    unfold srcA
    have e1 : nxH σ.2 = IntKind.u64.wrap (IntKind.u64.wrap (σ.2 * 6364136223846793005) + 1442695040888963407) := rfl
    have e2 : nxX σ.2 = andI IntKind.u64 (shrI IntKind.u64 (nxH σ.2) 33) 16777215 := rfl
    generalize nxX σ.2 = x at *
    generalize nxH σ.2 = h' at *
    have n0 : ¬ n = 0 := by omega
    by_cases hk : σ.1 < c.length
    · have hb : byV c σ.1 = c[σ.1]?.getD 0 := by unfold byV; rw [if_pos hk]
      have hne : ¬ c = [] := by rintro rfl; simp at hk
      rw [if_pos hk]
      rw [hb] at hy ⊢
      refine gcon_of_vc Tryz.mixed ⟨6, [], [], []⟩ [4] [0] Tryz.func38 (by decide) rfl rfl (by simp) (by simp) (by decide) ?_
      rw [Tryz.ntmps38]
      simp [go_sem]
      simp [go_sem, h0, ← e1, ← e2]
      refine ⟨⟨by omega, by omega⟩, by kernel_rfl, ?_⟩
      refine ⟨by kernel_rfl, ?_⟩
      simp [go_sem]
      have hD := bys_drop hk
      generalize c[σ.1]?.getD 0 = b at *
      simp [go_sem, hk, hD]
      refine ⟨by kernel_rfl, by intro e; exact hne (by simpa [bys] using e), ⟨by omega, by omega⟩, ⟨by omega, by omega⟩, ?_⟩
      refine ⟨by kernel_rfl, ?_⟩
      simp [go_sem]
      exact ⟨⟨by omega, by omega⟩, n0⟩
    · have hb : byV c σ.1 = 0 := by unfold byV; rw [if_neg hk]
      rw [if_neg hk]
      rw [hb] at hy ⊢
      refine gcon_of_vc Tryz.mixed ⟨6, [], [], []⟩ [4] [0] Tryz.func38 (by decide) rfl rfl (by simp) (by simp) (by decide) ?_
      rw [Tryz.ntmps38]
      simp [go_sem]
      simp [go_sem, h0, ← e1, ← e2]
      refine ⟨⟨by omega, by omega⟩, by kernel_rfl, ?_⟩
      refine ⟨by kernel_rfl, ?_⟩
      simp [go_sem]
      simp [go_sem, hk]
      exact n0
theorem getI {xs : List Int} {v : Int} (h0 : 0 ≤ v) (h1 : v < xs.length) : ∃ k : Nat, v = k ∧ k < xs.length ∧ v.toNat = k := ⟨v.toNat, by omega, by omega, rfl⟩
def pk (c : List Int) (σ : Src) (xs : List Int) : Int := xs[(nx1 c σ xs.length).toNat]?.getD 0
theorem pk_mem (c : List Int) (hc : Byt c) (σ : Src) {xs : List Int} (hx : 0 < xs.length) : pk c σ xs ∈ xs := by
  have h := nx1_b hc σ (n := xs.length) (by omega)
  unfold pk
  have hk : (nx1 c σ xs.length).toNat < xs.length := by omega
  simp [hk]
set_option maxRecDepth 100000 in
theorem l01Pick_c (c : List Int) (σ : Src) (xs : List Int) (hc : Byt c) (hs : SOk σ) (hx : 0 < xs.length) (hxl : xs.length ≤ 1000) :
    GCon Tryz.prog 108 [srcA c σ, .own 2 xs.length (avs xs)] (.int (pk c σ xs)) [srcA c (nx2 c σ xs.length), .any] := by
  have cN := l01Next_c c σ xs.length hc hs
  have hb := nx1_b hc σ (n := xs.length) (by omega)
  unfold pk
  obtain ⟨k, hk, hkl, hkt⟩ := getI hb.1 hb.2
  rw [hkt]
  rw [hk] at cN
  unfold srcA at *
  refine gcon_of_vc Tryz.mixed ⟨5, [], [1000000 + 38], []⟩ [4] [0] Tryz.func108 (by decide) rfl rfl (by simp) (by simp) (by decide) ?_
  rw [Tryz.ntmps108]
  simp [go_sem]
  refine ⟨_, _, cN, ?_⟩
  simp [go_sem]
  have hA := avs_at hkl
  simp [go_sem, hA]
  exact hkl
theorem l01Frac_c (p q : Int) (hp : fits p) (hq : fits q) : Con Tryz.prog 168 [.int p, .int q] (.int (p % 10007 * pw (q % 10007) 10005 % 10007)) := by
  have hf : fits (p % 10007 * pw (q % 10007) 10005) := mul_fits (isN_mod _) (isN_mod _)
  refine con_of_vc Tryz.mixed ⟨5, [], [], []⟩ Tryz.func168 (by decide) rfl (by simp) (by decide) (by simp [freshOK, freshL, go_sem]) ?_
  rw [Tryz.ntmps168]
  simp [go_sem]
  refine CallVC.of (l01Mod_c p hp.1 hp.2) (by decide) ?_
  simp [go_sem]
  refine CallVC.of (l01Mod_c q hq.1 hq.2) (by decide) ?_
  simp [go_sem]
  refine CallVC.of (l01Inv_c _ (isN_mod q)) (by decide) ?_
  simp [go_sem]
  refine CallVC.of (l01Mul_c _ _ hf) (by decide) ?_
  simp [go_sem]
def nbV (c : List Int) (σ : Src) : Int × Src :=
  if nx1 c σ 5 = 0 then (nx1 c (nx2 c σ 5) 10007, nx2 c (nx2 c σ 5) 10007)
  else if nx1 c σ 5 = 1 then (pk c (nx2 c σ 5) [0, 1, 0, 1, 10006, 2], nx2 c (nx2 c σ 5) 6)
  else ((nx1 c (nx2 c σ 5) 15 - 7) % 10007 * pw ((1 + nx1 c (nx2 c (nx2 c σ 5) 15) 12) % 10007) 10005 % 10007, nx2 c (nx2 c (nx2 c σ 5) 15) 12)
theorem nbV_ok {c : List Int} (hc : Byt c) {σ : Src} (hs : SOk σ) : isN (nbV c σ).1 ∧ SOk (nbV c σ).2 := by
  have s1 := nx2_ok hc hs 5
  unfold nbV
  split
  · exact ⟨nx1_b hc (nx2 c σ 5) (n := 10007) (by omega), nx2_ok hc s1 _⟩
  · split
    · refine ⟨?_, nx2_ok hc s1 _⟩
      have := pk_mem c hc (nx2 c σ 5) (xs := [0, 1, 0, 1, 10006, 2]) (by simp)
      simp at this
      simp only
      constructor <;> omega
    · exact ⟨isN_mod _, nx2_ok hc (nx2_ok hc s1 _) _⟩
set_option maxRecDepth 100000 in
theorem l01Number_c (c : List Int) (σ : Src) (hc : Byt c) (hs : SOk σ) : GCon Tryz.prog 110 [srcA c σ] (.int (nbV c σ).1) [srcA c (nbV c σ).2] := by
  have s1 := nx2_ok hc hs 5
  have s2 := nx2_ok hc s1 15
  have c1 := l01Next_c c σ 5 hc hs
  have c2 := l01Next_c c (nx2 c σ 5) 10007 hc s1
  have c3 := l01Pick_c c (nx2 c σ 5) [0, 1, 0, 1, 10006, 2] hc s1 (by simp) (by simp)
  have c4 := l01Next_c c (nx2 c σ 5) 15 hc s1
  have c5 := l01Next_c c (nx2 c (nx2 c σ 5) 15) 12 hc s2
  have b4 := nx1_b hc (nx2 c σ 5) (n := 15) (by omega)
  have b5 := nx1_b hc (nx2 c (nx2 c σ 5) 15) (n := 12) (by omega)
  have c6 := l01Frac_c (nx1 c (nx2 c σ 5) 15 - 7) (1 + nx1 c (nx2 c (nx2 c σ 5) 15) 12) ⟨by omega, by omega⟩ ⟨by omega, by omega⟩
  unfold nbV
  have e3 : (([0, 1, 0, 1, 10006, 2] : List Int).length : Int) = 6 := rfl
  rw [e3] at c3
  generalize pk c (nx2 c σ 5) [0, 1, 0, 1, 10006, 2] = pv at *
  generalize nx1 c (nx2 c (nx2 c σ 5) 15) 12 = v5 at *
  generalize nx2 c (nx2 c (nx2 c σ 5) 15) 12 = t5 at *
  generalize nx1 c (nx2 c σ 5) 15 = v4 at *
  generalize nx2 c (nx2 c σ 5) 15 = t4 at *
  generalize nx2 c (nx2 c σ 5) 6 = t3 at *
  generalize nx1 c (nx2 c σ 5) 10007 = v2 at *
  generalize nx2 c (nx2 c σ 5) 10007 = t2 at *
  generalize nx1 c σ 5 = v1 at *
  generalize nx2 c σ 5 = t1 at *
  unfold srcA at *
  by_cases h0 : v1 = 0
  · rw [if_pos h0]
    refine gcon_of_vc Tryz.mixed ⟨3, [], [1000000 + 38, 1000000 + 108], []⟩ [2] [0] Tryz.func110 (by decide) rfl rfl (by simp) (by simp) (by decide) ?_
    rw [Tryz.ntmps110]
    simp [go_sem]
    refine ⟨_, _, c1, ?_⟩
    simp [go_sem]
    simp [go_sem, h0]
    refine ⟨_, _, c2, ?_⟩
    simp [go_sem]
  · rw [if_neg h0]
    by_cases h1 : v1 = 1
    · rw [if_pos h1]
      refine gcon_of_vc Tryz.mixed ⟨3, [], [1000000 + 38, 1000000 + 108], []⟩ [2] [0] Tryz.func110 (by decide) rfl rfl (by simp) (by simp) (by decide) ?_
      rw [Tryz.ntmps110]
      simp [go_sem]
      refine ⟨_, _, c1, ?_⟩
      simp [go_sem]
      simp [go_sem, h0, h1]
      refine ⟨_, _, c3, ?_⟩
      simp [go_sem]
    · rw [if_neg h1]
      refine gcon_of_vc Tryz.mixed ⟨3, [], [1000000 + 38, 1000000 + 108], []⟩ [2] [0] Tryz.func110 (by decide) rfl rfl (by simp) (by simp) (by decide) ?_
      rw [Tryz.ntmps110]
      simp [go_sem]
      refine ⟨_, _, c1, ?_⟩
      simp [go_sem]
      simp [go_sem, h0, h1]
      refine ⟨_, _, c4, ?_⟩
      simp [go_sem]
      refine ⟨⟨by omega, by omega⟩, ?_⟩
      refine ⟨_, _, c5, ?_⟩
      simp [go_sem]
      refine ⟨⟨by omega, by omega⟩, ?_⟩
      refine CallVC.of (c6) (by decide) ?_
      simp [go_sem]
def lsV (f : Src → Int × Src) : Nat → Src → List Int × Src
  | 0, σ => ([], σ)
  | n + 1, σ => ((f σ).1 :: (lsV f n (f σ).2).1, (lsV f n (f σ).2).2)
theorem lsV_ok {f : Src → Int × Src} (hf : ∀ σ, SOk σ → isN (f σ).1 ∧ SOk (f σ).2) : ∀ (n : Nat) (σ : Src), SOk σ → (lsV f n σ).1.length = n ∧ Ns (lsV f n σ).1 ∧ SOk (lsV f n σ).2
  | 0, σ, h => ⟨rfl, by simp [lsV, Ns], h⟩
  | n + 1, σ, h => by
    have h1 := hf σ h
    have h2 := lsV_ok hf n _ h1.2
    refine ⟨by simp [lsV, h2.1], fun x hx => ?_, h2.2.2⟩
    rcases List.mem_cons.1 hx with rfl | hx
    · exact h1.1
    · exact h2.2.1 x hx
set_option maxRecDepth 100000 in
theorem l01List_c (c : List Int) (σ : Src) (n : Nat) (hc : Byt c) (hs : SOk σ) (hn : n ≤ 100000) :
    GCon Tryz.prog 40 [srcA c σ, .int n] (.own 2 n (avs (lsV (nbV c) n σ).1)) [srcA c (lsV (nbV c) n σ).2, .any] := by
  unfold srcA
  refine gcon_of_vc Tryz.mixed ⟨6, [], [1000000 + 110], []⟩ [4] [0] Tryz.func40 (by decide) rfl rfl (by simp) (by simp) (by decide) ?_
  rw [Tryz.ntmps40]
  simp [go_sem]
  refine loop_inv (0 :: 1 :: 5 :: List.range' 7 9) (fun x : List Int × Src × Nat => [(0, .box 136 [.sl c.length (bys c), .int x.2.1.1, .val (.int .u64 x.2.1.2)]), (1, .int x.2.2), (5, .own 2 x.1.length (avs x.1))]) (fun x => SOk x.2.1 ∧ x.1.length + x.2.2 = n ∧ x.1 ++ (lsV (nbV c) x.2.2 x.2.1).1 = (lsV (nbV c) n σ).1 ∧ (lsV (nbV c) x.2.2 x.2.1).2 = (lsV (nbV c) n σ).2) (fun x => x.2.2) ([], σ, n) ⟨hs, by simp, rfl, rfl⟩ (by simp [go_sem, avs]) (by simp [go_sem]) ?_
  rintro ⟨acc, τ, k⟩ ⟨h1, h2, h3, h4⟩
  simp only at h1 h2 h3 h4
  simp [go_sem]
  refine ⟨fun h => ?_, fun h => ?_⟩ <;> simp at h
  · obtain ⟨j, rfl⟩ : ∃ j, k = j + 1 := ⟨k - 1, by omega⟩
    have cN := l01Number_c c τ hc h1
    have hok := nbV_ok hc h1
    unfold srcA at cN
    simp only [lsV] at h3 h4
    generalize nbV c τ = r at *
    simp [go_sem]
    refine ⟨_, _, cN, ?_⟩
    simp [go_sem]
    refine ⟨⟨by omega, by omega⟩, by omega, acc ++ [r.1], r.2.1, r.2.2, j, ⟨hok.2, by simp; omega, by simpa using h3, h4⟩, by omega, Off_reset _ _ _ (by simp), ?_⟩
    simp [avs]
  · have e : k = 0 := by omega
    subst e
    simp only [lsV, List.append_nil] at h3 h4
    simp [go_sem]
    rw [← h3, ← h4]
    simp at h2
    simp [h2]
set_option maxRecDepth 100000 in
theorem l01From_r (c : List Int) (hc : Byt c) : RCon Tryz.prog 36 [.sl c.length (bys c)] (fun r o => o = [.any] ∧ ∃ h, r = srcA c (0, h)) := by
  have hcl := hc.1
  unfold srcA
  refine rcon_of_vcH Tryz.mixed ⟨5, [], [], []⟩ [] Tryz.func36 (by decide) rfl (by simp) (by simp) (by decide) ?_
  rw [Tryz.ntmps36]
  simp [go_sem]
  refine loop_inv (3 :: 4 :: List.range' 12 25) (fun x : Nat × Int => [(3, .box 136 [.sl c.length (bys c), .int 0, .val (.int .u64 x.2)]), (4, .int x.1)]) (fun x => x.1 ≤ c.length) (fun x => c.length - x.1) (0, IntKind.u64.wrap (5381 + IntKind.u64.wrap c.length)) (by simp) (by simp [go_sem]) (by simp [go_sem]) ?_
  rintro ⟨i, h⟩ hi
  simp only at hi
  by_cases hic : i < c.length
  · have h4 : (i : Int) < 4096 := by omega
    have hne : ¬ c = [] := by rintro rfl; simp at hic
    have hD := bys_drop hic
    have hb := hc.get i
    generalize c[i]?.getD 0 = b at *
    simp [go_sem, hic, h4, hD]
    refine ⟨by kernel_rfl, by intro e; exact hne (by simpa [bys] using e), ?_⟩
    refine ⟨by kernel_rfl, ?_⟩
    simp [go_sem]
    exact ⟨⟨by omega, by omega⟩, i + 1, by omega, by omega, Off_reset _ _ _ (by simp), by omega⟩
  · simp [go_sem, hic]
set_option maxRecDepth 100000 in
theorem likeInts_c (a b : List Int) (ha : a.length ≤ 9223372036854775807) : Con Tryz.prog 11 [.sl a.length (avs a), .sl b.length (avs b)] (.bool (decide (a = b))) := by
  by_cases hl : a.length = b.length
  · refine con_of_vc Tryz.mixed ⟨6, [], [], []⟩ Tryz.func11 (by decide) rfl (by simp) (by decide) (by simp [freshOK, freshL, go_sem]) ?_
    rw [Tryz.ntmps11]
    simp [go_sem]
    simp [go_sem, hl]
    refine loop_inv (4 :: 5 :: List.range' 11 15) (fun i : Nat => [(5, .int i)]) (fun i => i ≤ a.length ∧ ∀ j, j < i → a[j]?.getD 0 = b[j]?.getD 0) (fun i => a.length - i) 0 (by simp) (by simp [go_sem]) (by simp [go_sem]) ?_
    rintro i ⟨hi, hj⟩
    simp [go_sem]
    refine ⟨fun h => ?_, fun h => ?_⟩ <;> simp at h
    · have hia : i < a.length := by omega
      have hib : i < b.length := by omega
      have na : ¬ a = [] := by rintro rfl; simp at hia
      have nb : ¬ b = [] := by rintro rfl; simp at hib
      simp [go_sem, avs_drop hia, avs_drop hib]
      refine ⟨by kernel_rfl, ⟨hib, na⟩, ⟨hib, nb⟩, ?_⟩
      refine ⟨by kernel_rfl, ?_⟩
      simp [go_sem]
      refine ⟨fun h2 => ?_, fun h2 => ?_⟩ <;> simp at h2
      · have e : ¬ a = b := fun e => h2 (by rw [e])
        simp [go_sem, e]
      · simp [go_sem]
        refine ⟨by omega, i + 1, ⟨by omega, fun j hj2 => ?_⟩, by omega, Off_reset _ _ _ (by simp), by omega⟩
        rcases Nat.lt_or_ge j i with h3 | h3
        · exact hj j h3
        · have : j = i := by omega
          subst this
          exact h2
    · have e : a = b := by
        refine List.ext_getElem hl fun k h1 h2 => ?_
        have := hj k (by omega)
        simpa [h1, h2] using this
      simp [go_sem, e]
  · have e : ¬ a = b := fun e => hl (by rw [e])
    have hl2 : ¬ (a.length : Int) = b.length := by omega
    refine con_of_vc Tryz.mixed ⟨6, [], [], []⟩ Tryz.func11 (by decide) rfl (by simp) (by decide) (by simp [freshOK, freshL, go_sem]) ?_
    rw [Tryz.ntmps11]
    simp [go_sem]
    simp [go_sem, hl2, e]
end Go.Proofs.YtnokgijakdaehaaGreatDoor


namespace Go.Proofs.YtnokgijakdaehaaGreatDoor
open Go.Abs
set_option linter.unusedSectionVars false
set_option linter.unusedVariables false
set_option linter.unusedSimpArgs false
set_option maxHeartbeats 1000000
end Go.Proofs.YtnokgijakdaehaaGreatDoor


namespace Go.Proofs.YtnokgijakdaehaaGreatDoor
open Go.Abs CR
set_option linter.unusedSectionVars false
set_option linter.unusedVariables false
set_option linter.unusedSimpArgs false
set_option maxHeartbeats 1000000
def en (X : List (List Int)) (k j : Nat) : Int := (X[k]?.getD [])[j]?.getD 0
def R7 (n : Nat) (X : List (List Int)) : Prop := X.length = n ∧ ∀ r ∈ X, r.length = 7 ∧ Ns r
theorem R7.row {n : Nat} {X : List (List Int)} (h : R7 n X) {k : Nat} (hk : k < n) : (X[k]?.getD []).length = 7 ∧ Ns (X[k]?.getD []) := h.2 _ (memD [] (by rw [h.1]; exact hk))
theorem R7.ext {n : Nat} {X Y : List (List Int)} (hX : R7 n X) (hY : R7 n Y) (h : ∀ k, k < n → ∀ j, j < 7 → en X k j % 10007 = en Y k j % 10007) : X = Y := by
  refine List.ext_getElem (by rw [hX.1, hY.1]) fun k h1 h2 => ?_
  have hk : k < n := by rw [← hX.1]; exact h1
  have x1 := hX.row hk
  have y1 := hY.row hk
  have e := h k hk
  unfold en at e
  rw [List.getElem?_eq_getElem h1, Option.getD_some] at x1 e
  rw [List.getElem?_eq_getElem h2, Option.getD_some] at y1 e
  refine List.ext_getElem (by rw [x1.1, y1.1]) fun j j1 j2 => ?_
  have ej := e j (by omega)
  have n1 := x1.2.get j
  have n2 := y1.2.get j
  rw [Int.emod_eq_of_lt n1.1 (by have := n1.2; omega), Int.emod_eq_of_lt n2.1 (by have := n2.2; omega), List.getElem?_eq_getElem j1, List.getElem?_eq_getElem j2] at ej
  exact ej
theorem mv_R7 {n : Nat} {start : List (List Int)} (hs : R7 n start) (c : List Int) (L : List (List (List Int))) (i : Nat) : R7 n (mvS start c L i) :=
  ⟨by rw [mvS_len, hs.1], mvS_row hs.2 i⟩
theorem mv_en0 {n : Nat} {start : List (List Int)} (hs : R7 n start) (c : List Int) (L : List (List (List Int))) (i : Nat) {k : Nat} (hk : k < n) : en (mvS start c L i) k 0 = en start k 0 :=
  mvS_first hs.2 i k (by rw [hs.1]; exact hk)
theorem mv_enS {n : Nat} {start : List (List Int)} (hs : R7 n start) (c : List Int) {L : List (List (List Int))} {k : Nat} (hk : k < n) {j : Nat} (hj : j < 6) : ∀ i, (∀ q, q < i → R7 n (L[q]?.getD [])) →
    en (mvS start c L i) k (j + 1) % 10007 = (en start k (j + 1) + dsum (fun q => c[q]?.getD 0 * en (L[q]?.getD []) k j) i) % 10007
  | 0, _ => by show _ = (en start k (j + 1) + 0) % 10007; rw [Int.add_zero]; rfl
  | i + 1, hL => by
    have ih := mv_enS hs c hk hj i (fun q hq => hL q (by omega))
    have hk2 : k < start.length := by rw [hs.1]; exact hk
    have hm := (mv_R7 hs c L i).row hk
    have l7 := ((hL i (by omega)).row hk).1
    have e : (mvS start c L (i + 1))[k]?.getD [] = plusS ((mvS start c L i)[k]?.getD []) (raiS ((L[i]?.getD [])[k]?.getD [])) (c[i]?.getD 0) := by
      simp only [mvS]
      simp [hk2]
    have e2 : (raiS ((L[i]?.getD [])[k]?.getD []))[j + 1]?.getD 0 = en (L[i]?.getD []) k j := by
      unfold raiS
      rw [tb_get _ (by omega), if_neg (by omega)]; rfl
    show ((mvS start c L (i + 1))[k]?.getD [])[j + 1]?.getD 0 % 10007 = (en start k (j + 1) + (dsum _ i + c[i]?.getD 0 * en (L[i]?.getD []) k j)) % 10007
    rw [e]
    unfold plusS
    rw [tb_get _ (by omega), e2, Int.emod_emod_of_dvd _ (Int.dvd_refl _), ← Int.add_assoc]
    refine mod_addc ih ?_
    rw [Int.mul_emod, Int.emod_emod_of_dvd _ (Int.dvd_refl _), ← Int.mul_emod]
theorem mv_same {n : Nat} {s1 s2 : List (List Int)} (h1 : R7 n s1) (h2 : R7 n s2) {c1 c2 : List Int} {L1 L2 : List (List (List Int))} {i1 i2 : Nat} (hL1 : ∀ q, q < i1 → R7 n (L1[q]?.getD [])) (hL2 : ∀ q, q < i2 → R7 n (L2[q]?.getD []))
    (h0 : ∀ k, k < n → en s1 k 0 = en s2 k 0)
    (hS : ∀ k, k < n → ∀ j, j < 6 → (en s1 k (j + 1) + dsum (fun q => c1[q]?.getD 0 * en (L1[q]?.getD []) k j) i1) % 10007 = (en s2 k (j + 1) + dsum (fun q => c2[q]?.getD 0 * en (L2[q]?.getD []) k j) i2) % 10007) :
    mvS s1 c1 L1 i1 = mvS s2 c2 L2 i2 := by
  refine R7.ext (mv_R7 h1 _ _ _) (mv_R7 h2 _ _ _) fun k hk j hj => ?_
  cases j with
  | zero => rw [mv_en0 h1 _ _ _ hk, mv_en0 h2 _ _ _ hk, h0 k hk]
  | succ j => rw [mv_enS h1 _ hk (by omega) _ hL1, mv_enS h2 _ hk (by omega) _ hL2, hS k hk j (by omega)]
theorem fd_en {M : List (List Int)} {f : List (List Mon)} {k j : Nat} (hk : k < f.length) (hj : j < 7) : en (fdS M f) k j % 10007 = (evM M.length (toU M) (f[k]?.getD []) : Ser Int) j % 10007 := by
  have e1 : (fdS M f)[k]?.getD [] = evS M (f[k]?.getD []) := by simp [fdS, hk]
  unfold en
  rw [e1]
  unfold evS
  rw [tb_get _ hj, Int.emod_emod_of_dvd _ (Int.dvd_refl _)]
  exact voS_ser M (f[k]?.getD []) j hj
theorem fd_cong {n m : Nat} {M M' : List (List Int)} (hM : M.length = n) (hM' : M'.length = n) {f : List (List Mon)} (hm : m ≤ 7) (h : ∀ k, k < n → ∀ j, j < m → en M k j % 10007 = en M' k j % 10007) {k j : Nat} (hk : k < f.length) (hj : j < m) :
    en (fdS M f) k j % 10007 = en (fdS M' f) k j % 10007 := by
  rw [fd_en hk (by omega), fd_en hk (by omega), hM, hM']
  exact Cg.evM (cgS cgI m) (fun q hq i hi => h q hq i hi) (f[k]?.getD []) j hj
theorem fd_R7 (M : List (List Int)) (f : List (List Mon)) : R7 f.length (fdS M f) := ⟨by simp, fdS_row⟩
def Fix (A : List (List Int)) (f : List (List Mon)) (start : List (List Int)) (K : List (List (List Int))) : Prop := K.length = A.length ∧ ∀ i, i < A.length → K[i]?.getD [] = fdS (mvS start (A[i]?.getD []) K (A[i]?.getD []).length) f
section
variable {A : List (List Int)} {B : List Int} {f : List (List Mon)} {start : List (List Int)} {n : Nat}
theorem Fix.R7 {K : List (List (List Int))} (hf : f.length = n) (h : Fix A f start K) {i : Nat} (hi : i < A.length) : R7 n (K[i]?.getD []) := by
  rw [h.2 i hi, ← hf]; exact fd_R7 _ _
theorem slo_R7 (hf : f.length = n) (hs : R7 n start) (t : Nat) {i : Nat} (hi : i < A.length) : R7 n ((sloS A f start t)[i]?.getD []) := by
  have h := sloS_row (A := A) (f := f) (start := start) (by rw [hf, hs.1]) t _ (memD [] (show i < (sloS A f start t).length by rw [sloS_len]; exact hi))
  exact ⟨by rw [h.1, hs.1], h.2⟩
theorem slo_agree (hf : f.length = n) (hs : R7 n start) (hrow : ∀ i, i < A.length → (A[i]?.getD []).length = A.length) {K K' : List (List (List Int))} (g : ∀ i, i < A.length → R7 n (K[i]?.getD [])) (g' : ∀ i, i < A.length → R7 n (K'[i]?.getD [])) {t : Nat} (ht : t < 7)
    (h : ∀ i, i < A.length → ∀ k, k < n → ∀ j, j < t → en (K[i]?.getD []) k j % 10007 = en (K'[i]?.getD []) k j % 10007) {i : Nat} (hi : i < A.length) {k : Nat} (hk : k < n) {j : Nat} (hj : j < t + 1) :
    en (fdS (mvS start (A[i]?.getD []) K (A[i]?.getD []).length) f) k j % 10007 = en (fdS (mvS start (A[i]?.getD []) K' (A[i]?.getD []).length) f) k j % 10007 := by
  refine fd_cong (mv_R7 hs _ _ _).1 (mv_R7 hs _ _ _).1 (by omega) (fun q hq m hm => ?_) (by rw [hf]; exact hk) hj
  cases m with
  | zero => rw [mv_en0 hs _ _ _ hq, mv_en0 hs _ _ _ hq]
  | succ m =>
    rw [mv_enS hs _ hq (by omega) _ (fun q hq => g q (by rw [← hrow i hi]; exact hq)), mv_enS hs _ hq (by omega) _ (fun q hq => g' q (by rw [← hrow i hi]; exact hq))]
    refine mod_addc rfl (dsum_mod fun r hr => mod_mulc rfl (h r (by rw [← hrow i hi]; exact hr) q hq m (by omega)))
theorem fix_agree (hf : f.length = n) (hs : R7 n start) (hrow : ∀ i, i < A.length → (A[i]?.getD []).length = A.length) {K : List (List (List Int))} (h : Fix A f start K) : ∀ t, t ≤ 7 → ∀ i, i < A.length → ∀ k, k < n → ∀ j, j < t →
    en ((sloS A f start t)[i]?.getD []) k j % 10007 = en (K[i]?.getD []) k j % 10007
  | 0, _, _, _, _, _, j, hj => by omega
  | t + 1, ht, i, hi, k, hk, j, hj => by
    rw [sloS_at f start t hi, h.2 i hi]
    exact slo_agree hf hs hrow (fun i hi => slo_R7 hf hs t hi) (fun i hi => h.R7 hf hi) (by omega) (fix_agree hf hs hrow h t (by omega)) hi hk hj
theorem slo_steady (hf : f.length = n) (hs : R7 n start) (hrow : ∀ i, i < A.length → (A[i]?.getD []).length = A.length) : ∀ t, t ≤ 7 → ∀ i, i < A.length → ∀ k, k < n → ∀ j, j < t →
    en ((sloS A f start t)[i]?.getD []) k j % 10007 = en ((sloS A f start (t + 1))[i]?.getD []) k j % 10007
  | 0, _, _, _, _, _, j, hj => by omega
  | t + 1, ht, i, hi, k, hk, j, hj => by
    rw [sloS_at f start t hi, sloS_at f start (t + 1) hi]
    exact slo_agree hf hs hrow (fun i hi => slo_R7 hf hs t hi) (fun i hi => slo_R7 hf hs (t + 1) hi) (by omega) (slo_steady hf hs hrow t (by omega)) hi hk hj
theorem slo_fix (hf : f.length = n) (hs : R7 n start) (hrow : ∀ i, i < A.length → (A[i]?.getD []).length = A.length) : Fix A f start (sloS A f start 7) := by
  refine ⟨sloS_len _ _ _ _, fun i hi => ?_⟩
  rw [← sloS_at f start 7 hi]
  exact R7.ext (slo_R7 hf hs 7 hi) (slo_R7 hf hs 8 hi) fun k hk j hj => slo_steady hf hs hrow 7 (Nat.le_refl _) i hi k hk j hj
theorem fix_uniq (hf : f.length = n) (hs : R7 n start) (hrow : ∀ i, i < A.length → (A[i]?.getD []).length = A.length) {K : List (List (List Int))} (h : Fix A f start K) : sloS A f start 7 = K := by
  refine List.ext_getElem (by rw [sloS_len, h.1]) fun i h1 h2 => ?_
  have hi : i < A.length := by rw [← h.1]; exact h2
  have e := R7.ext (slo_R7 hf hs 7 hi) (h.R7 hf hi) fun k hk j hj => fix_agree hf hs hrow h 7 (Nat.le_refl _) i hi k hk j hj
  rw [List.getElem?_eq_getElem h1, List.getElem?_eq_getElem h2] at e
  exact e
theorem ste_R7 (hs : R7 n start) : R7 n (steS A B f start) := mv_R7 hs _ _ _
theorem step_back (hT : Tab A B) (hf : f.length = n) (hs : R7 n start) : steS (lesM A B) (scalS B (-1)) f (steS A B f start) = start := by
  have rl : ∀ i, i < A.length → (A[i]?.getD []).length = A.length := fun i hi => by rw [hT.len]; exact (hT.rws.at hi).1
  have ll : (lesM A B).length = A.length := by simp [lesM]
  have lr : ∀ i, i < A.length → (lesM A B)[i]?.getD [] = plusS (A[i]?.getD []) B (-1) := fun i hi => by simp [lesM, hi]
  have fx := slo_fix hf hs rl
  have ss := ste_R7 (A := A) (B := B) (f := f) hs
  have kr : ∀ q, q < B.length → R7 n ((sloS A f start 7)[q]?.getD []) := fun q hq => slo_R7 hf hs 7 (by rw [hT.len]; exact hq)
  have sS : ∀ k, k < n → ∀ j, j < 6 → en (steS A B f start) k (j + 1) % 10007 = (en start k (j + 1) + dsum (fun q => B[q]?.getD 0 * en ((sloS A f start 7)[q]?.getD []) k j) B.length) % 10007 := fun k hk j hj => mv_enS hs B hk hj B.length kr
  have s0 : ∀ k, k < n → en (steS A B f start) k 0 = en start k 0 := fun k hk => mv_en0 hs _ _ _ hk
  have fb : Fix (lesM A B) f (steS A B f start) (sloS A f start 7) := by
    refine ⟨by rw [fx.1, ll], fun i hi => ?_⟩
    rw [ll] at hi
    rw [fx.2 i hi, lr i hi, plusS_len]
    congr 1
    refine mv_same hs ss (fun q hq => kr q (by rw [rl i hi, hT.len] at hq; exact hq)) (fun q hq => kr q (by rw [rl i hi, hT.len] at hq; exact hq)) (fun k hk => (s0 k hk).symm) fun k hk j hj => ?_
    have e := mod_addc (sS k hk j hj) (rfl : dsum (fun q => (plusS (A[i]?.getD []) B (-1))[q]?.getD 0 * en ((sloS A f start 7)[q]?.getD []) k j) (A[i]?.getD []).length % 10007 = _)
    rw [e]
    rw [Int.add_assoc]
    refine mod_addc rfl ?_
    rw [rl i hi, hT.len, ← dsum_plus]
    refine dsum_mod fun q hq => ?_
    have pe : (plusS (A[i]?.getD []) B (-1))[q]?.getD 0 = ((A[i]?.getD [])[q]?.getD 0 + (-1) % 10007 * B[q]?.getD 0) % 10007 := by
      unfold plusS
      exact tb_get _ (by rw [rl i hi, hT.len]; exact hq)
    rw [pe, ← Int.add_mul]
    refine mod_mulc ?_ rfl
    omega
  have un := fix_uniq hf ss (fun i hi => by rw [ll] at hi; rw [lr i hi, plusS_len, rl i hi, ll]) fb
  show mvS (steS A B f start) (scalS B (-1)) (sloS (lesM A B) f (steS A B f start) 7) (scalS B (-1)).length = start
  rw [un, scalS_len]
  refine R7.ext (mv_R7 ss _ _ _) hs fun k hk j hj => ?_
  cases j with
  | zero => rw [mv_en0 ss _ _ _ hk, s0 k hk]
  | succ j =>
    rw [mv_enS ss _ hk (by omega) _ kr, mod_addc (sS k hk j (by omega)) rfl, Int.add_assoc, ← dsum_plus]
    have z : dsum (fun q => B[q]?.getD 0 * en ((sloS A f start 7)[q]?.getD []) k j + (scalS B (-1))[q]?.getD 0 * en ((sloS A f start 7)[q]?.getD []) k j) B.length % 10007 = dsum (fun _ => 0) B.length % 10007 := dsum_mod fun q hq => by
      have pe : (scalS B (-1))[q]?.getD 0 = B[q]?.getD 0 * ((-1) % 10007) % 10007 := by
        unfold scalS
        exact tb_get _ hq
      rw [pe, ← Int.add_mul]
      have : (B[q]?.getD 0 + B[q]?.getD 0 * ((-1) % 10007) % 10007) % 10007 = 0 % 10007 := by omega
      rw [mod_mulc this rfl, Int.zero_mul]
    rw [mod_addc rfl z, dsum_zero (fun _ _ => rfl), Int.add_zero]
def cmpA (A : List (List Int)) (B : List Int) (H : List (List Int)) : List (List Int) := A.map (fun r => r ++ List.replicate H.length 0) ++ H.map (fun r => B ++ r)
theorem app_lt {α : Type} {l m : List α} {q : Nat} (d : α) (h : q < l.length) : (l ++ m)[q]?.getD d = l[q]?.getD d := by rw [List.getElem?_append_left h]
theorem app_ge {α : Type} {l m : List α} {q : Nat} (d : α) : (l ++ m)[l.length + q]?.getD d = m[q]?.getD d := by rw [List.getElem?_append_right (by omega), Nat.add_sub_cancel_left]
theorem step_comp {H : List (List Int)} {C : List Int} (hT : Tab A B) (hH : Tab H C) (hf : f.length = n) (hs : R7 n start) : steS (cmpA A B H) (B ++ C) f start = steS H C f (steS A B f start) := by
  have rl : ∀ i, i < A.length → (A[i]?.getD []).length = A.length := fun i hi => by rw [hT.len]; exact (hT.rws.at hi).1
  have rh : ∀ i, i < H.length → (H[i]?.getD []).length = H.length := fun i hi => by rw [hH.len]; exact (hH.rws.at hi).1
  have ss := ste_R7 (A := A) (B := B) (f := f) hs
  have fx := slo_fix hf hs rl
  have fy := slo_fix hf ss rh
  have kx : ∀ q, q < A.length → R7 n ((sloS A f start 7)[q]?.getD []) := fun q hq => slo_R7 hf hs 7 hq
  have ky : ∀ q, q < H.length → R7 n ((sloS H f (steS A B f start) 7)[q]?.getD []) := fun q hq => slo_R7 hf ss 7 hq
  have sS : ∀ k, k < n → ∀ j, j < 6 → en (steS A B f start) k (j + 1) % 10007 = (en start k (j + 1) + dsum (fun q => B[q]?.getD 0 * en ((sloS A f start 7)[q]?.getD []) k j) A.length) % 10007 := fun k hk j hj => by
    have := mv_enS hs B hk hj B.length (fun q hq => kx q (by rw [hT.len]; exact hq))
    rw [← hT.len] at this
    rw [← this]
    unfold steS
    rw [← hT.len]
  have s0 : ∀ k, k < n → en (steS A B f start) k 0 = en start k 0 := fun k hk => mv_en0 hs _ _ _ hk
  generalize hK : sloS A f start 7 = K at *
  generalize hY : sloS H f (steS A B f start) 7 = Y at *
  have kl : K.length = A.length := fx.1
  have yl : Y.length = H.length := fy.1
  have al : (A.map (fun r => r ++ List.replicate H.length (0 : Int))).length = A.length := by simp
  have cl : (cmpA A B H).length = A.length + H.length := by simp [cmpA]
  have c1 : ∀ i, i < A.length → (cmpA A B H)[i]?.getD [] = A[i]?.getD [] ++ List.replicate H.length 0 := fun i hi => by
    unfold cmpA
    rw [app_lt _ (by rw [al]; exact hi)]
    simp [hi]
  have c2 : ∀ i, i < H.length → (cmpA A B H)[A.length + i]?.getD [] = B ++ H[i]?.getD [] := fun i hi => by
    unfold cmpA
    have := app_ge (l := A.map (fun r => r ++ List.replicate H.length (0 : Int))) (m := H.map (fun r => B ++ r)) (q := i) []
    rw [al] at this
    rw [this]
    simp [hi]
  have k1 : ∀ q, q < A.length → (K ++ Y)[q]?.getD [] = K[q]?.getD [] := fun q hq => app_lt _ (by rw [kl]; exact hq)
  have k2 : ∀ q, (K ++ Y)[A.length + q]?.getD [] = Y[q]?.getD [] := fun q => by
    have := app_ge (l := K) (m := Y) (q := q) []
    rw [kl] at this
    exact this
  have kr : ∀ q, q < A.length + H.length → R7 n ((K ++ Y)[q]?.getD []) := fun q hq => by
    rcases Nat.lt_or_ge q A.length with h | h
    · rw [k1 q h]; exact kx q h
    · have e := k2 (q - A.length)
      rw [show A.length + (q - A.length) = q by omega] at e
      rw [e]; exact ky _ (by omega)
  have b1 : ∀ q, q < A.length → ∀ D : List Int, (B ++ D)[q]?.getD 0 = B[q]?.getD 0 := fun q hq D => app_lt _ (by rw [← hT.len]; exact hq)
  have b2 : ∀ (q : Nat) (D : List Int), (B ++ D)[A.length + q]?.getD 0 = D[q]?.getD 0 := fun q D => by
    have := app_ge (l := B) (m := D) (q := q) 0
    rw [← hT.len] at this
    exact this
  have two : ∀ (D : List Int), D.length = H.length → mvS start (B ++ D) (K ++ Y) (B ++ D).length = mvS (steS A B f start) D Y D.length := fun D hD => by
    have len : (B ++ D).length = A.length + H.length := by rw [List.length_append, hD, hT.len]
    refine mv_same hs ss (fun q hq => kr q (by omega)) (fun q hq => ky q (by omega)) (fun k hk => (s0 k hk).symm) fun k hk j hj => ?_
    rw [mod_addc (sS k hk j hj) (rfl : dsum (fun q => D[q]?.getD 0 * en (Y[q]?.getD []) k j) D.length % 10007 = _), len, dsum_split, Int.add_assoc, hD]
    have d1 : dsum (fun q => (B ++ D)[q]?.getD 0 * en ((K ++ Y)[q]?.getD []) k j) A.length = dsum (fun q => B[q]?.getD 0 * en (K[q]?.getD []) k j) A.length := dsum_congr fun q hq => by rw [b1 q hq, k1 q hq]
    have d2 : dsum (fun q => (B ++ D)[A.length + q]?.getD 0 * en ((K ++ Y)[A.length + q]?.getD []) k j) H.length = dsum (fun q => D[q]?.getD 0 * en (Y[q]?.getD []) k j) H.length := dsum_congr fun q hq => by rw [b2, k2]
    rw [d1, d2]
  have fc : Fix (cmpA A B H) f start (K ++ Y) := by
    refine ⟨by rw [List.length_append, kl, yl, cl], fun i hi => ?_⟩
    rw [cl] at hi
    rcases Nat.lt_or_ge i A.length with h | h
    · rw [k1 i h, fx.2 i h, c1 i h]
      congr 1
      have ri := rl i h
      refine mv_same hs hs (fun q hq => kx q (by omega)) (fun q hq => kr q (by simp at hq; omega)) (fun k hk => rfl) fun k hk j hj => ?_
      rw [show (A[i]?.getD [] ++ List.replicate H.length (0 : Int)).length = A.length + H.length by rw [List.length_append, ri]; simp, dsum_split, ri]
      have z : dsum (fun q => (A[i]?.getD [] ++ List.replicate H.length (0 : Int))[A.length + q]?.getD 0 * en ((K ++ Y)[A.length + q]?.getD []) k j) H.length = 0 := dsum_zero fun q hq => by
        have := app_ge (l := A[i]?.getD []) (m := List.replicate H.length (0 : Int)) (q := q) 0
        rw [ri] at this
        rw [this]
        simp [hq]
      rw [z, Int.add_zero]
      congr 2
      exact dsum_congr fun q hq => by rw [app_lt _ (by rw [ri]; exact hq), k1 q hq]
    · obtain ⟨r, rfl⟩ : ∃ r, i = A.length + r := ⟨i - A.length, by omega⟩
      have hr : r < H.length := by omega
      rw [k2, fy.2 r hr, c2 r hr, two _ (rh r hr)]
  have cr : ∀ i, i < (cmpA A B H).length → ((cmpA A B H)[i]?.getD []).length = (cmpA A B H).length := fun i hi => by
    rw [cl] at hi ⊢
    rcases Nat.lt_or_ge i A.length with h | h
    · rw [c1 i h, List.length_append, rl i h]; simp
    · have e := c2 (i - A.length) (by omega)
      rw [show A.length + (i - A.length) = i by omega] at e
      rw [e, List.length_append, rh _ (by omega), hT.len]
  have un := fix_uniq hf hs cr fc
  show mvS start (B ++ C) (sloS (cmpA A B H) f start 7) (B ++ C).length = mvS (steS A B f start) C (sloS H f (steS A B f start) 7) C.length
  rw [un, hY]
  exact two C hH.len.symm
end
end Go.Proofs.YtnokgijakdaehaaGreatDoor


namespace Go.Proofs.YtnokgijakdaehaaGreatDoor
open Go.Abs
set_option linter.unusedSectionVars false
set_option linter.unusedVariables false
set_option linter.unusedSimpArgs false
set_option maxHeartbeats 4000000
theorem Concat2_c (x y : List Int) (h0 : 0 < x.length + y.length) (hx : x.length ≤ 1000) (hy : y.length ≤ 1000) :
    Con Tryz.prog 119 [.sl 2 [.sl x.length (avs x), .sl y.length (avs y)]] (.own 2 (x.length + y.length) (avs (x ++ y))) := by
  have c := Concat_c [x, y] (by show 0 < (flL [_, _] 2).length; rw [flL_two, List.length_append]; omega) (by show (flL [_, _] 2).length ≤ _; rw [flL_two, List.length_append]; omega) (by simp)
  have cl2 : [x, y].length = 2 := rfl
  have mm : mat [x, y] = [.sl x.length (avs x), .sl y.length (avs y)] := by simp [mat]
  rw [cl2, flL_two, List.length_append, mm] at c
  exact c
theorem omat_take_map {A : List (List Int)} (g : List Int → List Int) {i : Nat} (h : i < A.length) : omat ((A.take (i + 1)).map g) = omat ((A.take i).map g) ++ [.own 2 (g (A[i]?.getD [])).length (avs (g (A[i]?.getD [])))] := by
  rw [List.take_add_one, List.getElem?_eq_getElem h, List.map_append, omat_app]; rfl
set_option maxRecDepth 100000 in
theorem composed_c (A : List (List Int)) (B : List Int) (H : List (List Int)) (C : List Int) (hT : Tab A B) (hH : Tab H C) :
    Con Tryz.prog 69 [.agg [.sl A.length (mat A), .sl B.length (avs B)], .agg [.sl H.length (mat H), .sl C.length (avs C)]]
      (.agg [.own 25 (A.length + H.length) (omat (cmpA A B H)), .own 2 (B.length + C.length) (avs (B ++ C))]) := by
  have b1 := hT.pos
  have b8 := hT.le
  have al := hT.len
  have c1 := hH.pos
  have c8 := hH.le
  have hl := hH.len
  have cB := Concat2_c B C (by omega) (by omega) (by omega)
  have cS := tab_c (mat H) (avs C) H.length C.length
  have zr := avs_repl C.length 0
  refine con_of_vc Tryz.mixed ⟨10, [], [], []⟩ Tryz.func69 (by decide) rfl (by simp) (by decide) (by simp [freshOK, freshL, go_sem]) ?_
  rw [Tryz.ntmps69]
  simp [go_sem]
  refine CallVC.of (cB) (by decide) ?_
  simp [go_sem]
  refine loop_inv ([5, 7] ++ List.range' 20 16) (fun i : Nat => [(5, .box 27 [if i = 0 then .val (.slice none 0 0) else .own 25 i (omat ((A.take i).map (fun r => r ++ List.replicate H.length 0))), .own 2 (B.length + C.length) (avs (B ++ C))]), (20, .int i)]) (fun i => i ≤ A.length) (fun i => A.length - i) 0 (by simp) (by simp [go_sem]) (by simp [go_sem]) ?_
  intro i hi
  by_cases hin : i < A.length
  · have hii : (i : Int) < A.length := by omega
    have ri := (hT.rws.at hin).1
    have ane : ¬ A = [] := by rintro rfl; simp at hin
    have tk := omat_take_map (fun r => r ++ List.replicate H.length (0 : Int)) hin
    have cC := Concat2_c (A[i]?.getD []) (List.replicate C.length 0) (by simp; omega) (by omega) (by simp; omega)
    rw [List.length_replicate] at cC
    have hm := mat_drop hin
    generalize hrow : A[i]?.getD [] = row at *
    by_cases h0 : i = 0
    · have ox : omat ((A.take (i + 1)).map (fun r => r ++ List.replicate H.length (0 : Int))) = [.own 2 (row ++ List.replicate H.length 0).length (avs (row ++ List.replicate H.length 0))] := by rw [tk, h0]; simp [omat]
      rw [if_pos h0]
      simp [go_sem, hii, hm]
      refine ⟨ane, by kernel_rfl, ?_⟩
      refine CallD.of (cS) (by simp [roots, rootsL]) (by decide) ?_
      simp [go_sem]
      simp [go_sem, zr]
      refine ⟨⟨by omega, by omega⟩, ?_⟩
      refine CallD.of (cC) (by simp [roots, rootsL]) (by decide) ?_
      simp [go_sem]
      refine ⟨by kernel_rfl, ?_⟩
      simp [go_sem]
      exact ⟨⟨by omega, by omega⟩, i + 1, by omega, by omega, Off_reset _ _ _ (by simp), by rw [if_neg (by omega), ← List.map_take, ox, h0, List.length_append, List.length_replicate, hl], by omega⟩
    · rw [if_neg h0]
      simp [go_sem, hii, hm]
      refine ⟨ane, by kernel_rfl, ?_⟩
      refine CallD.of (cS) (by simp [roots, rootsL]) (by decide) ?_
      simp [go_sem]
      simp [go_sem, zr]
      refine ⟨⟨by omega, by omega⟩, ?_⟩
      refine CallD.of (cC) (by simp [roots, rootsL]) (by decide) ?_
      simp [go_sem]
      refine ⟨⟨by omega, by omega⟩, ?_⟩
      refine ⟨by kernel_rfl, ?_⟩
      simp [go_sem]
      exact ⟨⟨by omega, by omega⟩, i + 1, by omega, by omega, Off_reset _ _ _ (by simp), by simp only [← List.map_take]; rw [if_neg (by omega), tk, List.length_append, List.length_replicate, hl], by omega⟩
  · have hii : ¬ (i : Int) < A.length := by omega
    have e : i = A.length := by omega
    subst e
    rw [if_neg (show ¬ A.length = 0 by omega), List.take_length]
    simp [go_sem, hii]
    refine loop_inv ([5, 9] ++ List.range' 39 15) (fun i : Nat => [(5, .box 27 [.own 25 (A.length + i) (omat (A.map (fun r => r ++ List.replicate H.length 0) ++ (H.take i).map (fun r => B ++ r))), .own 2 (B.length + C.length) (avs (B ++ C))]), (39, .int i)]) (fun i => i ≤ H.length) (fun i => H.length - i) 0 (by simp) (by simp [go_sem]) (by simp [go_sem]) ?_
    intro i hi
    by_cases hin : i < H.length
    · have hii : (i : Int) < H.length := by omega
      have ri := (hH.rws.at hin).1
      have ane : ¬ H = [] := by rintro rfl; simp at hin
      have tk := omat_take_map (fun r => B ++ r) hin
      have cC := Concat2_c B (H[i]?.getD []) (by omega) (by omega) (by omega)
      have hm := mat_drop hin
      generalize hrow : H[i]?.getD [] = row at *
      simp [go_sem, hii, hm]
      refine ⟨ane, by kernel_rfl, ?_⟩
      refine CallD.of (cC) (by simp [roots, rootsL]) (by decide) ?_
      simp [go_sem]
      refine ⟨⟨by omega, by omega, by omega⟩, ?_⟩
      refine ⟨by kernel_rfl, ?_⟩
      simp [go_sem]
      exact ⟨⟨by omega, by omega⟩, i + 1, by omega, by omega, Off_reset _ _ _ (by simp), ⟨by omega, by simp only [← List.map_take]; rw [omat_app, omat_app, tk, List.length_append, List.append_assoc]⟩, by omega⟩
    · have hii : ¬ (i : Int) < H.length := by omega
      have e : i = H.length := by omega
      subst e
      have e2 : A.map (fun r => r ++ List.replicate H.length (0 : Int)) ++ (H.take H.length).map (fun r => B ++ r) = cmpA A B H := by rw [List.take_length]; rfl
      rw [e2]
      simp [go_sem, hii]
      done
theorem InverseTableau_c (A : List (List Int)) (B : List Int) (hT : Tab A B) : Con Tryz.prog 20 [.agg [.sl A.length (mat A), .sl B.length (avs B)]]
    (.tup [.agg [.own 25 B.length (omat (lesM A B)), .own 2 B.length (avs (scalS B (-1)))], .int 0]) := by
  have b8 := hT.le
  have al := hT.len
  have cI := IsTableau_c A B (by omega) (by omega) (fun r h => by have := (hT.a r h).1; omega)
  rw [tabB_iff.2 hT] at cI
  have cV := inverse_c A B hT
  refine con_of_vc Tryz.mixed ⟨4, [], [], []⟩ Tryz.func20 (by decide) rfl (by simp) (by decide) (by simp [freshOK, freshL, go_sem]) ?_
  rw [Tryz.ntmps20]
  simp [go_sem]
  refine CallVC.of (cI) (by decide) ?_
  simp [go_sem]
  refine CallVC.of (cV) (by decide) ?_
  simp [go_sem]
set_option maxRecDepth 100000 in
theorem ComposeTableaus_c (A : List (List Int)) (B : List Int) (H : List (List Int)) (C : List Int) (hT : Tab A B) (hH : Tab H C) :
    Con Tryz.prog 15 [.agg [.sl A.length (mat A), .sl B.length (avs B)], .agg [.sl H.length (mat H), .sl C.length (avs C)]]
      (if B.length + C.length ≤ 8 then .tup [.agg [.own 25 (A.length + H.length) (omat (cmpA A B H)), .own 2 (B.length + C.length) (avs (B ++ C))], .int 0] else .tup [.agg [.val (.slice none 0 0), .val (.slice none 0 0)], .int 3]) := by
  have b8 := hT.le
  have al := hT.len
  have c8 := hH.le
  have hl := hH.len
  have cI := IsTableau_c A B (by omega) (by omega) (fun r h => by have := (hT.a r h).1; omega)
  rw [tabB_iff.2 hT] at cI
  have cJ := IsTableau_c H C (by omega) (by omega) (fun r h => by have := (hH.a r h).1; omega)
  rw [tabB_iff.2 hH] at cJ
  have cC := composed_c A B H C hT hH
  have cS := tab_c (mat A) (avs B) A.length B.length
  have cS2 := tab_c (mat H) (avs C) H.length C.length
  by_cases h8 : B.length + C.length ≤ 8
  · rw [if_pos h8]
    have h8i : ¬ (8 : Int) < (B.length : Int) + C.length := by omega
    refine con_of_vc Tryz.mixed ⟨6, [], [], []⟩ Tryz.func15 (by decide) rfl (by simp) (by decide) (by simp [freshOK, freshL, go_sem]) ?_
    rw [Tryz.ntmps15]
    simp [go_sem]
    refine CallVC.of (cI) (by decide) ?_
    simp [go_sem]
    refine CallVC.of (cJ) (by decide) ?_
    simp [go_sem]
    refine ⟨by kernel_rfl, ?_⟩
    refine CallD.of (cS) (by simp [roots, rootsL]) (by decide) ?_
    simp [go_sem]
    refine CallD.of (cS2) (by simp [roots, rootsL]) (by decide) ?_
    simp [go_sem]
    refine ⟨⟨by omega, by omega⟩, ?_⟩
    refine ⟨by kernel_rfl, ?_⟩
    simp [go_sem]
    simp [go_sem, h8i]
    refine CallVC.of (cC) (by decide) ?_
    simp [go_sem]
  · rw [if_neg h8]
    have h8i : (8 : Int) < (B.length : Int) + C.length := by omega
    refine con_of_vc Tryz.mixed ⟨6, [], [], []⟩ Tryz.func15 (by decide) rfl (by simp) (by decide) (by simp [freshOK, freshL, go_sem]) ?_
    rw [Tryz.ntmps15]
    simp [go_sem]
    refine CallVC.of (cI) (by decide) ?_
    simp [go_sem]
    refine CallVC.of (cJ) (by decide) ?_
    simp [go_sem]
    refine ⟨by kernel_rfl, ?_⟩
    refine CallD.of (cS) (by simp [roots, rootsL]) (by decide) ?_
    simp [go_sem]
    refine CallD.of (cS2) (by simp [roots, rootsL]) (by decide) ?_
    simp [go_sem]
    refine ⟨⟨by omega, by omega⟩, ?_⟩
    refine ⟨by kernel_rfl, ?_⟩
    simp [go_sem]
    simp [go_sem, h8i]
end Go.Proofs.YtnokgijakdaehaaGreatDoor


namespace Go.Proofs.YtnokgijakdaehaaGreatDoor
open Go.Abs
set_option linter.unusedSectionVars false
set_option linter.unusedVariables false
set_option linter.unusedSimpArgs false
set_option maxHeartbeats 1000000
def frI (p q : Int) : Int := p % 10007 * pw (q % 10007) 10005 % 10007
theorem frI_N (p q : Int) : isN (frI p q) := isN_mod _
def sqL (s : Nat) (q : Int) (l : List Int) : List (List Int) := (List.range s).map fun i => tb (fun k => frI (l[i * s + k]?.getD 0) q) s
def rwL (q : Int) (l : List Int) : List Int := tb (fun i => frI (l[i]?.getD 0) q) l.length
theorem sq_lt {i k s : Nat} (hi : i < s) (hk : k < s) : i * s + k < s * s := by
  have h : (i + 1) * s ≤ s * s := Nat.mul_le_mul_right s (by omega)
  rw [Nat.succ_mul] at h
  omega
theorem fits_get {l : List Int} (h : ∀ x ∈ l, fits x) (k : Nat) : fits (l[k]?.getD 0) := by
  rcases Nat.lt_or_ge k l.length with hk | hk
  · exact h _ (by simp [hk])
  · rw [List.getElem?_eq_none hk]; exact ⟨by simp, by simp⟩
set_option maxRecDepth 100000 in
theorem l09Square_c (s : Nat) (q : Int) (l : List Int) (hs : s ≤ 8) (hl : l.length = s * s) (hq : fits q) (hN : ∀ x ∈ l, fits x) :
    Con Tryz.prog 186 [.int s, .int q, .sl l.length (avs l)] (.own 25 s (omat (sqL s q l))) := by
  have hd : sqL s q l = (List.range s).map fun i => tb (fun k => frI (l[i * s + k]?.getD 0) q) s := rfl
  have h64 : s * s ≤ 64 := by
    have := Nat.mul_le_mul hs hs
    omega
  rw [hd]
  refine con_of_vc Tryz.mixed ⟨11, [], [], []⟩ Tryz.func186 (by decide) rfl (by simp) (by decide) (by simp [freshOK, freshL, go_sem]) ?_
  rw [Tryz.ntmps186]
  simp [go_sem]
  refine loop_inv ([7, 8, 9, 10] ++ List.range' 12 28) (fun i : Nat => [(7, .own 25 i (omat ((List.range i).map fun i => tb (fun k => frI (l[i * s + k]?.getD 0) q) s))), (8, .int i)]) (fun i => i ≤ s) (fun i => s - i) 0 (by simp) (by simp [go_sem, omat]) (by simp [go_sem]) ?_
  intro i hi
  by_cases his : i < s
  · have hii : (i : Int) < s := by omega
    have os := omat_range_succ (fun i => tb (fun k => frI (l[i * s + k]?.getD 0) q) s) i
    rw [tb_len] at os
    simp [go_sem, hii]
    refine loop_inv ([9, 10] ++ List.range' 18 18) (fun k : Nat => [(9, .own 2 k (avs (tb (fun k => frI (l[i * s + k]?.getD 0) q) k))), (10, .int k)]) (fun k => k ≤ s) (fun k => s - k) 0 (by simp) (by simp [go_sem]) (by simp [go_sem]) ?_
    intro k hk
    by_cases hks : k < s
    · have hki : (k : Int) < s := by omega
      have hx : i * s + k < l.length := by rw [hl]; exact sq_lt his hks
      have ec : (i : Int) * (s : Int) = ((i * s : Nat) : Int) := by simp
      have hm : i * s ≤ 64 := by omega
      have ts := tb_succ (fun k => frI (l[i * s + k]?.getD 0) q) k
      have fx := fits_get hN (i * s + k)
      have cF := l01Frac_c (l[i * s + k]?.getD 0) q fx hq
      have fe : frI (l[i * s + k]?.getD 0) q = l[i * s + k]?.getD 0 % 10007 * pw (q % 10007) 10005 % 10007 := rfl
      rw [← fe] at cF
      have dr := avs_drop hx
      have ne : ¬ l = [] := by rintro rfl; simp at hx
      generalize hz : i * s = z at *
      rw [List.getD_eq_getElem?_getD] at dr
      generalize l[z + k]?.getD 0 = x at *
      have et : ((z : Int) + (k : Int)).toNat = z + k := by omega
      simp [go_sem, hki, ec, et, dr]
      refine ⟨by omega, ⟨by omega, by omega⟩, ⟨by omega, by omega, ne⟩, ?_⟩
      refine CallVC.of (cF) (by decide) ?_
      simp [go_sem]
      exact ⟨by omega, by omega, k + 1, by omega, by omega, Off_reset _ _ _ (by simp), by rw [ts, avs_snoc]; exact ⟨rfl, rfl⟩, by omega⟩
    · have e : k = s := by omega
      subst e
      simp [go_sem]
      exact ⟨⟨by omega, by omega⟩, by omega, i + 1, by omega, by omega, (Off.reset (by intro x hx; simp at hx ⊢; omega) (by simp) (by simp [go_sem, Off_reset])), by rw [os]; exact ⟨rfl, rfl⟩, by omega⟩
  · have e : i = s := by omega
    subst e
    simp [go_sem]
set_option maxRecDepth 100000 in
theorem l09Row_c (q : Int) (l : List Int) (hl : l.length ≤ 64) (hq : fits q) (hN : ∀ x ∈ l, fits x) :
    Con Tryz.prog 187 [.int q, .sl l.length (avs l)] (.own 2 l.length (avs (rwL q l))) := by
  have hd : rwL q l = tb (fun i => frI (l[i]?.getD 0) q) l.length := rfl
  rw [hd]
  refine con_of_vc Tryz.mixed ⟨7, [], [], []⟩ Tryz.func187 (by decide) rfl (by simp) (by decide) (by simp [freshOK, freshL, go_sem]) ?_
  rw [Tryz.ntmps187]
  simp [go_sem]
  refine loop_inv ([5, 6] ++ List.range' 8 15) (fun i : Nat => [(5, .own 2 i (avs (tb (fun i => frI (l[i]?.getD 0) q) i))), (6, .int i)]) (fun i => i ≤ l.length) (fun i => l.length - i) 0 (by simp) (by simp [go_sem]) (by simp [go_sem]) ?_
  intro i hi
  by_cases hil : i < l.length
  · have hii : (i : Int) < l.length := by omega
    have ts := tb_succ (fun i => frI (l[i]?.getD 0) q) i
    have fx := fits_get hN i
    have cF := l01Frac_c (l[i]?.getD 0) q fx hq
    have fe : frI (l[i]?.getD 0) q = l[i]?.getD 0 % 10007 * pw (q % 10007) 10005 % 10007 := rfl
    rw [← fe] at cF
    have dr := avs_drop hil
    have ne : ¬ l = [] := by rintro rfl; simp at hil
    rw [List.getD_eq_getElem?_getD] at dr
    generalize l[i]?.getD 0 = x at *
    simp [go_sem, hii, dr]
    refine ⟨ne, ?_⟩
    refine CallVC.of (cF) (by decide) ?_
    simp [go_sem]
    exact ⟨by omega, by omega, i + 1, by omega, by omega, Off_reset _ _ _ (by simp), by rw [ts, avs_snoc]; exact ⟨rfl, rfl⟩, by omega⟩
  · have e : i = l.length := by omega
    simp [go_sem, e]
set_option maxRecDepth 100000 in
theorem l01Root_r (a k : Int) (hk : 0 ≤ k) (hk2 : k ≤ 9223372036854775807) : RCon Tryz.prog 188 [.int a, .int k] (fun r o => o = [.any, .any] ∧ ∃ x : Int, -1 ≤ x ∧ x ≤ 10006 ∧ r = .int x) := by
  refine rcon_of_vcH Tryz.mixed ⟨6, [], [], []⟩ [] Tryz.func188 (by decide) rfl (by simp) (by simp) (by decide) ?_
  rw [Tryz.ntmps188]
  simp [go_sem]
  refine loop_inv (List.range' 4 12) (fun i : Nat => [(5, .int i)]) (fun i => i ≤ 10007) (fun i => 10007 - i) 0 (by simp) (by simp [go_sem]) (by simp [go_sem]) ?_
  intro i hi
  by_cases h : i < 10007
  · have hii : (i : Int) < 10007 := by omega
    have cP := l01Pow_c i k ⟨by omega, by omega⟩ hk hk2
    simp [go_sem, hii]
    refine CallVC.of (cP) (by decide) ?_
    simp [go_sem]
    refine ⟨fun h => ?_, fun h => ?_⟩ <;> simp at h
    · simp [go_sem]
      omega
    · simp [go_sem]
      exact ⟨⟨by omega, by omega⟩, i + 1, by omega, by omega, Off_reset _ _ _ (by simp), by omega⟩
  · have hii : ¬ (i : Int) < 10007 := by omega
    simp [go_sem, hii]
end Go.Proofs.YtnokgijakdaehaaGreatDoor


namespace Go.Proofs.YtnokgijakdaehaaGreatDoor
open Go.Abs
set_option linter.unusedSectionVars false
set_option linter.unusedVariables false
set_option linter.unusedSimpArgs false
set_option maxHeartbeats 4000000
theorem sqL_tab {s : Nat} (q p : Int) (l b : List Int) (h1 : 1 ≤ s) (h8 : s ≤ 8) (hb : b.length = s) : Tab (sqL s q l) (rwL p b) := by
  have bl : (rwL p b).length = s := by simp [rwL, hb]
  refine ⟨by omega, by omega, by rw [bl]; simp [sqL], tb_N fun k _ => frI_N _ _, fun r hr => ?_⟩
  obtain ⟨i, _, rfl⟩ := List.mem_map.1 hr
  exact ⟨by rw [bl]; simp, tb_N fun k _ => frI_N _ _⟩
theorem sqL_len (s : Nat) (q : Int) (l : List Int) : (sqL s q l).length = s := by simp [sqL]
theorem rwL_len (p : Int) (b : List Int) : (rwL p b).length = b.length := by simp [rwL]
def Tb8 (A : List (List Int)) (B : List Int) : Prop := Tab A B
theorem named_fin (s : Nat) (q p : Int) (l b : List Int) (h1 : 1 ≤ s) (h8 : s ≤ 8) (hb : b.length = s) :
    ∃ (A : List (List Int)) (B : List Int), Tb8 A B ∧ (s = A.length ∧ omat (sqL s q l) = omat A) ∧ s = B.length ∧ rwL p b = B :=
  ⟨sqL s q l, rwL p b, sqL_tab q p l b h1 h8 hb, ⟨(sqL_len s q l).symm, rfl⟩, by rw [rwL_len]; exact hb.symm, rfl⟩
set_option maxRecDepth 100000 in
theorem l09Named_r (nm : ByteArray) : RCon Tryz.prog 167 [.val (.string nm)] (fun r o => o = [.any] ∧ ∃ (A : List (List Int)) (B : List Int), Tb8 A B ∧ r = .agg [.own 25 A.length (omat A), .own 2 B.length (avs B)]) := by
  have sq := fun (s : Nat) (q : Int) (l : List Int) (h1 : s ≤ 8) (h2 : l.length = s * s) (h3 : fits q) (h4 : ∀ x ∈ l, fits x) => l09Square_c s q l h1 h2 h3 h4
  have rw_ := fun (q : Int) (l : List Int) (h1 : l.length ≤ 64) (h3 : fits q) (h4 : ∀ x ∈ l, fits x) => l09Row_c q l h1 h3 h4
  have f1 : fits 1 := ⟨by omega, by omega⟩
  have ff : ∀ n : Int, -100 ≤ n → n ≤ 100 → fits n := fun n h1 h2 => ⟨by omega, by omega⟩
  refine rcon_of_vcH Tryz.mixed ⟨5, [], [2000000 + 188], []⟩ [] Tryz.func167 (by decide) rfl (by simp) (by simp) (by decide) ?_
  rw [Tryz.ntmps167]
  simp [go_sem]
  refine ⟨fun h => ?_, fun h => ?_⟩
  · simp [go_sem]
    refine CallVC.of (sq 1 1 [0] (by omega) rfl (ff _ (by omega) (by omega)) (by simp [fits])) (by decide) ?_
    simp [go_sem]
    refine CallVC.of (rw_ 1 [1] (by simp) (ff _ (by omega) (by omega)) (by simp [fits])) (by decide) ?_
    simp [go_sem]
    exact named_fin 1 1 1 [0] [1] (by omega) (by omega) rfl
  simp [go_sem]
  refine ⟨fun h => ?_, fun h => ?_⟩
  · simp [go_sem]
    refine ⟨_, l01Root_r 3 2 (by omega) (by omega), ?_⟩
    rintro _ _ ⟨rfl, x, hx1, hx2, rfl⟩
    have n6 := frI_N 1 6
    have n4 := frI_N 1 4
    have c6 := l01Frac_c 1 6 f1 (ff _ (by omega) (by omega))
    have c4 := l01Frac_c 1 4 f1 (ff _ (by omega) (by omega))
    have e6 : frI 1 6 = 1 % 10007 * pw (6 % 10007) 10005 % 10007 := rfl
    have e4 : frI 1 4 = 1 % 10007 * pw (4 % 10007) 10005 % 10007 := rfl
    rw [← e6] at c6
    rw [← e4] at c4
    generalize frI 1 6 = y at *
    generalize frI 1 4 = z at *
    have fm : fits (x * y) := by
      have h1 : x * y ≤ 10006 * y := Int.mul_le_mul_of_nonneg_right hx2 n6.1
      have h2 : -1 * y ≤ x * y := Int.mul_le_mul_of_nonneg_right hx1 n6.1
      have := n6.1
      have := n6.2
      exact ⟨by omega, by omega⟩
    have cm := l01Mul_c x y fm
    have nm' : isN (x * y % 10007) := isN_mod _
    generalize x * y % 10007 = u at *
    have fs : fits (z - u) := sub_fits n4 nm'
    have fa : fits (z + u) := add_fits n4 nm'
    have cs := l01Sub_c z u fs
    have ca := l01Add_c z u fa
    have ns : isN ((z - u) % 10007) := isN_mod _
    have na : isN ((z + u) % 10007) := isN_mod _
    generalize (z - u) % 10007 = v at *
    generalize (z + u) % 10007 = w at *
    simp [go_sem]
    refine CallVC.of (c6) (by decide) ?_
    simp [go_sem]
    refine CallVC.of (cm) (by decide) ?_
    simp [go_sem]
    refine CallVC.of (c4) (by decide) ?_
    simp [go_sem]
    refine CallVC.of (cs) (by decide) ?_
    simp [go_sem]
    refine CallVC.of (ca) (by decide) ?_
    simp [go_sem]
    refine CallVC.of (rw_ 2 [1, 1] (by simp) (ff _ (by omega) (by omega)) (by simp [fits])) (by decide) ?_
    simp [go_sem]
    have hT : Tab [[z, v], [w, z]] (rwL 2 [1, 1]) := by
      refine ⟨by simp [rwL], by simp [rwL], by simp [rwL], tb_N fun k _ => frI_N _ _, fun r hr => ?_⟩
      simp at hr
      rcases hr with rfl | rfl
      · refine ⟨by simp [rwL], fun x hx => ?_⟩
        simp at hx
        rcases hx with rfl | rfl <;> assumption
      · refine ⟨by simp [rwL], fun x hx => ?_⟩
        simp at hx
        rcases hx with rfl | rfl <;> assumption
    exact ⟨[[z, v], [w, z]], rwL 2 [1, 1], hT, by simp [omat, avs], by simp [rwL]⟩
  simp [go_sem]
  refine ⟨fun h => ?_, fun h => ?_⟩
  · simp [go_sem]
    refine CallVC.of (sq 2 1 [0, 0, 1, 0] (by omega) rfl (ff _ (by omega) (by omega)) (by simp [fits])) (by decide) ?_
    simp [go_sem]
    refine CallVC.of (rw_ 2 [1, 1] (by simp) (ff _ (by omega) (by omega)) (by simp [fits])) (by decide) ?_
    simp [go_sem]
    exact named_fin 2 1 2 [0, 0, 1, 0] [1, 1] (by omega) (by omega) rfl
  simp [go_sem]
  refine ⟨fun h => ?_, fun h => ?_⟩
  · simp [go_sem]
    refine CallVC.of (sq 1 1 [1] (by omega) rfl (ff _ (by omega) (by omega)) (by simp [fits])) (by decide) ?_
    simp [go_sem]
    refine CallVC.of (rw_ 1 [1] (by simp) (ff _ (by omega) (by omega)) (by simp [fits])) (by decide) ?_
    simp [go_sem]
    exact named_fin 1 1 1 [1] [1] (by omega) (by omega) rfl
  simp [go_sem]
  refine ⟨fun h => ?_, fun h => ?_⟩
  · simp [go_sem]
    refine CallVC.of (sq 3 2 [0, 0, 0, 1, 0, 0, -2, 4, 0] (by omega) rfl (ff _ (by omega) (by omega)) (by simp [fits])) (by decide) ?_
    simp [go_sem]
    refine CallVC.of (rw_ 6 [1, 4, 1] (by simp) (ff _ (by omega) (by omega)) (by simp [fits])) (by decide) ?_
    simp [go_sem]
    exact named_fin 3 2 6 [0, 0, 0, 1, 0, 0, -2, 4, 0] [1, 4, 1] (by omega) (by omega) rfl
  simp [go_sem]
  refine ⟨fun h => ?_, fun h => ?_⟩
  · simp [go_sem]
    refine CallVC.of (sq 3 24 [0, 0, 0, 5, 8, -1, 4, 16, 4] (by omega) rfl (ff _ (by omega) (by omega)) (by simp [fits])) (by decide) ?_
    simp [go_sem]
    refine CallVC.of (rw_ 6 [1, 4, 1] (by simp) (ff _ (by omega) (by omega)) (by simp [fits])) (by decide) ?_
    simp [go_sem]
    exact named_fin 3 24 6 [0, 0, 0, 5, 8, -1, 4, 16, 4] [1, 4, 1] (by omega) (by omega) rfl
  simp [go_sem]
  refine ⟨fun h => ?_, fun h => ?_⟩
  · simp [go_sem]
    refine CallVC.of (sq 1 2 [1] (by omega) rfl (ff _ (by omega) (by omega)) (by simp [fits])) (by decide) ?_
    simp [go_sem]
    refine CallVC.of (rw_ 1 [1] (by simp) (ff _ (by omega) (by omega)) (by simp [fits])) (by decide) ?_
    simp [go_sem]
    exact named_fin 1 2 1 [1] [1] (by omega) (by omega) rfl
  simp [go_sem]
  refine ⟨fun h => ?_, fun h => ?_⟩
  · simp [go_sem]
    refine CallVC.of (sq 2 2 [0, 0, 1, 0] (by omega) rfl (ff _ (by omega) (by omega)) (by simp [fits])) (by decide) ?_
    simp [go_sem]
    refine CallVC.of (rw_ 1 [0, 1] (by simp) (ff _ (by omega) (by omega)) (by simp [fits])) (by decide) ?_
    simp [go_sem]
    exact named_fin 2 2 1 [0, 0, 1, 0] [0, 1] (by omega) (by omega) rfl
  simp [go_sem]
  refine ⟨fun h => ?_, fun h => ?_⟩
  · simp [go_sem]
    refine CallVC.of (sq 2 12 [5, -1, 9, 3] (by omega) rfl (ff _ (by omega) (by omega)) (by simp [fits])) (by decide) ?_
    simp [go_sem]
    refine CallVC.of (rw_ 4 [3, 1] (by simp) (ff _ (by omega) (by omega)) (by simp [fits])) (by decide) ?_
    simp [go_sem]
    exact named_fin 2 12 4 [5, -1, 9, 3] [3, 1] (by omega) (by omega) rfl
  simp [go_sem]
  refine ⟨fun h => ?_, fun h => ?_⟩
  · simp [go_sem]
    refine CallVC.of (sq 2 3 [0, 0, 2, 0] (by omega) rfl (ff _ (by omega) (by omega)) (by simp [fits])) (by decide) ?_
    simp [go_sem]
    refine CallVC.of (rw_ 4 [1, 3] (by simp) (ff _ (by omega) (by omega)) (by simp [fits])) (by decide) ?_
    simp [go_sem]
    exact named_fin 2 3 4 [0, 0, 2, 0] [1, 3] (by omega) (by omega) rfl
  simp [go_sem]
  refine ⟨fun h => ?_, fun h => ?_⟩
  · simp [go_sem]
    refine CallVC.of (sq 4 2 [0, 0, 0, 0, 1, 0, 0, 0, 0, 1, 0, 0, 0, 0, 2, 0] (by omega) rfl (ff _ (by omega) (by omega)) (by simp [fits])) (by decide) ?_
    simp [go_sem]
    refine CallVC.of (rw_ 6 [1, 2, 2, 1] (by simp) (ff _ (by omega) (by omega)) (by simp [fits])) (by decide) ?_
    simp [go_sem]
    exact named_fin 4 2 6 [0, 0, 0, 0, 1, 0, 0, 0, 0, 1, 0, 0, 0, 0, 2, 0] [1, 2, 2, 1] (by omega) (by omega) rfl
  simp [go_sem]
  refine CallVC.of (sq 2 2 [0, 0, 1, 1] (by omega) rfl (ff _ (by omega) (by omega)) (by simp [fits])) (by decide) ?_
  simp [go_sem]
  refine CallVC.of (rw_ 2 [1, 1] (by simp) (ff _ (by omega) (by omega)) (by simp [fits])) (by decide) ?_
  simp [go_sem]
  exact named_fin 2 2 2 [0, 0, 1, 1] [1, 1] (by omega) (by omega) rfl
end Go.Proofs.YtnokgijakdaehaaGreatDoor


namespace Go.Proofs.YtnokgijakdaehaaGreatDoor
open Go.Abs
set_option linter.unusedSectionVars false
set_option linter.unusedVariables false
set_option linter.unusedSimpArgs false
set_option maxHeartbeats 1000000
end Go.Proofs.YtnokgijakdaehaaGreatDoor


namespace Go.Proofs.YtnokgijakdaehaaGreatDoor
open Go.Abs
set_option linter.unusedSectionVars false
set_option linter.unusedVariables false
set_option linter.unusedSimpArgs false
set_option maxHeartbeats 1000000
end Go.Proofs.YtnokgijakdaehaaGreatDoor


namespace Go.Proofs.YtnokgijakdaehaaGreatDoor
open Go.Abs
set_option linter.unusedSectionVars false
set_option linter.unusedVariables false
set_option linter.unusedSimpArgs false
set_option maxHeartbeats 1000000
end Go.Proofs.YtnokgijakdaehaaGreatDoor


namespace Go.Proofs.YtnokgijakdaehaaGreatDoor
open Go.Abs Go.Shelf Go.Sort
set_option linter.unusedSectionVars false
set_option linter.unusedVariables false
set_option linter.unusedSimpArgs false
set_option maxHeartbeats 1000000
end Go.Proofs.YtnokgijakdaehaaGreatDoor


namespace Go.Proofs.YtnokgijakdaehaaGreatDoor
open Go.Abs
set_option linter.unusedSectionVars false
set_option linter.unusedVariables false
set_option linter.unusedSimpArgs false
set_option maxHeartbeats 1000000
def ptA (Ls : List (List Mon)) : Nat → AV
  | 0 => .val (.slice none 0 0)
  | i + 1 => .own 122 (i + 1) (oprt (Ls.take (i + 1)))
theorem ptA_zero (Ls : List (List Mon)) : ptA Ls 0 = .val (.slice none 0 0) := rfl
theorem ptA_succ (Ls : List (List Mon)) (i : Nat) : ptA Ls (i + 1) = .own 122 (i + 1) (oprt (Ls.take (i + 1))) := rfl
end Go.Proofs.YtnokgijakdaehaaGreatDoor


namespace Go.Proofs.YtnokgijakdaehaaGreatDoor
open Go.Abs
set_option linter.unusedSectionVars false
set_option linter.unusedVariables false
set_option linter.unusedSimpArgs false
set_option maxHeartbeats 1000000
def DrP (n : Nat) (p : List Mon) : Prop := p.length ≤ 3 ∧ ∀ m ∈ p, WOk n 3 m
theorem set_bump {w : List Int} {B : Int} {k : Nat} (hw : ∀ x ∈ w, 0 ≤ x ∧ x ≤ B) (hk : k < w.length) : ∀ x ∈ w.set k (w[k]?.getD 0 + 1), 0 ≤ x ∧ x ≤ B + 1 := fun x hx => by
  rcases List.mem_or_eq_of_mem_set hx with hx | rfl
  · have := hw x hx; omega
  · have := hw (w[k]?.getD 0) (by simp [hk])
    omega
set_option maxRecDepth 100000 in
theorem l13Draw_r (c : List Int) (σ : Src) (hc : Byt c) (hs : SOk σ) :
    RCon Tryz.prog 89 [srcA c σ] (fun r o => ∃ (τ : Src) (n : Nat) (f : List (List Mon)), SOk τ ∧ o = [srcA c τ] ∧ 1 ≤ n ∧ n ≤ 3 ∧ f.length = n ∧ (∀ p ∈ f, DrP n p) ∧ r = .agg [.int n, .own 122 n (oprt f)]) := by
  have c1 := l01Next_c c σ 3 hc hs
  have s1 := nx2_ok hc hs 3
  have b1 := nx1_b hc σ (n := 3) (by omega)
  obtain ⟨n, hn⟩ : ∃ n : Nat, 1 + nx1 c σ 3 = n := ⟨(1 + nx1 c σ 3).toNat, by omega⟩
  generalize nx1 c σ 3 = v1 at *
  generalize nx2 c σ 3 = σ1 at *
  simp only [srcA_eq] at *
  refine rcon_of_vcH Tryz.mixed ⟨10, [], [1000000 + 38, 1000000 + 108, 1000000 + 110], []⟩ [0] Tryz.func89 (by decide) rfl (by simp) (by simp) (by decide) ?_
  rw [Tryz.ntmps89]
  simp [go_sem]
  refine ⟨_, _, c1, ?_⟩
  simp [go_sem]
  refine ⟨⟨by omega, by omega⟩, ?_⟩
  rw [hn]
  refine loop_inv (0 :: 3 :: 4 :: 5 :: 6 :: 7 :: 8 :: 9 :: List.range' 14 46) (fun x : Src × List (List Mon) => [(0, .box 136 [.sl c.length (bys c), .int x.1.1, .val (.int .u64 x.1.2)]), (3, .box 41 [.int n, ptA x.2 x.2.length]), (4, .int x.2.length)]) (fun x => SOk x.1 ∧ x.2.length ≤ n ∧ ∀ p ∈ x.2, DrP n p) (fun x => n - x.2.length) (σ1, []) (by simp; exact s1) (by simp [go_sem, ptA_zero]) (by simp [go_sem]) ?_
  rintro ⟨τ, f⟩ ⟨h1, h2, h3⟩
  simp only at h1 h2 h3
  simp [go_sem]
  refine ⟨fun h => ?_, fun h => ?_⟩ <;> simp at h
  · have c4 := l01Next_c c τ 4 hc h1
    have s4 := nx2_ok hc h1 4
    have b4 := nx1_b hc τ (n := 4) (by omega)
    obtain ⟨m, hm⟩ : ∃ m : Nat, nx1 c τ 4 = m := ⟨(nx1 c τ 4).toNat, by omega⟩
    rw [hm] at c4 b4
    generalize nx2 c τ 4 = τ1 at *
    simp only [srcA_eq] at c4
    simp [go_sem]
    refine ⟨_, _, c4, ?_⟩
    simp [go_sem]
    refine loop_inv (0 :: 5 :: 6 :: 7 :: 8 :: 9 :: List.range' 23 31) (fun x : Src × List Mon × Nat => [(0, .box 136 [.sl c.length (bys c), .int x.1.1, .val (.int .u64 x.1.2)]), (5, .own 125 x.2.1.length (omons x.2.1)), (6, .int x.2.2)]) (fun x => SOk x.1 ∧ x.2.1.length + x.2.2 ≤ 3 ∧ ∀ m ∈ x.2.1, WOk n 3 m) (fun x => x.2.2) (τ1, [], m) ⟨s4, by simp; omega, by simp⟩ (by simp [go_sem]) (by simp [go_sem]) ?_
    rintro ⟨ρ, p, k⟩ ⟨g1, g2, g3⟩
    simp only at g1 g2 g3
    simp [go_sem]
    refine ⟨fun h => ?_, fun h => ?_⟩ <;> simp at h
    · have c5 := l01Pick_c c ρ [0, 1, 1, 2, 2, 3] hc g1 (by simp) (by simp)
      have m5 := pk_mem c hc ρ (xs := [0, 1, 1, 2, 2, 3]) (by simp)
      have s5 := nx2_ok hc g1 6
      obtain ⟨d0, hd0⟩ : ∃ d0 : Nat, pk c ρ [0, 1, 1, 2, 2, 3] = d0 := ⟨(pk c ρ [0, 1, 1, 2, 2, 3]).toNat, by simp at m5; omega⟩
      have hd3 : d0 ≤ 3 := by rw [hd0] at m5; simp at m5; omega
      have e6 : (([0, 1, 1, 2, 2, 3] : List Int).length : Int) = 6 := rfl
      rw [hd0, e6] at c5
      generalize nx2 c ρ 6 = ρ1 at *
      simp only [srcA_eq] at c5
      simp [go_sem]
      refine ⟨⟨by omega, by omega⟩, ?_⟩
      refine ⟨_, _, c5, ?_⟩
      simp [go_sem]
      rw [avs_repl]
      refine loop_inv (0 :: 7 :: 8 :: 9 :: List.range' 33 16) (fun x : Src × List Int × Nat => [(0, .box 136 [.sl c.length (bys c), .int x.1.1, .val (.int .u64 x.1.2)]), (7, .own 2 n (avs x.2.1)), (8, .int x.2.2)]) (fun x => SOk x.1 ∧ x.2.1.length = n ∧ x.2.2 ≤ 3 ∧ ∀ y ∈ x.2.1, 0 ≤ y ∧ y + x.2.2 ≤ 3) (fun x => x.2.2) (ρ1, List.replicate n 0, d0) ⟨s5, by simp, by simpa using hd3, by intro y hy; have := List.eq_of_mem_replicate hy; simp only; omega⟩ (by simp [go_sem]) (by simp [go_sem]) ?_
      rintro ⟨κ, w, d⟩ ⟨q1, q2, q3, q4⟩
      simp only at q1 q2 q3 q4
      simp [go_sem]
      refine ⟨fun h => ?_, fun h => ?_⟩ <;> simp at h
      · obtain ⟨e, rfl⟩ : ∃ e, d = e + 1 := ⟨d - 1, by omega⟩
        have hnn : 1 ≤ n := by omega
        have c6 := l01Next_c c κ n hc q1
        have s6 := nx2_ok hc q1 n
        have b6 := nx1_b hc κ (n := n) (by omega)
        obtain ⟨j, hj⟩ : ∃ j : Nat, nx1 c κ n = j := ⟨(nx1 c κ n).toNat, by omega⟩
        rw [hj] at c6 b6
        have hjn : j < w.length := by omega
        have hA := avs_at hjn
        have hB := set_bump (B := 3 - (e + 1)) (fun y hy => by have := q4 y hy; constructor <;> omega) hjn
        have wj := q4 (w[j]?.getD 0) (by simp [hjn])
        have hS := avs_set w j (w[j]?.getD 0 + 1)
        generalize w[j]?.getD 0 = u at *
        generalize nx2 c κ n = κ1 at *
        simp only [srcA_eq] at c6
        simp [go_sem]
        refine ⟨_, _, c6, ?_⟩
        simp [go_sem]
        simp [go_sem, hA]
        refine ⟨by omega, ⟨by omega, by omega⟩, by omega, by omega, by omega, κ1.1, κ1.2, w.set j (u + 1), e, ⟨s6, by simpa using q2, by omega, fun y hy => ?_⟩, by omega, Off_reset _ _ _ (by simp), ?_⟩
        · have := hB y hy; omega
        · simp [hS]
      · have e0 : d = 0 := by omega
        subst e0
        have c7 := l01Number_c c κ hc q1
        have h7 := nbV_ok hc q1
        have c8 := l13Put_c p (nbV c κ).1 w h7.1 (fun m hm => ⟨(g3 m hm).num, by have := (g3 m hm).len; omega⟩) (by omega) (by omega)
        have l8 := putL_len p (nbV c κ).1 w
        have w8 := putGo_wok (n := n) (B := 3) (c := (nbV c κ).1) (e := w) ⟨h7.1, q2, fun y hy => by have := q4 y hy; constructor <;> omega⟩ p (decide ((nbV c κ).1 = 0)) g3
        have w9 : ∀ m ∈ putL p (nbV c κ).1 w, WOk n 3 m := w8
        rw [q2] at c8
        generalize putL p (nbV c κ).1 w = p2 at *
        generalize nbV c κ = r7 at *
        simp only [srcA_eq] at c7
        simp [go_sem]
        refine ⟨_, _, c7, ?_⟩
        simp [go_sem]
        refine CallVC.of (c8) (by decide) ?_
        simp [go_sem]
        exact ⟨⟨by omega, by omega⟩, r7.2.1, r7.2.2, p2, k - 1, ⟨h7.2, by omega, fun a b hab => w9 (a, b) hab⟩, by omega, (Off.reset (by intro x hx; simp at hx ⊢; omega) (by simp) (by simp [go_sem, Off_reset])), ⟨rfl, rfl⟩, ⟨rfl, rfl⟩, by omega⟩
    · have k0 : k = 0 := by omega
      subst k0
      have hsn : ptA (f ++ [p]) (f.length + 1) = .own 122 (f.length + 1) (oprt f ++ [.own 125 p.length (omons p)]) := by
        rw [ptA_succ, List.take_of_length_le (by simp), oprt_app]; rfl
      have hdr : DrP n p := ⟨by omega, g3⟩
      rcases f with _ | ⟨q, f⟩
      · simp [go_sem, ptA_zero]
        refine ⟨ρ.1, ρ.2, [p], ⟨g1, by simp; omega, by simpa using hdr⟩, by simp; omega, (by repeat (first | exact Off_reset _ _ _ (by simp) | (refine Off.reset (by intro x hx; simp at hx ⊢; omega) (by simp) ?_; simp -failIfUnchanged [go_sem, Off_reset]))), ?_⟩
        exact ⟨⟨rfl, rfl⟩, rfl, by simp⟩
      · rw [List.length_cons] at *
        simp [go_sem, ptA_succ]
        refine ⟨⟨by omega, by omega⟩, by omega, ρ.1, ρ.2, q :: f ++ [p], ⟨g1, by simp; omega, fun t ht => ?_⟩, by simp; omega, (by repeat (first | exact Off_reset _ _ _ (by simp) | (refine Off.reset (by intro x hx; simp at hx ⊢; omega) (by simp) ?_; simp -failIfUnchanged [go_sem, Off_reset]))), ?_⟩
        · rcases List.mem_append.1 ht with ht | ht
          · exact h3 t ht
          · simp at ht; rw [ht]; exact hdr
        · have e1 : (q :: f ++ [p]).length = f.length + 1 + 1 := by simp
          rw [e1, hsn]
          exact ⟨⟨rfl, rfl⟩, rfl, by omega⟩
  · have e0 : f.length = n := by omega
    rcases f with _ | ⟨q, f⟩
    · simp at e0; omega
    · rw [List.length_cons] at *
      simp [go_sem, ptA_succ]
      exact ⟨τ.1, τ.2, h1, ⟨rfl, rfl⟩, n, by omega, by omega, q :: f, by simpa using e0, h3, rfl, e0, rfl⟩
def spr : Bool → List (List Mon) → List AV
  | true, p :: f => .own 125 p.length (mons p) :: oprt f
  | true, [] => []
  | false, f => oprt f
@[simp] theorem spr_len : ∀ (b : Bool) (f : List (List Mon)), (spr b f).length = f.length
  | true, p :: f => by simp [spr]
  | true, [] => rfl
  | false, f => by simp [spr]
@[simp] theorem spr_frz : ∀ (b : Bool) (f : List (List Mon)), frzL (spr b f) = prt f
  | true, p :: f => by simp [spr, frzL, frz, prt, mons_frz]
  | true, [] => rfl
  | false, f => by simp [spr]
def DrS (z : Int) (f : List (List Mon)) : Prop := -1 ≤ z ∧ z ≤ 4 ∧ f.length ≤ 4 ∧ ∀ p ∈ f, p.length ≤ 4 ∧ ∀ m ∈ p, m.2.length ≤ 3
theorem DrS.of {n : Nat} {f : List (List Mon)} (hn : n ≤ 3) (hl : f.length ≤ 3) (h : ∀ p ∈ f, DrP n p) {z : Int} (h1 : -1 ≤ z) (h2 : z ≤ 4) : DrS z f :=
  ⟨h1, h2, by omega, fun p hp => ⟨by have := (h p hp).1; omega, fun m hm => by have := ((h p hp).2 m hm).len; omega⟩⟩
end Go.Proofs.YtnokgijakdaehaaGreatDoor


namespace Go.Proofs.YtnokgijakdaehaaGreatDoor
open Go.Abs
set_option linter.unusedSectionVars false
set_option linter.unusedVariables false
set_option linter.unusedSimpArgs false
set_option maxHeartbeats 1000000
theorem oprt_cons (q : List Mon) (f : List (List Mon)) : oprt (q :: f) = .own 125 q.length (omons q) :: oprt f := rfl
set_option maxRecDepth 100000 in
theorem l13Spoil_r (c : List Int) (σ : Src) (hc : Byt c) (hs : SOk σ) :
    RCon Tryz.prog 179 [srcA c σ] (fun r o => ∃ (τ : Src) (z : Int) (b : Bool) (f : List (List Mon)), SOk τ ∧ o = [srcA c τ] ∧ DrS z f ∧ r = .agg [.int z, .own 122 f.length (spr b f)]) := by
  have cD := l13Draw_r c σ hc hs
  simp only [srcA_eq] at *
  refine rcon_of_vcH Tryz.mixed ⟨5, [48], [1000000 + 38, 1000000 + 108, 2000000 + 89], [2000614000117]⟩ [0] Tryz.func179 (by decide) rfl (by simp) (by simp) (by decide) ?_
  rw [Tryz.ntmps179]
  simp [go_sem]
  refine ⟨_, cD, ?_⟩
  rintro _ _ ⟨τ, n, f, h1, rfl, h2, h3, h4, h5, rfl⟩
  have c4 := l01Next_c c τ 40 hc h1
  have s4 := nx2_ok hc h1 40
  generalize nx1 c τ 40 = v at *
  generalize nx2 c τ 40 = τ1 at *
  simp only [srcA_eq] at c4
  simp [go_sem]
  refine ⟨_, _, c4, ?_⟩
  simp [go_sem]
  rcases f with _ | ⟨q, f⟩
  · simp at h4; omega
  · have hq : q.length ≤ 3 := (h5 q (by simp)).1
    by_cases v0 : v = 0
    · have c5 := l01Pick_c c τ1 [0, (n : Int) + 1, -1, 4] hc s4 (by simp) (by simp)
      have m5 := pk_mem c hc τ1 (xs := [0, (n : Int) + 1, -1, 4]) (by simp)
      have s5 := nx2_ok hc s4 4
      have e4 : (([0, (n : Int) + 1, -1, 4] : List Int).length : Int) = 4 := rfl
      rw [e4] at c5
      simp only [srcA_eq] at c5
      generalize pk c τ1 [0, (n : Int) + 1, -1, 4] = z at *
      generalize nx2 c τ1 4 = τ2 at *
      simp [go_sem, v0]
      refine ⟨⟨by omega, by omega⟩, ?_⟩
      refine ⟨_, _, c5, ?_⟩
      simp [go_sem]
      refine ⟨τ2.1, τ2.2, s5, ⟨rfl, rfl⟩, z, .inl ⟨q :: f, DrS.of h3 (by omega) h5 ?_ ?_, rfl, h4.symm, rfl⟩⟩
      all_goals (simp at m5; omega)
    · have hfs : DrS n (q :: f) := DrS.of h3 (by omega) h5 (by omega) (by omega)
      by_cases v1 : v = 1
      · have c5 := l01Pick_c c τ1 [0, 10007, 1] hc s4 (by simp) (by simp)
        have s5 := nx2_ok hc s4 3
        have e4 : (([0, 10007, 1] : List Int).length : Int) = 3 := rfl
        have c6 := l13One_c n 0 (by omega) (by omega)
        rw [e4] at c5
        simp only [srcA_eq] at c5
        generalize pk c τ1 [0, 10007, 1] = x at *
        generalize nx2 c τ1 3 = τ2 at *
        have fin : ∃ a b, SOk (a, b) ∧ ((τ2.1 : Int) = a ∧ τ2.2 = b) ∧ ∃ z, (∃ g, DrS z g ∧ (n : Int) = z ∧ n = g.length ∧ AV.own 125 (q.length + 1) (omons q ++ [AV.val (Value.int IntKind.i64 x), AV.own 2 n (avs (oneE n 0))]) :: oprt f = spr false g) ∨ ∃ g, DrS z g ∧ (n : Int) = z ∧ n = g.length ∧ AV.own 125 (q.length + 1) (omons q ++ [AV.val (Value.int IntKind.i64 x), AV.own 2 n (avs (oneE n 0))]) :: oprt f = spr true g := by
          refine ⟨τ2.1, τ2.2, s5, ⟨rfl, rfl⟩, n, .inl ⟨(q ++ [(x, oneE n 0)]) :: f, ⟨by omega, by omega, hfs.2.2.1, fun p hp => ?_⟩, rfl, h4.symm, ?_⟩⟩
          · rcases List.mem_cons.1 hp with rfl | hp
            · refine ⟨by simp; omega, fun m hm => ?_⟩
              rcases List.mem_append.1 hm with hm | hm
              · exact (hfs.2.2.2 q (by simp)).2 m hm
              · simp at hm; subst hm; simp [oneE]; omega
            · exact hfs.2.2.2 p (by simp [hp])
          · have e1 : ((oneE n 0).length : Nat) = n := by simp [oneE]
            rw [spr, oprt_cons, omons_app]
            simp [omons_cons, e1]
        simp [go_sem, v0, v1]
        rw [DrawVC4_app]
        refine ⟨fun i => if i = 8 then [.n 0 .any, .n 27 .any, .n 0 (.box 136 [.sl c.length (bys c), .int τ2.1, .val (.int .u64 τ2.2)]), .n 27 .any, .w 28 (.int x)] else [.w 31 (.own 2 n (avs (oneE n 0)))], by kernel_rfl, ?_, ?_, ?_⟩
        · simp [go_sem, oprt_cons]
          refine ⟨by omega, ?_⟩
          refine ⟨_, _, c5, ?_⟩
          simp [go_sem]
          refine CallD.of (c6) (by simp [roots, rootsL]) (by decide) ?_
          simp [go_sem]
          refine ⟨⟨by omega, by omega⟩, by omega, by kernel_rfl, ?_⟩
          exact fin
        · simp [go_sem, oprt_cons]
          refine ⟨by omega, ?_⟩
          refine ⟨_, _, c5, ?_⟩
          simp [go_sem]
          refine CallD.of (c6) (by simp [roots, rootsL]) (by decide) ?_
          simp [go_sem]
          refine ⟨⟨by omega, by omega⟩, by omega, by kernel_rfl, ?_⟩
          exact fin
        · simp [go_sem, oprt_cons]
          refine ⟨by omega, ?_⟩
          refine ⟨_, _, c5, ?_⟩
          simp [go_sem]
          refine CallD.of (c6) (by simp [roots, rootsL]) (by decide) ?_
          simp [go_sem]
          refine ⟨⟨by omega, by omega⟩, by omega, by kernel_rfl, ?_⟩
          exact fin
      · by_cases v2 : v = 2
        · have c5 := l01Pick_c c τ1 [4, -1, 1099511627776] hc s4 (by simp) (by simp)
          have s5 := nx2_ok hc s4 3
          have e4 : (([4, -1, 1099511627776] : List Int).length : Int) = 3 := rfl
          rw [e4] at c5
          simp only [srcA_eq] at c5
          generalize pk c τ1 [4, -1, 1099511627776] = x at *
          generalize nx2 c τ1 3 = τ2 at *
          simp [go_sem, v0, v1, v2]
          refine ⟨⟨by omega, by omega⟩, ?_⟩
          refine ⟨_, _, c5, ?_⟩
          simp [go_sem]
          refine ⟨by omega, τ2.1, τ2.2, s5, ⟨rfl, rfl⟩, n, .inr ⟨[(1, (List.replicate n 0).set 0 x)] :: f, ⟨by omega, by omega, hfs.2.2.1, fun p hp => ?_⟩, rfl, h4.symm, ?_⟩⟩
          · rcases List.mem_cons.1 hp with rfl | hp
            · exact ⟨by simp, by simp; omega⟩
            · exact hfs.2.2.2 p (by simp [hp])
          · have e1 : avs ((List.replicate n 0).set 0 x) = (List.replicate n (AV.val (.int .i64 0))).set 0 (.val (.int .i64 x)) := by rw [← avs_set, avs_repl]
            have e2 := avs_frz ((List.replicate n 0).set 0 x)
            rw [e1] at e2
            rw [e2, ← e1]
            simp [spr, oprt, mons_cons]
        · by_cases v3 : v = 3
          · simp [go_sem, v0, v1, v2, v3]
            refine ⟨⟨by simpa using h4, by omega, by omega⟩, τ1.1, τ1.2, s4, ⟨rfl, rfl⟩, n, .inl ⟨q :: f ++ [[]], ⟨by omega, by omega, by simp at h4 ⊢; omega, fun p hp => ?_⟩, rfl, by simp at h4 ⊢; omega, ?_⟩⟩
            · rcases List.mem_append.1 hp with hp | hp
              · exact hfs.2.2.2 p hp
              · simp at hp; subst hp; exact ⟨by simp, by simp⟩
            · rw [spr, oprt_app]; rfl
          · simp [go_sem, v0, v1, v2, v3]
            exact ⟨τ1.1, τ1.2, s4, ⟨rfl, rfl⟩, n, .inl ⟨q :: f, hfs, rfl, h4.symm, rfl⟩⟩
theorem RCon.fz {P : Program} {f : FuncId} {args : List AV} {R : AV → List AV → Prop} (h : RCon P f args R) : RCon P f args (fun r o => ∃ r0, R r0 o ∧ r = frz r0) := by
  refine ⟨h.1, fun w vs os F0 hl hn ho hF hr => (h.2 w vs os F0 hl hn ho hF hr).mono ?_⟩
  rintro e w' ⟨r, o, hR, v, orr, oo, F', k1, k2, k3, k4, k5, k6, k7, k8, k9⟩
  refine ⟨frz r, o, ⟨r, hR, rfl⟩, v, [], oo, fun b => F' b ∨ b ∈ orr, k1, k2, fun b hb => .inl (k3 b hb), fun b hb => hb.elim (k4 b) (fun hb => .inr ⟨(k9 b (.inl hb)).1, (k9 b (.inl hb)).2.1⟩), fun tm oss => (k5 tm oss).frz (fun b h => .inl h) (fun b h => .inr h), fun tm oss => ?_, k7, ?_, fun b hb => ?_⟩
  · have := RepTL.kl (w' := w') (F' := fun b => F' b ∨ b ∈ orr) (tm' := tm) (oss' := oss) [] (fun b hb => .inl hb) (fun _ _ _ _ h => h) (k6 tm oss) (fun _ _ => rfl)
    rwa [klL_nil] at this
  · simpa using (List.nodup_append.1 k8).2.1
  · rcases hb with hb | hb
    · simp at hb
    · obtain ⟨j1, j2, j3⟩ := k9 b (.inr hb)
      exact ⟨j1, j2, fun hf => hf.elim j3 (fun hf => (List.nodup_append.1 k8).2.2 b hf b hb rfl)⟩
end Go.Proofs.YtnokgijakdaehaaGreatDoor


namespace Go.Proofs.YtnokgijakdaehaaGreatDoor
open Go.Abs
set_option linter.unusedSectionVars false
set_option linter.unusedVariables false
set_option linter.unusedSimpArgs false
set_option maxHeartbeats 4000000
theorem str_all (cs : List ByteArray) (h : cs.length = 12) : ∀ k, k < 12 → ∃ b, (cs.map fun b => AV.val (.string b))[k]? = some (.val (.string b)) := fun k hk => ⟨cs[k]?.getD default, by simp [h, hk]⟩
set_option maxRecDepth 100000 in
theorem TableauNames_r : RCon Tryz.prog 166 [] (fun r o => o = [] ∧ ∃ L : List AV, (∀ k, k < 12 → ∃ b, L[k]? = some (.val (.string b))) ∧ r = .own 9 12 L) := by
  refine RCon.mono (R := fun r o => o = [] ∧ ∃ cs : List ByteArray, cs.length = 12 ∧ r = .own 9 12 (cs.map fun b => .val (.string b))) ?_ (fun r o h => ?_)
  · refine rcon_of_vcH Tryz.mixed ⟨1, [], [], []⟩ [] Tryz.func166 (by decide) rfl (by simp) (by simp) (by decide) ?_
    rw [Tryz.ntmps166]
    simp [go_sem]
    exact ⟨[_, _, _, _, _, _, _, _, _, _, _, _], rfl, rfl⟩
  · obtain ⟨h1, cs, h2, h3⟩ := h
    exact ⟨h1, _, str_all cs h2, h3⟩
def ptM : List (List Int) → AV
  | [] => .val (.slice none 0 0)
  | r :: A => .own 25 (A.length + 1) (omat (r :: A))
theorem ptM_nil : ptM [] = .val (.slice none 0 0) := rfl
theorem ptM_cons (r : List Int) (A : List (List Int)) : ptM (r :: A) = .own 25 (A.length + 1) (omat (r :: A)) := rfl
theorem ptM_pos {A : List (List Int)} (h : 1 ≤ A.length) : ptM A = .own 25 A.length (omat A) := by
  cases A with
  | nil => simp at h
  | cons r A => rfl
theorem Ns.set {l : List Int} (h : Ns l) (k : Nat) {x : Int} (hx : isN x) : Ns (l.set k x) := fun y hy => by
  rcases List.mem_or_eq_of_mem_set hy with hy | rfl
  · exact h y hy
  · exact hx
set_option maxRecDepth 100000 in
theorem l09Draw_r (c : List Int) (σ : Src) (m : Int) (hc : Byt c) (hs : SOk σ) (hm : 1 ≤ m) (hm8 : m ≤ 8) :
    RCon Tryz.prog 107 [srcA c σ, .int m] (fun r o => ∃ (τ : Src) (A : List (List Int)) (B : List Int), SOk τ ∧ o = [srcA c τ, .any] ∧ Tb8 A B ∧ r = .agg [.own 25 A.length (omat A), .own 2 B.length (avs B)]) := by
  have c1 := l01Next_c c σ 2 hc hs
  have s1 := nx2_ok hc hs 2
  simp only [srcA_eq] at *
  by_cases h4 : 4 ≤ m
  · refine rcon_of_vcH Tryz.mixed ⟨14, [], [1000000 + 38, 1000000 + 40, 2000000 + 166, 2000000 + 167], []⟩ [0] Tryz.func107 (by decide) rfl (by simp) (by simp) (by decide) ?_
    rw [Tryz.ntmps107]
    simp [go_sem]
    simp [go_sem, h4]
    refine ⟨_, _, c1, ?_⟩
    simp [go_sem]
    generalize nx1 c σ 2 = v at *
    generalize nx2 c σ 2 = τ0 at *
    by_cases v0 : v = 0
    · simp [go_sem, v0]
      refine ⟨_, TableauNames_r, ?_⟩
      rintro _ _ ⟨rfl, L, hL, rfl⟩
      have c9 := l01Next_c c τ0 12 hc s1
      have s9 := nx2_ok hc s1 12
      have b9 := nx1_b hc τ0 (n := 12) (by omega)
      obtain ⟨k, hk⟩ : ∃ k : Nat, nx1 c τ0 12 = k := ⟨(nx1 c τ0 12).toNat, by omega⟩
      rw [hk] at c9 b9
      generalize nx2 c τ0 12 = κ at *
      simp only [srcA_eq] at c9
      obtain ⟨b, hA⟩ := hL k (by omega)
      simp [go_sem]
      refine ⟨_, _, c9, ?_⟩
      simp [go_sem]
      simp [go_sem, hA]
      refine ⟨by omega, ?_⟩
      refine ⟨_, l09Named_r _, ?_⟩
      rintro _ _ ⟨rfl, A, B, hT, rfl⟩
      simp [go_sem]
      exact ⟨κ.1, κ.2, s9, ⟨rfl, rfl⟩, A, B, hT, ⟨rfl, rfl⟩, rfl, rfl⟩
    · simp [go_sem, v0]
      have h0 := s1
      have c4 := l01Next_c c τ0 m hc h0
      have s4 := nx2_ok hc h0 m
      have b4 := nx1_b hc τ0 (n := m) (by omega)
      obtain ⟨N, hN⟩ : ∃ N : Nat, 1 + nx1 c τ0 m = N := ⟨(1 + nx1 c τ0 m).toNat, by omega⟩
      generalize nx1 c τ0 m = v4 at *
      generalize nx2 c τ0 m = τ1 at *
      have N1 : 1 ≤ N := by omega
      have N8 : N ≤ 8 := by omega
      have c5 := l01Next_c c τ1 3 hc s4
      have s5 := nx2_ok hc s4 3
      generalize nx1 c τ1 3 = u at *
      generalize nx2 c τ1 3 = τ2 at *
      have c6 := l01List_c c τ2 N hc s5 (by omega)
      have L6 := lsV_ok (f := nbV c) (fun σ h => nbV_ok hc h) N τ2 s5
      generalize lsV (nbV c) N τ2 = r6 at *
      obtain ⟨B0, τ3⟩ := r6
      simp only at L6 c6
      obtain ⟨lB, nB, s6⟩ := L6
      simp only [srcA_eq] at c4 c5 c6
      refine ⟨_, _, c4, ?_⟩
      simp [go_sem]
      refine ⟨⟨by omega, by omega⟩, ?_⟩
      rw [hN]
      refine ⟨_, _, c5, ?_⟩
      simp [go_sem]
      refine ⟨_, _, c6, ?_⟩
      simp [go_sem]
      refine loop_inv (0 :: 8 :: List.range' 9 3 ++ List.range' 40 38) (fun x : Src × List (List Int) => [(0, .box 136 [.sl c.length (bys c), .int x.1.1, .val (.int .u64 x.1.2)]), (8, .box 27 [ptM x.2, .own 2 N (avs B0)]), (9, .int x.2.length)]) (fun x => SOk x.1 ∧ x.2.length ≤ N ∧ ∀ r ∈ x.2, r.length = N ∧ Ns r) (fun x => N - x.2.length) (τ3, []) ⟨s6, by simp, by simp⟩ (by simp [go_sem, ptM_nil]) (by simp [go_sem]) ?_
      rintro ⟨ρ, A⟩ ⟨h1, h2, h3⟩
      simp only at h1 h2 h3
      by_cases hA : A.length < N
      · have hAi : (A.length : Int) < N := by omega
        have c7 := l01List_c c ρ N hc h1 (by omega)
        have L7 := lsV_ok (f := nbV c) (fun σ h => nbV_ok hc h) N ρ h1
        generalize lsV (nbV c) N ρ = r7 at *
        obtain ⟨row0, κ⟩ := r7
        simp only at L7 c7
        obtain ⟨l7, n7, s7⟩ := L7
        simp only [srcA_eq] at c7
        simp [go_sem, hAi]
        refine ⟨_, _, c7, ?_⟩
        simp [go_sem]
        refine loop_inv (10 :: 11 :: List.range' 48 24) (fun x : List Int × Nat => [(10, .own 2 N (avs x.1)), (11, .int x.2)]) (fun x => x.1.length = N ∧ Ns x.1 ∧ x.2 ≤ N) (fun x => N - x.2) (row0, 0) ⟨l7, n7, by omega⟩ (by simp [go_sem]) (by simp [go_sem]) ?_
        rintro ⟨row, k⟩ ⟨g1, g2, g3⟩
        simp only at g1 g2 g3
        by_cases hk : k < N
        · have hki : (k : Int) < N := by omega
          have hkr : k < row.length := by omega
          have hS := avs_set row k 0
          by_cases u0 : u = 0
          · by_cases u1 : (A.length : Int) ≤ k
            · simp -implicitDefEqProofs [go_sem, hki, u0, u1, hS]
              refine ⟨hkr, ⟨by omega, by omega⟩, row.set k 0, k + 1, ⟨by simpa using g1, Ns.set g2 k ⟨by omega, by omega⟩, by omega⟩, by omega, Off_reset _ _ _ (by simp), rfl, by omega⟩
            · simp -implicitDefEqProofs [go_sem, hki, u0, u1]
              refine ⟨⟨by omega, by omega⟩, row, k + 1, ⟨g1, g2, by omega⟩, by omega, Off_reset _ _ _ (by simp), rfl, by omega⟩
          · by_cases u1 : u = 1
            · by_cases u2 : (A.length : Int) < k
              · simp -implicitDefEqProofs [go_sem, hki, u0, u1, u2, hS]
                refine ⟨hkr, ⟨by omega, by omega⟩, row.set k 0, k + 1, ⟨by simpa using g1, Ns.set g2 k ⟨by omega, by omega⟩, by omega⟩, by omega, Off_reset _ _ _ (by simp), rfl, by omega⟩
              · simp -implicitDefEqProofs [go_sem, hki, u0, u1, u2]
                refine ⟨⟨by omega, by omega⟩, row, k + 1, ⟨g1, g2, by omega⟩, by omega, Off_reset _ _ _ (by simp), rfl, by omega⟩
            · simp -implicitDefEqProofs [go_sem, hki, u0, u1]
              refine ⟨⟨by omega, by omega⟩, row, k + 1, ⟨g1, g2, by omega⟩, by omega, Off_reset _ _ _ (by simp), rfl, by omega⟩
        · have e : k = N := by omega
          subst e
          simp [go_sem]
          have h3' : ∀ r ∈ A ++ [row], r.length = k ∧ Ns r := fun r hr => by
            rcases List.mem_append.1 hr with hr | hr
            · exact h3 r hr
            · simp at hr; subst hr; exact ⟨g1, g2⟩
          have os : omat (A ++ [row]) = omat A ++ [.own 2 k (avs row)] := by rw [omat_app, omat_one, g1]
          rcases A with _ | ⟨r0, A⟩
          · simp [go_sem, ptM_nil]
            refine ⟨κ.1, κ.2, [row], ⟨s7, by simp; omega, by simpa using h3'⟩, by simp; omega, (by repeat (first | exact Off_reset _ _ _ (by simp) | (refine Off.reset (by intro x hx; simp at hx ⊢; omega) (by simp) ?_; simp -failIfUnchanged [go_sem, Off_reset]))), ⟨⟨rfl, rfl⟩, by simp [ptM_cons, omat_one, g1], by simp⟩⟩
          · simp only [List.length_cons] at hA h2 hAi
            have e5 : ptM (r0 :: A ++ [row]) = .own 25 (A.length + 1 + 1) (omat (r0 :: A) ++ [.own 2 k (avs row)]) := by
              show AV.own _ ((A ++ [row]).length + 1) (omat (r0 :: A ++ [row])) = _
              rw [os, List.length_append]; rfl
            simp [go_sem, ptM_cons]
            refine ⟨⟨by omega, by omega⟩, ⟨by omega, by omega⟩, κ.1, κ.2, r0 :: A ++ [row], ⟨s7, by simp; omega, h3'⟩, by simp; omega, (by repeat (first | exact Off_reset _ _ _ (by simp) | (refine Off.reset (by intro x hx; simp at hx ⊢; omega) (by simp) ?_; simp -failIfUnchanged [go_sem, Off_reset]))), ⟨⟨rfl, rfl⟩, e5.symm, by simp⟩⟩
      · have e : A.length = N := by omega
        have hpt := ptM_pos (A := A) (by omega)
        rw [hpt, e]
        have c8 := l01Next_c c ρ 2 hc h1
        have s8 := nx2_ok hc h1 2
        generalize nx1 c ρ 2 = v8 at *
        generalize nx2 c ρ 2 = κ at *
        simp only [srcA_eq] at c8
        have fin : ∀ B : List Int, B.length = N → Ns B → ∃ a b, SOk (a, b) ∧ ((κ.1 : Int) = a ∧ κ.2 = b) ∧ ∃ A' B', Tb8 A' B' ∧ (N = A'.length ∧ omat A = omat A') ∧ N = B'.length ∧ B = B' := fun B hB nB => by
          refine ⟨κ.1, κ.2, s8, ⟨rfl, rfl⟩, A, B, ⟨by omega, by omega, by omega, nB, fun r hr => ?_⟩, ⟨e.symm, rfl⟩, hB.symm, rfl⟩
          rw [hB]; exact h3 r hr
        simp [go_sem, e]
        refine ⟨_, _, c8, ?_⟩
        simp [go_sem]
        by_cases v80 : v8 = 0
        · simp [go_sem, v80]
          refine loop_inv (12 :: 13 :: List.range' 81 12) (fun x : Int × Nat => [(12, .int x.1), (13, .int x.2)]) (fun x => isN x.1 ∧ 1 ≤ x.2 ∧ x.2 ≤ N) (fun x => N - x.2) (0, 1) ⟨⟨by simp, by simp⟩, by simp, by simp; omega⟩ (by simp [go_sem]) (by simp [go_sem]) ?_
          rintro ⟨q, i⟩ ⟨g1, g2, g3⟩
          simp only at g1 g2 g3
          by_cases hi : i < N
          · have hii : (i : Int) < N := by omega
            have hib : i < B0.length := by omega
            have hb := nB.get i
            have fa := add_fits g1 hb
            have cA := l01Add_c q (B0[i]?.getD 0) fa
            have hat := avs_at hib
            generalize B0[i]?.getD 0 = b at *
            simp [go_sem, hii, hat]
            refine CallVC.of (cA) (by decide) ?_
            simp [go_sem]
            exact ⟨⟨by omega, by omega⟩, (q + b) % 10007, i + 1, ⟨isN_mod _, by omega, by omega⟩, by omega, Off_reset _ _ _ (by simp), rfl, by omega⟩
          · have hii : ¬ (i : Int) < N := by omega
            have cS := l01Sub_c 1 q (sub_fits ⟨by omega, by omega⟩ g1)
            have nS : isN ((1 - q) % 10007) := isN_mod _
            generalize (1 - q) % 10007 = x at *
            have hset := avs_set B0 0 x
            simp [go_sem, hii]
            refine ⟨by kernel_rfl, ?_⟩
            refine CallD.of (cS) (by simp [roots, rootsL]) (by decide) ?_
            simp [go_sem]
            refine ⟨by omega, by omega, ?_⟩
            refine ⟨by kernel_rfl, ?_⟩
            simp [go_sem]
            simp only [hset]
            obtain ⟨a, b, k1, k2, A', B', k3, k4, k5, k6⟩ := fin (B0.set 0 x) (by simpa using lB) (Ns.set nB 0 nS)
            exact ⟨a, b, k1, k2, A', B', k3, k4, k5, by rw [k6]⟩
        · simp [go_sem, v80]
          exact fin B0 lB nB
  · refine rcon_of_vcH Tryz.mixed ⟨14, [], [1000000 + 38, 1000000 + 40, 2000000 + 166, 2000000 + 167], []⟩ [0] Tryz.func107 (by decide) rfl (by simp) (by simp) (by decide) ?_
    rw [Tryz.ntmps107]
    simp [go_sem]
    simp [go_sem, h4]
    have τ0h : ∃ τ0 : Src, τ0 = σ := ⟨σ, rfl⟩
    obtain ⟨τ0, rfl⟩ := τ0h
    have h0 := hs
    clear c1 s1 hs
    have c4 := l01Next_c c τ0 m hc h0
    have s4 := nx2_ok hc h0 m
    have b4 := nx1_b hc τ0 (n := m) (by omega)
    obtain ⟨N, hN⟩ : ∃ N : Nat, 1 + nx1 c τ0 m = N := ⟨(1 + nx1 c τ0 m).toNat, by omega⟩
    generalize nx1 c τ0 m = v4 at *
    generalize nx2 c τ0 m = τ1 at *
    have N1 : 1 ≤ N := by omega
    have N8 : N ≤ 8 := by omega
    have c5 := l01Next_c c τ1 3 hc s4
    have s5 := nx2_ok hc s4 3
    generalize nx1 c τ1 3 = u at *
    generalize nx2 c τ1 3 = τ2 at *
    have c6 := l01List_c c τ2 N hc s5 (by omega)
    have L6 := lsV_ok (f := nbV c) (fun σ h => nbV_ok hc h) N τ2 s5
    generalize lsV (nbV c) N τ2 = r6 at *
    obtain ⟨B0, τ3⟩ := r6
    simp only at L6 c6
    obtain ⟨lB, nB, s6⟩ := L6
    simp only [srcA_eq] at c4 c5 c6
    refine ⟨_, _, c4, ?_⟩
    simp [go_sem]
    refine ⟨⟨by omega, by omega⟩, ?_⟩
    rw [hN]
    refine ⟨_, _, c5, ?_⟩
    simp [go_sem]
    refine ⟨_, _, c6, ?_⟩
    simp [go_sem]
    refine loop_inv (0 :: 8 :: List.range' 9 3 ++ List.range' 40 38) (fun x : Src × List (List Int) => [(0, .box 136 [.sl c.length (bys c), .int x.1.1, .val (.int .u64 x.1.2)]), (8, .box 27 [ptM x.2, .own 2 N (avs B0)]), (9, .int x.2.length)]) (fun x => SOk x.1 ∧ x.2.length ≤ N ∧ ∀ r ∈ x.2, r.length = N ∧ Ns r) (fun x => N - x.2.length) (τ3, []) ⟨s6, by simp, by simp⟩ (by simp [go_sem, ptM_nil]) (by simp [go_sem]) ?_
    rintro ⟨ρ, A⟩ ⟨h1, h2, h3⟩
    simp only at h1 h2 h3
    by_cases hA : A.length < N
    · have hAi : (A.length : Int) < N := by omega
      have c7 := l01List_c c ρ N hc h1 (by omega)
      have L7 := lsV_ok (f := nbV c) (fun σ h => nbV_ok hc h) N ρ h1
      generalize lsV (nbV c) N ρ = r7 at *
      obtain ⟨row0, κ⟩ := r7
      simp only at L7 c7
      obtain ⟨l7, n7, s7⟩ := L7
      simp only [srcA_eq] at c7
      simp [go_sem, hAi]
      refine ⟨_, _, c7, ?_⟩
      simp [go_sem]
      refine loop_inv (10 :: 11 :: List.range' 48 24) (fun x : List Int × Nat => [(10, .own 2 N (avs x.1)), (11, .int x.2)]) (fun x => x.1.length = N ∧ Ns x.1 ∧ x.2 ≤ N) (fun x => N - x.2) (row0, 0) ⟨l7, n7, by omega⟩ (by simp [go_sem]) (by simp [go_sem]) ?_
      rintro ⟨row, k⟩ ⟨g1, g2, g3⟩
      simp only at g1 g2 g3
      by_cases hk : k < N
      · have hki : (k : Int) < N := by omega
        have hkr : k < row.length := by omega
        have hS := avs_set row k 0
        by_cases u0 : u = 0
        · by_cases u1 : (A.length : Int) ≤ k
          · simp -implicitDefEqProofs [go_sem, hki, u0, u1, hS]
            refine ⟨hkr, ⟨by omega, by omega⟩, row.set k 0, k + 1, ⟨by simpa using g1, Ns.set g2 k ⟨by omega, by omega⟩, by omega⟩, by omega, Off_reset _ _ _ (by simp), rfl, by omega⟩
          · simp -implicitDefEqProofs [go_sem, hki, u0, u1]
            refine ⟨⟨by omega, by omega⟩, row, k + 1, ⟨g1, g2, by omega⟩, by omega, Off_reset _ _ _ (by simp), rfl, by omega⟩
        · by_cases u1 : u = 1
          · by_cases u2 : (A.length : Int) < k
            · simp -implicitDefEqProofs [go_sem, hki, u0, u1, u2, hS]
              refine ⟨hkr, ⟨by omega, by omega⟩, row.set k 0, k + 1, ⟨by simpa using g1, Ns.set g2 k ⟨by omega, by omega⟩, by omega⟩, by omega, Off_reset _ _ _ (by simp), rfl, by omega⟩
            · simp -implicitDefEqProofs [go_sem, hki, u0, u1, u2]
              refine ⟨⟨by omega, by omega⟩, row, k + 1, ⟨g1, g2, by omega⟩, by omega, Off_reset _ _ _ (by simp), rfl, by omega⟩
          · simp -implicitDefEqProofs [go_sem, hki, u0, u1]
            refine ⟨⟨by omega, by omega⟩, row, k + 1, ⟨g1, g2, by omega⟩, by omega, Off_reset _ _ _ (by simp), rfl, by omega⟩
      · have e : k = N := by omega
        subst e
        simp [go_sem]
        have h3' : ∀ r ∈ A ++ [row], r.length = k ∧ Ns r := fun r hr => by
          rcases List.mem_append.1 hr with hr | hr
          · exact h3 r hr
          · simp at hr; subst hr; exact ⟨g1, g2⟩
        have os : omat (A ++ [row]) = omat A ++ [.own 2 k (avs row)] := by rw [omat_app, omat_one, g1]
        rcases A with _ | ⟨r0, A⟩
        · simp [go_sem, ptM_nil]
          refine ⟨κ.1, κ.2, [row], ⟨s7, by simp; omega, by simpa using h3'⟩, by simp; omega, (by repeat (first | exact Off_reset _ _ _ (by simp) | (refine Off.reset (by intro x hx; simp at hx ⊢; omega) (by simp) ?_; simp -failIfUnchanged [go_sem, Off_reset]))), ⟨⟨rfl, rfl⟩, by simp [ptM_cons, omat_one, g1], by simp⟩⟩
        · simp only [List.length_cons] at hA h2 hAi
          have e5 : ptM (r0 :: A ++ [row]) = .own 25 (A.length + 1 + 1) (omat (r0 :: A) ++ [.own 2 k (avs row)]) := by
            show AV.own _ ((A ++ [row]).length + 1) (omat (r0 :: A ++ [row])) = _
            rw [os, List.length_append]; rfl
          simp [go_sem, ptM_cons]
          refine ⟨⟨by omega, by omega⟩, ⟨by omega, by omega⟩, κ.1, κ.2, r0 :: A ++ [row], ⟨s7, by simp; omega, h3'⟩, by simp; omega, (by repeat (first | exact Off_reset _ _ _ (by simp) | (refine Off.reset (by intro x hx; simp at hx ⊢; omega) (by simp) ?_; simp -failIfUnchanged [go_sem, Off_reset]))), ⟨⟨rfl, rfl⟩, e5.symm, by simp⟩⟩
    · have e : A.length = N := by omega
      have hpt := ptM_pos (A := A) (by omega)
      rw [hpt, e]
      have c8 := l01Next_c c ρ 2 hc h1
      have s8 := nx2_ok hc h1 2
      generalize nx1 c ρ 2 = v8 at *
      generalize nx2 c ρ 2 = κ at *
      simp only [srcA_eq] at c8
      have fin : ∀ B : List Int, B.length = N → Ns B → ∃ a b, SOk (a, b) ∧ ((κ.1 : Int) = a ∧ κ.2 = b) ∧ ∃ A' B', Tb8 A' B' ∧ (N = A'.length ∧ omat A = omat A') ∧ N = B'.length ∧ B = B' := fun B hB nB => by
        refine ⟨κ.1, κ.2, s8, ⟨rfl, rfl⟩, A, B, ⟨by omega, by omega, by omega, nB, fun r hr => ?_⟩, ⟨e.symm, rfl⟩, hB.symm, rfl⟩
        rw [hB]; exact h3 r hr
      simp [go_sem, e]
      refine ⟨_, _, c8, ?_⟩
      simp [go_sem]
      by_cases v80 : v8 = 0
      · simp [go_sem, v80]
        refine loop_inv (12 :: 13 :: List.range' 81 12) (fun x : Int × Nat => [(12, .int x.1), (13, .int x.2)]) (fun x => isN x.1 ∧ 1 ≤ x.2 ∧ x.2 ≤ N) (fun x => N - x.2) (0, 1) ⟨⟨by simp, by simp⟩, by simp, by simp; omega⟩ (by simp [go_sem]) (by simp [go_sem]) ?_
        rintro ⟨q, i⟩ ⟨g1, g2, g3⟩
        simp only at g1 g2 g3
        by_cases hi : i < N
        · have hii : (i : Int) < N := by omega
          have hib : i < B0.length := by omega
          have hb := nB.get i
          have fa := add_fits g1 hb
          have cA := l01Add_c q (B0[i]?.getD 0) fa
          have hat := avs_at hib
          generalize B0[i]?.getD 0 = b at *
          simp [go_sem, hii, hat]
          refine CallVC.of (cA) (by decide) ?_
          simp [go_sem]
          exact ⟨⟨by omega, by omega⟩, (q + b) % 10007, i + 1, ⟨isN_mod _, by omega, by omega⟩, by omega, Off_reset _ _ _ (by simp), rfl, by omega⟩
        · have hii : ¬ (i : Int) < N := by omega
          have cS := l01Sub_c 1 q (sub_fits ⟨by omega, by omega⟩ g1)
          have nS : isN ((1 - q) % 10007) := isN_mod _
          generalize (1 - q) % 10007 = x at *
          have hset := avs_set B0 0 x
          simp [go_sem, hii]
          refine ⟨by kernel_rfl, ?_⟩
          refine CallD.of (cS) (by simp [roots, rootsL]) (by decide) ?_
          simp [go_sem]
          refine ⟨by omega, by omega, ?_⟩
          refine ⟨by kernel_rfl, ?_⟩
          simp [go_sem]
          simp only [hset]
          obtain ⟨a, b, k1, k2, A', B', k3, k4, k5, k6⟩ := fin (B0.set 0 x) (by simpa using lB) (Ns.set nB 0 nS)
          exact ⟨a, b, k1, k2, A', B', k3, k4, k5, by rw [k6]⟩
      · simp [go_sem, v80]
        exact fin B0 lB nB
end Go.Proofs.YtnokgijakdaehaaGreatDoor


namespace Go.Proofs.YtnokgijakdaehaaGreatDoor
open Go.Abs
set_option linter.unusedSectionVars false
set_option linter.unusedVariables false
set_option linter.unusedSimpArgs false
set_option maxHeartbeats 4000000
theorem RCon.rep {P : Program} {f : FuncId} {args : List AV} {R R' : AV → List AV → Prop} (h : RCon P f args R)
    (hR : ∀ r o, R r o → ∃ r', R' r' o ∧ ∀ (w : World) (F : Nat → Prop) (tm : Nat → Value) (oss : Nat → List Nat) (v : Value) (os : List Nat), RepT P w F tm oss r v os → RepT P w F tm oss r' v os) : RCon P f args R' := by
  refine ⟨h.1, fun w vs os F0 hl hn ho hF hr => (h.2 w vs os F0 hl hn ho hF hr).mono ?_⟩
  rintro e w' ⟨r, o, hr0, v, orr, oo, F', k1, k2, k3, k4, k5, k6⟩
  obtain ⟨r', h1, h2⟩ := hR r o hr0
  exact ⟨r', o, h1, v, orr, oo, F', k1, k2, k3, k4, fun tm oss => h2 _ _ _ _ _ _ (k5 tm oss), k6⟩
theorem rep_nils {P : Program} {w : World} {F : Nat → Prop} {tm : Nat → Value} {oss : Nat → List Nat} {v : Value} {os : List Nat}
    (h : RepT P w F tm oss (.agg [.val (.slice none 0 0), .val (.slice none 0 0)]) v os) : RepT P w F tm oss (.agg [.sl 0 [], .sl 0 []]) v os := by
  cases h with
  | cell c v os h => cases h
  | agg cs vs os hl h =>
    refine .agg _ vs os (by simpa using hl) ?_
    cases h with
    | cons c v o cs vs os' h t =>
      cases t with
      | cons c2 v2 o2 cs2 vs2 os2 h2 t2 =>
        refine .cons _ _ _ _ _ _ ?_ (.cons _ _ _ _ _ _ ?_ t2)
        · cases h with
          | cell _ _ _ h => cases h with | val _ _ => exact .cell _ _ _ (.sl0 none 0)
        · cases h2 with
          | cell _ _ _ h => cases h with | val _ _ => exact .cell _ _ _ (.sl0 none 0)
def Sz (A : List (List Int)) (B : List Int) : Prop := A.length ≤ 9 ∧ B.length ≤ 9 ∧ ∀ r ∈ A, r.length ≤ 9
theorem Tab.sz {A : List (List Int)} {B : List Int} (h : Tab A B) : Sz A B := by
  have h1 := h.le
  have h2 := h.len
  refine ⟨by omega, by omega, fun r hr => ?_⟩
  have := (h.a r hr).1
  omega
theorem omat_cons (r : List Int) (A : List (List Int)) : omat (r :: A) = .own 2 r.length (avs r) :: omat A := rfl
def FrT (r : AV) (A : List (List Int)) (B : List Int) : Prop := frz r = .agg [.sl A.length (mat A), .sl B.length (avs B)]
set_option maxRecDepth 100000 in
theorem l09Spoil_r (c : List Int) (σ : Src) (m : Int) (hc : Byt c) (hs : SOk σ) (hm : 1 ≤ m) (hm8 : m ≤ 8) :
    RCon Tryz.prog 37 [srcA c σ, .int m] (fun r o => ∃ (τ : Src), SOk τ ∧ o = [srcA c τ, .any] ∧ (r = .agg [.val (.slice none 0 0), .val (.slice none 0 0)] ∨ ∃ (A : List (List Int)) (B : List Int), Sz A B ∧ FrT r A B)) := by
  have cD := l09Draw_r c σ m hc hs hm hm8
  simp only [srcA_eq] at *
  refine rcon_of_vcH Tryz.mixed ⟨6, [46], [1000000 + 38, 1000000 + 108, 2000000 + 107], [2000607000110]⟩ [0] Tryz.func37 (by decide) rfl (by simp) (by simp) (by decide) ?_
  rw [Tryz.ntmps37]
  simp [go_sem]
  refine ⟨_, cD, ?_⟩
  rintro _ _ ⟨τ, A, B, h1, rfl, hT, rfl⟩
  have c4 := l01Next_c c τ 40 hc h1
  have s4 := nx2_ok hc h1 40
  generalize nx1 c τ 40 = v at *
  generalize nx2 c τ 40 = τ1 at *
  have hz := Tab.sz hT
  have hp := Tab.pos hT
  have hl := Tab.len hT
  have hle := Tab.le hT
  simp only [srcA_eq] at c4
  simp [go_sem]
  refine ⟨_, _, c4, ?_⟩
  simp [go_sem]
  by_cases v0 : v = 0
  · have ef := avs_frz (B ++ [1])
    rw [avs_snoc] at ef
    simp [go_sem, v0]
    exact ⟨⟨by omega, by omega⟩, τ1.1, τ1.2, s4, ⟨rfl, rfl⟩, A, B ++ [1], ⟨hz.1, by simp; omega, hz.2.2⟩, by simp [FrT, frz, frzL, avs_snoc, ef]⟩
  · by_cases v1 : v = 1
    · rcases A with _ | ⟨r0, A⟩
      · simp at hl; omega
      · have hr0 := hz.2.2 r0 (by simp)
        have fin : ∃ a b, SOk (a, b) ∧ ((τ1.1 : Int) = a ∧ τ1.2 = b) ∧ ∃ A_1 B_1, Sz A_1 B_1 ∧ FrT (.agg [.own 25 (A.length + 1) (.own 2 (r0.length + 1) (avs r0 ++ [.int 1]) :: omat A), .own 2 B.length (avs B)]) A_1 B_1 := by
          refine ⟨τ1.1, τ1.2, s4, ⟨rfl, rfl⟩, (r0 ++ [1]) :: A, B, ⟨hz.1, hz.2.1, fun r hr => ?_⟩, ?_⟩
          · rcases List.mem_cons.1 hr with rfl | hr
            · have := hT.le; have := (hT.a r0 (by simp)).1; simp; omega
            · exact hz.2.2 r (by simp [hr])
          · have e : omat ((r0 ++ [1]) :: A) = .own 2 (r0.length + 1) (avs r0 ++ [.int 1]) :: omat A := by rw [omat_cons, avs_snoc, List.length_append]; rfl
            unfold FrT
            rw [← e]
            simp [frz, frzL]
        simp [go_sem, v0, v1]
        rw [DrawVC4_app]
        refine ⟨fun i => [], by kernel_rfl, ?_, ?_, ?_⟩
        · simp [go_sem, omat_cons]
          refine ⟨⟨by omega, by omega⟩, by kernel_rfl, ?_⟩
          exact fin
        · simp [go_sem, omat_cons]
          refine ⟨⟨by omega, by omega⟩, by kernel_rfl, ?_⟩
          exact fin
        · simp [go_sem, omat_cons]
          refine ⟨⟨by omega, by omega⟩, by kernel_rfl, ?_⟩
          exact fin
    · by_cases v2 : v = 2
      · have c5 := l01Pick_c c τ1 [-1, 10007] hc s4 (by simp) (by simp)
        have s5 := nx2_ok hc s4 2
        have e4 : (([-1, 10007] : List Int).length : Int) = 2 := rfl
        rw [e4] at c5
        simp only [srcA_eq] at c5
        generalize pk c τ1 [-1, 10007] = x at *
        generalize nx2 c τ1 2 = τ2 at *
        rcases A with _ | ⟨r0, A⟩
        · simp at hl; omega
        · simp [go_sem, v0, v1, v2, omat_cons]
          refine ⟨by kernel_rfl, ?_⟩
          refine ⟨_, _, c5, ?_⟩
          simp [go_sem]
          have hr0 : r0.length = B.length := (hT.a r0 (by simp)).1
          have hset := avs_set r0 0 x
          refine ⟨by omega, ?_⟩
          refine ⟨by kernel_rfl, ?_⟩
          simp [go_sem]
          simp only [hset]
          refine ⟨τ2.1, τ2.2, s5, ⟨rfl, rfl⟩, (r0.set 0 x) :: A, B, ⟨hz.1, hz.2.1, fun r hr => ?_⟩, ?_⟩
          · rcases List.mem_cons.1 hr with rfl | hr
            · simp; omega
            · exact hz.2.2 r (by simp [hr])
          · have e : omat ((r0.set 0 x) :: A) = .own 2 r0.length (avs (r0.set 0 x)) :: omat A := by rw [omat_cons, List.length_set]
            unfold FrT
            rw [← e]
            simp [frz, frzL]
      · by_cases v3 : v = 3
        · simp [go_sem, v0, v1, v2, v3]
          exact ⟨τ1.1, s4, rfl⟩
        · by_cases v4 : v = 4
          · simp [go_sem, v0, v1, v2, v3, v4]
            refine ⟨by omega, τ1.1, τ1.2, s4, ⟨rfl, rfl⟩, A.tail, B, ⟨by simp; omega, hz.2.1, fun r hr => hz.2.2 r (List.mem_of_mem_tail hr)⟩, ?_⟩
            have e : List.take (A.length - 1) (mat A).tail = mat A.tail := by rw [List.take_of_length_le (by simp)]; simp [mat]
            unfold FrT
            rw [e]
            simp [frz, frzL]
          · simp [go_sem, v0, v1, v2, v3, v4]
            exact ⟨τ1.1, τ1.2, s4, ⟨rfl, rfl⟩, A, B, hz, by simp [FrT, frz, frzL]⟩
theorem l09Spoil_f (c : List Int) (σ : Src) (m : Int) (hc : Byt c) (hs : SOk σ) (hm : 1 ≤ m) (hm8 : m ≤ 8) :
    RCon Tryz.prog 37 [srcA c σ, .int m] (fun r o => ∃ (τ : Src) (A : List (List Int)) (B : List Int), SOk τ ∧ o = [srcA c τ, .any] ∧ Sz A B ∧ r = .agg [.sl A.length (mat A), .sl B.length (avs B)]) := by
  refine RCon.rep (RCon.fz (l09Spoil_r c σ m hc hs hm hm8)) (fun r o h => ?_)
  obtain ⟨r0, ⟨τ, h1, h2, h3⟩, rfl⟩ := h
  rcases h3 with rfl | ⟨A, B, hz, hf⟩
  · exact ⟨_, ⟨τ, [], [], h1, h2, ⟨by simp, by simp, by simp⟩, rfl⟩, fun w F tm oss v os h => rep_nils h⟩
  · unfold FrT at hf
    exact ⟨_, ⟨τ, A, B, h1, h2, hz, hf⟩, fun w F tm oss v os h => h⟩
end Go.Proofs.YtnokgijakdaehaaGreatDoor


namespace Go.Proofs.YtnokgijakdaehaaGreatDoor
open Go.Abs
set_option linter.unusedSectionVars false
set_option linter.unusedVariables false
set_option linter.unusedSimpArgs false
set_option maxHeartbeats 1000000
theorem RCon.fzi {P : Program} {f : FuncId} {args : List AV} {R : AV → List AV → Prop} (h : RCon P f args R) (hR : ∀ r o, R r o → ∃ (z : Value) (e n : Nat) (cs : List AV), r = .agg [.val z, .own e n cs]) :
    RCon P f args (fun r o => ∃ (z : Value) (e n : Nat) (cs : List AV), R (.agg [.val z, .own e n cs]) o ∧ r = .agg [.val z, .own e n (frzL cs)]) := by
  refine ⟨h.1, fun w vs os F0 hl hn ho hF hr => (h.2 w vs os F0 hl hn ho hF hr).mono ?_⟩
  rintro e0 w' ⟨r, o, hRr, v, orr, oo, F', k1, k2, k3, k4, k5, k6, k7, k8, k9⟩
  obtain ⟨z, e, n, cs, rfl⟩ := hR r o hRr
  have oouts : ∀ (F2 : Nat → Prop), (∀ b, F' b → F2 b) → ∀ tm oss, RepTL P w' F2 tm oss o vs oo := fun F2 hF2 tm oss => by
    have := RepTL.kl (w' := w') (F' := F2) (tm' := tm) (oss' := oss) [] hF2 (fun _ _ _ _ h => h) (k6 tm oss) (fun _ _ => rfl)
    rwa [klL_nil] at this
  have h1 := k5 (fun _ => undef) (fun _ => [])
  generalize hcc : AV.agg [.val z, .own e n cs] = cc at h1
  generalize hoo : orr = oq at h1
  cases h1 with
  | agg cs' vs' os' hl' hL =>
    simp only [AV.agg.injEq] at hcc
    subst hcc
    cases hL with
    | cons c1 v0 os0 cs1 vs1 os1 hA hB =>
    cases hA with
    | cell c1 v0 os0 hA =>
    cases hA with
    | val z hw =>
    cases hB with
    | cons c2 v1 osc cs2 vs2 os2 hC hD =>
    cases hD with
    | nil =>
    cases hC with
    | cell c2 v1 osc hC =>
    cases hC with
    | own0 e =>
      refine ⟨_, o, ⟨z, e, 0, [], hRr, rfl⟩, _, [], oo, F', k1, k2, k3, k4, fun tm oss => .agg _ _ [] (by simpa using hl') (.cons _ _ [] _ _ [] (.cell _ _ _ (.val _ hw)) (.cons _ _ [] _ _ [] (.cell _ _ _ (.own0 e)) (.nil _))), k6, k7, ?_, fun b hb => k9 b (.inr (by simpa using hb))⟩
      simpa using (List.nodup_append.1 k8).2.1
    | own b e n cap c cs ok hb1 hn1 hc1 hl1 =>
      have hoo' : orr = b :: ok := by simpa using hoo
      subst hoo'
      have hnd := (List.nodup_append.1 k8)
      have hnd2 := List.nodup_cons.1 hnd.1
      refine ⟨_, o, ⟨z, e, n, cs, hRr, rfl⟩, _, [b], oo, fun x => F' x ∨ x ∈ ok, k1, k2, fun x hx => .inl (k3 x hx), fun x hx => hx.elim (k4 x) (fun hx => .inr ⟨(k9 x (.inl (by simp [hx]))).1, (k9 x (.inl (by simp [hx]))).2.1⟩),
        fun tm oss => .agg _ _ [b] (by simpa using hl') (.cons _ _ [] _ _ [b] (.cell _ _ _ (.val _ hw)) (.cons _ _ [b] _ _ [] (.cell _ _ _ (.own b e n cap c _ [] hb1 hn1 hc1 ?_)) (.nil _))), fun tm oss => oouts _ (fun x hx => .inl hx) tm oss, k7, ?_, fun x hx => ?_⟩
      · exact RepL.frz (fun x hx => .inl hx) hl1 (fun x hx => .inr hx)
      · refine List.nodup_append.2 ⟨by simp, hnd.2.1, fun x hx y hy e => ?_⟩
        simp at hx
        exact hnd.2.2 b (by simp) y hy (hx ▸ e)
      · rcases hx with hx | hx
        · simp at hx
          subst hx
          obtain ⟨j1, j2, j3⟩ := k9 x (.inl (by simp))
          exact ⟨j1, j2, fun hf => hf.elim j3 hnd2.1⟩
        · obtain ⟨j1, j2, j3⟩ := k9 x (.inr hx)
          exact ⟨j1, j2, fun hf => hf.elim j3 (fun hf => hnd.2.2 x (by simp [hf]) x hx rfl)⟩
  | cell c v os h => subst hcc; cases h
  | any v => simp at hcc
  | tup cs' vs' os' hl' hL => simp at hcc
  | fn f cs' vs' os' hl' hL => simp at hcc
  | bor s p v h => simp at hcc
  | ptr s p off u b h hb => simp at hcc
  | slp s p off n cap u b h hb hn => simp at hcc
theorem l13Spoil_i (c : List Int) (σ : Src) (hc : Byt c) (hs : SOk σ) :
    RCon Tryz.prog 179 [srcA c σ] (fun r o => ∃ (τ : Src) (z : Int) (f : List (List Mon)), SOk τ ∧ o = [srcA c τ] ∧ DrS z f ∧ r = .agg [.int z, .own 122 f.length (prt f)]) := by
  refine (RCon.fzi (l13Spoil_r c σ hc hs) ?_).mono ?_
  · rintro r o ⟨τ, z, b, f, h1, h2, h3, rfl⟩
    exact ⟨_, _, _, _, rfl⟩
  · rintro r o ⟨z, e, n, cs, ⟨τ, z', b, f, h1, h2, h3, h4⟩, rfl⟩
    simp only [AV.agg.injEq, List.cons.injEq, AV.val.injEq, AV.own.injEq, and_true] at h4
    obtain ⟨rfl, rfl, rfl, rfl⟩ := h4
    exact ⟨τ, z', f, h1, h2, h3, by rw [spr_frz]⟩
end Go.Proofs.YtnokgijakdaehaaGreatDoor


namespace Go.Proofs.YtnokgijakdaehaaGreatDoor
open Go.Abs
set_option linter.unusedSectionVars false
set_option linter.unusedVariables false
set_option linter.unusedSimpArgs false
set_option maxHeartbeats 1000000
theorem prt_at {f : List (List Mon)} {k : Nat} (h : k < f.length) : (prt f)[k]? = some (.sl (f[k]?.getD []).length (mons (f[k]?.getD []))) := by simp [prt, h]
theorem mons_take2 : ∀ p : List Mon, mons (p.take 2) = (mons p).take 4
  | [] => rfl
  | [a] => by rw [mons_cons]; rfl
  | a :: b :: p => by simp [mons_cons]
@[simp] theorem prt_frz (f : List (List Mon)) : frzL (prt f) = prt f := by
  induction f with
  | nil => rfl
  | cons p f ih => simp only [prt, List.map_cons] at ih ⊢; simp [frzL, frz, ih]
theorem prt_set (f : List (List Mon)) (k : Nat) (p : List Mon) : (prt f).set k (.sl p.length (mons p)) = prt (f.set k p) := by simp [prt, List.map_set]
set_option maxRecDepth 100000 in
theorem l14Small_r (c : List Int) (σ : Src) (hc : Byt c) (hs : SOk σ) :
    RCon Tryz.prog 138 [srcA c σ] (fun r o => ∃ (τ : Src) (z : Int) (f : List (List Mon)), SOk τ ∧ o = [srcA c τ] ∧ DrS z f ∧ r = .agg [.int z, .own 122 f.length (prt f)]) := by
  have c1 := l13Spoil_i c σ hc hs
  simp only [srcA_eq] at *
  refine rcon_of_vcH Tryz.mixed ⟨6, [], [2000000 + 179], []⟩ [0] Tryz.func138 (by decide) rfl (by simp) (by simp) (by decide) ?_
  rw [Tryz.ntmps138]
  simp [go_sem]
  refine ⟨_, c1, ?_⟩
  rintro _ _ ⟨τ, z, f, h1, rfl, hD, rfl⟩
  simp [go_sem]
  refine loop_inv (0 :: 3 :: 4 :: List.range' 8 17) (fun x : Src × (Int × List (List Mon)) × Nat => [(0, .box 136 [.sl c.length (bys c), .int x.1.1, .val (.int .u64 x.1.2)]), (3, .box 41 [.int x.2.1.1, .own 122 x.2.1.2.length (prt x.2.1.2)]), (4, .int x.2.2)]) (fun x => SOk x.1 ∧ DrS x.2.1.1 x.2.1.2 ∧ x.2.2 ≤ 6) (fun x => 6 - x.2.2) (τ, (z, f), 0) ⟨h1, hD, by simp⟩ (by simp [go_sem]) (by simp [go_sem]) ?_
  rintro ⟨ρ, ⟨y, g⟩, n⟩ ⟨q1, q2, q3⟩
  simp only at q1 q2 q3
  have cS := l13Spoil_i c ρ hc q1
  have cI := l13Is_c y g ⟨by have := q2.2.2.1; omega, fun p hp => ⟨by have := (q2.2.2.2 p hp).1; omega, fun q hq => by have := (q2.2.2.2 p hp).2 q hq; omega⟩⟩
  simp only [srcA_eq] at cS
  by_cases hn : (n : Int) < 6
  · by_cases hy : 2 < y
    · simp [go_sem, hn, hy]
      refine ⟨_, cS, ?_⟩
      rintro _ _ ⟨κ, z2, f2, j1, rfl, j2, rfl⟩
      simp [go_sem]
      exact ⟨⟨by omega, by omega⟩, κ.1, κ.2, z2, f2, n + 1, ⟨j1, j2, by omega⟩, by omega, (by repeat (first | exact Off_reset _ _ _ (by simp) | (refine Off.reset (by intro x hx; simp at hx ⊢; omega) (by simp) ?_; simp -failIfUnchanged [go_sem, Off_reset]))), ⟨rfl, rfl⟩, ⟨rfl, rfl, rfl⟩, by omega⟩
    · by_cases hg : 2 < (g.length : Int)
      · simp [go_sem, hn, hy, hg]
        refine ⟨_, cS, ?_⟩
        rintro _ _ ⟨κ, z2, f2, j1, rfl, j2, rfl⟩
        simp [go_sem]
        exact ⟨⟨by omega, by omega⟩, κ.1, κ.2, z2, f2, n + 1, ⟨j1, j2, by omega⟩, by omega, (by repeat (first | exact Off_reset _ _ _ (by simp) | (refine Off.reset (by intro x hx; simp at hx ⊢; omega) (by simp) ?_; simp -failIfUnchanged [go_sem, Off_reset]))), ⟨rfl, rfl⟩, ⟨rfl, rfl, rfl⟩, by omega⟩
      · simp [go_sem, hn, hy, hg]
        refine CallVC.of (cI) (by decide) ?_
        simp [go_sem]
        cases hT : fieldB y g with
        | false =>
          simp [go_sem]
          exact ⟨ρ.1, ρ.2, q1, ⟨rfl, rfl⟩, y, g, q2, rfl, rfl, rfl⟩
        | true =>
          simp [go_sem]
          refine loop_inv (3 :: 5 :: List.range' 27 24) (fun x : List (List Mon) × Nat => [(3, .box 41 [.int y, .own 122 x.1.length (prt x.1)]), (5, .int x.2)]) (fun x => DrS y x.1) (fun x => 4 - x.2) (g, 0) q2 (by simp [go_sem]) (by simp [go_sem]) ?_
          rintro ⟨e, i⟩ r1
          simp only at r1
          have r14 := r1.2.2.1
          simp [go_sem]
          refine ⟨fun h => ?_, fun h => ?_⟩ <;> simp at h
          · have hie : i < e.length := by omega
            have hp := r1.2.2.2 (e[i]?.getD []) (by simp [hie])
            have hA := prt_at hie
            have hS := prt_set e i ((e[i]?.getD []).take 2)
            obtain ⟨p, hpe⟩ : ∃ p, e[i]?.getD [] = p := ⟨_, rfl⟩
            rw [hpe] at hp hA hS
            simp [go_sem, hA]
            refine ⟨hie, ?_⟩
            by_cases hp2 : 2 < (p.length : Int)
            · simp [go_sem, hp2, hA]
              refine ⟨by kernel_rfl, hie, by omega, hie, ?_⟩
              refine ⟨by kernel_rfl, ?_⟩
              simp [go_sem]
              refine ⟨⟨by omega, by omega⟩, e.set i (p.take 2), ?_, i + 1, by omega, (by repeat (first | exact Off_reset _ _ _ (by simp) | (refine Off.reset (by intro x hx; simp at hx ⊢; omega) (by simp) ?_; simp -failIfUnchanged [go_sem, Off_reset]))), ?_⟩
              · refine ⟨r1.1, r1.2.1, by simpa using r14, fun t ht => ?_⟩
                rcases List.mem_or_eq_of_mem_set ht with ht | rfl
                · exact r1.2.2.2 t ht
                · exact ⟨by simp; omega, fun m hm => hp.2 m (List.mem_of_mem_take hm)⟩
              · have e2 : (p.take 2).length = 2 := by simp; omega
                have e4 : mons (p.take 2) = (mons p).take 4 := mons_take2 p
                rw [e2, e4] at hS
                simp [hS]
            · simp [go_sem, hp2]
              exact ⟨⟨by omega, by omega⟩, e, r1, i + 1, by omega, (by repeat (first | exact Off_reset _ _ _ (by simp) | (refine Off.reset (by intro x hx; simp at hx ⊢; omega) (by simp) ?_; simp -failIfUnchanged [go_sem, Off_reset]))), ⟨rfl, rfl⟩, by omega⟩
          · simp [go_sem]
            exact ⟨ρ.1, ρ.2, q1, ⟨rfl, rfl⟩, y, e, r1, rfl, rfl, rfl⟩
  · simp [go_sem, hn]
    refine CallVC.of (cI) (by decide) ?_
    simp [go_sem]
    cases hT : fieldB y g with
    | false =>
      simp [go_sem]
      exact ⟨ρ.1, ρ.2, q1, ⟨rfl, rfl⟩, y, g, q2, rfl, rfl, rfl⟩
    | true =>
      simp [go_sem]
      refine loop_inv (3 :: 5 :: List.range' 27 24) (fun x : List (List Mon) × Nat => [(3, .box 41 [.int y, .own 122 x.1.length (prt x.1)]), (5, .int x.2)]) (fun x => DrS y x.1) (fun x => 4 - x.2) (g, 0) q2 (by simp [go_sem]) (by simp [go_sem]) ?_
      rintro ⟨e, i⟩ r1
      simp only at r1
      have r14 := r1.2.2.1
      simp [go_sem]
      refine ⟨fun h => ?_, fun h => ?_⟩ <;> simp at h
      · have hie : i < e.length := by omega
        have hp := r1.2.2.2 (e[i]?.getD []) (by simp [hie])
        have hA := prt_at hie
        have hS := prt_set e i ((e[i]?.getD []).take 2)
        obtain ⟨p, hpe⟩ : ∃ p, e[i]?.getD [] = p := ⟨_, rfl⟩
        rw [hpe] at hp hA hS
        simp [go_sem, hA]
        refine ⟨hie, ?_⟩
        by_cases hp2 : 2 < (p.length : Int)
        · simp [go_sem, hp2, hA]
          refine ⟨by kernel_rfl, hie, by omega, hie, ?_⟩
          refine ⟨by kernel_rfl, ?_⟩
          simp [go_sem]
          refine ⟨⟨by omega, by omega⟩, e.set i (p.take 2), ?_, i + 1, by omega, (by repeat (first | exact Off_reset _ _ _ (by simp) | (refine Off.reset (by intro x hx; simp at hx ⊢; omega) (by simp) ?_; simp -failIfUnchanged [go_sem, Off_reset]))), ?_⟩
          · refine ⟨r1.1, r1.2.1, by simpa using r14, fun t ht => ?_⟩
            rcases List.mem_or_eq_of_mem_set ht with ht | rfl
            · exact r1.2.2.2 t ht
            · exact ⟨by simp; omega, fun m hm => hp.2 m (List.mem_of_mem_take hm)⟩
          · have e2 : (p.take 2).length = 2 := by simp; omega
            have e4 : mons (p.take 2) = (mons p).take 4 := mons_take2 p
            rw [e2, e4] at hS
            simp [hS]
        · simp [go_sem, hp2]
          exact ⟨⟨by omega, by omega⟩, e, r1, i + 1, by omega, (by repeat (first | exact Off_reset _ _ _ (by simp) | (refine Off.reset (by intro x hx; simp at hx ⊢; omega) (by simp) ?_; simp -failIfUnchanged [go_sem, Off_reset]))), ⟨rfl, rfl⟩, by omega⟩
      · simp [go_sem]
        exact ⟨ρ.1, ρ.2, q1, ⟨rfl, rfl⟩, y, e, r1, rfl, rfl, rfl⟩
end Go.Proofs.YtnokgijakdaehaaGreatDoor


namespace Go.Proofs.YtnokgijakdaehaaGreatDoor
open Go.Abs
set_option linter.unusedSectionVars false
set_option linter.unusedVariables false
set_option linter.unusedSimpArgs false
set_option maxHeartbeats 1000000
def ptN (z : Int) : Nat := if 1 ≤ z ∧ z ≤ 3 then z.toNat else 2
theorem ptN_b (z : Int) : 1 ≤ ptN z ∧ ptN z ≤ 3 := by unfold ptN; split <;> omega
def ptV (c : List Int) (σ : Src) (z : Int) : List Int × Src :=
  if nx1 c (lsV (nbV c) (ptN z) σ).2 40 = 0 then ((lsV (nbV c) (ptN z) σ).1 ++ [0], nx2 c (lsV (nbV c) (ptN z) σ).2 40)
  else if nx1 c (lsV (nbV c) (ptN z) σ).2 40 = 1 then ((lsV (nbV c) (ptN z) σ).1.set 0 (pk c (nx2 c (lsV (nbV c) (ptN z) σ).2 40) [-1, 10007]), nx2 c (nx2 c (lsV (nbV c) (ptN z) σ).2 40) 2)
  else ((lsV (nbV c) (ptN z) σ).1, nx2 c (lsV (nbV c) (ptN z) σ).2 40)
set_option maxRecDepth 100000 in
theorem l13DrawPoint_g (c : List Int) (σ : Src) (z : Int) (f : List (List Mon)) (hc : Byt c) (hs : SOk σ) :
    GCon Tryz.prog 139 [srcA c σ, .agg [.int z, .sl f.length (prt f)]] (.own 2 (ptV c σ z).1.length (avs (ptV c σ z).1)) [srcA c (ptV c σ z).2, .agg [.int z, .sl f.length (prt f)]] := by
  have hb := ptN_b z
  have hnz : (if 1 ≤ z ∧ z ≤ 3 then z else 2) = (ptN z : Int) := by unfold ptN; split <;> omega
  unfold ptV
  generalize ptN z = n at *
  have cL := l01List_c c σ n hc hs (by omega)
  have hL := lsV_ok (f := nbV c) (fun σ h => nbV_ok hc h) n σ hs
  generalize lsV (nbV c) n σ = r at *
  obtain ⟨y, σ1⟩ := r
  obtain ⟨hy, hN, s1⟩ := hL
  simp only at hy hN s1 cL ⊢
  subst hy
  have c4 := l01Next_c c σ1 40 hc s1
  have s4 := nx2_ok hc s1 40
  generalize nx1 c σ1 40 = v at *
  generalize nx2 c σ1 40 = τ1 at *
  have cP := l01Pick_c c τ1 [-1, 10007] hc s4 (by simp) (by simp)
  have e2 : (([-1, 10007] : List Int).length : Int) = 2 := rfl
  rw [e2] at cP
  generalize pk c τ1 [-1, 10007] = x at *
  generalize nx2 c τ1 2 = τ2 at *
  simp only [srcA_eq] at *
  have a0 := avs_set y 0 x
  by_cases v0 : v = 0
  · simp only [v0, if_true]
    by_cases hz : 1 ≤ z ∧ z ≤ 3
    · rw [if_pos hz] at hnz
      subst hnz
      refine gcon_of_vc Tryz.mixed ⟨7, [], [1000000 + 40, 1000000 + 38, 1000000 + 108], []⟩ [4] [0, 1] Tryz.func139 (by decide) rfl rfl (by simp) (by simp) (by decide) ?_
      rw [Tryz.ntmps139]
      simp [go_sem]
      refine CallVC.of (l01In_c _ 1 3) (by decide) ?_
      simp [go_sem]
      simp [go_sem, hz.1, hz.2]
      refine ⟨_, _, cL, ?_⟩
      simp [go_sem]
      refine ⟨_, _, c4, ?_⟩
      simp [go_sem]
      simp [go_sem, v0]
      exact ⟨⟨by omega, by omega⟩, by simp [avs], rfl, rfl⟩
    · rw [if_neg hz] at hnz
      have hz' : (decide (1 ≤ z) && decide (z ≤ 3)) = false := by simp; omega
      refine gcon_of_vc Tryz.mixed ⟨7, [], [1000000 + 40, 1000000 + 38, 1000000 + 108], []⟩ [4] [0, 1] Tryz.func139 (by decide) rfl rfl (by simp) (by simp) (by decide) ?_
      rw [Tryz.ntmps139]
      simp [go_sem]
      refine CallVC.of (l01In_c z 1 3) (by decide) ?_
      rw [hz']
      simp [go_sem]
      rw [hnz]
      refine ⟨_, _, cL, ?_⟩
      simp [go_sem]
      refine ⟨_, _, c4, ?_⟩
      simp [go_sem]
      simp [go_sem, v0]
      exact ⟨⟨by omega, by omega⟩, by simp [avs], rfl, rfl⟩
  · by_cases v1 : v = 1
    · simp only [v0, v1, if_true, if_false]
      have v0' : ¬ v = 0 := v0
      by_cases hz : 1 ≤ z ∧ z ≤ 3
      · rw [if_pos hz] at hnz
        subst hnz
        refine gcon_of_vc Tryz.mixed ⟨7, [], [1000000 + 40, 1000000 + 38, 1000000 + 108], []⟩ [4] [0, 1] Tryz.func139 (by decide) rfl rfl (by simp) (by simp) (by decide) ?_
        rw [Tryz.ntmps139]
        simp [go_sem]
        refine CallVC.of (l01In_c _ 1 3) (by decide) ?_
        simp [go_sem]
        simp [go_sem, hz.1, hz.2]
        refine ⟨_, _, cL, ?_⟩
        simp [go_sem]
        refine ⟨_, _, c4, ?_⟩
        simp [go_sem]
        simp [go_sem, v0, v1]
        refine ⟨_, _, cP, ?_⟩
        simp [go_sem]
        exact ⟨by omega, a0, rfl, rfl⟩
      · rw [if_neg hz] at hnz
        have hz' : (decide (1 ≤ z) && decide (z ≤ 3)) = false := by simp; omega
        refine gcon_of_vc Tryz.mixed ⟨7, [], [1000000 + 40, 1000000 + 38, 1000000 + 108], []⟩ [4] [0, 1] Tryz.func139 (by decide) rfl rfl (by simp) (by simp) (by decide) ?_
        rw [Tryz.ntmps139]
        simp [go_sem]
        refine CallVC.of (l01In_c z 1 3) (by decide) ?_
        rw [hz']
        simp [go_sem]
        rw [hnz]
        refine ⟨_, _, cL, ?_⟩
        simp [go_sem]
        refine ⟨_, _, c4, ?_⟩
        simp [go_sem]
        simp [go_sem, v0, v1]
        refine ⟨_, _, cP, ?_⟩
        simp [go_sem]
        exact ⟨by omega, a0, rfl, rfl⟩
    · simp only [v0, v1, if_false]
      by_cases hz : 1 ≤ z ∧ z ≤ 3
      · rw [if_pos hz] at hnz
        subst hnz
        refine gcon_of_vc Tryz.mixed ⟨7, [], [1000000 + 40, 1000000 + 38, 1000000 + 108], []⟩ [4] [0, 1] Tryz.func139 (by decide) rfl rfl (by simp) (by simp) (by decide) ?_
        rw [Tryz.ntmps139]
        simp [go_sem]
        refine CallVC.of (l01In_c _ 1 3) (by decide) ?_
        simp [go_sem]
        simp [go_sem, hz.1, hz.2]
        refine ⟨_, _, cL, ?_⟩
        simp [go_sem]
        refine ⟨_, _, c4, ?_⟩
        simp [go_sem]
        simp [go_sem, v0, v1]
        exact ⟨rfl, rfl⟩
      · rw [if_neg hz] at hnz
        have hz' : (decide (1 ≤ z) && decide (z ≤ 3)) = false := by simp; omega
        refine gcon_of_vc Tryz.mixed ⟨7, [], [1000000 + 40, 1000000 + 38, 1000000 + 108], []⟩ [4] [0, 1] Tryz.func139 (by decide) rfl rfl (by simp) (by simp) (by decide) ?_
        rw [Tryz.ntmps139]
        simp [go_sem]
        refine CallVC.of (l01In_c z 1 3) (by decide) ?_
        rw [hz']
        simp [go_sem]
        rw [hnz]
        refine ⟨_, _, cL, ?_⟩
        simp [go_sem]
        refine ⟨_, _, c4, ?_⟩
        simp [go_sem]
        simp [go_sem, v0, v1]
        exact ⟨rfl, rfl⟩
end Go.Proofs.YtnokgijakdaehaaGreatDoor


namespace Go.Proofs.YtnokgijakdaehaaGreatDoor
open Go.Abs
set_option linter.unusedSectionVars false
set_option linter.unusedVariables false
set_option linter.unusedSimpArgs false
set_option maxHeartbeats 1000000
theorem ptV_len {c : List Int} (hc : Byt c) {σ : Src} (hs : SOk σ) (z : Int) : (ptV c σ z).1.length ≤ 4 := by
  have hL := (lsV_ok (f := nbV c) (fun σ h => nbV_ok hc h) (ptN z) σ hs).1
  have hb := ptN_b z
  unfold ptV
  split
  · simp; omega
  · split
    · simp; omega
    · simp only; omega
theorem l14Small_f (c : List Int) (σ : Src) (hc : Byt c) (hs : SOk σ) :
    RCon Tryz.prog 138 [srcA c σ] (fun r o => ∃ (τ : Src) (z : Int) (f : List (List Mon)), SOk τ ∧ o = [srcA c τ] ∧ DrS z f ∧ r = .agg [.int z, .sl f.length (prt f)]) := by
  refine (RCon.fz (l14Small_r c σ hc hs)).mono ?_
  rintro r o ⟨_, ⟨τ, z, f, h1, h2, h3, rfl⟩, rfl⟩
  refine ⟨τ, z, f, h1, h2, h3, ?_⟩
  simp [frz, frzL]
end Go.Proofs.YtnokgijakdaehaaGreatDoor


namespace Go.Proofs.YtnokgijakdaehaaGreatDoor
open Go.Abs
set_option linter.unusedSectionVars false
set_option linter.unusedVariables false
set_option linter.unusedSimpArgs false
set_option maxHeartbeats 4000000
theorem ptV_ok {c : List Int} (hc : Byt c) {σ : Src} (hs : SOk σ) (z : Int) : SOk (ptV c σ z).2 := by
  have hL := (lsV_ok (f := nbV c) (fun σ h => nbV_ok hc h) (ptN z) σ hs).2.2
  have s1 := nx2_ok hc hL 40
  unfold ptV
  split
  · exact s1
  · split
    · exact nx2_ok hc s1 2
    · exact s1
set_option maxRecDepth 100000 in
theorem l15Draw_r (c : List Int) (m : Int) (hc : Byt c) (hm : 1 ≤ m) (hm8 : m ≤ 8) :
    RCon Tryz.prog 70 [.sl c.length (bys c), .int m] (fun r o => o = [.any, .any] ∧ ∃ (τ : Src) (A : List (List Int)) (B : List Int) (z : Int) (f : List (List Mon)) (y : List Int), SOk τ ∧ Sz A B ∧ DrS z f ∧ y.length ≤ 4 ∧
      r = .tup [srcA c τ, .agg [.sl A.length (mat A), .sl B.length (avs B)], .agg [.int z, .sl f.length (prt f)], .own 2 y.length (avs y)]) := by
  have c0 := l01From_r c hc
  refine rcon_of_vcH Tryz.mixed ⟨11, [], [1000000 + 139, 2000000 + 36, 2000000 + 138, 2000000 + 37], [2000400990510]⟩ [] Tryz.func70 (by decide) rfl (by simp) (by simp) (by decide) ?_
  rw [Tryz.ntmps70]
  simp [go_sem]
  refine ⟨_, c0, ?_⟩
  rintro _ _ ⟨rfl, h, rfl⟩
  have c1 := l09Spoil_f c (0, h) m hc (by unfold SOk; simp) hm hm8
  simp only [srcA_eq] at *
  simp [go_sem]
  refine ⟨_, c1, ?_⟩
  rintro _ _ ⟨τ1, A, B, h1, rfl, hz, rfl⟩
  have c2 := l14Small_f c τ1 hc h1
  simp only [srcA_eq] at *
  simp [go_sem]
  refine ⟨_, c2, ?_⟩
  rintro _ _ ⟨τ, z, f, h2, rfl, hD, rfl⟩
  have c3 := l13DrawPoint_g c τ z f hc h2
  have hl := ptV_len hc h2 z
  have ok := ptV_ok hc h2 z
  generalize ptV c τ z = r at *
  simp only [srcA_eq] at *
  simp [go_sem]
  have fin : ∃ a b, SOk (a, b) ∧ ∃ x x_1, Sz x x_1 ∧ ∃ x_2 x_3, DrS x_2 x_3 ∧ ∃ x_4 : List Int, x_4.length ≤ 4 ∧ ((r.2.1 : Int) = a ∧ r.2.2 = b) ∧ ((A.length = x.length ∧ mat A = mat x) ∧ B.length = x_1.length ∧ B = x_1) ∧ (z = x_2 ∧ f.length = x_3.length ∧ prt f = prt x_3) ∧ r.1.length = x_4.length ∧ r.1 = x_4 :=
    ⟨r.2.1, r.2.2, ok, A, B, hz, z, f, hD, r.1, hl, ⟨rfl, rfl⟩, ⟨⟨rfl, rfl⟩, rfl, rfl⟩, ⟨rfl, rfl, rfl⟩, rfl, rfl⟩
  rw [DrawVC5_app]
  refine ⟨fun i => if i = 5 then [.n 8 .any, .n 8 (.box 136 [.sl c.length (bys c), .int r.2.1, .val (.int .u64 r.2.2)]), .w 23 (.own 2 r.1.length (avs r.1))] else [], by kernel_rfl, ?_, ?_⟩
  · simp [go_sem]
    refine ⟨_, _, c3, ?_⟩
    simp [go_sem]
    refine ⟨by kernel_rfl, ?_⟩
    exact fin
  · simp [go_sem]
    refine ⟨_, _, c3, ?_⟩
    simp [go_sem]
    refine ⟨by kernel_rfl, ?_⟩
    exact fin
end Go.Proofs.YtnokgijakdaehaaGreatDoor


namespace Go.Proofs.YtnokgijakdaehaaGreatDoor
open Go.Abs
set_option linter.unusedSectionVars false
set_option linter.unusedVariables false
set_option linter.unusedSimpArgs false
set_option maxHeartbeats 4000000
end Go.Proofs.YtnokgijakdaehaaGreatDoor


namespace Go.Proofs.YtnokgijakdaehaaGreatDoor
open Go.Abs
set_option linter.unusedSectionVars false
set_option linter.unusedVariables false
set_option linter.unusedSimpArgs false
set_option maxHeartbeats 4000000
end Go.Proofs.YtnokgijakdaehaaGreatDoor


namespace Go.Proofs.YtnokgijakdaehaaGreatDoor
open Go.Abs
set_option linter.unusedSectionVars false
set_option linter.unusedVariables false
set_option linter.unusedSimpArgs false
set_option maxHeartbeats 4000000
def dsR (c : List Int) (n : Nat) : Nat → Src → List (List Int) × Src
  | 0, σ => ([], σ)
  | k + 1, σ => ((dsR c n k σ).1 ++ [(lsV (nbV c) n (dsR c n k σ).2).1], (lsV (nbV c) n (dsR c n k σ).2).2)
theorem dsR_ok {c : List Int} (hc : Byt c) {σ : Src} (hs : SOk σ) (n : Nat) : ∀ k, SOk (dsR c n k σ).2 ∧ (dsR c n k σ).1.length = k ∧ ∀ r ∈ (dsR c n k σ).1, r.length = n
  | 0 => ⟨hs, rfl, fun r hr => by simp [dsR] at hr⟩
  | k + 1 => by
    obtain ⟨h1, h2, h3⟩ := dsR_ok hc hs n k
    have L7 := lsV_ok (f := nbV c) (fun σ h => nbV_ok hc h) n _ h1
    refine ⟨L7.2.2, by simp [dsR, h2], fun r hr => ?_⟩
    rcases List.mem_append.1 hr with hr | hr
    · exact h3 r hr
    · simp at hr; subst hr; exact L7.1
def dsN (z : Int) : Nat := if 1 ≤ z ∧ z ≤ 3 then z.toNat else 2
def dsV (c : List Int) (σ : Src) (z : Int) : List (List Int) × Src :=
  if nx1 c (dsR c (dsN z) 7 σ).2 40 = 0 then ((dsR c (dsN z) 7 σ).1.tail, nx2 c (dsR c (dsN z) 7 σ).2 40) else if nx1 c (dsR c (dsN z) 7 σ).2 40 = 1 then ((dsR c (dsN z) 7 σ).1.set 1 ((dsR c (dsN z) 7 σ).1[1]?.getD [] ++ [0]), nx2 c (dsR c (dsN z) 7 σ).2 40)
  else if nx1 c (dsR c (dsN z) 7 σ).2 40 = 2 then ((dsR c (dsN z) 7 σ).1.set 2 (((dsR c (dsN z) 7 σ).1[2]?.getD []).set 0 (pk c (nx2 c (dsR c (dsN z) 7 σ).2 40) [-1, 10007])), nx2 c (nx2 c (dsR c (dsN z) 7 σ).2 40) 2) else ((dsR c (dsN z) 7 σ).1, nx2 c (dsR c (dsN z) 7 σ).2 40)
theorem dsV_ok {c : List Int} (hc : Byt c) {σ : Src} (hs : SOk σ) (z : Int) : SOk (dsV c σ z).2 ∧ (dsV c σ z).1.length ≤ 7 ∧ ∀ r ∈ (dsV c σ z).1, r.length ≤ 4 := by
  have hn : dsN z ≤ 3 := by unfold dsN; split <;> omega
  obtain ⟨h1, h2, h3⟩ := dsR_ok hc hs (dsN z) 7
  have s4 := nx2_ok hc h1 40
  have s5 := nx2_ok hc s4 2
  have m1 := h3 ((dsR c (dsN z) 7 σ).1[1]?.getD []) (by simp [h2])
  have m2 := h3 ((dsR c (dsN z) 7 σ).1[2]?.getD []) (by simp [h2])
  unfold dsV
  split
  · exact ⟨s4, by simp; omega, fun r hr => by have := h3 r (List.mem_of_mem_tail hr); omega⟩
  · split
    · refine ⟨s4, by simp; omega, fun r hr => ?_⟩
      rcases List.mem_or_eq_of_mem_set hr with h | rfl
      · have := h3 r h; omega
      · simp; omega
    · split
      · refine ⟨s5, by simp; omega, fun r hr => ?_⟩
        rcases List.mem_or_eq_of_mem_set hr with h | rfl
        · have := h3 r h; omega
        · simp; omega
      · exact ⟨s4, by simp only; omega, fun r hr => by have := h3 r hr; omega⟩
set_option maxRecDepth 100000 in
theorem l14DrawSeries_r (c : List Int) (σ : Src) (z : Int) (f : List (List Mon)) (hc : Byt c) (hs : SOk σ) :
    RCon Tryz.prog 71 [srcA c σ, .agg [.int z, .sl f.length (prt f)]] (fun r o => o = [srcA c (dsV c σ z).2, .agg [.int z, .sl f.length (prt f)]] ∧ frz r = .sl (dsV c σ z).1.length (mat (dsV c σ z).1)) := by
  have cI := l01In_c z 1 3
  simp only [srcA_eq] at *
  by_cases hz : 1 ≤ z ∧ z ≤ 3
  · obtain ⟨n, rfl⟩ : ∃ n : Nat, z = n := ⟨z.toNat, by omega⟩
    have hN : dsN (n : Int) = n := by unfold dsN; rw [if_pos hz]; simp
    rw [decide_eq_true hz.1, decide_eq_true hz.2] at cI
    refine rcon_of_vcH Tryz.mixed ⟨7, [27], [1000000 + 38, 1000000 + 40, 1000000 + 108], []⟩ [0, 1] Tryz.func71 (by decide) rfl (by simp) (by simp) (by decide) ?_
    rw [Tryz.ntmps71]
    simp [go_sem]
    refine CallVC.of (cI) (by decide) ?_
    simp [go_sem]
    refine loop_inv ([0, 6] ++ List.range' 13 9) (fun i : Nat => [(0, .box 136 [.sl c.length (bys c), .int (dsR c n i σ).2.1, .val (.int .u64 (dsR c n i σ).2.2)]), (6, .own 25 i (omat (dsR c n i σ).1))]) (fun i => i ≤ 7) (fun i => 7 - i) 0 (by simp) (by simp [go_sem, omat, dsR]) (by simp [go_sem]) ?_
    intro i hi
    have ok := dsR_ok hc hs n i
    by_cases hL : i ≤ 6
    · have hLi : (i : Int) ≤ 6 := by omega
      have e1 : dsR c n (i + 1) σ = ((dsR c n i σ).1 ++ [(lsV (nbV c) n (dsR c n i σ).2).1], (lsV (nbV c) n (dsR c n i σ).2).2) := rfl
      generalize dsR c n i σ = x at *
      obtain ⟨L, τ⟩ := x
      simp only at ok e1
      obtain ⟨h1, h2, h3⟩ := ok
      have c7 := l01List_c c τ n hc h1 (by omega)
      have L7 := lsV_ok (f := nbV c) (fun σ h => nbV_ok hc h) n τ h1
      generalize lsV (nbV c) n τ = r7 at *
      obtain ⟨row, κ⟩ := r7
      simp only at L7 c7 e1
      obtain ⟨l7, n7, s7⟩ := L7
      simp only [srcA_eq] at c7
      skip
      have snoc : omat (L ++ [row]) = omat L ++ [.own 2 n (avs row)] := by simp [omat, l7]
      simp [go_sem, hLi]
      refine ⟨_, _, c7, ?_⟩
      simp [go_sem]
      refine ⟨⟨h2, by omega, by omega⟩, i + 1, by omega, by omega, Off_reset _ _ _ (by simp), ?_⟩
      rw [e1]
      exact ⟨⟨rfl, rfl⟩, rfl, snoc.symm⟩
    · have hLi : ¬ (i : Int) ≤ 6 := by omega
      have e7 : i = 7 := by omega
      subst e7
      have ev : dsV c σ (n : Int) = if nx1 c (dsR c n 7 σ).2 40 = 0 then ((dsR c n 7 σ).1.tail, nx2 c (dsR c n 7 σ).2 40) else if nx1 c (dsR c n 7 σ).2 40 = 1 then ((dsR c n 7 σ).1.set 1 ((dsR c n 7 σ).1[1]?.getD [] ++ [0]), nx2 c (dsR c n 7 σ).2 40)
        else if nx1 c (dsR c n 7 σ).2 40 = 2 then ((dsR c n 7 σ).1.set 2 (((dsR c n 7 σ).1[2]?.getD []).set 0 (pk c (nx2 c (dsR c n 7 σ).2 40) [-1, 10007])), nx2 c (nx2 c (dsR c n 7 σ).2 40) 2) else ((dsR c n 7 σ).1, nx2 c (dsR c n 7 σ).2 40) := (by simp only [dsV, hN])
      generalize dsV c σ (n : Int) = w at *
      generalize dsR c n 7 σ = x at *
      obtain ⟨L, τ⟩ := x
      simp only at ok ev
      obtain ⟨h1, l7, h3⟩ := ok
      have c4 := l01Next_c c τ 40 hc h1
      have s4 := nx2_ok hc h1 40
      have c5 := l01Pick_c c (nx2 c τ 40) [-1, 10007] hc s4 (by simp) (by simp)
      have e4 : (([-1, 10007] : List Int).length : Int) = 2 := rfl
      rw [e4] at c5
      generalize nx1 c τ 40 = v at *
      generalize pk c (nx2 c τ 40) [-1, 10007] = x at *
      generalize nx2 c (nx2 c τ 40) 2 = τ2 at *
      generalize nx2 c τ 40 = τ1 at *
      simp only [srcA_eq] at c4 c5
      have g1 := omat_get (A := L) (k := 1) (by omega)
      have g2 := omat_get (A := L) (k := 2) (by omega)
      have m1 := h3 (L[1]?.getD []) (by simp [l7])
      have m2 := h3 (L[2]?.getD []) (by simp [l7])
      simp [go_sem, hLi]
      refine ⟨_, _, c4, ?_⟩
      simp [go_sem]
      by_cases v0 : v = 0
      · rw [if_pos v0] at ev
        subst ev
        simp [go_sem, v0]
        exact ⟨⟨rfl, rfl⟩, by first | omega | (simp; omega), by rw [List.take_of_length_le (by simp; omega)]; simp [mat]⟩
      · rw [if_neg v0] at ev
        by_cases v1 : v = 1
        · rw [if_pos v1] at ev
          subst ev
          have e : (omat L).set 1 (.own 2 ((L[1]?.getD []).length + 1) (avs (L[1]?.getD []) ++ [.int 0])) = omat (L.set 1 (L[1]?.getD [] ++ [0])) := by
            unfold omat
            rw [List.map_set, List.length_append, avs_snoc]; rfl
          simp [go_sem, v0, v1, g1, -getElem?_pos]
          refine ⟨⟨by omega, by omega⟩, by omega, ?_⟩
          simp [go_sem]
          exact ⟨⟨rfl, rfl⟩, l7.symm, by rw [e]; exact omat_frz _⟩
        · rw [if_neg v1] at ev
          by_cases v2 : v = 2
          · rw [if_pos v2] at ev
            subst ev
            simp [go_sem, v0, v1, v2, g2, -getElem?_pos]
            refine ⟨by kernel_rfl, ?_⟩
            refine ⟨_, _, c5, ?_⟩
            simp [go_sem]
            refine ⟨by omega, ?_⟩
            have e : (omat L).set 2 (.own 2 (L[2]?.getD []).length ((avs (L[2]?.getD [])).set 0 (.int x))) = omat (L.set 2 ((L[2]?.getD []).set 0 x)) := by
              have h := avs_set (L[2]?.getD []) 0 x
              unfold omat
              rw [List.map_set, List.length_set, ← h]
            simp [go_sem, g2, -getElem?_pos]
            refine ⟨by omega, ?_⟩
            refine ⟨by kernel_rfl, ?_⟩
            simp [go_sem]
            exact ⟨⟨rfl, rfl⟩, l7.symm, by rw [e]; exact omat_frz _⟩
          · rw [if_neg v2] at ev
            subst ev
            simp [go_sem, v0, v1, v2]
            exact ⟨⟨rfl, rfl⟩, l7.symm⟩
  · have hb : (decide (1 ≤ z) && decide (z ≤ 3)) = false := by
      rw [← Bool.not_eq_true]; simp; omega
    have hN : dsN z = 2 := by unfold dsN; rw [if_neg hz]
    rw [hb] at cI
    refine rcon_of_vcH Tryz.mixed ⟨7, [27], [1000000 + 38, 1000000 + 40, 1000000 + 108], []⟩ [0, 1] Tryz.func71 (by decide) rfl (by simp) (by simp) (by decide) ?_
    rw [Tryz.ntmps71]
    simp [go_sem]
    refine CallVC.of (cI) (by decide) ?_
    simp [go_sem]
    refine loop_inv ([0, 6] ++ List.range' 13 9) (fun i : Nat => [(0, .box 136 [.sl c.length (bys c), .int (dsR c 2 i σ).2.1, .val (.int .u64 (dsR c 2 i σ).2.2)]), (6, .own 25 i (omat (dsR c 2 i σ).1))]) (fun i => i ≤ 7) (fun i => 7 - i) 0 (by simp) (by simp [go_sem, omat, dsR]) (by simp [go_sem]) ?_
    intro i hi
    have ok := dsR_ok hc hs 2 i
    by_cases hL : i ≤ 6
    · have hLi : (i : Int) ≤ 6 := by omega
      have e1 : dsR c 2 (i + 1) σ = ((dsR c 2 i σ).1 ++ [(lsV (nbV c) 2 (dsR c 2 i σ).2).1], (lsV (nbV c) 2 (dsR c 2 i σ).2).2) := rfl
      generalize dsR c 2 i σ = x at *
      obtain ⟨L, τ⟩ := x
      simp only at ok e1
      obtain ⟨h1, h2, h3⟩ := ok
      have c7 := l01List_c c τ 2 hc h1 (by omega)
      have L7 := lsV_ok (f := nbV c) (fun σ h => nbV_ok hc h) 2 τ h1
      generalize lsV (nbV c) 2 τ = r7 at *
      obtain ⟨row, κ⟩ := r7
      simp only at L7 c7 e1
      obtain ⟨l7, n7, s7⟩ := L7
      simp only [srcA_eq] at c7
      rw [show ((2 : Nat) : Int) = 2 from rfl] at c7
      have snoc : omat (L ++ [row]) = omat L ++ [.own 2 2 (avs row)] := by simp [omat, l7]
      simp [go_sem, hLi]
      refine ⟨_, _, c7, ?_⟩
      simp [go_sem]
      refine ⟨⟨h2, by omega, by omega⟩, i + 1, by omega, by omega, Off_reset _ _ _ (by simp), ?_⟩
      rw [e1]
      exact ⟨⟨rfl, rfl⟩, rfl, snoc.symm⟩
    · have hLi : ¬ (i : Int) ≤ 6 := by omega
      have e7 : i = 7 := by omega
      subst e7
      have ev : dsV c σ z = if nx1 c (dsR c 2 7 σ).2 40 = 0 then ((dsR c 2 7 σ).1.tail, nx2 c (dsR c 2 7 σ).2 40) else if nx1 c (dsR c 2 7 σ).2 40 = 1 then ((dsR c 2 7 σ).1.set 1 ((dsR c 2 7 σ).1[1]?.getD [] ++ [0]), nx2 c (dsR c 2 7 σ).2 40)
        else if nx1 c (dsR c 2 7 σ).2 40 = 2 then ((dsR c 2 7 σ).1.set 2 (((dsR c 2 7 σ).1[2]?.getD []).set 0 (pk c (nx2 c (dsR c 2 7 σ).2 40) [-1, 10007])), nx2 c (nx2 c (dsR c 2 7 σ).2 40) 2) else ((dsR c 2 7 σ).1, nx2 c (dsR c 2 7 σ).2 40) := (by simp only [dsV, hN])
      generalize dsV c σ z = w at *
      generalize dsR c 2 7 σ = x at *
      obtain ⟨L, τ⟩ := x
      simp only at ok ev
      obtain ⟨h1, l7, h3⟩ := ok
      have c4 := l01Next_c c τ 40 hc h1
      have s4 := nx2_ok hc h1 40
      have c5 := l01Pick_c c (nx2 c τ 40) [-1, 10007] hc s4 (by simp) (by simp)
      have e4 : (([-1, 10007] : List Int).length : Int) = 2 := rfl
      rw [e4] at c5
      generalize nx1 c τ 40 = v at *
      generalize pk c (nx2 c τ 40) [-1, 10007] = x at *
      generalize nx2 c (nx2 c τ 40) 2 = τ2 at *
      generalize nx2 c τ 40 = τ1 at *
      simp only [srcA_eq] at c4 c5
      have g1 := omat_get (A := L) (k := 1) (by omega)
      have g2 := omat_get (A := L) (k := 2) (by omega)
      have m1 := h3 (L[1]?.getD []) (by simp [l7])
      have m2 := h3 (L[2]?.getD []) (by simp [l7])
      simp [go_sem, hLi]
      refine ⟨_, _, c4, ?_⟩
      simp [go_sem]
      by_cases v0 : v = 0
      · rw [if_pos v0] at ev
        subst ev
        simp [go_sem, v0]
        exact ⟨⟨rfl, rfl⟩, by first | omega | (simp; omega), by rw [List.take_of_length_le (by simp; omega)]; simp [mat]⟩
      · rw [if_neg v0] at ev
        by_cases v1 : v = 1
        · rw [if_pos v1] at ev
          subst ev
          have e : (omat L).set 1 (.own 2 ((L[1]?.getD []).length + 1) (avs (L[1]?.getD []) ++ [.int 0])) = omat (L.set 1 (L[1]?.getD [] ++ [0])) := by
            unfold omat
            rw [List.map_set, List.length_append, avs_snoc]; rfl
          simp [go_sem, v0, v1, g1, -getElem?_pos]
          refine ⟨⟨by omega, by omega⟩, by omega, ?_⟩
          simp [go_sem]
          exact ⟨⟨rfl, rfl⟩, l7.symm, by rw [e]; exact omat_frz _⟩
        · rw [if_neg v1] at ev
          by_cases v2 : v = 2
          · rw [if_pos v2] at ev
            subst ev
            simp [go_sem, v0, v1, v2, g2, -getElem?_pos]
            refine ⟨by kernel_rfl, ?_⟩
            refine ⟨_, _, c5, ?_⟩
            simp [go_sem]
            refine ⟨by omega, ?_⟩
            have e : (omat L).set 2 (.own 2 (L[2]?.getD []).length ((avs (L[2]?.getD [])).set 0 (.int x))) = omat (L.set 2 ((L[2]?.getD []).set 0 x)) := by
              have h := avs_set (L[2]?.getD []) 0 x
              unfold omat
              rw [List.map_set, List.length_set, ← h]
            simp [go_sem, g2, -getElem?_pos]
            refine ⟨by omega, ?_⟩
            refine ⟨by kernel_rfl, ?_⟩
            simp [go_sem]
            exact ⟨⟨rfl, rfl⟩, l7.symm, by rw [e]; exact omat_frz _⟩
          · rw [if_neg v2] at ev
            subst ev
            simp [go_sem, v0, v1, v2]
            exact ⟨⟨rfl, rfl⟩, l7.symm⟩
theorem l14DrawSeries_g (c : List Int) (σ : Src) (z : Int) (f : List (List Mon)) (hc : Byt c) (hs : SOk σ) :
    GCon Tryz.prog 71 [srcA c σ, .agg [.int z, .sl f.length (prt f)]] (.sl (dsV c σ z).1.length (mat (dsV c σ z).1)) [srcA c (dsV c σ z).2, .agg [.int z, .sl f.length (prt f)]] := by
  have h := RCon.fz (l14DrawSeries_r c σ z f hc hs)
  refine ⟨h.1, fun w vs os F0 hl hn ho hF hr => (h.2 w vs os F0 hl hn ho hF hr).mono ?_⟩
  rintro e w' ⟨r, o, ⟨r1, ⟨rfl, h2⟩, rfl⟩, k⟩
  rw [h2] at k
  exact k
set_option maxRecDepth 100000 in
theorem DrawStepFrom_r (c : List Int) (hc : Byt c) :
    RCon Tryz.prog 16 [.sl c.length (bys c)] (fun r o => o = [.any] ∧ ∃ (A : List (List Int)) (B : List Int) (z : Int) (f : List (List Mon)) (L : List (List Int)), Sz A B ∧ DrS z f ∧ L.length ≤ 7 ∧ (∀ r ∈ L, r.length ≤ 4) ∧
      r = .tup [.agg [.sl A.length (mat A), .sl B.length (avs B)], .agg [.int z, .sl f.length (prt f)], .sl L.length (mat L)]) := by
  have c0 := l15Draw_r c 3 hc (by omega) (by omega)
  simp only [srcA_eq] at *
  refine rcon_of_vcH Tryz.mixed ⟨9, [], [1000000 + 71, 2000000 + 70], []⟩ [] Tryz.func16 (by decide) rfl (by simp) (by simp) (by decide) ?_
  rw [Tryz.ntmps16]
  simp [go_sem]
  refine ⟨_, c0, ?_⟩
  rintro _ _ ⟨rfl, τ, A, B, z, f, y, h1, h2, h3, h4, rfl⟩
  have c1 := l14DrawSeries_g c τ z f hc h1
  obtain ⟨s1, s2, s3⟩ := dsV_ok hc h1 z
  generalize dsV c τ z = w at *
  obtain ⟨L, κ⟩ := w
  simp only [srcA_eq] at *
  simp [go_sem]
  refine ⟨by kernel_rfl, ?_⟩
  refine ⟨_, _, c1, ?_⟩
  simp [go_sem]
  refine ⟨by kernel_rfl, ?_⟩
  simp [go_sem]
  exact ⟨A, B, h2, z, f, h3, L, s2, s3, ⟨⟨rfl, rfl⟩, rfl, rfl⟩, ⟨rfl, rfl, rfl⟩, rfl, rfl⟩
end Go.Proofs.YtnokgijakdaehaaGreatDoor


namespace Go.Proofs.YtnokgijakdaehaaGreatDoor
open Go.Abs Go.Proofs Go.RowKit Go.Lib
set_option linter.unusedSectionVars false
set_option linter.unusedVariables false
set_option linter.unusedSimpArgs false
set_option maxHeartbeats 4000000
set_option maxRecDepth 100000 in
theorem readDecimal_c (s : ByteArray) (v : Nat) (hv : v < 100) (hs : s.size ≤ 9) (hp : Lib.parseIntB 64 s.data.toList = .ok v) (hd : (⟨(Lib.decDigits v).toArray⟩ : ByteArray) = s) :
    Con Tryz.prog 191 [.val (.string s)] (.tup [.int v, .bool true]) := by
  refine Con.plains (xs := [.string s]) (us := [.int .i64 v, .bool true]) ⟨_, Tryz.func191, by decide, rfl⟩ (by simp [Value.oneCell']) fun w => ?_
  have c1 : ∀ w, Calls Tryz.prog 203 #[.string s, .int .i64 10, .int .i64 64] w fun e w' => e = .returned (.tuple #[.int .i64 v, .nilIface]) ∧ Ext (fun b => b < w.heap.size) w w' := fun w =>
    (Any.strconv_ParseInt_10_at64_ok Tryz.sParseInt s (by omega) v hp w).mono fun e w' ⟨he, hw⟩ => ⟨he, by
      rcases hw with rfl | ⟨t, rfl⟩
      · exact Ext.refl _ _
      · exact Ext.bytesWorld w _ t⟩
  have c2 : ∀ w, Calls Tryz.prog 204 #[.int .i64 v, .int .i64 10] w fun e w' => e = .returned (.string s) ∧ w' = w := fun w =>
    (Any.strconv_FormatInt_10_small Tryz.sFormatInt v hv w).mono fun e w' ⟨he, hw⟩ => ⟨by rw [he, hd], hw⟩
  have h1 : ¬ ((v : Int) < 0) := by omega
  have h2 : ¬ ((9 : Int) < s.size) := by omega
  go_enter Tryz.func191, Tryz.ntmps191
  go_wp2_with (fail)
  refine (c1 _).mono ?_
  rintro e w' ⟨rfl, hx⟩
  go_wp2_with (fail)
  refine (c2 _).mono ?_
  rintro e w'' ⟨rfl, rfl⟩
  go_wp2
  go_ret2
  exact ⟨rfl, hx⟩
end Go.Proofs.YtnokgijakdaehaaGreatDoor


namespace Go.Proofs.YtnokgijakdaehaaGreatDoor
open Go.Abs
set_option linter.unusedSectionVars false
set_option linter.unusedVariables false
set_option linter.unusedSimpArgs false
set_option maxHeartbeats 4000000
theorem CutPrefix_c (s p : ByteArray) : Con Tryz.prog 190 [.val (.string s), .val (.string p)] (.tup [.val (.string ⟨(Lib.trimPrefix s.data.toList p.data.toList).toArray⟩), .bool (Lib.hasPrefix s.data.toList p.data.toList)]) :=
  cutPrefix_con Tryz.sCutPrefix ⟨_, Tryz.func190, by decide, rfl⟩ s p
theorem Cut_c (s : ByteArray) (c : UInt8) (hs : s.size < 4294967281) : Con Tryz.prog 135 [.val (.string s), .val (.string ⟨#[c]⟩)] (.tup [.val (.string ⟨(Lib.cut s.data.toList [c]).1.toArray⟩), .val (.string ⟨(Lib.cut s.data.toList [c]).2.1.toArray⟩), .bool (Lib.cut s.data.toList [c]).2.2]) :=
  cut1_con Tryz.sCut ⟨_, Tryz.func135, by decide, rfl⟩ s c hs
def strs (l : List ByteArray) : List AV := l.map fun b => .val (.string b)
theorem Split_c (s : ByteArray) (c : UInt8) (hs : s.size < 4294967281) {l : List ByteArray} (hp : Lib.splitB ⟨#[c]⟩ 0 (Lib.countB s ⟨#[c]⟩) s = l) : Con Tryz.prog 137 [.val (.string s), .val (.string ⟨#[c]⟩)] (.own 9 l.length (strs l)) :=
  split1_con Tryz.sSplit ⟨_, Tryz.func137, by decide, rfl⟩ (by kernel_rfl) (by kernel_rfl) s c hs hp
theorem NumberOf_c (p q : Int) (hp : -1000000000 ≤ p ∧ p ≤ 1000000000) (hq : 1 ≤ q ∧ q ≤ 10006) : Con Tryz.prog 192 [.int p, .int q] (.tup [.int (p % 10007 * pw (q % 10007) 10005 % 10007), .int 0]) := by
  have c1 := inRange_c p (-1000000000) 1000000000
  have c2 := inRange_c q (-1000000000) 1000000000
  rw [decide_eq_true hp.1, decide_eq_true hp.2] at c1
  rw [decide_eq_true (show (-1000000000 : Int) ≤ q by omega), decide_eq_true (show q ≤ 1000000000 by omega)] at c2
  have c3 := num_c p (by omega) (by omega)
  have c4 := num_c q (by omega) (by omega)
  have c5 := inv_c (q % 10007) (isN_mod q)
  have hf : fits (p % 10007 * pw (q % 10007) 10005) := mul_fits (isN_mod _) (isN_mod _)
  have c6 := num_c _ hf.1 hf.2
  have q0 : ¬ q % 10007 = 0 := by omega
  have q1 : q.tmod 10007 = q := by rw [Int.tmod_eq_emod_of_nonneg (by omega)]; omega
  have q2 : ¬ q = 0 := by omega
  refine con_of_vc Tryz.mixed ⟨6, [], [], []⟩ Tryz.func192 (by decide) rfl (by simp) (by decide) (by simp [freshOK, freshL, go_sem]) ?_
  rw [Tryz.ntmps192]
  simp [go_sem]
  refine CallVC.of (c1) (by decide) ?_
  simp [go_sem]
  refine CallVC.of (c2) (by decide) ?_
  simp [go_sem]
  simp [go_sem, q1, q2]
  refine CallVC.of (c3) (by decide) ?_
  simp [go_sem]
  refine CallVC.of (c4) (by decide) ?_
  simp [go_sem]
  refine CallVC.of (c5) (by decide) ?_
  simp [go_sem]
  refine ⟨hf, ?_⟩
  refine CallVC.of (c6) (by decide) ?_
  simp [go_sem]
theorem ba_eta (b : ByteArray) : (⟨b.data.toList.toArray⟩ : ByteArray) = b := by cases b; simp
def Rd (a : ByteArray) (p : Nat) : Prop := p < 100 ∧ a.size ≤ 9 ∧ Lib.parseIntB 64 a.data.toList = .ok p ∧ (⟨(Lib.decDigits p).toArray⟩ : ByteArray) = a
theorem Rd.con {a : ByteArray} {p : Nat} (h : Rd a p) : Con Tryz.prog 191 [.val (.string a)] (.tup [.int p, .bool true]) := readDecimal_c a p h.1 h.2.1 h.2.2.1 h.2.2.2
structure Word (s b a d : ByteArray) (neg dv : Bool) (p q : Nat) : Prop where
  h1 : (⟨(Lib.trimPrefix s.data.toList [45]).toArray⟩ : ByteArray) = b
  h2 : Lib.hasPrefix s.data.toList [45] = neg
  hb : b.size ≤ 1000
  h3 : Lib.cut b.data.toList [47] = (a.data.toList, d.data.toList, dv)
  ha : Rd a p
  hd : dv = true → Rd d q
  hq : dv = false → q = 1
  q1 : 1 ≤ q ∧ q < 100
  hn : neg = true → p ≠ 0
def wdV (neg : Bool) (p q : Nat) : Int := (if neg = true then - (p : Int) else p) % 10007 * pw ((q : Int) % 10007) 10005 % 10007
set_option maxRecDepth 100000 in
theorem ParseNumber_c {s b a d : ByteArray} {neg dv : Bool} {p q : Nat} (h : Word s b a d neg dv p q) : Con Tryz.prog 177 [.val (.string s)] (.tup [.int (wdV neg p q), .int 0]) := by
  have c1 := CutPrefix_c s ⟨#[45]⟩
  have e1 : (⟨#[45]⟩ : ByteArray).data.toList = [45] := rfl
  rw [e1, h.h1, h.h2] at c1
  have c2 := Cut_c b 47 (by have := h.hb; omega)
  rw [h.h3] at c2
  simp only [ba_eta] at c2
  have c3 := h.ha.con
  have c4 : dv = true → _ := fun e => (h.hd e).con
  have p0 := h.ha.1
  have q1 := h.q1
  have c5 : ∀ x : Int, -100 ≤ x ∧ x ≤ 100 → _ := fun x hx => NumberOf_c x q ⟨by omega, by omega⟩ ⟨by omega, by omega⟩
  have q2 : ¬ (q : Int) < 1 := by omega
  have hn := h.hn
  have hq := h.hq
  cases neg with
  | true =>
    have pn : ¬ p = 0 := hn rfl
    have c6 := c5 (- (p : Int)) ⟨by omega, by omega⟩
    cases dv with
    | true =>
      refine con_of_vc Tryz.mixed ⟨13, [], [], []⟩ Tryz.func177 (by decide) rfl (by simp) (by decide) (by simp [freshOK, freshL, go_sem]) ?_
      rw [Tryz.ntmps177]
      simp [go_sem]
      refine CallVC.of (c1) (by decide) ?_
      simp [go_sem]
      refine CallVC.of (c2) (by decide) ?_
      simp [go_sem]
      refine CallVC.of (c3) (by decide) ?_
      simp [go_sem]
      refine CallVC.of ((c4 rfl)) (by decide) ?_
      simp [go_sem]
      simp [go_sem, q2, pn]
      refine ⟨by omega, ?_⟩
      refine CallVC.of (c6) (by decide) ?_
      simp [go_sem]
      rfl
    | false =>
      have q3 := hq rfl
      subst q3
      refine con_of_vc Tryz.mixed ⟨13, [], [], []⟩ Tryz.func177 (by decide) rfl (by simp) (by decide) (by simp [freshOK, freshL, go_sem]) ?_
      rw [Tryz.ntmps177]
      simp [go_sem]
      refine CallVC.of (c1) (by decide) ?_
      simp [go_sem]
      refine CallVC.of (c2) (by decide) ?_
      simp [go_sem]
      refine CallVC.of (c3) (by decide) ?_
      simp [go_sem]
      simp [go_sem, pn]
      refine ⟨by omega, ?_⟩
      refine CallVC.of (c6) (by decide) ?_
      simp [go_sem]
      rfl
  | false =>
    have c6 := c5 p ⟨by omega, by omega⟩
    cases dv with
    | true =>
      refine con_of_vc Tryz.mixed ⟨13, [], [], []⟩ Tryz.func177 (by decide) rfl (by simp) (by decide) (by simp [freshOK, freshL, go_sem]) ?_
      rw [Tryz.ntmps177]
      simp [go_sem]
      refine CallVC.of (c1) (by decide) ?_
      simp [go_sem]
      refine CallVC.of (c2) (by decide) ?_
      simp [go_sem]
      refine CallVC.of (c3) (by decide) ?_
      simp [go_sem]
      refine CallVC.of ((c4 rfl)) (by decide) ?_
      simp [go_sem]
      simp [go_sem, q2]
      refine CallVC.of (c6) (by decide) ?_
      simp [go_sem]
      rfl
    | false =>
      have q3 := hq rfl
      subst q3
      refine con_of_vc Tryz.mixed ⟨13, [], [], []⟩ Tryz.func177 (by decide) rfl (by simp) (by decide) (by simp [freshOK, freshL, go_sem]) ?_
      rw [Tryz.ntmps177]
      simp [go_sem]
      refine CallVC.of (c1) (by decide) ?_
      simp [go_sem]
      refine CallVC.of (c2) (by decide) ?_
      simp [go_sem]
      refine CallVC.of (c3) (by decide) ?_
      simp [go_sem]
      refine CallVC.of (c6) (by decide) ?_
      simp [go_sem]
      rfl
end Go.Proofs.YtnokgijakdaehaaGreatDoor


namespace Go.Proofs.YtnokgijakdaehaaGreatDoor
open Go.Abs
set_option linter.unusedSectionVars false
set_option linter.unusedVariables false
set_option linter.unusedSimpArgs false
set_option maxHeartbeats 4000000
theorem strs_get {l : List ByteArray} {i : Nat} (h : i < l.length) : (strs l)[i]? = some (.val (.string (l[i]?.getD ByteArray.empty))) := by simp [strs, h]
set_option maxRecDepth 100000 in
theorem readNumbers_c (s : ByteArray) (hs : s.size ≤ 1000) {l : List ByteArray} (vals : List Int) (hp : Lib.splitB ⟨#[32]⟩ 0 (Lib.countB s ⟨#[32]⟩) s = l) (hl : vals.length = l.length) (h9 : l.length ≤ 100)
    (hw : ∀ i, i < l.length → Con Tryz.prog 177 [.val (.string (l[i]?.getD ByteArray.empty))] (.tup [.int (vals[i]?.getD 0), .int 0])) :
    Con Tryz.prog 136 [.val (.string s)] (.tup [.own 2 vals.length (avs vals), .bool true]) := by
  have cS := Split_c s 32 (by omega) hp
  refine con_of_vc Tryz.mixed ⟨9, [], [], []⟩ Tryz.func136 (by decide) rfl (by simp) (by decide) (by simp [freshOK, freshL, go_sem]) ?_
  rw [Tryz.ntmps136]
  simp [go_sem]
  refine CallVC.of (cS) (by decide) ?_
  simp [go_sem]
  refine loop_inv ([2, 3, 4, 6, 7, 8] ++ List.range' 13 16) (fun i : Nat => [(4, .own 2 i (avs (vals.take i))), (13, .int i)]) (fun i => i ≤ l.length) (fun i => l.length - i) 0 (by simp) (by simp [go_sem, avs]) (by simp [go_sem]) ?_
  intro i hi
  by_cases hil : i < l.length
  · have hii : (i : Int) < l.length := by omega
    have g := strs_get hil
    have c := hw i hil
    have hv : i < vals.length := by omega
    have tk : avs (vals.take (i + 1)) = avs (vals.take i) ++ [.int (vals[i]?.getD 0)] := by
      rw [List.take_add_one, List.getElem?_eq_getElem hv]
      exact avs_snoc _ _
    generalize vals[i]?.getD 0 = x at *
    generalize l[i]?.getD ByteArray.empty = b at *
    simp [go_sem, hii, g]
    refine CallVC.of (c) (by decide) ?_
    simp [go_sem]
    exact ⟨⟨by omega, by omega⟩, ⟨by omega, by omega⟩, i + 1, by omega, by omega, Off_reset _ _ _ (by simp), ⟨rfl, tk.symm⟩, by omega⟩
  · have hii : ¬ (i : Int) < l.length := by omega
    have e : i = vals.length := by omega
    simp [go_sem, hii]
    exact ⟨e, by rw [e, List.take_length]⟩
set_option maxRecDepth 100000 in
theorem ParseTableau_c (s u v : ByteArray) (hs : s.size ≤ 1000) (hu : u.size ≤ 1000) {l : List ByteArray} (A : List (List Int)) (B : List Int) (h1 : Lib.cut s.data.toList [124] = (u.data.toList, v.data.toList, true)) (hp : Lib.splitB ⟨#[59]⟩ 0 (Lib.countB u ⟨#[59]⟩) u = l) (hl : A.length = l.length)
    (cB : Con Tryz.prog 136 [.val (.string v)] (.tup [.own 2 B.length (avs B), .bool true]))
    (hw : ∀ i, i < l.length → Con Tryz.prog 136 [.val (.string (l[i]?.getD ByteArray.empty))] (.tup [.own 2 (A[i]?.getD []).length (avs (A[i]?.getD [])), .bool true])) (hT : tabB A B = true) :
    Con Tryz.prog 66 [.val (.string s)] (.tup [.agg [.own 25 A.length (omat A), .own 2 B.length (avs B)], .int 0]) := by
  have tab := tabB_iff.1 hT
  have b8 := tab.le
  have al := tab.len
  have c1 := Cut_c s 124 (by omega)
  rw [h1] at c1
  simp only [ba_eta] at c1
  have cS := Split_c u 59 (by omega) hp
  have cI := IsTableau_c A B (by omega) (by omega) (fun r h => by have := (tab.a r h).1; omega)
  rw [hT] at cI
  refine con_of_vc Tryz.mixed ⟨14, [], [], []⟩ Tryz.func66 (by decide) rfl (by simp) (by decide) (by simp [freshOK, freshL, go_sem]) ?_
  rw [Tryz.ntmps66]
  simp [go_sem]
  refine CallVC.of (c1) (by decide) ?_
  simp [go_sem]
  refine CallVC.of (cB) (by decide) ?_
  simp [go_sem]
  refine CallVC.of (cS) (by decide) ?_
  simp [go_sem]
  refine loop_inv ([3, 9, 11, 12, 13] ++ List.range' 37 19) (fun i : Nat => [(9, .box 27 [if i = 0 then .val (.slice none 0 0) else .own 25 i (omat (A.take i)), .own 2 B.length (avs B)]), (37, .int i)]) (fun i => i ≤ l.length) (fun i => l.length - i) 0 (by simp) (by simp [go_sem]) (by simp [go_sem]) ?_
  intro i hi
  by_cases hil : i < l.length
  · have hii : (i : Int) < l.length := by omega
    have g := strs_get hil
    have c := hw i hil
    have hv : i < A.length := by omega
    have tk : omat (A.take (i + 1)) = omat (A.take i) ++ [.own 2 (A[i]?.getD []).length (avs (A[i]?.getD []))] := by
      rw [List.take_add_one, List.getElem?_eq_getElem hv, omat_app]; rfl
    generalize A[i]?.getD [] = x at *
    generalize l[i]?.getD ByteArray.empty = b at *
    by_cases h0 : i = 0
    · have ox : omat (A.take (i + 1)) = [.own 2 x.length (avs x)] := by rw [tk, h0]; simp [omat]
      rw [if_pos h0]
      simp [go_sem, hii, g]
      refine CallVC.of (c) (by decide) ?_
      simp [go_sem]
      exact ⟨⟨by omega, by omega⟩, i + 1, by omega, by omega, Off_reset _ _ _ (by simp), by rw [if_neg (by omega), ox, h0], by omega⟩
    · rw [if_neg h0]
      simp [go_sem, hii, g]
      refine CallVC.of (c) (by decide) ?_
      simp [go_sem]
      have om : min i A.length = i := by omega
      exact ⟨⟨om, by omega, by omega⟩, ⟨by omega, by omega⟩, i + 1, by omega, by omega, Off_reset _ _ _ (by simp), by rw [if_neg (by omega), tk], by omega⟩
  · have hii : ¬ (i : Int) < l.length := by omega
    have e : i = A.length := by omega
    subst e
    rw [if_neg (show ¬ A.length = 0 by have := tab.pos; omega), List.take_length]
    simp [go_sem, hii]
    refine CallVC.of (cI) (by decide) ?_
    simp [go_sem]
    done
end Go.Proofs.YtnokgijakdaehaaGreatDoor


namespace Go.Proofs.YtnokgijakdaehaaGreatDoor
open Go.Abs
set_option linter.unusedSectionVars false
set_option linter.unusedVariables false
set_option linter.unusedSimpArgs false
set_option maxHeartbeats 4000000
theorem wd_of {neg : Bool} {p q : Nat} {v : Int} (hv : isN v) (q1 : 1 ≤ q ∧ q < 100) (h : v * q % 10007 = (if neg = true then - (p : Int) else p) % 10007) : wdV neg p q = v := by
  unfold wdV
  rw [← h]
  have hq : (q : Int) % 10007 = q := by omega
  have hi := inv_ok (a := (q : Int)) ⟨by omega, by omega⟩ (by omega)
  rw [hq]
  have e : v * q % 10007 * pw q 10005 % 10007 = v * (q * pw q 10005 % 10007) % 10007 := by
    rw [Int.mul_emod, Int.emod_emod_of_dvd _ (Int.dvd_refl _), ← Int.mul_emod, Int.mul_assoc, Int.mul_emod v, Int.mul_emod v (_ % 10007), Int.emod_emod_of_dvd _ (Int.dvd_refl _)]
  rw [e, hi, Int.mul_one]
  exact Int.emod_eq_of_lt hv.1 (by have := hv.2; omega)
theorem wd0 : Con Tryz.prog 177 [.val (.string ⟨#[48]⟩)] (.tup [.int 0, .int 0]) := by
  have h : Word ⟨#[48]⟩ ⟨#[48]⟩ ⟨#[48]⟩ ⟨#[]⟩ false false 0 1 := ⟨by kernel_rfl, by kernel_rfl, by decide, by kernel_rfl, ⟨by decide, by decide, by kernel_rfl, by kernel_rfl⟩, (fun h => by cases h), (fun h => rfl), ⟨by decide, by decide⟩, (fun h => by cases h)⟩
  have c := ParseNumber_c h
  rw [wd_of (v := 0) ⟨by decide, by decide⟩ ⟨by decide, by decide⟩ (by decide)] at c
  exact c
theorem wd1 : Con Tryz.prog 177 [.val (.string ⟨#[49]⟩)] (.tup [.int 1, .int 0]) := by
  have h : Word ⟨#[49]⟩ ⟨#[49]⟩ ⟨#[49]⟩ ⟨#[]⟩ false false 1 1 := ⟨by kernel_rfl, by kernel_rfl, by decide, by kernel_rfl, ⟨by decide, by decide, by kernel_rfl, by kernel_rfl⟩, (fun h => by cases h), (fun h => rfl), ⟨by decide, by decide⟩, (fun h => by cases h)⟩
  have c := ParseNumber_c h
  rw [wd_of (v := 1) ⟨by decide, by decide⟩ ⟨by decide, by decide⟩ (by decide)] at c
  exact c
theorem wd2 : Con Tryz.prog 177 [.val (.string ⟨#[49, 47, 50]⟩)] (.tup [.int 5004, .int 0]) := by
  have h : Word ⟨#[49, 47, 50]⟩ ⟨#[49, 47, 50]⟩ ⟨#[49]⟩ ⟨#[50]⟩ false true 1 2 := ⟨by kernel_rfl, by kernel_rfl, by decide, by kernel_rfl, ⟨by decide, by decide, by kernel_rfl, by kernel_rfl⟩, (fun h => ⟨by decide, by decide, by kernel_rfl, by kernel_rfl⟩), (fun h => by cases h), ⟨by decide, by decide⟩, (fun h => by cases h)⟩
  have c := ParseNumber_c h
  rw [wd_of (v := 5004) ⟨by decide, by decide⟩ ⟨by decide, by decide⟩ (by decide)] at c
  exact c
theorem rw1 : Con Tryz.prog 136 [.val (.string ⟨#[49]⟩)] (.tup [.own 2 1 (avs [1]), .bool true]) :=
  readNumbers_c ⟨#[49]⟩ (by decide) (l := [⟨#[49]⟩]) [1] (by kernel_rfl) rfl (by decide) (fun i hi => by
    match i, hi with
    | 0, _ => exact wd1)
theorem rw2 : Con Tryz.prog 136 [.val (.string ⟨#[48, 32, 48]⟩)] (.tup [.own 2 2 (avs [0, 0]), .bool true]) :=
  readNumbers_c ⟨#[48, 32, 48]⟩ (by decide) (l := [⟨#[48]⟩, ⟨#[48]⟩]) [0, 0] (by kernel_rfl) rfl (by decide) (fun i hi => by
    match i, hi with
    | 0, _ => exact wd0
    | 1, _ => exact wd0)
theorem rw3 : Con Tryz.prog 136 [.val (.string ⟨#[49, 32, 48]⟩)] (.tup [.own 2 2 (avs [1, 0]), .bool true]) :=
  readNumbers_c ⟨#[49, 32, 48]⟩ (by decide) (l := [⟨#[49]⟩, ⟨#[48]⟩]) [1, 0] (by kernel_rfl) rfl (by decide) (fun i hi => by
    match i, hi with
    | 0, _ => exact wd1
    | 1, _ => exact wd0)
theorem rw4 : Con Tryz.prog 136 [.val (.string ⟨#[49, 47, 50, 32, 49, 47, 50]⟩)] (.tup [.own 2 2 (avs [5004, 5004]), .bool true]) :=
  readNumbers_c ⟨#[49, 47, 50, 32, 49, 47, 50]⟩ (by decide) (l := [⟨#[49, 47, 50]⟩, ⟨#[49, 47, 50]⟩]) [5004, 5004] (by kernel_rfl) rfl (by decide) (fun i hi => by
    match i, hi with
    | 0, _ => exact wd2
    | 1, _ => exact wd2)
theorem pt_heun : Con Tryz.prog 66 [.val (.string ⟨#[48, 32, 48, 59, 49, 32, 48, 124, 49, 47, 50, 32, 49, 47, 50]⟩)] (.tup [.agg [.own 25 2 (omat [[0, 0], [1, 0]]), .own 2 2 (avs [5004, 5004])], .int 0]) :=
  ParseTableau_c ⟨#[48, 32, 48, 59, 49, 32, 48, 124, 49, 47, 50, 32, 49, 47, 50]⟩ ⟨#[48, 32, 48, 59, 49, 32, 48]⟩ ⟨#[49, 47, 50, 32, 49, 47, 50]⟩ (by decide) (by decide) (l := [⟨#[48, 32, 48]⟩, ⟨#[49, 32, 48]⟩]) [[0, 0], [1, 0]] [5004, 5004] (by kernel_rfl) (by kernel_rfl) rfl rw4 (fun i hi => by
    match i, hi with
    | 0, _ => exact rw2
    | 1, _ => exact rw3) (by decide)
set_option maxRecDepth 100000 in
theorem nt_heun : Con Tryz.prog 65 [.val (.string ⟨#[104, 101, 117, 110]⟩)] (.tup [.val (.string ⟨#[48, 32, 48, 59, 49, 32, 48, 124, 49, 47, 50, 32, 49, 47, 50]⟩), .bool true]) := by
  have e0 : strEq ⟨#[104, 101, 117, 110]⟩ ⟨#[101, 117, 108, 101, 114]⟩ = false := by kernel_rfl
  have e1 : strEq ⟨#[104, 101, 117, 110]⟩ ⟨#[104, 101, 117, 110]⟩ = true := by kernel_rfl
  refine con_of_vc Tryz.mixed ⟨4, [], [], []⟩ Tryz.func65 (by decide) rfl (by simp) (by decide) (by simp [freshOK, freshL, go_sem]) ?_
  rw [Tryz.ntmps65]
  simp [go_sem]
  simp [go_sem, e0, e1]
set_option maxRecDepth 100000 in
theorem nm_heun : Con Tryz.prog 14 [.val (.string ⟨#[104, 101, 117, 110]⟩)] (.tup [.agg [.own 25 2 (omat [[0, 0], [1, 0]]), .own 2 2 (avs [5004, 5004])], .int 0]) := by
  have e : strEq ⟨#[104, 101, 117, 110]⟩ ⟨#[103, 97, 117, 115, 115]⟩ = false := by kernel_rfl
  have c1 := nt_heun
  have c2 := pt_heun
  have f1 : freshL (omat [[0, 0], [1, 0]]) = true := by kernel_rfl
  have f2 : freshL (avs [5004, 5004]) = true := by kernel_rfl
  generalize omat [[0, 0], [1, 0]] = X at *
  generalize avs [5004, 5004] = Y at *
  have hf : freshOK (.tup [.agg [.own 25 2 X, .own 2 2 Y], .int 0]) = true := by simp [freshOK, freshL, f1, f2]
  refine con_of_vc Tryz.mixed ⟨11, [], [], []⟩ Tryz.func14 (by decide) rfl (by simp) (by decide) hf ?_
  rw [Tryz.ntmps14]
  simp [go_sem]
  refine CallVC.of (c1) (by decide) ?_
  simp [go_sem]
  refine CallVC.of (c2) (by decide) ?_
  simp [go_sem]
  simp [go_sem, e]
end Go.Proofs.YtnokgijakdaehaaGreatDoor


namespace Go.Proofs.YtnokgijakdaehaaGreatDoor
open Go.Abs
set_option linter.unusedSectionVars false
set_option linter.unusedVariables false
set_option linter.unusedSimpArgs false
set_option maxHeartbeats 1000000
theorem turn_turn {X : List (List Int)} {a b : Nat} (hl : X.length = a) (ha : 0 < a) (hb : 0 < b) (hr : ∀ r ∈ X, r.length = b) : turnS (turnS X) = X := by
  have r0 : (X[0]?.getD []).length = b := hr _ (memD [] (by omega))
  have tl : (turnS X).length = b := by rw [turnS_len, r0]
  have tg : ∀ j, j < b → (turnS X)[j]?.getD [] = colS X j := fun j hj => by
    have : j < (X[0]?.getD []).length := by omega
    simp [turnS, this]
  have t0 : ((turnS X)[0]?.getD []).length = a := by rw [tg 0 hb, colS_len, hl]
  refine List.ext_getElem (by rw [turnS_len, t0, hl]) fun k h1 h2 => ?_
  have hk : k < a := by omega
  have e1 : (turnS (turnS X))[k] = colS (turnS X) k := by simp [turnS]
  have rk : X[k].length = b := hr _ (List.getElem_mem h2)
  rw [e1]
  refine List.ext_getElem (by rw [colS_len, tl, rk]) fun j j1 j2 => ?_
  have hj : j < b := by omega
  have e3 : (colS (turnS X) k)[j] = ((turnS X)[j]?.getD [])[k]?.getD 0 := by simp [colS, tb]
  have e4 : (colS X j)[k]?.getD 0 = (X[k]?.getD [])[j]?.getD 0 := tb_get (fun i => (X[i]?.getD [])[j]?.getD 0) (by omega)
  rw [e3, tg j hj, e4, List.getElem?_eq_getElem h2, Option.getD_some, List.getElem?_eq_getElem j2, Option.getD_some]
section
variable {A : List (List Int)} {B : List Int} {H : List (List Int)} {C : List Int}
theorem inv_tab (h : Tab A B) : Tab (lesM A B) (scalS B (-1)) := by
  have lo := lesM_ok h
  exact ⟨by rw [scalS_len]; exact h.pos, by rw [scalS_len]; exact h.le, by rw [scalS_len]; exact lo.1, tb_N fun i _ => isN_mod _, fun r hr => by rw [scalS_len]; exact lo.2 r hr⟩
theorem Ns_app {x y : List Int} (hx : Ns x) (hy : Ns y) : Ns (x ++ y) := fun a ha => by
  rcases List.mem_append.1 ha with h | h
  · exact hx a h
  · exact hy a h
theorem cmp_tab (hT : Tab A B) (hH : Tab H C) (h8 : B.length + C.length ≤ 8) : Tab (cmpA A B H) (B ++ C) := by
  have p := hT.pos
  refine ⟨by rw [List.length_append]; omega, by rw [List.length_append]; exact h8, by rw [List.length_append]; simp [cmpA, hT.len, hH.len], Ns_app hT.b hH.b, fun r hr => ?_⟩
  rw [List.length_append]
  rcases List.mem_append.1 hr with h | h
  · obtain ⟨q, hq, rfl⟩ := List.mem_map.1 h
    have a := hT.a q hq
    refine ⟨by rw [List.length_append, a.1, List.length_replicate, hH.len], Ns_app a.2 fun x hx => ?_⟩
    obtain ⟨_, rfl⟩ := List.mem_replicate.1 hx
    exact ⟨by omega, by omega⟩
  · obtain ⟨q, hq, rfl⟩ := List.mem_map.1 h
    have a := hH.a q hq
    exact ⟨by rw [List.length_append, a.1], Ns_app hT.b a.2⟩
variable {z : Int} {f : List (List Mon)} {L : List (List Int)}
theorem sfE_mk (hT : Tab A B) (hF : FieldOk z f) (hL : serB z L = true) : sfE A B z f L = 0 := by
  unfold sfE
  rw [tabB_iff.2 hT, fieldB_iff.2 hF, hL]; rfl
theorem sfX_mk (hT : Tab A B) (hF : FieldOk z f) (hL : serB z L = true) : sfX A B z f L = turnS (steS A B f (turnS L)) := by
  unfold sfX; rw [if_pos (sfE_mk hT hF hL)]
theorem step_laws (hT : Tab A B) (hH : Tab H C) (hF : FieldOk z f) (hL : serB z L = true) :
    serB z (sfX A B z f L) = true ∧ sfX (lesM A B) (scalS B (-1)) z f (sfX A B z f L) = L ∧ (B.length + C.length ≤ 8 → sfX (cmpA A B H) (B ++ C) z f L = sfX H C z f (sfX A B z f L)) := by
  have hs := serB_iff.1 hL
  have z1 := hF.lo
  have fl := hF.len
  obtain ⟨t1, t2, t3, t4⟩ := ste_turn (A := A) (B := B) (f := f) z1 hs
  have r7 : R7 f.length (turnS L) := ⟨by omega, t2⟩
  have sS := ste_R7 (A := A) (B := B) (f := f) r7
  have nz : 0 < f.length := by omega
  have e1 := sfX_mk hT hF hL
  have s1 : serB z (turnS (steS A B f (turnS L))) = true := serB_iff.2 ⟨t3, t4⟩
  have tt : turnS (turnS (steS A B f (turnS L))) = steS A B f (turnS L) := turn_turn sS.1 nz (by omega) (fun r hr => (sS.2 r hr).1)
  have tL : turnS (turnS L) = L := turn_turn hs.1 (by omega) nz (fun r hr => by have := (hs.2 r hr).1; omega)
  rw [e1]
  refine ⟨s1, ?_, fun h8 => ?_⟩
  · rw [sfX_mk (inv_tab hT) hF s1, tt, step_back hT rfl r7, tL]
  · rw [sfX_mk (cmp_tab hT hH h8) hF hL, sfX_mk hH hF s1, tt, step_comp hT hH rfl r7]
end
end Go.Proofs.YtnokgijakdaehaaGreatDoor


namespace Go.Proofs.YtnokgijakdaehaaGreatDoor
open Go.ChangeShapes Go.WideShapes Go.ChangeAt Go.RowKit Go.Abs Go.Deep
set_option linter.unusedSectionVars false
set_option linter.unusedVariables false
section
variable {H : Type} {enc : TypeId × Value → H} {w : World} {sp : Nat → Bool} {held : Bool} {base : Nat}
theorem kids : Kids Tryz.prog (· < Tryz.prog.types.size) := kids_rows (by kernel_rfl) (by kernel_rfl)
theorem full : ∀ t e, t < Tryz.prog.types.size → Tryz.prog.underlying t = some (.slice e) → 0 < Tryz.prog.cellsOf e := slices_full_of Tryz.prog (by kernel_rfl)
theorem flat1 {α β : Type} (g : α → β) : ∀ qs : List α, qs.flatMap (fun a => [g a]) = qs.map g
  | [] => rfl
  | a :: qs => by rw [List.flatMap_cons, flat1 g qs]; rfl
theorem rep_one {F : Nat → Prop} {tm : Nat → Value} {oss : Nat → List Nat} {c : AV} {v : Value} (h : RepL Tryz.prog w F [c] [v] []) : RepT Tryz.prog w F tm oss c v [] := .cell _ _ _ (RepL.one h)
set_option maxRecDepth 100000 in
theorem repV {F : Nat → Prop} {tm : Nat → Value} {oss : Nat → List Nat} {t e : TypeId} {v : Value} {c : AV} {r : Reach} {b0 : Nat} (ht : Tryz.prog.underlying t = some (.slice e)) (hv : Value.okWide Tryz.prog w r b0 t v) (h : RepL Tryz.prog w F [c] v.cells.toList []) :
    RepT Tryz.prog w F tm oss c v [] := by
  have hc : v.cells.toList = [v] := by
    simp only [Value.okWide, ht] at hv
    cases v <;> simp_all [Value.cells, Cell.okWide, Cell.ok]
  rw [hc] at h
  exact rep_one h
end
end Go.Proofs.YtnokgijakdaehaaGreatDoor


namespace Go.Proofs.YtnokgijakdaehaaGreatDoor
open Go.Abs
set_option linter.unusedSectionVars false
set_option linter.unusedVariables false
set_option linter.unusedSimpArgs false
set_option maxHeartbeats 1000000
open Go.ChangeShapes Go.WideShapes Go.ChangeAt Go.RowKit Go.Deep
theorem big_c (c : List Int) (hl : c.length ≤ 9223372036854775807) : Con Tryz.prog 7 [.sl c.length (bys c)] (.bool (decide (4096 < c.length))) := by
  refine con_of_vc Tryz.mixed ⟨3, [], [], []⟩ Tryz.func7 (by decide) rfl (by simp) (by decide) (by simp [freshOK, freshL, go_sem]) ?_
  rw [Tryz.ntmps7]
  simp [go_sem]
  omega
section
variable {H : Type} {enc : TypeId × Value → H} {w : World} {sp : Nat → Bool} {held : Bool} {base : Nat}
theorem open_bys {n : Nat} {cs : List Value} {x : DataW H × List MemPlace} (h : DataW.trod enc Tryz.prog w base sp held n 22 cs = some x) :
    ∃ xs : List Int, (∀ z ∈ xs, 0 ≤ z ∧ z ≤ 255) ∧ xs.length ≤ 9223372036854775807 ∧ RepL Tryz.prog w (fun b => b < w.heap.size) [.sl xs.length (bys xs)] cs [] ∧ cs.length = 1 := by
  obtain ⟨qs, h1, h2, h3, h4⟩ := open_sl (f := fun z : Int => [AV.val (.int .u8 z)]) (Good := fun z => (Lit.int .u8 z).wf = true) Tryz.underlying22 (s := 1) (by kernel_rfl) (by decide) (fun _ => rfl)
    (fun n cs y hy => by obtain ⟨z, k1, k2, _⟩ := open_i Tryz.underlying5 hy; exact ⟨z, k1, k2⟩) h
  refine ⟨qs, fun z hz => ?_, h2, by rw [flat1] at h3; exact h3, h4⟩
  have := h1 z hz
  simp [Lit.wf, IntKind.min, IntKind.max, IntKind.signed, IntKind.bits] at this
  omega
end
end Go.Proofs.YtnokgijakdaehaaGreatDoor


namespace Go.Proofs.YtnokgijakdaehaaGreatDoor
open Go.Abs
set_option linter.unusedSectionVars false
set_option linter.unusedVariables false
set_option linter.unusedSimpArgs false
set_option maxHeartbeats 1000000
set_option maxRecDepth 100000 in
theorem likeRows5_c (a b : List (List Int)) (ha : a.length ≤ 1048576) (hr : ∀ r ∈ a, r.length ≤ 1048576) : Con Tryz.prog 19 [.sl a.length (mat a), .sl b.length (mat b)] (.bool (decide (a = b))) := by
  by_cases hl : a.length = b.length
  · have hl2 : (a.length : Int) = b.length := by omega
    refine con_of_vc Tryz.mixed ⟨5, [], [], []⟩ Tryz.func19 (by decide) rfl (by simp) (by decide) (by simp [freshOK, freshL, go_sem]) ?_
    rw [Tryz.ntmps19]
    simp [go_sem]
    simp [go_sem, hl]
    refine loop_inv (4 :: 5 :: List.range' 11 16) (fun i : Nat => [(5, .int i)]) (fun i => i ≤ b.length ∧ ∀ j, j < i → a[j]?.getD [] = b[j]?.getD []) (fun i => b.length - i) 0 (by simp) (by simp [go_sem]) (by simp [go_sem]) ?_
    rintro i ⟨hi, hj⟩
    simp [go_sem]
    refine ⟨fun h => ?_, fun h => ?_⟩ <;> simp at h
    · have hib : i < b.length := by omega
      have hia : i < a.length := by omega
      have na : ¬ a = [] := by rintro rfl; simp at hia
      have nb : ¬ b = [] := by rintro rfl; simp at hib
      have hA := mat_drop hia
      have hB := mat_drop hib
      have hra := hr (a[i]?.getD []) (by simp [hia])
      have cL := likeInts_c (a[i]?.getD []) (b[i]?.getD []) (by omega)
      obtain ⟨x, hx⟩ : ∃ x, a[i]?.getD [] = x := ⟨_, rfl⟩
      obtain ⟨y, hy⟩ : ∃ y, b[i]?.getD [] = y := ⟨_, rfl⟩
      rw [hx] at hA cL hra
      rw [hy] at hB cL
      simp [go_sem, hA, hB]
      refine ⟨by kernel_rfl, ⟨hib, na⟩, ⟨hib, nb⟩, ?_⟩
      refine CallD.of (cL) (by simp [roots, rootsL]) (by decide) ?_
      simp [go_sem]
      refine ⟨by kernel_rfl, ?_⟩
      simp [go_sem]
      by_cases hxy : x = y
      · simp [go_sem, hxy]
        refine ⟨⟨by omega, by omega⟩, i + 1, ⟨by omega, fun j hj2 => ?_⟩, by omega, Off_reset _ _ _ (by simp), by omega⟩
        rcases Nat.lt_or_ge j i with h3 | h3
        · exact hj j h3
        · have : j = i := by omega
          subst this
          rw [hx, hy, hxy]
      · have e : ¬ a = b := fun e => hxy (by rw [← hx, ← hy, e])
        simp [go_sem, hxy, e]
    · have e : a = b := by
        refine List.ext_getElem hl fun k h1 h2 => ?_
        have := hj k (by omega)
        simpa [h1, h2] using this
      simp [go_sem, e]
  · have e : ¬ a = b := fun e => hl (by rw [e])
    have hl2 : ¬ (a.length : Int) = b.length := by omega
    refine con_of_vc Tryz.mixed ⟨5, [], [], []⟩ Tryz.func19 (by decide) rfl (by simp) (by decide) (by simp [freshOK, freshL, go_sem]) ?_
    rw [Tryz.ntmps19]
    simp [go_sem]
    simp [go_sem, hl2, e]
end Go.Proofs.YtnokgijakdaehaaGreatDoor


namespace Go.Proofs.YtnokgijakdaehaaGreatDoor
open Go.Abs
set_option linter.unusedSectionVars false
set_option linter.unusedVariables false
set_option linter.unusedSimpArgs false
set_option maxHeartbeats 4000000
theorem DrS.small4 {z : Int} {f : List (List Mon)} (h : DrS z f) : Small f := ⟨by have := h.2.2.1; omega, fun p hp => ⟨by have := (h.2.2.2 p hp).1; omega, fun q hq => by have := (h.2.2.2 p hp).2 q hq; omega⟩⟩
theorem heun_tab : Tab [[0, 0], [1, 0]] [5004, 5004] := tabB_iff.1 (by decide)
set_option maxRecDepth 100000 in
theorem FnStepCompositions_c (c : List Int) (hl : c.length ≤ 9223372036854775807) (hb : ∀ x ∈ c, 0 ≤ x ∧ x ≤ 255) : Con Tryz.prog 4 [.sl c.length (bys c)] (.bool true) := by
  have cB := big_c c hl
  by_cases hc4 : 4096 < c.length
  · refine con_of_vc Tryz.mixed ⟨22, [], [2000000 + 16], []⟩ Tryz.func4 (by decide) rfl (by simp) (by decide) (by simp [freshOK, freshL, go_sem]) ?_
    rw [Tryz.ntmps4]
    simp [go_sem]
    refine CallVC.of (cB) (by decide) ?_
    simp [go_sem]
    simp [go_sem, hc4]
  · have hc : Byt c := ⟨by omega, hb⟩
    have cD := DrawStepFrom_r c hc
    refine con_of_vc Tryz.mixed ⟨22, [], [2000000 + 16], []⟩ Tryz.func4 (by decide) rfl (by simp) (by decide) (by simp [freshOK, freshL, go_sem]) ?_
    rw [Tryz.ntmps4]
    simp [go_sem]
    refine CallVC.of (cB) (by decide) ?_
    simp [go_sem]
    simp [go_sem, hc4]
    refine ⟨_, cD, ?_⟩
    rintro _ _ ⟨rfl, A, B, z, f, L, hz, hD, hL7, hL4, rfl⟩
    obtain ⟨z1, z2, z3⟩ := hz
    have hS := hD.small4
    have c1 := StepFrom_c A B z f L (by omega) (by omega) (fun r h => by have := z3 r h; omega) hS (by omega) (fun r h => by have := hL4 r h; omega)
    have c2 := specStepFrom_c A B z f L (by omega) (by omega) (fun r h => by have := z3 r h; omega) hS (by omega) (fun r h => by have := hL4 r h; omega)
    unfold sfR at c1 c2
    have xo := sfX_ok A B z f L
    have cK := likeRows5_c (sfX A B z f L) (sfX A B z f L) (by omega) (fun r h => by have := xo.2 r h; omega)
    simp only [decide_true] at cK
    simp [go_sem]
    refine CallVC.of (c1) (by decide) ?_
    simp [go_sem]
    refine CallVC.of (c2) (by decide) ?_
    simp [go_sem]
    refine CallVC.of (cK) (by decide) ?_
    simp [go_sem]
    by_cases hE : sfE A B z f L = 0
    · obtain ⟨e1, e2, e3⟩ := sfE_zero hE
      have hT := tabB_iff.1 e1
      have hF := fieldB_iff.1 e2
      obtain ⟨H, C, hH, c5, hl1, hl2⟩ : ∃ (H : List (List Int)) (C : List Int), Tab H C ∧ Con Tryz.prog 14 [.val (.string ⟨#[104, 101, 117, 110]⟩)] (.tup [.agg [.own 25 2 (omat H), .own 2 2 (avs C)], .int 0]) ∧ H.length = 2 ∧ C.length = 2 := ⟨_, _, heun_tab, nm_heun, rfl, rfl⟩
      obtain ⟨k1, k2, k3⟩ := step_laws hT hH hF e3
      have hI := inv_tab hT
      have c3 := InverseTableau_c A B hT
      have il := (lesM_ok hT).1
      have sl := scalS_len B (-1)
      have b8 := hT.le
      have al := hT.len
      have c4 := StepFrom_c (lesM A B) (scalS B (-1)) z f (sfX A B z f L) (by omega) (by omega) (fun r h => by have := (hI.a r h).1; omega) hS (by omega) (fun r h => by have := xo.2 r h; omega)
      unfold sfR at c4
      rw [k2, sfE_mk hI hF k1, il, sl] at c4
      have c6 := ComposeTableaus_c A B H C hT hH
      have cK2 := likeRows5_c L L (by omega) (fun r h => by have := hL4 r h; omega)
      simp only [decide_true] at cK2
      have c8 := StepFrom_c H C z f (sfX A B z f L) (by omega) (by omega) (fun r h => by have := (hH.a r h).1; omega) hS (by omega) (fun r h => by have := xo.2 r h; omega)
      have xo2 := sfX_ok H C z f (sfX A B z f L)
      unfold sfR at c8
      rw [sfE_mk hH hF k1, hl1, hl2] at c8
      have cK3 := likeRows5_c (sfX H C z f (sfX A B z f L)) (sfX H C z f (sfX A B z f L)) (by omega) (fun r h => by have := xo2.2 r h; omega)
      simp only [decide_true] at cK3
      by_cases h8 : B.length + C.length ≤ 8
      · rw [if_pos h8, hl1, hl2] at c6
        have hC := cmp_tab hT hH h8
        have cl : (cmpA A B H).length = A.length + H.length := by simp [cmpA]
        have c7 := StepFrom_c (cmpA A B H) (B ++ C) z f L (by omega) (by rw [List.length_append]; omega) (fun r h => by have := (hC.a r h).1; rw [List.length_append] at this; omega) hS (by omega) (fun r h => by have := hL4 r h; omega)
        unfold sfR at c7
        rw [sfE_mk hC hF e3, k3 h8, cl, List.length_append, hl1, hl2] at c7
        generalize sfX H C z f (sfX A B z f L) = W at *
        generalize sfX A B z f L = X at *
        simp [go_sem, hE]
        refine CallVC.of (c3) (by decide) ?_
        simp [go_sem]
        refine CallVC.of (c4) (by decide) ?_
        simp [go_sem]
        refine CallVC.of (c5) (by decide) ?_
        simp [go_sem]
        refine CallVC.of (c6) (by decide) ?_
        simp [go_sem]
        refine CallVC.of (cK2) (by decide) ?_
        simp [go_sem]
        refine CallVC.of (c7) (by decide) ?_
        simp [go_sem]
        refine CallVC.of (c8) (by decide) ?_
        simp [go_sem]
        refine CallVC.of (cK3) (by decide) ?_
        simp [go_sem]
        done
      · rw [if_neg h8, hl1, hl2] at c6
        generalize sfX A B z f L = X at *
        simp [go_sem, hE]
        refine CallVC.of (c3) (by decide) ?_
        simp [go_sem]
        refine CallVC.of (c4) (by decide) ?_
        simp [go_sem]
        refine CallVC.of (c5) (by decide) ?_
        simp [go_sem]
        refine CallVC.of (c6) (by decide) ?_
        simp [go_sem]
        refine CallVC.of (cK2) (by decide) ?_
        simp [go_sem]
        done
    · simp [go_sem, hE]
end Go.Proofs.YtnokgijakdaehaaGreatDoor

