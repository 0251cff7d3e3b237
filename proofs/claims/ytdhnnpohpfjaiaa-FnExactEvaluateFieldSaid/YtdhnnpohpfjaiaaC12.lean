/- Contracts: the stability series. -/
import Derived.Test.YtdhnnpohpfjaiaaC11
import Derived.Test.YtdhnnpohpfjaiaaC6
import Derived.Test.YtdhnnpohpfjaiaaAbsP
namespace Go.Proofs.Ytdhnnpohpfjaiaa
open Go.Abs
set_option linter.unusedVariables false
set_option linter.unusedSimpArgs false
set_option maxHeartbeats 1000000
theorem specIsNumber_c (a : Int) : Con Try.prog 119 [.int a] (.bool (decide (0 ≤ a ∧ a ≤ 10006))) := by
  refine con_of_vc Try.mixed ⟨3, [], [], []⟩ Try.func119 (by decide) rfl (by simp) (by decide) (by simp [freshOK, freshL, go_sem]) ?_
  rw [Try.ntmps119]
  simp [go_sem]
  refine CallVC.of (l01In_c _ _ _) (by decide) ?_
  simp [go_sem]
theorem numsB_bad {xs : List Int} {i : Nat} (h : i < xs.length) (hb : ¬ (0 ≤ xs[i]?.getD 0 ∧ xs[i]?.getD 0 ≤ 10006)) : numsB xs = false := by
  rw [List.getElem?_eq_getElem h] at hb
  simp only [Option.getD_some] at hb
  unfold numsB
  rw [List.all_eq_false]
  exact ⟨xs[i], List.getElem_mem h, by simpa using hb⟩
theorem numsB_ok {xs : List Int} (h : ∀ x ∈ xs, 0 ≤ x ∧ x ≤ 10006) : numsB xs = true := by
  unfold numsB
  rw [List.all_eq_true]
  intro x hx
  simpa using h x hx
theorem numsB_N {xs : List Int} : numsB xs = true ↔ Ns xs := by
  unfold numsB Ns isN
  rw [List.all_eq_true]
  constructor
  · intro h x hx
    have := h x hx
    simp at this; omega
  · intro h x hx
    have := h x hx
    simp; omega
theorem take_all {α : Type} {p : α → Prop} {xs : List α} {i : Nat} (h : i < xs.length) (h1 : ∀ x ∈ xs.take i, p x) (h2 : p xs[i]) : ∀ x ∈ xs.take (i + 1), p x := by
  intro x hx
  rw [List.take_add_one, List.getElem?_eq_getElem h, Option.toList_some, List.mem_append, List.mem_singleton] at hx
  rcases hx with hx | rfl
  · exact h1 x hx
  · exact h2
theorem l01Numbers_c (xs : List Int) (hl : xs.length ≤ 9223372036854775807) : Con Try.prog 79 [.sl xs.length (avs xs)] (.bool (numsB xs)) := by
  refine con_of_vc Try.mixed ⟨4, [], [], []⟩ Try.func79 (by decide) rfl (by simp) (by decide) (by simp [freshOK, freshL, go_sem]) ?_
  rw [Try.ntmps79]
  simp [go_sem]
  refine loop_inv (List.range' 2 14) (fun i : Nat => [(3, .int i)]) (fun i => i ≤ xs.length ∧ ∀ x ∈ xs.take i, 0 ≤ x ∧ x ≤ 10006) (fun i => xs.length - i) 0 (by simp) (by simp [go_sem]) (by simp [go_sem]) ?_
  rintro i ⟨hi, hp⟩
  simp [go_sem]
  refine ⟨fun h => ?_, fun h => ?_⟩ <;> simp at h
  · simp [go_sem, avs_drop h]
    refine ⟨⟨h, by rintro rfl; simp at h⟩, ?_⟩
    refine CallVC.of (specIsNumber_c _) (by decide) ?_
    by_cases hb : 0 ≤ xs[i]?.getD 0 ∧ xs[i]?.getD 0 ≤ 10006
    · simp [go_sem, hb]
      refine ⟨by omega, i + 1, ⟨by omega, ?_⟩, by omega, Off_reset _ _ _ (by simp), by omega⟩
      rw [List.getElem?_eq_getElem h, Option.getD_some] at hb
      exact take_all h hp hb
    · have e : decide (0 ≤ xs[i]?.getD 0 ∧ xs[i]?.getD 0 ≤ 10006) = false := by simpa using hb
      rw [e]
      simp [go_sem]
      exact numsB_bad h hb
  · simp [go_sem]
    have e : i = xs.length := by omega
    subst e
    rw [List.take_length] at hp
    exact numsB_ok hp
theorem l09Is_c (A : List (List Int)) (B : List Int) (hA : A.length ≤ 9223372036854775807) (hB : B.length ≤ 9223372036854775807) (hr : ∀ r ∈ A, r.length ≤ 9223372036854775807) :
    Con Try.prog 43 [.agg [.sl A.length (mat A), .sl B.length (avs B)]] (.bool (tabB A B)) := by
  have bad : ¬ (1 ≤ B.length ∧ B.length ≤ 8 ∧ A.length = B.length) → tabB A B = false := fun h => by
    unfold tabB
    rw [decide_eq_false h]; rfl
  refine con_of_vc Try.mixed ⟨5, [], [], []⟩ Try.func43 (by decide) rfl (by simp) (by decide) (by simp [freshOK, freshL, go_sem]) ?_
  rw [Try.ntmps43]
  simp [go_sem]
  by_cases h1 : 1 ≤ B.length
  · by_cases h2 : B.length ≤ 8
    · by_cases h3 : A.length = B.length
      · have i1 : ¬ (B.length : Int) < 1 := by omega
        have i2 : ¬ 8 < (B.length : Int) := by omega
        have i3 : (A.length : Int) = B.length := by omega
        simp [go_sem, i1, i2, i3]
        refine CallVC.of (l01Numbers_c B hB) (by decide) ?_
        cases hB2 : numsB B with
        | false =>
          simp [go_sem]
          unfold tabB; rw [hB2]; simp
        | true =>
          simp [go_sem]
          refine loop_inv (2 :: 4 :: List.range' 27 22) (fun i : Nat => [(4, .int i)]) (fun i => i ≤ B.length ∧ ∀ r ∈ A.take i, r.length = B.length ∧ numsB r = true) (fun i => B.length - i) 0 (by simp) (by simp [go_sem]) (by simp [go_sem]) ?_
          rintro i ⟨hi, hp⟩
          have fine : tabB A B = A.all (fun r => decide (r.length = B.length) && numsB r) := by
            unfold tabB; rw [hB2, decide_eq_true ⟨h1, h2, h3⟩]; simp
          simp [go_sem]
          refine ⟨fun h => ?_, fun h => ?_⟩ <;> simp at h
          · have hA2 : i < A.length := by omega
            have wrong : ¬ ((A[i]?.getD []).length = B.length ∧ numsB (A[i]?.getD []) = true) → tabB A B = false := fun hb => by
              rw [List.getElem?_eq_getElem hA2, Option.getD_some] at hb
              rw [fine, List.all_eq_false]
              exact ⟨A[i], List.getElem_mem hA2, by simpa using hb⟩
            simp [go_sem, mat_drop hA2]
            refine ⟨⟨hA2, by rintro rfl; simp at hA2⟩, ?_⟩
            by_cases g1 : (A[i]?.getD []).length = B.length
            · have g1' : ((A[i]?.getD []).length : Int) = B.length := by omega
              simp [go_sem, g1', mat_drop hA2]
              refine ⟨⟨hA2, by rintro rfl; simp at hA2⟩, ?_⟩
              refine CallVC.of (l01Numbers_c _ (by omega)) (by decide) ?_
              cases g2 : numsB (A[i]?.getD []) with
              | false =>
                simp [go_sem]
                exact wrong (by rw [g2]; simp)
              | true =>
                simp [go_sem]
                refine ⟨by omega, i + 1, ⟨by omega, ?_⟩, by omega, Off_reset _ _ _ (by simp), by omega⟩
                rw [List.getElem?_eq_getElem hA2, Option.getD_some] at g1 g2
                exact take_all hA2 hp ⟨g1, g2⟩
            · have g1' : ¬ ((A[i]?.getD []).length : Int) = B.length := by omega
              simp [go_sem, g1']
              exact wrong (fun h => g1 h.1)
          · simp [go_sem]
            have e : i = A.length := by omega
            subst e
            rw [List.take_length] at hp
            rw [fine, List.all_eq_true]
            intro r hr
            simpa using hp r hr
      · have i1 : ¬ (B.length : Int) < 1 := by omega
        have i2 : ¬ 8 < (B.length : Int) := by omega
        have i3 : ¬ (A.length : Int) = B.length := by omega
        simp [go_sem, i1, i2, i3, bad (fun h => h3 h.2.2)]
    · have i1 : ¬ (B.length : Int) < 1 := by omega
      have i2 : 8 < (B.length : Int) := by omega
      simp [go_sem, i1, i2, bad (fun h => h2 h.2.1)]
  · have i1 : (B.length : Int) < 1 := by omega
    simp [go_sem, i1, bad (fun h => h1 h.1)]
theorem l09Ones_c (n : Nat) (hn : n ≤ 1000000) : Con Try.prog 80 [.int n] (.own 2 n (avs (List.replicate n 1))) := by
  refine con_of_vc Try.mixed ⟨4, [], [], []⟩ Try.func80 (by decide) rfl (by simp) (by decide) (by simp [freshOK, freshL, go_sem]) ?_
  rw [Try.ntmps80]
  simp [go_sem]
  refine loop_inv (0 :: List.range' 3 9) (fun i : Nat => [(0, .int (n - i : Nat)), (3, .own 2 i (avs (List.replicate i 1)))]) (fun i => i ≤ n) (fun i => n - i) 0 (by simp) (by simp [go_sem]) (by simp [go_sem]) ?_
  intro i hi
  simp [go_sem]
  refine ⟨fun h => ?_, fun h => ?_⟩ <;> simp at h
  · simp [go_sem]
    refine ⟨⟨by omega, by omega⟩, by omega, i + 1, by omega, by omega, Off_reset _ _ _ (by simp), by omega, ?_⟩
    simp [List.replicate_succ', avs_snoc]
  · simp [go_sem]
    have e : i = n := by omega
    subst e; simp
/-- The stage weights of the k-th power. -/
def wts (A : List (List Int)) (s : Nat) : Nat → List Int
  | 0 => List.replicate s 1
  | k + 1 => tim A (wts A s k)
def serL (A : List (List Int)) (B : List Int) (k : Nat) : List Int := 1 :: (List.range k).map fun i => dotI B (wts A B.length i) % 10007
@[simp] theorem serL_len (A : List (List Int)) (B : List Int) (k : Nat) : (serL A B k).length = k + 1 := by simp [serL]
theorem serL_succ (A : List (List Int)) (B : List Int) (k : Nat) : serL A B (k + 1) = serL A B k ++ [dotI B (wts A B.length k) % 10007] := by simp [serL, List.range_succ]
theorem wts_len {A : List (List Int)} {s : Nat} (h : A.length = s) : ∀ k, (wts A s k).length = s
  | 0 => by simp [wts]
  | k + 1 => by simp [wts, h]
theorem wts_N (A : List (List Int)) (s : Nat) : ∀ k, Ns (wts A s k)
  | 0 => by
    intro x hx
    simp [wts, List.mem_replicate] at hx
    rw [hx.2]; exact ⟨by omega, by omega⟩
  | k + 1 => tim_N _ _
structure Tab (A : List (List Int)) (B : List Int) : Prop where
  pos : 1 ≤ B.length
  le : B.length ≤ 8
  len : A.length = B.length
  b : Ns B
  a : Mat B.length A
theorem tabB_iff {A : List (List Int)} {B : List Int} : tabB A B = true ↔ Tab A B := by
  unfold tabB
  simp only [Bool.and_eq_true, decide_eq_true_eq, List.all_eq_true, numsB_N]
  constructor
  · rintro ⟨⟨⟨h1, h2, h3⟩, h4⟩, h5⟩
    exact ⟨h1, h2, h3, h4, fun r hr => h5 r hr⟩
  · rintro ⟨h1, h2, h3, h4, h5⟩
    exact ⟨⟨⟨h1, h2, h3⟩, h4⟩, fun r hr => h5 r hr⟩
theorem stabilitySeries_c (A : List (List Int)) (B : List Int) (n : Nat) (hT : Tab A B) (hn : n ≤ 15) :
    Con Try.prog 47 [.agg [.sl A.length (mat A), .sl B.length (avs B)], .int n] (.own 2 (n + 1) (avs (serL A B n))) := by
  have hp := hT.pos
  have hl := hT.le
  refine con_of_vc Try.mixed ⟨7, [], [], []⟩ Try.func47 (by decide) rfl (by simp) (by decide) (by simp [freshOK, freshL, go_sem]) ?_
  rw [Try.ntmps47]
  simp [go_sem]
  refine CallVC.of (tab_c _ _ _ _) (by decide) ?_
  simp [go_sem]
  refine CallVC.of (Repeat_c 1 B.length (by omega) (by omega)) (by decide) ?_
  simp [go_sem]
  refine loop_inv (5 :: 6 :: List.range' 13 13) (fun i : Nat => [(5, .own 2 (i + 1) (avs (serL A B i))), (6, .own 2 B.length (avs (wts A B.length i))), (13, .int i)]) (fun i => i ≤ n) (fun i => n - i) 0 (by simp) (by simp [go_sem, serL, wts, avs_cons]) (by simp [go_sem]) ?_
  intro i hi
  have w1 := wts_len (s := B.length) hT.len i
  have w2 := wts_N A B.length i
  have cd := dot_c B (wts A B.length i) (by omega) (by omega) hT.b w2
  have ca := applied_c A B (wts A B.length i) (by rw [w1]; exact hT.a) (by omega) (by rw [hT.len]; omega) w2
  rw [w1] at cd ca
  simp [go_sem]
  refine ⟨fun h => ?_, fun h => ?_⟩ <;> simp at h
  · simp [go_sem]
    refine CallVC.of (cd) (by decide) ?_
    simp [go_sem]
    refine ⟨⟨by omega, by omega⟩, ?_⟩
    refine CallVC.of (ca) (by decide) ?_
    simp [go_sem]
    refine ⟨by omega, i + 1, by omega, by omega, Off_reset _ _ _ (by simp), ?_, ?_, by omega⟩
    · simp [serL_succ, avs_snoc]
    · simp [wts, hT.len]
  · simp [go_sem]
    have e : i = n := by omega
    subst e; simp
theorem l19Weights_c (A : List (List Int)) (B : List Int) (n : Nat) (hT : Tab A B) (hn : n ≤ 15) :
    Con Try.prog 44 [.agg [.sl A.length (mat A), .sl B.length (avs B)], .int n] (.own 2 (n + 1) (avs (serL A B n))) := by
  have hp := hT.pos
  have hl := hT.le
  refine con_of_vc Try.mixed ⟨7, [], [], []⟩ Try.func44 (by decide) rfl (by simp) (by decide) (by simp [freshOK, freshL, go_sem]) ?_
  rw [Try.ntmps44]
  simp [go_sem]
  refine CallVC.of (l09Ones_c _ (by omega)) (by decide) ?_
  simp [go_sem]
  refine loop_inv (5 :: 6 :: List.range' 12 15) (fun i : Nat => [(5, .own 2 (i + 1) (avs (serL A B i))), (6, .own 2 B.length (avs (wts A B.length i)))]) (fun i => i ≤ n) (fun i => n - i) 0 (by simp) (by simp [go_sem, serL, wts, avs_cons]) (by simp [go_sem]) ?_
  intro i hi
  have w1 := wts_len (s := B.length) hT.len i
  have w2 := wts_N A B.length i
  have cd := l01Dot_c B (wts A B.length i) (by omega) (by omega) hT.b w2
  have ca := l09Times_c A (wts A B.length i) (by rw [w1]; exact hT.a) (by omega) (by rw [hT.len]; omega) w2
  rw [w1] at cd ca
  simp [go_sem]
  refine ⟨fun h => ?_, fun h => ?_⟩ <;> simp at h
  · simp [go_sem]
    refine CallVC.of (cd) (by decide) ?_
    simp [go_sem]
    refine ⟨⟨by omega, by omega⟩, ?_⟩
    refine CallVC.of (ca) (by decide) ?_
    simp [go_sem]
    refine ⟨i + 1, by omega, by omega, Off_reset _ _ _ (by simp), ?_, ?_⟩
    · simp [serL_succ, avs_snoc]
    · simp [wts, hT.len]
  · simp [go_sem]
    have e : i = n := by omega
    subst e; simp
/-- What the function over tableaus answers: the row, and the code. -/
def stabX (A : List (List Int)) (B : List Int) (n : Int) : List Int := if tabB A B = true ∧ 0 ≤ n ∧ n ≤ 15 then serL A B n.toNat else []
def stabE (A : List (List Int)) (B : List Int) (n : Int) : Int := if tabB A B = true then if 0 ≤ n ∧ n ≤ 15 then 0 else 2 else 1
def stabR (A : List (List Int)) (B : List Int) (n : Int) : AV := .tup [.own 2 (stabX A B n).length (avs (stabX A B n)), .int (stabE A B n)]
theorem StabilitySeries_c (A : List (List Int)) (B : List Int) (n : Int) (hA : A.length ≤ 9223372036854775807) (hB : B.length ≤ 9223372036854775807) (hr : ∀ r ∈ A, r.length ≤ 9223372036854775807) :
    Con Try.prog 20 [.agg [.sl A.length (mat A), .sl B.length (avs B)], .int n] (stabR A B n) := by
  have cT := IsTableau_c A B hA hB hr
  have cR := inRange_c n 0 15
  unfold stabR stabX stabE
  cases hT : tabB A B with
  | false =>
    rw [hT] at cT
    refine Con.n1 _ ?_
    refine con_of_vc Try.mixed ⟨6, [], [], []⟩ Try.func20 (by decide) rfl (by simp) (by decide) (by simp [freshOK, freshL, go_sem]) ?_
    rw [Try.ntmps20]
    simp [go_sem]
    refine CallVC.of (cT) (by decide) ?_
    simp [go_sem]
  | true =>
    rw [hT] at cT
    by_cases hn : 0 ≤ n ∧ n ≤ 15
    · have e : (decide (0 ≤ n) && decide (n ≤ 15)) = true := by simpa using hn
      rw [e] at cR
      simp only [hn, and_self, if_true, serL_len]
      obtain ⟨k, rfl⟩ : ∃ k : Nat, n = k := ⟨n.toNat, by omega⟩
      refine con_of_vc Try.mixed ⟨6, [], [], []⟩ Try.func20 (by decide) rfl (by simp) (by decide) (by simp [freshOK, freshL, go_sem]) ?_
      rw [Try.ntmps20]
      simp [go_sem]
      refine CallVC.of (cT) (by decide) ?_
      simp [go_sem]
      refine CallVC.of (cR) (by decide) ?_
      simp [go_sem]
      refine CallVC.of (stabilitySeries_c A B k (tabB_iff.1 hT) (by omega)) (by decide) ?_
      simp [go_sem]
    · have e : (decide (0 ≤ n) && decide (n ≤ 15)) = false := by simpa using hn
      rw [e] at cR
      simp only [hn, and_false, if_false, if_true]
      refine Con.n1 _ ?_
      refine con_of_vc Try.mixed ⟨6, [], [], []⟩ Try.func20 (by decide) rfl (by simp) (by decide) (by simp [freshOK, freshL, go_sem]) ?_
      rw [Try.ntmps20]
      simp [go_sem]
      refine CallVC.of (cT) (by decide) ?_
      simp [go_sem]
      refine CallVC.of (cR) (by decide) ?_
      simp [go_sem]
theorem specStabilitySeries_c (A : List (List Int)) (B : List Int) (n : Int) (hA : A.length ≤ 9223372036854775807) (hB : B.length ≤ 9223372036854775807) (hr : ∀ r ∈ A, r.length ≤ 9223372036854775807) :
    Con Try.prog 18 [.agg [.sl A.length (mat A), .sl B.length (avs B)], .int n] (stabR A B n) := by
  have cT := l09Is_c A B hA hB hr
  have cR := l01In_c n 0 15
  unfold stabR stabX stabE
  cases hT : tabB A B with
  | false =>
    rw [hT] at cT
    refine Con.n1 _ ?_
    refine con_of_vc Try.mixed ⟨6, [], [], []⟩ Try.func18 (by decide) rfl (by simp) (by decide) (by simp [freshOK, freshL, go_sem]) ?_
    rw [Try.ntmps18]
    simp [go_sem]
    refine CallVC.of (cT) (by decide) ?_
    simp [go_sem]
  | true =>
    rw [hT] at cT
    by_cases hn : 0 ≤ n ∧ n ≤ 15
    · have e : (decide (0 ≤ n) && decide (n ≤ 15)) = true := by simpa using hn
      rw [e] at cR
      simp only [hn, and_self, if_true, serL_len]
      obtain ⟨k, rfl⟩ : ∃ k : Nat, n = k := ⟨n.toNat, by omega⟩
      refine con_of_vc Try.mixed ⟨6, [], [], []⟩ Try.func18 (by decide) rfl (by simp) (by decide) (by simp [freshOK, freshL, go_sem]) ?_
      rw [Try.ntmps18]
      simp [go_sem]
      refine CallVC.of (cT) (by decide) ?_
      simp [go_sem]
      refine CallVC.of (cR) (by decide) ?_
      simp [go_sem]
      refine CallVC.of (l19Weights_c A B k (tabB_iff.1 hT) (by omega)) (by decide) ?_
      simp [go_sem]
    · have e : (decide (0 ≤ n) && decide (n ≤ 15)) = false := by simpa using hn
      rw [e] at cR
      simp only [hn, and_false, if_false, if_true]
      refine Con.n1 _ ?_
      refine con_of_vc Try.mixed ⟨6, [], [], []⟩ Try.func18 (by decide) rfl (by simp) (by decide) (by simp [freshOK, freshL, go_sem]) ?_
      rw [Try.ntmps18]
      simp [go_sem]
      refine CallVC.of (cT) (by decide) ?_
      simp [go_sem]
      refine CallVC.of (cR) (by decide) ?_
      simp [go_sem]
end Go.Proofs.Ytdhnnpohpfjaiaa
