/- Texts of the own layer and contracts, part 8: W2 Q39 L47. -/
import Derived.Test.YtnokgijakdaehaaGreatDoorM7
namespace Go.Proofs.YtnokgijakdaehaaGreatDoor
open Go.Abs
set_option linter.unusedSectionVars false
set_option linter.unusedVariables false
set_option linter.unusedSimpArgs false
set_option maxHeartbeats 1000000
open Go.ChangeShapes Go.WideShapes Go.ChangeAt Go.RowKit Go.Deep
theorem big_c (c : List Int) (hl : c.length ≤ 9223372036854775807) : Con Tryz.prog 7 [.sl c.length (bys c)] (.bool (decide (4096 < c.length))) := by
  refine con_of_vc Tryz.mixed ⟨3, [], [], []⟩ Tryz.func7 (by decide) rfl (by simp) (by decide) (by simp [freshOK, freshL, go_sem]) ?_
  rw [Tryz.ntmps7]
  simp [go_sem]
  omega
section
variable {H : Type} {enc : TypeId × Value → H} {w : World} {sp : Nat → Bool} {held : Bool} {base : Nat}
theorem open_bys {n : Nat} {cs : List Value} {x : DataW H × List MemPlace} (h : DataW.trod enc Tryz.prog w base sp held n 22 cs = some x) :
    ∃ xs : List Int, (∀ z ∈ xs, 0 ≤ z ∧ z ≤ 255) ∧ xs.length ≤ 9223372036854775807 ∧ RepL Tryz.prog w (fun b => b < w.heap.size) [.sl xs.length (bys xs)] cs [] ∧ cs.length = 1 := by
  obtain ⟨qs, h1, h2, h3, h4⟩ := open_sl (f := fun z : Int => [AV.val (.int .u8 z)]) (Good := fun z => (Lit.int .u8 z).wf = true) Tryz.underlying22 (s := 1) (by kernel_rfl) (by decide) (fun _ => rfl)
    (fun n cs y hy => by obtain ⟨z, k1, k2, _⟩ := open_i Tryz.underlying5 hy; exact ⟨z, k1, k2⟩) h
  refine ⟨qs, fun z hz => ?_, h2, by rw [flat1] at h3; exact h3, h4⟩
  have := h1 z hz
  simp [Lit.wf, IntKind.min, IntKind.max, IntKind.signed, IntKind.bits] at this
  omega
end
end Go.Proofs.YtnokgijakdaehaaGreatDoor


namespace Go.Proofs.YtnokgijakdaehaaGreatDoor
open Go.Abs
set_option linter.unusedSectionVars false
set_option linter.unusedVariables false
set_option linter.unusedSimpArgs false
set_option maxHeartbeats 1000000
def ifE (z : Int) (f : List (List Mon)) (q : List (List Int)) : Int := if fieldB z f = true then if formB z q = true then 0 else 1 else 1
def ifX (z : Int) (f : List (List Mon)) (q : List (List Int)) : Bool := decide (ifE z f q = 0) && decide (ivO q f q.length q.length = [])
def ifR (z : Int) (f : List (List Mon)) (q : List (List Int)) : AV := .tup [.bool (ifX z f q), .int (ifE z f q)]
theorem ifE_ok {z : Int} {f : List (List Mon)} {q : List (List Int)} (h : ifE z f q = 0) : fieldB z f = true ∧ formB z q = true := by
  unfold ifE at h
  split at h
  · split at h
    · exact ⟨by assumption, by assumption⟩
    · simp at h
  · simp at h
set_option maxRecDepth 100000 in
theorem IsInvariantForm_c (z : Int) (f : List (List Mon)) (q : List (List Int)) (hs : Small f) (hq : q.length ≤ 1048576) (hr : ∀ r ∈ q, r.length ≤ 1048576) :
    Con Tryz.prog 30 [.agg [.int z, .sl f.length (prt f)], .sl q.length (mat q)] (ifR z f q) := by
  have cT := IsField_c z f hs
  have cQ := isForm_c z f.length (prt f) q (by omega) (fun r h => by have := hr r h; omega)
  unfold ifR ifX
  cases hT : fieldB z f with
  | false =>
    rw [hT] at cT
    have e : ifE z f q = 1 := by unfold ifE; rw [hT]; rfl
    rw [e]
    refine con_of_vc Tryz.mixed ⟨9, [], [], []⟩ Tryz.func30 (by decide) rfl (by simp) (by decide) (by simp [freshOK, freshL, go_sem]) ?_
    rw [Tryz.ntmps30]
    simp [go_sem]
    refine CallVC.of (cT) (by decide) ?_
    simp [go_sem]
  | true =>
    rw [hT] at cT
    cases hQ : formB z q with
    | false =>
      rw [hQ] at cQ
      have e : ifE z f q = 1 := by unfold ifE; rw [hT, hQ]; rfl
      rw [e]
      refine con_of_vc Tryz.mixed ⟨9, [], [], []⟩ Tryz.func30 (by decide) rfl (by simp) (by decide) (by simp [freshOK, freshL, go_sem]) ?_
      rw [Tryz.ntmps30]
      simp [go_sem]
      refine CallVC.of (cT) (by decide) ?_
      simp [go_sem]
      refine CallVC.of (cQ) (by decide) ?_
      simp [go_sem]
    | true =>
      rw [hQ] at cQ
      have e : ifE z f q = 0 := by unfold ifE; rw [hT, hQ]; rfl
      rw [e]
      have hF := fieldB_iff.1 hT
      have hQ2 : sqB z q = true := by unfold formB at hQ; simp only [Bool.and_eq_true] at hQ; exact hQ.1
      have hS := sqB_iff.1 hQ2
      have z3 := hF.hi
      have zl := hF.len
      have fl : f.length = q.length := by omega
      have hfw : ∀ F ∈ f, ∀ m ∈ F, WOk q.length 3 m := fun F hF2 m hm => by
        have := partB_mem (hF.part F hF2) hm
        have h1 := this.lo
        have h2 := this.hi
        have h3 := this.len
        exact ⟨⟨by omega, by omega⟩, by omega, this.pw⟩
      have h20 : ∀ F ∈ f, F.length ≤ 20 := fun F hF2 => part20 z3 (hF.part F hF2)
      have cP := polynomials_c z f hF hs
      have cZ := isZero_c (smM q f q.length) (decide (ivO q f q.length q.length = [])) (fun es he => zero_iff (by omega) rfl fl hfw h20 he)
      refine con_of_vc Tryz.mixed ⟨9, [20, 33], [91], []⟩ Tryz.func30 (by decide) rfl (by simp) (by decide) (by simp [freshOK, freshL, go_sem]) ?_
      rw [Tryz.ntmps30]
      simp [go_sem]
      refine CallVC.of (cT) (by decide) ?_
      simp [go_sem]
      refine CallVC.of (cQ) (by decide) ?_
      simp [go_sem]
      refine CallVC.of (cP) (by decide) ?_
      simp [go_sem]
      refine loop_inv (6 :: 7 :: 8 :: List.range' 22 14) (fun k : Nat => [(6, .mp (smM q f k)), (22, .int k)]) (fun k => k ≤ f.length) (fun k => f.length - k) 0 (by simp) (by simp [go_sem, smM]) (by simp [go_sem]) ?_
      intro k hk
      simp [go_sem]
      refine ⟨fun h => ?_, fun h => ?_⟩ <;> simp at h
      · have hkf := h
        have hx := memD [] hkf
        have hpb := hF.part _ hx
        have cC := column_c q k (by omega) (fun r h => by have := (hS.2.2 r h).1; omega) (by omega)
        have cN : Ns (colS q k) := tb_N fun i hi => (hS.2.2 (q[i]?.getD []) (memD [] hi)).2.get k
        have cL := linear_c (colS q k) (by rw [colS_len]; omega)
        rw [colS_len] at cL
        have cX := product_c (polF_enum (keys_nd z3 hpb)) (polF_enum (linL_nd (a := colS q k) (by rw [colS_len]; omega))) (fun k x hk => part_entries z3 hpb hk) (fun k x hk => linL_eok (by rw [colS_len]; omega) cN hk)
        have cA := add_c (smM q f k) (mapT (prT ((f[k]?.getD []).map keyM) ((linL (colS q k)).map keyM))) 1 (smM_N q f k) (mapT_MapN _) ⟨by omega, by omega⟩
        simp [go_sem, fpols_drop hkf]
        refine ⟨⟨hkf, by rintro rfl; simp at hkf⟩, ?_⟩
        refine CallVC.of (cC) (by decide) ?_
        simp [go_sem]
        refine CallVC.of (cL) (by decide) ?_
        simp [go_sem]
        refine CallVC.of (cX) (by decide) ?_
        simp [go_sem]
        refine ⟨_, _, cA, ?_⟩
        simp [go_sem]
        exact ⟨by omega, k + 1, by omega, by omega, Off_reset _ _ _ (by simp), rfl, by omega⟩
      · have e : k = f.length := by omega
        subst e
        rw [fl]
        simp [go_sem]
        refine CallVC.of (cZ) (by decide) ?_
        simp [go_sem]
set_option maxRecDepth 100000 in
theorem specIsInvariantForm_c (z : Int) (f : List (List Mon)) (q : List (List Int)) (hs : Small f) (hq : q.length ≤ 1048576) (hr : ∀ r ∈ q, r.length ≤ 1048576) :
    Con Tryz.prog 31 [.agg [.int z, .sl f.length (prt f)], .sl q.length (mat q)] (ifR z f q) := by
  have cT := l13Is_c z f hs
  have cQ := l13Form_c z q (by omega) (fun r h => by have := hr r h; omega)
  unfold ifR ifX
  cases hT : fieldB z f with
  | false =>
    rw [hT] at cT
    have e : ifE z f q = 1 := by unfold ifE; rw [hT]; rfl
    rw [e]
    refine con_of_vc Tryz.mixed ⟨10, [], [], []⟩ Tryz.func31 (by decide) rfl (by simp) (by decide) (by simp [freshOK, freshL, go_sem]) ?_
    rw [Tryz.ntmps31]
    simp [go_sem]
    refine CallVC.of (cT) (by decide) ?_
    simp [go_sem]
  | true =>
    rw [hT] at cT
    cases hQ : formB z q with
    | false =>
      rw [hQ] at cQ
      have e : ifE z f q = 1 := by unfold ifE; rw [hT, hQ]; rfl
      rw [e]
      refine con_of_vc Tryz.mixed ⟨10, [], [], []⟩ Tryz.func31 (by decide) rfl (by simp) (by decide) (by simp [freshOK, freshL, go_sem]) ?_
      rw [Tryz.ntmps31]
      simp [go_sem]
      refine CallVC.of (cT) (by decide) ?_
      simp [go_sem]
      refine CallVC.of (cQ) (by decide) ?_
      simp [go_sem]
    | true =>
      rw [hQ] at cQ
      have e : ifE z f q = 0 := by unfold ifE; rw [hT, hQ]; rfl
      rw [e]
      have hF := fieldB_iff.1 hT
      have hQ2 : sqB z q = true := by unfold formB at hQ; simp only [Bool.and_eq_true] at hQ; exact hQ.1
      have hS := sqB_iff.1 hQ2
      have z3 := hF.hi
      have z1 := hF.lo
      have zl := hF.len
      have fl : f.length = q.length := by omega
      have hfw : ∀ F ∈ f, ∀ m ∈ F, WOk q.length 3 m := fun F hF2 m hm => by
        have := partB_mem (hF.part F hF2) hm
        have h1 := this.lo
        have h2 := this.hi
        have h3 := this.len
        exact ⟨⟨by omega, by omega⟩, by omega, this.pw⟩
      have h20 : ∀ F ∈ f, F.length ≤ 20 := fun F hF2 => part20 z3 (hF.part F hF2)
      obtain ⟨n, rfl⟩ : ∃ n : Nat, z = n := ⟨z.toNat, by omega⟩
      have qn : q.length = n := by omega
      refine con_of_vc Tryz.mixed ⟨10, [], [], []⟩ Tryz.func31 (by decide) rfl (by simp) (by decide) (by simp [freshOK, freshL, go_sem]) ?_
      rw [Tryz.ntmps31]
      simp [go_sem]
      refine CallVC.of (cT) (by decide) ?_
      simp [go_sem]
      refine CallVC.of (cQ) (by decide) ?_
      simp [go_sem]
      refine loop_inv (6 :: 7 :: 8 :: 9 :: List.range' 21 34) (fun i : Nat => [(6, .own 125 (ivO q f q.length i).length (omons (ivO q f q.length i))), (7, .int i)]) (fun i => i ≤ q.length) (fun i => q.length - i) 0 (by simp) (by simp [go_sem, ivO]) (by simp [go_sem]) ?_
      intro i hi
      simp [go_sem]
      refine ⟨fun h => ?_, fun h => ?_⟩ <;> simp at h
      · have hif : i < q.length := by omega
        have c1 := l13One_c n i (by omega) (by omega)
        have hO := ivO_ok (q := q) hfw h20 (by omega) i
        have o1 := hO.1
        have o2 := hO.2
        clear hO
        have o3 : 20 * q.length * i ≤ 20 * 3 * 3 := Nat.mul_le_mul (Nat.mul_le_mul (Nat.le_refl _) (by omega)) (by omega)
        have ho : ivO q f q.length (i + 1) = ivI q f q.length i (ivO q f q.length i) q.length := rfl
        have eN : ivO q f q.length (i + 1) = ivO q f q.length (i + 1) := rfl
        generalize hA : ivO q f q.length i = acc at *
        simp [go_sem]
        refine CallVC.of (c1) (by decide) ?_
        simp [go_sem]
        refine loop_inv (6 :: 9 :: List.range' 33 22) (fun k : Nat => [(6, .own 125 (ivI q f q.length i acc k).length (omons (ivI q f q.length i acc k))), (9, .int k)]) (fun k => k ≤ q.length) (fun k => q.length - k) 0 (by simp) (by simp [go_sem, ivI]) (by simp [go_sem]) ?_
        intro k hk
        simp [go_sem]
        refine ⟨fun h => ?_, fun h => ?_⟩ <;> simp at h
        · have hkq : k < q.length := by omega
          have hkf : k < f.length := by omega
          have hrow := hS.2.2 _ (memD [] hif)
          have hkr : k < (q[i]?.getD []).length := by omega
          have hW := ivI_ok (q := q) hfw h20 (i := i) o1 k (by omega)
          have w1 := hW.1.1
          have w4 := hW.2
          clear hW
          have hx := hfw _ (memD [] hkf)
          have hx20 := h20 _ (memD [] hkf)
          have hI : ivI q f q.length i acc (k + 1) = plusL (ivI q f q.length i acc k) ((q[i]?.getD [])[k]?.getD 0) (prodL [(1, oneE q.length i)] (f[k]?.getD [])) := rfl
          have pl := prodL_len [((1 : Int), oneE q.length i)] (f[k]?.getD [])
          simp only [List.length_singleton, Nat.one_mul] at pl
          have cP := l13Product_c [((1 : Int), oneE q.length i)] (f[k]?.getD []) (by omega) (by omega) (by omega) (by omega) (by omega) (one_wok q.length i) hx (by simp) (by omega) (by simp; omega)
          have cA := l13Plus_c (k := (q[i]?.getD [])[k]?.getD 0) (ivI q f q.length i acc k) (prodL [(1, oneE q.length i)] (f[k]?.getD [])) (by omega) (hrow.2.get k) w1 (ivP_wok hfw i hkf) (by omega)
          rw [← hI] at cA
          have ml : mons [((1 : Int), oneE q.length i)] = [.int 1, .sl n (avs (oneE n i))] := by rw [qn]; simp [mons]
          rw [ml, List.length_singleton] at cP
          generalize ivI q f q.length i acc k = L1 at *
          generalize hN : ivI q f q.length i acc (k + 1) = L2 at *
          generalize prodL [(1, oneE q.length i)] (f[k]?.getD []) = Q at *
          simp [go_sem, prt_drop hkf]
          refine ⟨by kernel_rfl, ⟨hkf, by rintro rfl; simp at hkf⟩, ?_⟩
          refine CallD.of (cP) (by simp [roots, rootsL]) (by decide) ?_
          simp [go_sem]
          simp [go_sem, mat_drop hif, avs_drop hkr]
          refine ⟨⟨hif, by rintro rfl; simp at hif⟩, ⟨hkr, by intro e; simp [e] at hkr⟩, ?_⟩
          refine CallD.of (cA) (by simp [roots, rootsL]) (by decide) ?_
          simp [go_sem]
          refine ⟨by kernel_rfl, ?_⟩
          simp [go_sem]
          exact ⟨by omega, k + 1, by omega, by omega, Off_reset _ _ _ (by simp), by rw [hN]; exact ⟨rfl, rfl⟩, by omega⟩
        · have e : k = q.length := by omega
          subst e
          rw [← ho]
          simp [go_sem]
          exact ⟨by omega, i + 1, by omega, by omega, (Off.reset (by intro x hx; simp at hx ⊢; omega) (by simp) (by simp [go_sem, Off_reset])), ⟨rfl, rfl⟩, by omega⟩
      · have e : i = q.length := by omega
        subst e
        simp [go_sem]
end Go.Proofs.YtnokgijakdaehaaGreatDoor


namespace Go.Proofs.YtnokgijakdaehaaGreatDoor
open Go.Abs
set_option linter.unusedSectionVars false
set_option linter.unusedVariables false
set_option linter.unusedSimpArgs false
set_option maxHeartbeats 4000000
theorem sym_at {A : List (List Int)} (h : symB A = true) {i k : Nat} (hi : i < A.length) (hk : k < A.length) : mx A i k = mx A k i := by
  unfold symB at h
  have h1 := List.all_eq_true.1 h i (by simpa using hi)
  have h2 := List.all_eq_true.1 h1 k (by simpa using hk)
  exact of_decide_eq_true h2
theorem gauss_tab : Tab [[2502, 588], [4416, 2502]] [5004, 5004] := tabB_iff.1 (by decide)
theorem middle_tab : Tab [[5004]] [1] := tabB_iff.1 (by decide)
set_option maxRecDepth 100000 in
theorem FnKeptForms_c (c : List Int) (hl : c.length ≤ 9223372036854775807) (hb : ∀ x ∈ c, 0 ≤ x ∧ x ≤ 255) : Con Tryz.prog 6 [.sl c.length (bys c)] (.bool true) := by
  have cB := big_c c hl
  by_cases hc4 : 4096 < c.length
  · refine con_of_vc Tryz.mixed ⟨27, [], [1000000 + 23, 1000000 + 32, 2000000 + 29], []⟩ Tryz.func6 (by decide) rfl (by simp) (by decide) (by simp [freshOK, freshL, go_sem]) ?_
    rw [Tryz.ntmps6]
    simp [go_sem]
    refine CallVC.of (cB) (by decide) ?_
    simp [go_sem]
    simp [go_sem, hc4]
  · have hc : Byt c := ⟨by omega, hb⟩
    have cD := DrawIsInvariantForm_f c hc
    have cR := roll_g c 612 hc
    refine con_of_vc Tryz.mixed ⟨27, [], [1000000 + 23, 1000000 + 32, 2000000 + 29], []⟩ Tryz.func6 (by decide) rfl (by simp) (by decide) (by simp [freshOK, freshL, go_sem]) ?_
    rw [Tryz.ntmps6]
    simp [go_sem]
    refine CallVC.of (cB) (by decide) ?_
    simp [go_sem]
    simp [go_sem, hc4]
    refine ⟨_, cD, ?_⟩
    rintro _ _ ⟨rfl, z, f, q, hS, hq3, hqr, rfl⟩
    have c1 := IsInvariantForm_c z f q hS (by omega) (fun r h => by have := hqr r h; omega)
    have c2 := specIsInvariantForm_c z f q hS (by omega) (fun r h => by have := hqr r h; omega)
    unfold ifR at c1 c2
    simp [go_sem]
    refine CallVC.of (c1) (by decide) ?_
    simp [go_sem]
    refine CallVC.of (c2) (by decide) ?_
    simp [go_sem]
    by_cases hE : ifE z f q = 0
    · by_cases hI : ivO q f q.length q.length = []
      · have hX : ifX z f q = true := by unfold ifX; simp [hE, hI]
        obtain ⟨hF, hQ⟩ := ifE_ok hE
        have hFO := fieldB_iff.1 hF
        have z1 := hFO.lo
        have z3 := hFO.hi
        have fl := hFO.len
        obtain ⟨n, rfl⟩ : ∃ n : Nat, z = n := ⟨z.toNat, by omega⟩
        have hfn : f.length = n := by omega
        have hQ2 : sqB n q = true ∧ symB q = true := by unfold formB at hQ; simpa using hQ
        have hSq := sqB_iff.1 hQ2.1
        have hqn : q.length = n := by omega
        have hsy : ∀ i k, i < f.length → k < f.length → mx q i k = mx q k i := fun i k hi hk => sym_at hQ2.2 (by omega) (by omega)
        rw [hqn, ← hfn] at hI
        have s0 : SOk ((0, rlH c 612 c.length) : Src) := by unfold SOk; simp
        have c3 := list5_c c (0, rlH c 612 c.length) n hc s0 (by omega)
        have L3 := lsV_ok (f := n5V c) (fun σ h => n5V_ok hc h) n (0, rlH c 612 c.length) s0
        generalize lsV (n5V c) n (0, rlH c 612 c.length) = r3 at *
        obtain ⟨y, τ⟩ := r3
        simp only at L3 c3
        obtain ⟨yl, yN, _⟩ := L3
        have c4 := FlowSeries_c n f y hS (by omega)
        unfold fsR at c4
        have e4 : fpE n f y = 0 := by unfold fpE; rw [if_pos hF, if_pos (vecB_iff.2 ⟨by omega, yN⟩)]
        have x4 : fsX n f y = turnS (floS f y 6) := by unfold fsX; rw [if_pos e4]
        have w4 := fsX_row e4
        have fr := floS_row (f := f) yN 6
        have flen := floS_len f y 6
        have t4 : turnS (fsX n f y) = floS f y 6 := by rw [x4]; exact turn_turn (a := n) (b := 7) (by omega) (by omega) (by omega) (fun r h => (fr r h).1)
        have b4 : serB n (fsX n f y) = true := serB_iff.2 ⟨w4.1, fun r h => ⟨by have := (w4.2 r h).1; omega, (w4.2 r h).2⟩⟩
        have c5 := FormSeries_c n f q (fsX n f y) n hS hF hQ b4 hqn
        rw [w4.1] at c5
        rw [t4] at c5
        rw [e4, w4.1] at c4
        obtain ⟨k1, k0⟩ := kept_law gauss_tab kp_gauss hFO hsy (by omega) yN hI
        have k2 := (kept_law middle_tab kp_middle hFO hsy (by omega) yN hI).1
        have po : R7 n (poS y) := by rw [← yl]; exact po_R7 yN
        have step : ∀ (A : List (List Int)) (B : List Int), Tab A B → stE A B n f y = 0 ∧ (ssX A B n f y).length = 7 ∧ serB n (ssX A B n f y) = true ∧ turnS (ssX A B n f y) = steS A B f (poS y) := fun A B hT => by
          have e : stE A B n f y = 0 := by
            unfold stE
            rw [tabB_iff.2 hT, hF, vecB_iff.2 ⟨by omega, yN⟩]; rfl
          have x : ssX A B n f y = turnS (steS A B f (poS y)) := by unfold ssX; rw [if_pos e]
          have sr := ste_R7 (A := A) (B := B) (f := f) po
          obtain ⟨p1, p2⟩ := ste_point (A := A) (B := B) (f := f) (by omega) yN
          refine ⟨e, by rw [x]; exact p1, ?_, ?_⟩
          · rw [x]; exact serB_iff.2 ⟨p1, fun r h => ⟨by have := (p2 r h).1; omega, (p2 r h).2⟩⟩
          · rw [x]; exact turn_turn (a := n) (b := 7) sr.1 (by omega) (by omega) (fun r h => (sr.2 r h).1)
        obtain ⟨g1, g2, g3, g4⟩ := step _ _ gauss_tab
        obtain ⟨m1, m2, m3, m4⟩ := step _ _ middle_tab
        have c6 := StepSeries_c [[2502, 588], [4416, 2502]] [5004, 5004] n f y (by decide) (by decide) (by decide) hS (by omega)
        have c7 := FormSeries_c n f q (ssX [[2502, 588], [4416, 2502]] [5004, 5004] n f y) n hS hF hQ g3 hqn
        have c8 := StepSeries_c [[5004]] [1] n f y (by decide) (by decide) (by decide) hS (by omega)
        have c9 := FormSeries_c n f q (ssX [[5004]] [1] n f y) n hS hF hQ m3 hqn
        unfold ssR at c6 c8
        rw [hfn] at k0 k1 k2
        rw [g2, g4, k1] at c7
        rw [m2, m4, k2] at c9
        rw [g1, g2] at c6
        rw [m1, m2] at c8
        have vl := fmO_len q (floS f y 6) n n
        have cL := likeInts_c (fmO q (floS f y 6) n n) (fmO q (floS f y 6) n n) (by omega)
        rw [vl] at cL
        simp only [decide_true] at cL
        generalize fmO q (floS f y 6) n n = V at *
        generalize fsX n f y = X4 at *
        generalize ssX [[2502, 588], [4416, 2502]] [5004, 5004] n f y = X6 at *
        generalize ssX [[5004]] [1] n f y = X8 at *
        unfold dicA at *
        rw [yl] at c4 c6 c8
        simp [go_sem, hE, hX]
        refine ⟨by kernel_rfl, ?_⟩
        refine ⟨_, _, cR, ?_⟩
        simp [go_sem]
        refine ⟨_, _, c3, ?_⟩
        simp [go_sem]
        refine ⟨by kernel_rfl, ?_⟩
        simp [go_sem]
        refine CallVC.of (c4) (by decide) ?_
        simp [go_sem]
        refine CallVC.of (c5) (by decide) ?_
        simp [go_sem]
        refine CallVC.of (nm_gauss) (by decide) ?_
        simp [go_sem]
        refine CallVC.of (c6) (by decide) ?_
        simp [go_sem]
        refine CallVC.of (c7) (by decide) ?_
        simp [go_sem]
        refine CallVC.of (nm_middle) (by decide) ?_
        simp [go_sem]
        refine CallVC.of (c8) (by decide) ?_
        simp [go_sem]
        refine CallVC.of (c9) (by decide) ?_
        simp [go_sem]
        refine loop_inv (2 :: 26 :: List.range' 144 11) (fun i : Nat => [(26, .int i)]) (fun i => 1 ≤ i ∧ i ≤ 7) (fun i => 7 - i) 1 (by omega) (by simp [go_sem]) (by simp [go_sem]) ?_
        rintro i ⟨i1, i7⟩
        by_cases hi : i < 7
        · have hiV : i < V.length := by omega
          have ea := avs_at hiV
          rw [k0 i (by omega) hi] at ea
          have hii : (i : Int) < 7 := by omega
          simp [go_sem, hii, ea]
          exact ⟨⟨by omega, by omega⟩, i + 1, ⟨by omega, by omega⟩, by omega, Off_reset _ _ _ (by simp), by omega⟩
        · have e : i = 7 := by omega
          subst e
          simp [go_sem]
          refine CallVC.of (cL) (by decide) ?_
          simp [go_sem]
          refine CallVC.of (cL) (by decide) ?_
          simp [go_sem]
      · have hX : ifX z f q = false := by unfold ifX; simp [hI]
        simp [go_sem, hE, hX]
    · simp [go_sem, hE]
end Go.Proofs.YtnokgijakdaehaaGreatDoor

