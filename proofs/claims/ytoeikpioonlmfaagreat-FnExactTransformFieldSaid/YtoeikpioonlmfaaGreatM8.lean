/- Texts of the own layer and contracts, part 8: V12 L39. -/
import Derived.Test.YtoeikpioonlmfaaGreatM7
namespace Go.Proofs.YtoeikpioonlmfaaGreat
open Go.Abs
set_option linter.unusedSectionVars false
set_option linter.unusedVariables false
set_option linter.unusedSimpArgs false
set_option maxHeartbeats 2000000
theorem sum_take (l : List Int) (j : Nat) : ((l.take j).map Int.toNat).sum ≤ (l.map Int.toNat).sum := by
  have h : l.map Int.toNat = (l.take j).map Int.toNat ++ (l.drop j).map Int.toNat := by rw [← List.map_append, List.take_append_drop]
  rw [h, List.sum_append]
  omega
theorem mvL_snoc (n : Nat) (A : List (List Mon)) {p : List Mon} {k : Nat} (h : k < p.length) : mvL n A (p.take (k + 1)) = plusL (mvL n A (p.take k)) 1 (chQ' n A (p[k]?.getD (0, [])) A.length) := by
  unfold mvL
  rw [List.take_add_one, List.foldl_append]; simp [h]
section
variable {z : Int} {f : List (List Mon)} {m : List (List Int)}
theorem TfOk.ch_len (h : TfOk z f m) {i : Nat} (hi : i < f.length) {a : Mon} (ha : a ∈ f[i]?.getD []) (j : Nat) : (chQ' m.length (linF m) a j).length ≤ 27 := by
  have hp := h.hF.part _ (memD [] hi)
  obtain ⟨h1, h2⟩ := degL_le (by omega) (degB_of hp a ha)
  have h3 := chQ_len (n := m.length) (linF_len3 h) j (m := a)
  have h4 := sum_toNat a.2 (fun x hx => (h1 x hx).1)
  have h5 := sum_take a.2 j
  have h6 := Nat.pow_le_pow_right (show 0 < 3 by omega) (show ((a.2.take j).map Int.toNat).sum ≤ 3 by omega)
  omega
theorem TfOk.mvk_len (h : TfOk z f m) {i : Nat} (hi : i < f.length) (k : Nat) : (mvL m.length (linF m) ((f[i]?.getD []).take k)).length ≤ 540 := by
  have hp := h.hF.part _ (memD [] hi)
  have hd := degB_of hp
  have h1 := mvL_len (z := z) (n := m.length) (linF_len3 h) (linF_len m) (p := (f[i]?.getD []).take k) (fun a ha => by
    have ha := List.mem_of_mem_take ha
    exact ⟨partB_mem hp ha, hd a ha, by have := (partB_mem hp ha).len; have := h.zm; omega⟩)
  have h2 := part20 h.hF.hi hp
  have h3 : ((f[i]?.getD []).take k).length ≤ (f[i]?.getD []).length := by rw [List.length_take]; omega
  omega
end
set_option maxRecDepth 100000 in
theorem specTransformField_c (z : Int) (f : List (List Mon)) (m : List (List Int)) (hs : Small f) (hm : m.length ≤ 1048576) (hr : ∀ r ∈ m, r.length ≤ 1048576) :
    Con Tryz.prog 25 [.agg [.int z, .sl f.length (prt f)], .sl m.length (mat m)] (tfR z f m) := by
  have cI := l13Is_c z f hs
  have cQ := l13Square_c z m (by omega) (fun r h => by have := hr r h; omega)
  unfold tfR tfX
  cases h1 : fieldB z f with
  | false =>
    have e : tfE z f m = 1 := by unfold tfE; rw [h1]; rfl
    rw [h1] at cI
    rw [e]
    refine nF _ ?_
    refine con_of_vc Tryz.mixed ⟨20, [6], [], []⟩ Tryz.func25 (by decide) rfl (by simp) (by decide) (by simp [freshOK, freshL, go_sem]) ?_
    rw [Tryz.ntmps25]
    simp [go_sem]
    refine CallVC.of (cI) (by decide) ?_
    simp [go_sem]
  | true =>
  cases h2 : sqB z m with
  | false =>
    have e : tfE z f m = 1 := by unfold tfE; rw [h1, h2]; rfl
    rw [h1] at cI
    rw [h2] at cQ
    rw [e]
    refine nF _ ?_
    refine con_of_vc Tryz.mixed ⟨20, [6], [], []⟩ Tryz.func25 (by decide) rfl (by simp) (by decide) (by simp [freshOK, freshL, go_sem]) ?_
    rw [Tryz.ntmps25]
    simp [go_sem]
    refine CallVC.of (cI) (by decide) ?_
    simp [go_sem]
    refine CallVC.of (cQ) (by decide) ?_
    simp [go_sem]
  | true =>
  rw [h1] at cI
  rw [h2] at cQ
  have okk := TfOk.of h1 h2
  have hF := okk.hF
  have n1 := okk.n1
  have n3 := okk.n3
  have zm := okk.zm
  have fl := okk.fl
  have hR := okk.hr
  have cV := specInverse_c m n1 (by omega) hR
  by_cases hd : ldet m.length m = 0
  · have e : tfE z f m = 5 := by unfold tfE; rw [h1, h2, hd]; rfl
    rw [if_pos hd] at cV
    rw [e]
    refine nF _ ?_
    refine con_of_vc Tryz.mixed ⟨20, [6], [], []⟩ Tryz.func25 (by decide) rfl (by simp) (by decide) (by simp [freshOK, freshL, go_sem]) ?_
    rw [Tryz.ntmps25]
    simp [go_sem]
    refine CallVC.of (cI) (by decide) ?_
    simp [go_sem]
    refine CallVC.of (cQ) (by decide) ?_
    simp [go_sem]
    refine CallVC.of (cV) (by decide) ?_
    simp [go_sem]
  · have e : tfE z f m = 0 := by unfold tfE; rw [h1, h2, if_neg hd]; rfl
    rw [if_neg hd] at cV
    rw [e]
    simp only [if_true]
    obtain ⟨bl, bR⟩ := invL_ok n1 rfl hR
    generalize hB : invL m.length m = B at *
    subst zm
    refine con_of_vc Tryz.mixed ⟨20, [6], [], []⟩ Tryz.func25 (by decide) rfl (by simp) (by decide) (by simp [freshOK, freshL, go_sem]) ?_
    rw [Tryz.ntmps25]
    simp [go_sem]
    refine CallVC.of (cI) (by decide) ?_
    simp [go_sem]
    refine CallVC.of (cQ) (by decide) ?_
    simp [go_sem]
    refine CallVC.of (cV) (by decide) ?_
    simp [go_sem]
    refine loop_inv (List.range' 8 8 ++ List.range' 40 63) (fun i : Nat => [(8, .own 92 i (oprt ((f.map (mvL m.length (linF m))).take i))), (9, .int i)]) (fun i => i ≤ f.length) (fun i => f.length - i) 0 (by simp) (by simp [go_sem, oprt]) (by simp [go_sem]) ?_
    intro i hi
    by_cases hif : i < f.length
    · have hii : (i : Int) < f.length := by omega
      have nf : ¬ f = [] := by rintro rfl; simp at hif
      have hp := hF.part _ (memD [] hif)
      have pd := prt_drop hif
      have sn := oprt_snoc (f.map (mvL m.length (linF m))) (i := i) (by simpa using hif)
      have se : (f.map (mvL m.length (linF m)))[i]?.getD [] = mvL m.length (linF m) (f[i]?.getD []) := by simp [hif]
      rw [se] at sn
      have mk := okk.mvk_len hif
      have hmem : ∀ a ∈ f[i]?.getD [], MonOk m.length a ∧ VOk m.length a := fun a ha => ⟨partB_mem hp ha, okk.vok _ (memD [] hif) a ha⟩
      have cl := fun a (ha : a ∈ f[i]?.getD []) j => okk.ch_len hif ha j
      have pl := (hs.2 _ (memD [] hif)).1
      have wk : ∀ k, ∀ a ∈ mvL m.length (linF m) ((f[i]?.getD []).take k), WOk m.length 9 a := fun k => (Rlt.sub okk.n3 (by simp) (linF_len m) okk.line (p := (f[i]?.getD []).take k) (fun a ha => (hmem a (List.mem_of_mem_take ha)).2)).wok
      generalize f[i]?.getD [] = p at *
      simp [go_sem, hii]
      refine loop_inv (List.range' 10 6 ++ List.range' 48 51) (fun k : Nat => [(10, .own 97 (mvL m.length (linF m) (p.take k)).length (omons (mvL m.length (linF m) (p.take k)))), (11, .int k)]) (fun k => k ≤ p.length) (fun k => p.length - k) 0 (by simp) (by simp [go_sem, mvL, omons]) (by simp [go_sem]) ?_
      intro k hk
      by_cases hkp : k < p.length
      · have hki : (k : Int) < p.length := by omega
        have np : ¬ p = [] := by rintro rfl; simp at hkp
        have md := mons_drop hkp
        have ms := mvL_snoc m.length (linF m) hkp
        obtain ⟨mo, vo⟩ := hmem _ (memD (0, []) hkp)
        have cla := cl _ (memD (0, []) hkp)
        have ch := Rlt.chain okk.n3 (by simp) (linF_len m) okk.line vo
        generalize p[k]?.getD (0, []) = a at *
        have al : a.2.length = m.length := by have := mo.len; omega
        have c0 : omons (chQ' m.length (linF m) a 0) = [.int a.1, .own 2 m.length (avs (List.replicate m.length 0))] := by simp [chQ', omons]
        have c0l : (chQ' m.length (linF m) a 0).length = 1 := rfl
        simp [go_sem, hii, hki, pd, md]
        refine ⟨nf, np, by kernel_rfl, ⟨by omega, by omega⟩, ?_⟩
        refine ⟨by kernel_rfl, ?_⟩
        simp [go_sem]
        simp [go_sem, avs_repl]
        refine loop_inv (List.range' 13 3 ++ List.range' 73 23) (fun j : Nat => [(13, .own 97 (chQ' m.length (linF m) a j).length (omons (chQ' m.length (linF m) a j))), (14, .int j)]) (fun j => j ≤ m.length) (fun j => m.length - j) 0 (by simp) (by simp [go_sem, c0, c0l]) (by simp [go_sem]) ?_
        intro j hj
        by_cases hjm : j < m.length
        · have hji : (j : Int) < a.2.length := by omega
          have hja : j < a.2.length := by omega
          have na : ¬ a.2 = [] := by intro e; rw [e] at hja; simp at hja
          have ad := avs_drop hja
          have gj := mo.get j
          have hA := okk.line j hjm
          have q := hR.at hjm
          have cL := l13Linear_c (m[j]?.getD []) (by omega) q.2
          rw [← linF_get hjm] at cL
          have l3 := linF_len3 okk j
          have chj := ch j (by omega)
          have lej := cla j
          have es : chQ' m.length (linF m) a (j + 1) = stL ((linF m)[j]?.getD []) (chQ' m.length (linF m) a j) (a.2[j]?.getD 0).toNat := rfl
          have rp := fun t => Rlt.pow okk.n3 chj hA t
          obtain ⟨x, hx⟩ : ∃ x : Nat, a.2[j]?.getD 0 = x := ⟨(a.2[j]?.getD 0).toNat, by omega⟩
          rw [List.getD_eq_getElem?_getD, hx] at ad
          rw [hx] at es gj
          rw [Int.toNat_natCast] at es
          have sl := fun t => stL_len (c := chQ' m.length (linF m) a j) l3 t
          have drw := mat_drop hjm
          generalize (linF m)[j]?.getD [] = Aj at *
          generalize m[j]?.getD [] = row at *
          generalize hC1 : chQ' m.length (linF m) a (j + 1) = C1 at *
          generalize chQ' m.length (linF m) a j = C at *
          simp [go_sem, hji]
          refine loop_inv (13 :: 15 :: List.range' 80 16) (fun t : Nat => [(13, .own 97 (stL Aj C t).length (omons (stL Aj C t))), (15, .int t)]) (fun t => t ≤ x) (fun t => x - t) 0 (by simp) (by simp [go_sem, stL]) (by simp [go_sem]) ?_
          intro t ht
          by_cases htx : t < x
          · have hti : (t : Int) < x := by omega
            have st3 : 3 ^ t ≤ 3 ^ 3 := Nat.pow_le_pow_right (by omega) (by omega)
            have slt := sl t
            have sle : (stL Aj C t).length ≤ 27 * 27 := Nat.le_trans slt (Nat.mul_le_mul lej st3)
            have cP := l13Product_c (stL Aj C t) Aj (n := m.length) (B := 3 * (j : Int) + (t : Int)) (C := 1) (by omega) (by omega) (by omega) (by omega) (by omega) (rp t).wok hA.wok (by omega) (by omega) (by have := Nat.mul_le_mul sle l3; omega)
            have e1 : stL Aj C (t + 1) = prodL (stL Aj C t) Aj := rfl
            rw [← e1] at cP
            generalize hS1 : stL Aj C (t + 1) = S1 at *
            simp [go_sem, hji, ad, hti, drw]
            refine ⟨na, ⟨hjm, fun e => by rw [e] at hjm; simp at hjm⟩, ?_⟩
            refine CallVC.of (cL) (by decide) ?_
            simp [go_sem]
            refine CallVC.of (cP) (by decide) ?_
            simp [go_sem]
            exact ⟨⟨by omega, by omega⟩, t + 1, by omega, by omega, Off_reset _ _ _ (by simp), by simp [hS1], by omega⟩
          · have e : t = x := by omega
            subst e
            have hti : ¬ (t : Int) < t := by omega
            simp [go_sem, hji, ad, hti]
            exact ⟨na, ⟨by omega, by omega⟩, j + 1, by omega, by omega, (Off.reset (by intro x hx; simp at hx ⊢; omega) (by simp) (by simp [go_sem, Off_reset])), by simp [hC1, es], by omega⟩
        · have e : j = m.length := by omega
          subst e
          have hji : ¬ (m.length : Int) < a.2.length := by omega
          have cP := l13Plus_c (mvL m.length (linF m) (p.take k)) (chQ' m.length (linF m) a m.length) (k := 1) (by omega) ⟨by omega, by omega⟩ (wk k) (fun x hx => ((ch m.length (Nat.le_refl _)).wok x hx).le (by omega)) (by have := mk k; have := cla m.length; omega)
          rw [linF_len] at ms
          rw [← ms] at cP
          simp [go_sem, hji]
          refine CallVC.of (cP) (by decide) ?_
          simp [go_sem]
          exact ⟨⟨by omega, by omega⟩, k + 1, by omega, by omega, (Off.reset (by intro x hx; simp at hx ⊢; omega) (by simp) (by simp [go_sem, Off_reset])), by simp, by omega⟩
      · have e : k = p.length := by omega
        subst e
        have hki : ¬ (p.length : Int) < p.length := by omega
        rw [List.take_length]
        simp [go_sem, hii, hki, pd]
        refine ⟨nf, ⟨by omega, by omega, by omega⟩, ⟨by omega, by omega⟩, i + 1, by omega, by omega, (Off.reset (by intro x hx; simp at hx ⊢; omega) (by simp) (by simp [go_sem, Off_reset])), ⟨by omega, sn.symm⟩, by omega⟩
    · have e : i = f.length := by omega
      subst e
      have hii : ¬ (f.length : Int) < f.length := by omega
      rw [List.take_of_length_le (by simp)]
      have ml : (f.map (mvL m.length (linF m))).length = m.length := by simp [fl]
      have mg : ∀ k, k < m.length → (f.map (mvL m.length (linF m)))[k]?.getD [] = mvL m.length (linF m) (f[k]?.getD []) := fun k hk => by simp [fl, hk]
      have tl := trF_len m.length m f B
      have ta := fun i (hi : i < m.length) => trF_at (m := m) (f := f) (B := B) hi
      generalize trF m.length m f B = G at *
      simp [go_sem, hii]
      refine loop_inv (List.range' 16 4 ++ List.range' 106 32) (fun i : Nat => [(16, .box 26 [.int m.length, ptA G i]), (17, .int i)]) (fun i => i ≤ m.length) (fun i => m.length - i) 0 (by simp) (by simp [go_sem, ptA_zero]) (by simp [go_sem]) ?_
      intro i hi
      by_cases him : i < m.length
      · have hii : (i : Int) < m.length := by omega
        have hiB : i < B.length := by omega
        have q := bR.at hiB
        have bd := mat_drop hiB
        have gi := ta i him
        have sn := oprt_snoc G (i := i) (by omega)
        rw [gi] at sn
        generalize hrow : B[i]?.getD [] = row at *
        simp [go_sem, hii]
        refine loop_inv (18 :: 19 :: List.range' 113 19) (fun k : Nat => [(18, .own 97 (rwQ m.length (linF m) f row k).length (omons (rwQ m.length (linF m) f row k))), (19, .int k)]) (fun k => k ≤ m.length) (fun k => m.length - k) 0 (by simp) (by simp [go_sem, rwQ, omons]) (by simp [go_sem]) ?_
        intro k hk
        by_cases hkm : k < m.length
        · have hki : (k : Int) < m.length := by omega
          have hkf : (k : Int) < f.length := by omega
          have og := oprt_get (T := f.map (mvL m.length (linF m))) (k := k) (by omega)
          rw [mg k hkm] at og
          have hkr : k < row.length := by omega
          have rd := avs_drop hkr
          have ro := okk.rows row k (by omega)
          have mw := (Rlt.sub okk.n3 (by simp) (linF_len m) okk.line (okk.vok _ (memD [] (show k < f.length by omega)))).wok
          have rl := okk.rw_len row k (by omega)
          have m5 := okk.mv_len (show k < f.length by omega)
          have cP := l13Plus_c (rwQ m.length (linF m) f row k) (mvL m.length (linF m) (f[k]?.getD [])) (k := row[k]?.getD 0) (by omega) (q.2.get k) ro.1.wok mw (by omega)
          have e1 : rwQ m.length (linF m) f row (k + 1) = plusL (rwQ m.length (linF m) f row k) (row[k]?.getD 0) (mvL m.length (linF m) (f[k]?.getD [])) := rfl
          rw [← e1] at cP
          generalize hR1 : rwQ m.length (linF m) f row (k + 1) = R1 at *
          generalize rwQ m.length (linF m) f row k = R0 at *
          generalize mvL m.length (linF m) (f[k]?.getD []) = Mk at *
          simp [go_sem, hki, hkf, og, bd, rd]
          refine ⟨by kernel_rfl, ⟨him, fun e => by rw [e] at hiB; simp at hiB⟩, ⟨hkr, fun e => by rw [e] at hkr; simp at hkr⟩, ?_⟩
          refine CallD.of (cP) (by simp [roots, rootsL]) (by decide) ?_
          simp [go_sem]
          refine ⟨by kernel_rfl, ?_⟩
          simp [go_sem]
          exact ⟨⟨by omega, by omega⟩, k + 1, by omega, by omega, Off_reset _ _ _ (by simp), by simp [hR1], by omega⟩
        · have e : k = m.length := by omega
          subst e
          have hki : ¬ (m.length : Int) < m.length := by omega
          have hkf : ¬ (m.length : Int) < f.length := by omega
          rcases i with _ | j
          · simp [go_sem, hki, hkf, ptA_zero]
            refine ⟨1, by omega, by omega, (Off.reset (by intro x hx; simp at hx ⊢; omega) (by simp) (by simp [go_sem, Off_reset])), ?_, by simp⟩
            rw [ptA_succ, sn]
            simp [oprt]
          · simp [go_sem, hki, hkf, ptA_succ]
            refine ⟨⟨by omega, by omega, by omega⟩, by omega, j + 1 + 1, by omega, by omega, (Off.reset (by intro x hx; simp at hx ⊢; omega) (by simp) (by simp [go_sem, Off_reset])), ?_, by omega⟩
            rw [ptA_succ, sn]
      · have e : i = m.length := by omega
        subst e
        have hii : ¬ (m.length : Int) < m.length := by omega
        obtain ⟨j, hj⟩ : ∃ j, m.length = j + 1 := ⟨m.length - 1, by omega⟩
        have pa : ptA G m.length = .own 92 m.length (oprt G) := by
          rw [hj, ptA, ← hj, List.take_of_length_le (by omega)]
        simp [go_sem, hii, pa]
end Go.Proofs.YtoeikpioonlmfaaGreat


namespace Go.Proofs.YtoeikpioonlmfaaGreat
open Go.Abs
set_option linter.unusedSectionVars false
set_option linter.unusedVariables false
set_option linter.unusedSimpArgs false
set_option maxHeartbeats 4000000
set_option maxRecDepth 100000 in
theorem law39_c (z0 : Int) (f0 : List (List Mon)) (q1 : List (List Int)) (hf0 : Fit f0) (hq1 : q1.length ≤ 9223372036854775807) (hr1 : ∀ r ∈ q1, r.length ≤ 9223372036854775807) :
    Con Tryz.prog 4 [.agg [.int z0, .sl f0.length (prt f0)], .sl q1.length (mat q1)] (.bool true) := by
  refine con_of_vc Tryz.mixed ⟨17, [], [31, 32], []⟩ Tryz.func4 (by decide) rfl (by simp) (by decide) (by simp [freshOK, freshL, go_sem]) ?_
  rw [Tryz.ntmps4]
  simp [go_sem]
  have cS0 := szField_c z0 f0 (1048576) hf0 (by omega) (by omega)
  refine CallVC.of (cS0) (by decide) ?_
  simp [go_sem]
  by_cases hs0 : szF (1048576) f0 < 0
  · simp [go_sem, hs0]
  simp [go_sem, hs0]
  have hc0 := szF_ok.ok (1048576) f0 (by omega) (by omega)
  have hh0 := szF_ok.hi (1048576) f0 (by omega)
  generalize hL0 : szF (1048576) f0 = L0 at *
  have cS1 := szInt64SS_c q1 (L0) hq1 hr1 (by omega) (by omega)
  refine CallVC.of (cS1) (by decide) ?_
  simp [go_sem]
  by_cases hs1 : szM (L0) q1 < 0
  · simp [go_sem, hs1]
  simp [go_sem, hs1]
  have hc1 := szM_ok (A := q1) (left := L0) (by omega) (by omega)
  generalize hL1 : szM (L0) q1 = L1 at *
  have sm0 := small_of (f := f0) (by omega)
  have cT0 := toField_c z0 f0 sm0.1 sm0.2
  have cQ0 := eqField_c z0 f0 hf0
  have fl0 := sm0.1
  have ct0 : (sumC cP f0 : Int) ≤ 1048576 := by unfold cF at hc0; omega
  have q1l : q1.length ≤ 1048576 := by omega
  have q1r : ∀ r ∈ q1, r.length ≤ 1048576 := fun r hr => by have := hc1.2.2 r hr; omega
  have cT1 := toInt64SS_c q1 q1l q1r
  have cQ1 := eqInt64SS_c q1 q1 (by omega) hr1
  simp at cQ1
  have cSp := specTransformField_c z0 f0 q1 sm0 q1l q1r
  have cIm := TransformField_c z0 f0 q1 sm0 q1l q1r
  have xt : Tiny (tfX z0 f0 q1) := tfX_tiny z0 f0 q1
  unfold tfR at cSp cIm
  generalize tfX z0 f0 q1 = xs at cSp cIm xt
  generalize (if tfE z0 f0 q1 = 0 then z0 else 0) = zz at cSp cIm
  generalize tfE z0 f0 q1 = e at cSp cIm
  have cM0 := markField_c z0 f0 (1) sm0.1 sm0.2 (by omega) (by omega)
  have cM1 := markInt64SS_c q1 (1 + sumC cP f0) q1l q1r (by omega) (by omega)
  have p2 : ¬ (1 + (sumC cP f0 : Int) + (sumL q1 : Int) < 0) := by omega
  have xm := xt.small
  have xc := xt.count
  have cE := eqField_c zz xs xt.fit
  have cN := markField_c zz xs 1 xm.1 xm.2 (by omega) (by omega)
  have cH := heldField_c zz xs 1 xm.1 xm.2 (by omega) (by omega)
  have p1 : ¬ (1 + (sumC cP xs : Int) < 0) := by omega
  refine CallVC.of (cT0) (by decide) ?_
  simp [go_sem]
  refine CallVC.of (cT1) (by decide) ?_
  simp [go_sem]
  refine CallVC.of (cSp) (by decide) ?_
  simp [go_sem]
  refine CallVC.of (cT0) (by decide) ?_
  simp [go_sem]
  refine CallVC.of (cT1) (by decide) ?_
  simp [go_sem]
  refine CallVC.of (cIm) (by decide) ?_
  simp [go_sem]
  refine CallVC.of (cE) (by decide) ?_
  simp [go_sem]
  refine ⟨by kernel_rfl, ?_⟩
  refine CallD.of (cT0) (by simp [roots, rootsL]) (by decide) ?_
  simp [go_sem]
  refine CallD.of (cQ0) (by simp [roots, rootsL]) (by decide) ?_
  simp [go_sem]
  refine ⟨by kernel_rfl, ?_⟩
  simp [go_sem]
  refine CallVC.of (cT1) (by decide) ?_
  simp [go_sem]
  refine CallVC.of (cQ1) (by decide) ?_
  simp [go_sem]
  refine ⟨_, _, cM0, ?_⟩
  simp [go_sem]
  refine ⟨_, _, cM1, ?_⟩
  simp [go_sem]
  simp [go_sem, p2]
  refine CallVC.of (cE) (by decide) ?_
  simp [go_sem]
  refine ⟨_, _, cN, ?_⟩
  simp [go_sem]
  refine CallVC.of (cH) (by decide) ?_
  simp [go_sem]
  simp [go_sem, p1]
  refine CallVC.of (cT0) (by decide) ?_
  simp [go_sem]
  refine CallVC.of (cT1) (by decide) ?_
  simp [go_sem]
  refine CallVC.of (cIm) (by decide) ?_
  simp [go_sem]
  refine CallVC.of (cE) (by decide) ?_
  simp [go_sem]
  refine CallVC.of (cH) (by decide) ?_
  simp [go_sem]
  simp [go_sem, p1]
end Go.Proofs.YtoeikpioonlmfaaGreat

