/- Texts of the own layer and contracts, part 7: R2 R10 B10 B11 B12 B13 B14 B15 B16 R3 R7 R8 R9 R11 LK L11. -/
import Derived.Test.YtkfadbccakbpnaaM6
/- Contracts: the reference's determinant, systems solved by it. -/
namespace Go.Proofs.Ytkfadbccakbpnaa
open Go.Abs
set_option linter.unusedVariables false
set_option linter.unusedSimpArgs false
set_option maxHeartbeats 4000000
theorem memR {α : Type} {l : List α} {i : Nat} (d : α) (h : i < l.length) : l[i]?.getD d ∈ l := by simp [h]
theorem avs_tk (xs : List Int) (k : Nat) : (avs xs).take k = avs (xs.take k) := by simp [avs, List.map_take]
theorem avs_dp (xs : List Int) (k : Nat) : (avs xs).drop k = avs (xs.drop k) := by simp [avs, List.map_drop]
/-- A row without a number. -/
def outL (r : List Int) (k : Nat) : List Int := r.take k ++ r.drop (k + 1)
theorem outL_len {r : List Int} {k : Nat} (h : k < r.length) : (outL r k).length = r.length - 1 := by simp [outL]; omega
theorem minL_succ {a : List (List Int)} {k i : Nat} (h : i + 1 < a.length) : ((List.range (i + 1)).map fun r => outL (a[r + 1]?.getD []) k) = ((List.range i).map fun r => outL (a[r + 1]?.getD []) k) ++ [outL (a[i + 1]?.getD []) k] := by
  rw [List.range_succ, List.map_append]; rfl
set_option maxRecDepth 100000 in
theorem l01Minor_c (a : List (List Int)) (k : Nat) (h0 : 0 < a.length) (hl : a.length ≤ 1000) (hr : ∀ r ∈ a, r.length = a.length) (hk : k < a.length) :
    Con Try.prog 195 [.sl a.length (mat a), .int k] (.own 22 (a.length - 1) (omat (minL a k))) := by
  have hm : minL a k = (List.range (a.length - 1)).map fun r => outL (a[r + 1]?.getD []) k := rfl
  rw [hm]
  refine con_of_vc Try.mixed ⟨8, [], [], []⟩ Try.func195 (by decide) rfl (by simp) (by decide) (by simp [freshOK, freshL, go_sem]) ?_
  rw [Try.ntmps195]
  simp [go_sem]
  refine loop_inv (5 :: 6 :: 7 :: List.range' 9 25) (fun i : Nat => [(5, .own 22 i (omat ((List.range i).map fun r => outL (a[r + 1]?.getD []) k))), (6, .int (i + 1))]) (fun i => i + 1 ≤ a.length) (fun i => a.length - i) 0 (by simp; omega) (by simp [go_sem, omat]) (by simp [go_sem]) ?_
  intro i hi
  simp [go_sem]
  refine ⟨fun h => ?_, fun h => ?_⟩ <;> simp at h
  · have hif : i + 1 < a.length := by omega
    have hx := hr _ (memR [] hif)
    have ii : ((i : Int) + 1).toNat = i + 1 := by omega
    have ol := outL_len (r := a[i + 1]?.getD []) (k := k) (by omega)
    have hs := minL_succ (k := k) hif
    have hdr := mat_drop hif
    have hoo : outL (a[i + 1]?.getD []) k = (a[i + 1]?.getD []).take k ++ (a[i + 1]?.getD []).drop (k + 1) := rfl
    generalize a[i + 1]?.getD [] = row at *
    have cO := l01Own_c (row.take k) (by simp; omega)
    have tl : (row.take k).length = k := by simp; omega
    rw [tl] at cO
    simp [go_sem, ii, hdr, avs_tk, avs_dp]
    have kk : ((k : Int) + 1).toNat = k + 1 := by omega
    refine ⟨⟨by omega, by omega, by rintro rfl; simp at hif⟩, by omega, ?_⟩
    refine CallVC.of (cO) (by decide) ?_
    simp [go_sem]
    simp [go_sem, ii, hdr, kk, avs_tk, avs_dp]
    have n1 : k + ((row.length : Int) - ((k : Int) + 1)).toNat = (outL row k).length := by omega
    have n2 : avs (row.take k) ++ avs ((row.drop (k + 1)).take ((row.length : Int) - ((k : Int) + 1)).toNat) = avs (outL row k) := by
      have n3 : (row.drop (k + 1)).take ((row.length : Int) - ((k : Int) + 1)).toNat = row.drop (k + 1) := List.take_of_length_le (by simp; omega)
      rw [n3, ← avs_app, hoo]
    refine ⟨⟨by omega, by omega, by rintro rfl; simp at hif⟩, ⟨by omega, by omega⟩, ⟨by omega, by omega⟩, ⟨by omega, by omega, by omega, by omega⟩, ⟨by omega, by omega⟩, ⟨by omega, by omega⟩, i + 1, by omega, by omega, Off_reset _ _ _ (by simp), ⟨rfl, ?_⟩, by omega⟩
    rw [n1, n2, hs]
    simp [omat]
  · have e : i = a.length - 1 := by omega
    subst e
    simp [go_sem]
theorem lsum_N {t : Nat → Int} : ∀ n, isN (lsum t n)
  | 0 => ⟨by simp [lsum], by simp [lsum]⟩
  | n + 1 => by rw [lsum]; split <;> exact isN_mod _
theorem ldet_isN (n : Nat) (a : List (List Int)) (hl : a.length = n) (hr : Rws n a) : isN (ldet n a) := by
  cases n with
  | zero => exact ⟨by simp [ldet], by simp [ldet]⟩
  | succ n => rw [ldet_is _ a hl hr]; exact isN_mod _
/-- A row cleared by another one. -/
def clrE (a : List (List Int)) (i : Nat) (q : Int) (k j : Nat) : Int := (mx a k (j + 1) - mx a k 0 * q % 10007 * mx a i (j + 1) % 10007) % 10007
theorem clrE_is (a : List (List Int)) (i : Nat) (q : Int) (k j : Nat) : (mx a k (j + 1) - mx a k 0 * q % 10007 * mx a i (j + 1)) % 10007 = clrE a i q k j := by unfold clrE; simp
def rowR (a : List (List Int)) (i : Nat) (q : Int) (k : Nat) : List Int := tb (clrE a i q k) (a.length - 1)
def skp (i r : Nat) : Nat := if r < i then r else r + 1
def cnt (i k : Nat) : Nat := if k ≤ i then k else k - 1
theorem restL_eq (a : List (List Int)) (i : Nat) (q : Int) : restL a i q = (List.range (a.length - 1)).map fun r => rowR a i q (skp i r) := rfl
theorem cnt_same {i k : Nat} (h : k = i) : cnt i (k + 1) = cnt i k := by unfold cnt; rw [if_neg (by omega), if_pos (by omega)]; omega
theorem cnt_next {i k : Nat} (h : k ≠ i) : cnt i (k + 1) = cnt i k + 1 ∧ skp i (cnt i k) = k := by
  unfold cnt skp
  by_cases h1 : k < i
  · rw [if_pos (by omega), if_pos (by omega), if_pos h1]; exact ⟨rfl, rfl⟩
  · rw [if_neg (by omega), if_neg (show ¬ k ≤ i by omega), if_neg (by omega)]; exact ⟨by omega, by omega⟩
set_option maxRecDepth 100000 in
theorem l01Det_c : ∀ (n : Nat) (a : List (List Int)), a.length = n → n ≤ 100 → Rws n a → Con Try.prog 142 [.sl a.length (mat a)] (.int (ldet n a))
  | 0, a, hl, hn, hr => by
    have h0 : a = [] := List.length_eq_zero_iff.1 hl
    subst h0
    refine con_of_vc Try.mixed ⟨13, [], [], []⟩ Try.func142 (by decide) rfl (by simp) (by decide) (by simp [freshOK, freshL, go_sem]) ?_
    rw [Try.ntmps142]
    simp [go_sem]
    rfl
  | n + 1, a, hl, hn, hr => by
    have ih := fun b hb hbr => l01Det_c n b hb (by omega) hbr
    have h0 : ¬ a.length = 0 := by omega
    have ne : ¬ a = [] := by rintro rfl; simp at hl
    have rl : ∀ r ∈ a, r.length = a.length := fun r h => by rw [(hr r h).1, hl]
    have m0 := mat_drop (xss := a) (k := 0) (by omega)
    simp only [List.drop_zero] at m0
    have m1 : AV.sl (a[0]?.getD []).length (avs (a[0]?.getD [])) :: mat a.tail = mat a := by cases a with | nil => simp at hl | cons x l => simp [mat]
    have r0 := hr.at (show 0 < a.length by omega)
    by_cases h4 : n + 1 ≤ 4
    · have h4' : (a.length : Int) ≤ 4 := by omega
      have e0 : ldet (n + 1) a = lsum (fun k => mx a 0 k * ldet n (minL a k) % 10007) (n + 1) := by rw [ldet, if_pos h4]
      rw [e0]
      refine con_of_vc Try.mixed ⟨13, [], [], []⟩ Try.func142 (by decide) rfl (by simp) (by decide) (by simp [freshOK, freshL, go_sem]) ?_
      rw [Try.ntmps142]
      simp [go_sem]
      simp [go_sem, h0, h4', ne]
      refine loop_inv (3 :: 4 :: 5 :: List.range' 19 26) (fun k : Nat => [(3, .int (lsum (fun k => mx a 0 k * ldet n (minL a k) % 10007) k)), (4, .int k)]) (fun k => k ≤ n + 1) (fun k => n + 1 - k) 0 (by simp) (by simp [go_sem, lsum]) (by simp [go_sem]) ?_
      intro k hk
      by_cases hkn : k < n + 1
      · have hki : (k : Int) < a.length := by omega
        have kr : k < (a[0]?.getD []).length := by omega
        have mm : (a[0]?.getD [])[k]?.getD 0 = mx a 0 k := rfl
        have cM := l01Minor_c a k (by omega) (by omega) rl (by omega)
        have ml := minL_len a k
        have mr := minL_ok hl hr hkn
        have cD := ih (minL a k) (by omega) mr
        rw [ml] at cD
        have dN := ldet_isN n (minL a k) (by omega) mr
        have f1 := mul_fits (r0.2.get k) dN
        have ls : lsum (fun k => mx a 0 k * ldet n (minL a k) % 10007) (k + 1) = if k % 2 = 0 then (lsum (fun k => mx a 0 k * ldet n (minL a k) % 10007) k + mx a 0 k * ldet n (minL a k) % 10007) % 10007 else (lsum (fun k => mx a 0 k * ldet n (minL a k) % 10007) k - mx a 0 k * ldet n (minL a k) % 10007) % 10007 := rfl
        have lN := lsum_N (t := fun k => mx a 0 k * ldet n (minL a k) % 10007) k
        have pN := isN_mod (mx a 0 k * ldet n (minL a k))
        simp [go_sem, hki, m0, avs_drop kr, mm]
        simp only [m1]
        have krn : ¬ a[0]?.getD [] = [] := fun e => by rw [e] at kr; simp at kr
        rw [mm] at f1
        refine ⟨by kernel_rfl, by omega, ⟨kr, krn⟩, ?_⟩
        refine CallD.of (cM) (by simp [roots, rootsL]) (by decide) ?_
        simp [go_sem]
        refine CallD.of (cD) (by simp [roots, rootsL]) (by decide) ?_
        simp [go_sem]
        refine CallD.of (l01Mul_c _ _ f1) (by simp [roots, rootsL]) (by decide) ?_
        simp [go_sem]
        refine ⟨by kernel_rfl, ?_⟩
        simp [go_sem]
        have kt : ((k : Nat) : Int).tmod 2 = ((k % 2 : Nat) : Int) := bit_cast k
        simp [go_sem, kt]
        generalize lsum (fun k => mx a 0 k * ldet n (minL a k) % 10007) k = L at *
        generalize mx a 0 k * ldet n (minL a k) % 10007 = p at *
        have fa := add_fits lN pN
        have fs := sub_fits lN pN
        refine ⟨fun h => ?_, fun h => ?_⟩ <;> simp at h
        · have h2 : k % 2 = 0 := by omega
          rw [if_pos h2] at ls
          simp [go_sem]
          refine CallVC.of (l01Add_c _ _ fa) (by decide) ?_
          simp [go_sem]
          exact ⟨by omega, k + 1, by omega, by omega, Off_reset _ _ _ (by simp), by rw [ls], by omega⟩
        · have h2 : ¬ k % 2 = 0 := by omega
          rw [if_neg h2] at ls
          simp [go_sem]
          refine CallVC.of (l01Sub_c _ _ fs) (by decide) ?_
          simp [go_sem]
          exact ⟨by omega, k + 1, by omega, by omega, Off_reset _ _ _ (by simp), by rw [ls], by omega⟩
      · have : k = n + 1 := by omega
        subst this
        have hki : ¬ (n : Int) + 1 < a.length := by omega
        simp [go_sem, hki]
    · have h4' : ¬ (a.length : Int) ≤ 4 := by omega
      have fl := fndR_le a 0 (n + 1) 0
      refine con_of_vc Try.mixed ⟨13, [], [], []⟩ Try.func142 (by decide) rfl (by simp) (by decide) (by simp [freshOK, freshL, go_sem]) ?_
      rw [Try.ntmps142]
      simp [go_sem]
      simp [go_sem, h0, h4', ne]
      refine loop_inv ([2] ++ List.range' 6 7 ++ List.range' 46 83) (fun i : Nat => [(6, .int i)]) (fun i => i ≤ n + 1 ∧ fndR a 0 (n + 1 - i) i = fndR a 0 (n + 1) 0) (fun i => n + 1 - i) 0 (by simp) (by simp [go_sem]) (by simp [go_sem]) ?_
      rintro i ⟨hi, hi2⟩
      by_cases hin : i < n + 1
      · have hii : (i : Int) < a.length := by omega
        have hia : i < a.length := by omega
        have ri := hr.at hia
        have k0 : 0 < (a[i]?.getD []).length := by omega
        have mm : (a[i]?.getD [])[0]?.getD 0 = mx a i 0 := rfl
        have di := avs_drop k0
        simp only [List.drop_zero] at di
        have hfi : fndR a 0 (n + 1 - i) i = if mx a i 0 = 0 then fndR a 0 (n + 1 - (i + 1)) (i + 1) else i := by
          rw [show n + 1 - i = (n + 1 - (i + 1)) + 1 by omega, fndR]
        have kne : ¬ a[i]?.getD [] = [] := fun e => by rw [e] at k0; simp at k0
        simp [go_sem, hii, mat_drop hia, di, mm]
        refine ⟨ne, k0, ?_⟩
        by_cases hz : mx a i 0 = 0
        · rw [if_pos hz] at hfi
          simp [go_sem, hz]
          exact ⟨by omega, i + 1, ⟨by omega, by rw [← hi2, hfi]⟩, by omega, Off_reset _ _ _ (by simp), by omega⟩
        · rw [if_neg hz, hi2] at hfi
          have xN := mx_N hr hia 0
          have e0 : ldet (n + 1) a = if i % 2 = 1 then (0 - mx a i 0 * ldet n (restL a i (pw (mx a i 0) 10005)) % 10007) % 10007 else mx a i 0 * ldet n (restL a i (pw (mx a i 0) 10005)) % 10007 := by
            rw [ldet, if_neg h4, hfi, if_neg (by omega)]
          rw [e0]
          clear e0 hi2
          have qN : isN (pw (mx a i 0) 10005) := isN_mod _
          simp [go_sem, hz, mat_drop hia, di, mm]
          refine ⟨⟨hia, ne⟩, k0, ?_⟩
          refine CallVC.of (l01Inv_c _ xN) (by decide) ?_
          simp [go_sem]
          generalize pw (mx a i 0) 10005 = q at *
          refine loop_inv ([7, 9, 10, 11] ++ List.range' 67 47) (fun k : Nat => [(7, .own 22 (cnt i k) (omat ((List.range (cnt i k)).map fun r => rowR a i q (skp i r)))), (9, .int k)]) (fun k => k ≤ n + 1) (fun k => n + 1 - k) 0 (by simp) (by simp [go_sem, cnt, omat]) (by simp [go_sem]) ?_
          intro k hk
          by_cases hkn : k < n + 1
          · have hkl : (k : Int) < a.length := by omega
            have hka : k < a.length := by omega
            by_cases hki : k = i
            · have hkii : (k : Int) = i := by omega
              have cs := cnt_same hki
              simp [go_sem, hkl, hkii, hii]
              exact ⟨by omega, k + 1, by omega, by omega, Off_reset _ _ _ (by simp), by rw [cs]; exact ⟨rfl, rfl⟩, by omega⟩
            · have hkii : ¬ (k : Int) = i := by omega
              have cs := cnt_next hki
              have rk := hr.at hka
              have kk0 : 0 < (a[k]?.getD []).length := by omega
              simp [go_sem, hkl, hkii]
              refine loop_inv ([10, 11] ++ List.range' 77 33) (fun j : Nat => [(10, .own 2 j (avs (tb (clrE a i q k) j))), (11, .int (j + 1))]) (fun j => j ≤ n) (fun j => n - j) 0 (by simp) (by simp [go_sem]) (by simp [go_sem]) ?_
              intro j hj
              by_cases hjn : j < n
              · have hjl : (j : Int) + 1 < a.length := by omega
                have jj : ((j : Int) + 1).toNat = j + 1 := by omega
                have dk0 : avs (a[k]?.getD []) = .val (.int .i64 (mx a k 0)) :: avs (a[k]?.getD []).tail := by
                  have := avs_drop kk0
                  rw [List.drop_zero, List.drop_one] at this
                  rw [this]; rfl
                have dk1 : (avs (a[k]?.getD []).tail).drop j = .val (.int .i64 (mx a k (j + 1))) :: avs ((a[k]?.getD []).drop (j + 2)) := by
                  rw [← List.drop_one, avs_drop (by simp; omega)]
                  congr 1
                  · simp [mx, Nat.add_comm]
                  · rw [List.drop_drop]; congr 2; omega
                have di1 : (avs (a[i]?.getD [])).drop (j + 1) = .val (.int .i64 (mx a i (j + 1))) :: avs ((a[i]?.getD []).drop (j + 2)) := by
                  rw [avs_drop (by omega)]; rfl
                have n1 := mx_N hr hka (j + 1)
                have n2 := mx_N hr hka 0
                have n3 := mx_N hr hia (j + 1)
                have f1 := mul_fits n2 qN
                have f2 := mul_fits (isN_mod (mx a k 0 * q)) n3
                have f3 := sub_fits n1 (isN_mod (mx a k 0 * q % 10007 * mx a i (j + 1)))
                have ts := tb_succ (clrE a i q k) j
                simp [go_sem, hjl, jj, mat_drop hka, mat_drop hia, dk0, dk1, di1]
                refine ⟨by kernel_rfl, ⟨hka, ne⟩, ⟨by omega, by omega⟩, ⟨hka, ne⟩, kk0, ?_⟩
                refine CallD.of (l01Mul_c _ _ f1) (by simp [roots, rootsL]) (by decide) ?_
                simp [go_sem]
                simp [go_sem, jj, mat_drop hia, di1]
                refine ⟨⟨hia, ne⟩, ⟨by omega, by omega, kne⟩, ?_⟩
                refine CallD.of (l01Mul_c _ _ f2) (by simp [roots, rootsL]) (by decide) ?_
                simp [go_sem]
                refine CallD.of (l01Sub_c _ _ f3) (by simp [roots, rootsL]) (by decide) ?_
                simp [go_sem]
                refine ⟨by omega, ?_⟩
                refine ⟨by kernel_rfl, ?_⟩
                simp [go_sem]
                exact ⟨⟨by omega, by omega⟩, j + 1, by omega, by omega, Off_reset _ _ _ (by simp), by rw [ts, avs_snoc, clrE_is]; exact ⟨rfl, rfl⟩, by omega⟩
              · have e2 : j = n := by omega
                subst e2
                have hjl : ¬ (j : Int) + 1 < a.length := by omega
                have e4 : tb (clrE a i q k) j = rowR a i q k := by unfold rowR; rw [hl, Nat.add_sub_cancel]
                have e5 : omat ((List.range (cnt i k + 1)).map fun r => rowR a i q (skp i r)) = omat ((List.range (cnt i k)).map fun r => rowR a i q (skp i r)) ++ [.own 2 j (avs (rowR a i q k))] := by
                  have rl2 : (rowR a i q k).length = j := by unfold rowR; simp; omega
                  rw [omat_range_succ, cs.2, rl2]
                have cb : cnt i k ≤ k := by unfold cnt; split <;> omega
                simp [go_sem, hjl]
                exact ⟨by omega, by omega, k + 1, by omega, by omega, (Off.reset (by intro x hx; simp at hx ⊢; omega) (by simp) (by simp [go_sem, Off_reset])), by rw [cs.1, e5, e4]; exact ⟨rfl, rfl⟩, by omega⟩
          · have e1 : k = n + 1 := by omega
            subst e1
            have hki : ¬ (n : Int) + 1 < a.length := by omega
            have ec : cnt i (n + 1) = n := by unfold cnt; split <;> omega
            have er := restL_eq a i q
            rw [hl, Nat.add_sub_cancel] at er
            have ro := restL_ok hl i q
            have cD := ih (restL a i q) ro.1 ro.2
            rw [ro.1] at cD
            have dN := ldet_isN n (restL a i q) ro.1 ro.2
            rw [ec, ← er]
            have f1 := mul_fits xN dN
            have f2 := sub_fits (show isN 0 from ⟨by omega, by omega⟩) (isN_mod (mx a i 0 * ldet n (restL a i q)))
            simp [go_sem, hki, mat_drop hia, di, mm]
            refine ⟨by kernel_rfl, ⟨hia, ne⟩, k0, ?_⟩
            refine CallD.of (cD) (by simp [roots, rootsL]) (by decide) ?_
            simp [go_sem]
            refine CallD.of (l01Mul_c _ _ f1) (by simp [roots, rootsL]) (by decide) ?_
            simp [go_sem]
            refine ⟨by kernel_rfl, ?_⟩
            simp [go_sem]
            refine ⟨fun h => ?_, fun h => ?_⟩ <;> simp at h
            · have h2 : i % 2 = 1 := by have := bit_cast i; omega
              rw [if_pos h2]
              simp [go_sem]
              refine CallVC.of (l01Sub_c _ _ f2) (by decide) ?_
              simp [go_sem]
            · have h2 : ¬ i % 2 = 1 := by have := bit_cast i; omega
              rw [if_neg h2]
              simp [go_sem]
      · have : i = n + 1 := by omega
        subst this
        have hki : ¬ (n : Int) + 1 < a.length := by omega
        rw [Nat.sub_self, fndR] at hi2
        have e0 : ldet (n + 1) a = 0 := by rw [ldet, if_neg h4, if_pos hi2.symm]
        rw [e0]
        simp [go_sem, hki]
end Go.Proofs.Ytkfadbccakbpnaa

/- Contracts: polynomials divided with remainder. -/
namespace Go.Proofs.Ytkfadbccakbpnaa
open Go.Abs
set_option linter.unusedVariables false
set_option linter.unusedSimpArgs false
set_option maxHeartbeats 4000000
theorem short_c (p : List Int) (hl : p.length ≤ 1000) (h1 : 1 ≤ p.length) : Con Try.prog 158 [.sl p.length (avs p)] (.own 2 (shL p).length (avs (shL p))) := by
  have cC := Clone_c (shL p) (by rw [shL_len]; have := shN_le p p.length; omega)
  have sl := shL_len p
  have sd : shL p = p.take (shN p p.length) := rfl
  have pne : ¬ p = [] := by rintro rfl; simp at h1
  refine con_of_vc Try.mixed ⟨4, [], [], []⟩ Try.func158 (by decide) rfl (by simp) (by decide) (by simp [freshOK, freshL, go_sem]) ?_
  rw [Try.ntmps158]
  simp [go_sem]
  refine loop_inv ([3] ++ List.range' 6 12) (fun n : Nat => [(3, .int n)]) (fun n => 1 ≤ n ∧ n ≤ p.length ∧ shN p n = shN p p.length) (fun n => n) p.length ⟨h1, Nat.le_refl _, rfl⟩ (by simp [go_sem]) (by simp [go_sem]) ?_
  rintro n ⟨hn1, hn2, hn3⟩
  obtain ⟨m, rfl⟩ : ∃ m, n = m + 1 := ⟨n - 1, by omega⟩
  have st : shN p (m + 1) = if 1 ≤ m ∧ p[m]?.getD 0 = 0 then shN p m else m + 1 := rfl
  have hm : m < p.length := by omega
  have mi : ((m : Int) + 1 - 1).toNat = m := by omega
  by_cases h2 : 1 ≤ m
  · have h2i : (1 : Int) < (m : Int) + 1 := by omega
    by_cases hz : p[m]?.getD 0 = 0
    · rw [if_pos ⟨h2, hz⟩, hn3] at st
      simp [go_sem, h2i, avs_drop hm, mi, hz]
      exact ⟨by omega, ⟨hm, pne⟩, by omega, m, ⟨by omega, by omega, by rw [← st]⟩, by omega, Off_reset _ _ _ (by simp), rfl⟩
    · rw [if_neg (fun h => hz h.2), hn3] at st
      have sl2 : (shL p).length = m + 1 := by omega
      have sd2 : p.take (m + 1) = shL p := by rw [sd, st]
      rw [sl2] at cC ⊢
      simp [go_sem, h2i, avs_drop hm, mi, hz, avs_tk, sd2]
      refine ⟨by omega, ⟨hm, pne⟩, ⟨by omega, by omega⟩, ?_⟩
      refine CallVC.of (cC) (by decide) ?_
      simp [go_sem]
  · have h2i : ¬ (1 : Int) < (m : Int) + 1 := by omega
    rw [if_neg (fun h => h2 h.1), hn3] at st
    have sl2 : (shL p).length = m + 1 := by omega
    have sd2 : p.take (m + 1) = shL p := by rw [sd, st]
    rw [sl2] at cC ⊢
    simp [go_sem, h2i, avs_tk, sd2]
    refine ⟨⟨by omega, by omega⟩, ?_⟩
    refine CallVC.of (cC) (by decide) ?_
    simp [go_sem]
theorem l19Short_c (p : List Int) (hl : p.length ≤ 1000) (h1 : 1 ≤ p.length) : Con Try.prog 88 [.sl p.length (avs p)] (.own 2 (shL p).length (avs (shL p))) := by
  have cC := l01Own_c (shL p) (by rw [shL_len]; have := shN_le p p.length; omega)
  have sl := shL_len p
  have sd : shL p = p.take (shN p p.length) := rfl
  have pne : ¬ p = [] := by rintro rfl; simp at h1
  refine con_of_vc Try.mixed ⟨4, [], [], []⟩ Try.func88 (by decide) rfl (by simp) (by decide) (by simp [freshOK, freshL, go_sem]) ?_
  rw [Try.ntmps88]
  simp [go_sem]
  refine loop_inv ([3] ++ List.range' 6 12) (fun n : Nat => [(3, .int n)]) (fun n => 1 ≤ n ∧ n ≤ p.length ∧ shN p n = shN p p.length) (fun n => n) p.length ⟨h1, Nat.le_refl _, rfl⟩ (by simp [go_sem]) (by simp [go_sem]) ?_
  rintro n ⟨hn1, hn2, hn3⟩
  obtain ⟨m, rfl⟩ : ∃ m, n = m + 1 := ⟨n - 1, by omega⟩
  have st : shN p (m + 1) = if 1 ≤ m ∧ p[m]?.getD 0 = 0 then shN p m else m + 1 := rfl
  have hm : m < p.length := by omega
  have mi : ((m : Int) + 1 - 1).toNat = m := by omega
  by_cases h2 : 1 ≤ m
  · have h2i : (1 : Int) < (m : Int) + 1 := by omega
    by_cases hz : p[m]?.getD 0 = 0
    · rw [if_pos ⟨h2, hz⟩, hn3] at st
      simp [go_sem, h2i, avs_drop hm, mi, hz]
      exact ⟨by omega, ⟨hm, pne⟩, by omega, m, ⟨by omega, by omega, by rw [← st]⟩, by omega, Off_reset _ _ _ (by simp), rfl⟩
    · rw [if_neg (fun h => hz h.2), hn3] at st
      have sl2 : (shL p).length = m + 1 := by omega
      have sd2 : p.take (m + 1) = shL p := by rw [sd, st]
      rw [sl2] at cC ⊢
      simp [go_sem, h2i, avs_drop hm, mi, hz, avs_tk, sd2]
      refine ⟨by omega, ⟨hm, pne⟩, ⟨by omega, by omega⟩, ?_⟩
      refine CallVC.of (cC) (by decide) ?_
      simp [go_sem]
  · have h2i : ¬ (1 : Int) < (m : Int) + 1 := by omega
    rw [if_neg (fun h => h2 h.1), hn3] at st
    have sl2 : (shL p).length = m + 1 := by omega
    have sd2 : p.take (m + 1) = shL p := by rw [sd, st]
    rw [sl2] at cC ⊢
    simp [go_sem, h2i, avs_tk, sd2]
    refine ⟨⟨by omega, by omega⟩, ?_⟩
    refine CallVC.of (cC) (by decide) ?_
    simp [go_sem]
theorem isZero_c (p : List Int) (h1 : 1 ≤ p.length) : Con Try.prog 159 [.sl p.length (avs p)] (.bool (zeB p)) := by
  have pne : ¬ p = [] := by rintro rfl; simp at h1
  have d0 : avs p = .val (.int .i64 (p[0]?.getD 0)) :: avs p.tail := by
    have := avs_drop (xs := p) (k := 0) (by omega)
    rw [List.drop_zero, List.drop_one] at this
    rw [this]; rfl
  unfold zeB
  refine con_of_vc Try.mixed ⟨3, [], [], []⟩ Try.func159 (by decide) rfl (by simp) (by decide) (by simp [freshOK, freshL, go_sem]) ?_
  rw [Try.ntmps159]
  simp [go_sem]
  by_cases hl : p.length = 1
  · have hli : (p.length : Int) = 1 := by omega
    simp [go_sem, hli, hl, d0]
  · have hli : ¬ (p.length : Int) = 1 := by omega
    simp [go_sem, hli, hl]
set_option maxRecDepth 100000 in
theorem divide_c (a b : List Int) (ha : 1 ≤ a.length) (hal : a.length ≤ 100) (hb : 1 ≤ b.length) (hbl : b.length ≤ 100) (haN : Ns a) (hbN : Ns b) :
    Con Try.prog 160 [.sl a.length (avs a), .sl b.length (avs b)]
      (.tup [.own 2 (shL (dvD a b).2).length (avs (shL (dvD a b).2)), .own 2 (shL (dvD a b).1).length (avs (shL (dvD a b).1))]) := by
  have cC := Clone_c a (by omega)
  have bne : ¬ b = [] := by rintro rfl; simp at hb
  have hD : dvD a b = dvA b (a.length + 1 - b.length) (a, List.replicate (max 1 (a.length + 1 - b.length)) 0) := rfl
  have dl := dvA_len b (a.length + 1 - b.length) (a, List.replicate (max 1 (a.length + 1 - b.length)) 0)
  rw [← hD] at dl
  simp only [List.length_replicate] at dl
  have c1 := short_c (dvD a b).2 (by omega) (by omega)
  have c2 := short_c (dvD a b).1 (by omega) (by omega)
  rw [dl.1] at c2
  rw [dl.2] at c1
  have rp := avs_repl (max 1 (a.length + 1 - b.length)) 0
  have mx1 : max (1 : Int) ((a.length : Int) - b.length + 1) = ((max 1 (a.length + 1 - b.length) : Nat) : Int) := by omega
  have hb1 : ((b.length : Int) - 1).toNat = b.length - 1 := by omega
  have bl1 : b.length - 1 < b.length := by omega
  have bd := avs_drop bl1
  have iN := hbN.get (b.length - 1)
  have cI := inv_c _ iN
  generalize hq : max 1 (a.length + 1 - b.length) = nq at *
  have repN : Ns (List.replicate nq (0 : Int)) := fun x hx => by rw [List.eq_of_mem_replicate hx]; exact ⟨by omega, by omega⟩
  refine con_of_vc Try.mixed ⟨13, [], [], []⟩ Try.func160 (by decide) rfl (by simp) (by decide) (by simp [freshOK, freshL, go_sem]) ?_
  rw [Try.ntmps160]
  simp [go_sem]
  refine ⟨by kernel_rfl, ?_⟩
  refine CallD.of (cC) (by simp [roots, rootsL]) (by decide) ?_
  simp [go_sem]
  simp [go_sem, mx1, rp]
  refine ⟨⟨by omega, by omega⟩, ⟨by omega, by omega⟩, ⟨by omega, by omega⟩, ?_⟩
  refine ⟨by kernel_rfl, ?_⟩
  simp [go_sem]
  simp [go_sem, hb1, bd]
  refine ⟨⟨by omega, by omega⟩, ⟨by omega, by omega, bne⟩, ?_⟩
  refine CallVC.of (cI) (by decide) ?_
  simp [go_sem]
  refine ⟨⟨by omega, by omega⟩, ?_⟩
  refine loop_inv ([6, 7] ++ List.range' 9 4 ++ List.range' 35 43) (fun x : Int × List Int × List Int => [(6, .own 2 a.length (avs x.2.1)), (7, .own 2 nq (avs x.2.2)), (9, .int x.1)])
    (fun x => x.1 ≤ (a.length : Int) - b.length ∧ -1000 ≤ x.1 ∧ x.2.1.length = a.length ∧ x.2.2.length = nq ∧ Ns x.2.1 ∧ Ns x.2.2 ∧ dvA b (x.1 + 1).toNat x.2 = dvD a b) (fun x => (x.1 + 1).toNat) ((a.length : Int) - b.length, a, List.replicate nq 0)
    ⟨Int.le_refl _, by simp only; omega, rfl, by simp, haN, repN, by simp only; rw [hD]; congr 1; omega⟩ (by simp [go_sem]) (by simp [go_sem]) ?_
  rintro ⟨z, rest, quo⟩ ⟨hz1, hz2, hrl, hql, hrN, hqN, hd⟩
  simp only at hz1 hz2 hrl hql hrN hqN hd
  by_cases hz : 0 ≤ z
  · obtain ⟨k, rfl⟩ : ∃ k : Nat, z = k := ⟨z.toNat, by omega⟩
    have hk1 : ((k : Int) + 1).toNat = k + 1 := by omega
    rw [hk1, dvA] at hd
    have ki : ((k : Int) + b.length - 1).toNat = k + b.length - 1 := by omega
    have kr : k + b.length - 1 < rest.length := by omega
    have kq : k < quo.length := by omega
    have rne : ¬ rest = [] := by rintro rfl; simp at kr
    have hF : dvF rest b k = rest[k + b.length - 1]?.getD 0 * pw (b[b.length - 1]?.getD 0) 10005 % 10007 := rfl
    have f1 := mul_fits (hrN.get (k + b.length - 1)) (show isN (pw (b[b.length - 1]?.getD 0) 10005) from isN_mod _)
    have fN : isN (dvF rest b k) := isN_mod _
    simp [go_sem, hz, ki, avs_at kr, avs_drop kr]
    refine ⟨⟨by omega, by omega⟩, ⟨by omega, by omega⟩, ⟨by omega, by omega⟩, f1, ?_⟩
    refine CallVC.of (num_c _ f1.1 f1.2) (by decide) ?_
    simp [go_sem]
    rw [← hF]
    generalize dvF rest b k = f at *
    have qs := avs_set quo k f
    refine ⟨by omega, by omega, ?_⟩
    refine loop_inv ([11, 12] ++ List.range' 56 22 ++ [6]) (fun i : Nat => [(6, .own 2 a.length (avs (dvR rest b k f i))), (56, .int i)]) (fun i => i ≤ b.length) (fun i => b.length - i) 0 (by simp) (by simp [go_sem, dvR]) (by simp [go_sem]) ?_
    intro i hi
    by_cases hib : i < b.length
    · have hii : (i : Int) < b.length := by omega
      have rl := dvR_len rest b k f i
      have rN := dvR_N hrN b k f i
      have rs : dvR rest b k f (i + 1) = (dvR rest b k f i).set (k + i) (((dvR rest b k f i)[k + i]?.getD 0 - f * b[i]?.getD 0) % 10007) := rfl
      have kii : ((k : Int) + i).toNat = k + i := by omega
      have kl : k + i < (dvR rest b k f i).length := by omega
      generalize hR2 : dvR rest b k f (i + 1) = R2 at *
      generalize dvR rest b k f i = R at *
      have g1 := mul_fits fN (hbN.get i)
      have g0 := mul_bound fN (hbN.get i)
      obtain ⟨r0, r1⟩ := rN.get (k + i)
      have ss := avs_set R (k + i) ((R[k + i]?.getD 0 - f * b[i]?.getD 0) % 10007)
      simp [go_sem, hii, avs_drop hib, kii, avs_at kl, avs_drop kl]
      refine ⟨bne, ⟨by omega, by omega⟩, ⟨by omega, by omega⟩, g1, ⟨by omega, by omega⟩, ?_⟩
      refine CallVC.of (num_c _ (by omega) (by omega)) (by decide) ?_
      simp [go_sem]
      rw [kii]
      refine ⟨⟨by omega, by omega⟩, kl, ⟨by omega, by omega⟩, i + 1, by omega, by omega, Off_reset _ _ _ (by simp), by rw [ss, ← rs, hR2], by omega⟩
    · have e : i = b.length := by omega
      subst e
      have dN := dvR_N hrN b k f b.length
      have dL := dvR_len rest b k f b.length
      simp [go_sem]
      refine ⟨⟨by omega, by omega⟩, (k : Int) - 1, dvR rest b k f b.length, quo.set k f, ⟨by omega, by omega, by omega, by rw [List.length_set]; exact hql, dN, hqN.set fN _, ?_⟩, by omega, (Off.reset (by intro x hx; simp at hx ⊢; omega) (by simp) (by simp [go_sem, Off_reset])), ?_⟩
      · rw [show ((k : Int) - 1 + 1).toNat = k by omega]; exact hd
      · simp [qs]
  · have e : (z + 1).toNat = 0 := by omega
    rw [e, dvA] at hd
    have e1 : rest = (dvD a b).1 := by rw [← hd]
    have e2 : quo = (dvD a b).2 := by rw [← hd]
    rw [e1, e2]
    simp [go_sem, hz]
    refine CallVC.of (c1) (by decide) ?_
    simp [go_sem]
    refine CallVC.of (c2) (by decide) ?_
    simp [go_sem]
set_option maxRecDepth 100000 in
theorem l19Divide_c (a b : List Int) (ha : Shr a) (hal : a.length ≤ 100) (hb : 1 ≤ b.length) (hbl : b.length ≤ 100) (haN : Ns a) (hbN : Ns b) :
    Con Try.prog 90 [.sl a.length (avs a), .sl b.length (avs b)]
      (.tup [.own 2 (dvD a b).2.length (avs (dvD a b).2), .own 2 (shL (dvD a b).1).length (avs (shL (dvD a b).1))]) := by
  have cC := l01Own_c a (by omega)
  have ha1 := ha.1
  have bne : ¬ b = [] := by rintro rfl; simp at hb
  have hD : dvD a b = dvA b (a.length + 1 - b.length) (a, List.replicate (max 1 (a.length + 1 - b.length)) 0) := rfl
  have dl := dvA_len b (a.length + 1 - b.length) (a, List.replicate (max 1 (a.length + 1 - b.length)) 0)
  rw [← hD] at dl
  simp only [List.length_replicate] at dl
  by_cases hlt : a.length < b.length
  · have hn : a.length + 1 - b.length = 0 := by omega
    have e1 : dvD a b = (a, [0]) := by rw [hD, hn]; rfl
    rw [e1]
    simp only [ha.eq]
    have hlti : (a.length : Int) < b.length := by omega
    refine con_of_vc Try.mixed ⟨11, [], [], []⟩ Try.func90 (by decide) rfl (by simp) (by decide) (by simp [freshOK, freshL, go_sem]) ?_
    rw [Try.ntmps90]
    simp [go_sem]
    refine CallVC.of (cC) (by decide) ?_
    simp [go_sem]
    simp [go_sem, hlti, hlt]
    rfl
  · have hlti : ¬ (a.length : Int) < b.length := by omega
    obtain ⟨nq, hq⟩ : ∃ nq, a.length + 1 - b.length = nq := ⟨_, rfl⟩
    rw [hq, show max 1 nq = nq by omega] at hD dl
    have c2 := l19Short_c (dvD a b).1 (by omega) (by omega)
    rw [dl.1] at c2
    have rp := avs_repl nq 0
    have mx1 : ((a.length : Int) - b.length + 1) = (nq : Int) := by omega
    have hb1 : ((b.length : Int) - 1).toNat = b.length - 1 := by omega
    have bl1 : b.length - 1 < b.length := by omega
    have bd := avs_drop bl1
    have iN := hbN.get (b.length - 1)
    have cI := l01Inv_c _ iN
    have repN : Ns (List.replicate nq (0 : Int)) := fun x hx => by rw [List.eq_of_mem_replicate hx]; exact ⟨by omega, by omega⟩
    have dl2 := dl.2
    refine con_of_vc Try.mixed ⟨11, [], [], []⟩ Try.func90 (by decide) rfl (by simp) (by decide) (by simp [freshOK, freshL, go_sem]) ?_
    rw [Try.ntmps90]
    simp [go_sem]
    refine CallVC.of (cC) (by decide) ?_
    simp [go_sem]
    simp [go_sem, hlti, hlt, mx1, rp]
    refine ⟨⟨by omega, by omega⟩, by omega, ⟨by omega, by omega⟩, ⟨by omega, by omega⟩, ?_⟩
    refine loop_inv ([6, 7] ++ List.range' 8 3 ++ List.range' 32 48) (fun x : Int × List Int × List Int => [(6, .own 2 a.length (avs x.2.1)), (7, .own 2 nq (avs x.2.2)), (8, .int x.1)])
      (fun x => x.1 ≤ (a.length : Int) - b.length ∧ -1000 ≤ x.1 ∧ x.2.1.length = a.length ∧ x.2.2.length = nq ∧ Ns x.2.1 ∧ Ns x.2.2 ∧ dvA b (x.1 + 1).toNat x.2 = dvD a b) (fun x => (x.1 + 1).toNat) ((a.length : Int) - b.length, a, List.replicate nq 0)
      ⟨Int.le_refl _, by simp only; omega, rfl, by simp, haN, repN, by simp only; rw [hD]; congr 1; omega⟩ (by simp [go_sem]) (by simp [go_sem]) ?_
    rintro ⟨z, rest, quo⟩ ⟨hz1, hz2, hrl, hql, hrN, hqN, hd⟩
    simp only at hz1 hz2 hrl hql hrN hqN hd
    by_cases hz : 0 ≤ z
    · obtain ⟨k, rfl⟩ : ∃ k : Nat, z = k := ⟨z.toNat, by omega⟩
      have hk1 : ((k : Int) + 1).toNat = k + 1 := by omega
      rw [hk1, dvA] at hd
      have ki : ((k : Int) + b.length - 1).toNat = k + b.length - 1 := by omega
      have kr : k + b.length - 1 < rest.length := by omega
      have kq : k < quo.length := by omega
      have hF : dvF rest b k = rest[k + b.length - 1]?.getD 0 * pw (b[b.length - 1]?.getD 0) 10005 % 10007 := rfl
      have f1 := mul_fits (hrN.get (k + b.length - 1)) (show isN (pw (b[b.length - 1]?.getD 0) 10005) from isN_mod _)
      have fN : isN (dvF rest b k) := isN_mod _
      simp [go_sem, hz, ki, avs_at kr, avs_drop kr, hb1, bd]
      refine ⟨by kernel_rfl, ⟨by omega, by omega⟩, ⟨by omega, by omega⟩, ⟨by omega, by omega⟩, ⟨by omega, by omega⟩, ⟨by omega, by omega, bne⟩, ?_⟩
      refine CallD.of (cI) (by simp [roots, rootsL]) (by decide) ?_
      simp [go_sem]
      refine CallD.of (l01Mul_c _ _ f1) (by simp [roots, rootsL]) (by decide) ?_
      simp [go_sem]
      refine ⟨by kernel_rfl, ?_⟩
      simp [go_sem]
      rw [← hF]
      generalize dvF rest b k = f at *
      have qs := avs_set quo k f
      refine ⟨by omega, by omega, ?_⟩
      refine loop_inv ([10] ++ List.range' 56 24 ++ [6]) (fun i : Nat => [(6, .own 2 a.length (avs (dvR rest b k f i))), (10, .int i)]) (fun i => i ≤ b.length) (fun i => b.length - i) 0 (by simp) (by simp [go_sem, dvR]) (by simp [go_sem]) ?_
      intro i hi
      by_cases hib : i < b.length
      · have hii : (i : Int) < b.length := by omega
        have rl := dvR_len rest b k f i
        have rN := dvR_N hrN b k f i
        have rs : dvR rest b k f (i + 1) = (dvR rest b k f i).set (k + i) (((dvR rest b k f i)[k + i]?.getD 0 - f * b[i]?.getD 0) % 10007) := rfl
        have kii : ((k : Int) + i).toNat = k + i := by omega
        have kl : k + i < (dvR rest b k f i).length := by omega
        generalize hR2 : dvR rest b k f (i + 1) = R2 at *
        generalize dvR rest b k f i = R at *
        have g1 := mul_fits fN (hbN.get i)
        have g2 := sub_fits (rN.get (k + i)) (isN_mod (f * b[i]?.getD 0))
        have ss := avs_set R (k + i) ((R[k + i]?.getD 0 - f * b[i]?.getD 0) % 10007)
        simp [go_sem, hii, avs_drop hib, kii, avs_at kl, avs_drop kl]
        refine ⟨by kernel_rfl, ⟨by omega, by omega⟩, ⟨by omega, by omega⟩, bne, ?_⟩
        refine CallD.of (l01Mul_c _ _ g1) (by simp [roots, rootsL]) (by decide) ?_
        simp [go_sem]
        refine CallD.of (l01Sub_c _ _ g2) (by simp [roots, rootsL]) (by decide) ?_
        simp [go_sem]
        simp [go_sem, kii]
        refine ⟨⟨by omega, by omega⟩, kl, ?_⟩
        refine ⟨by kernel_rfl, ?_⟩
        simp [go_sem]
        rw [ss, ← rs]
        exact ⟨⟨by omega, by omega⟩, i + 1, by omega, by omega, Off_reset _ _ _ (by simp), by rw [hR2], by omega⟩
      · have e : i = b.length := by omega
        subst e
        have dN := dvR_N hrN b k f b.length
        have dL := dvR_len rest b k f b.length
        simp [go_sem]
        refine ⟨⟨by omega, by omega⟩, (k : Int) - 1, dvR rest b k f b.length, quo.set k f, ⟨by omega, by omega, by omega, by rw [List.length_set]; exact hql, dN, hqN.set fN _, ?_⟩, by omega, (Off.reset (by intro x hx; simp at hx ⊢; omega) (by simp) (by simp [go_sem, Off_reset])), ?_⟩
        · rw [show ((k : Int) - 1 + 1).toNat = k by omega]; exact hd
        · simp [qs]
    · have e : (z + 1).toNat = 0 := by omega
      rw [e, dvA] at hd
      have e1 : rest = (dvD a b).1 := by rw [← hd]
      have e2 : quo = (dvD a b).2 := by rw [← hd]
      rw [e1, e2]
      simp [go_sem, hz]
      refine CallVC.of (c2) (by decide) ?_
      simp [go_sem]
      omega
theorem dvD_ok {a b : List Int} (ha : 1 ≤ a.length) (haN : Ns a) : (dvD a b).1.length = a.length ∧ (dvD a b).2.length = max 1 (a.length + 1 - b.length) ∧ Ns (dvD a b).1 ∧ Ns (dvD a b).2 := by
  have dl := dvA_len b (a.length + 1 - b.length) (a, List.replicate (max 1 (a.length + 1 - b.length)) 0)
  have dn := dvA_N b (a.length + 1 - b.length) (a, List.replicate (max 1 (a.length + 1 - b.length)) 0) haN (fun x hx => by rw [List.eq_of_mem_replicate hx]; exact ⟨by omega, by omega⟩)
  refine ⟨dl.1, ?_, dn.1, dn.2⟩
  have := dl.2
  rw [List.length_replicate] at this
  exact this
/-- What the steps of Euclid keep. -/
structure EuI (f : Nat) (a b C : List Int) : Prop where
  aS : Shr a
  bS : Shr b
  aN : Ns a
  bN : Ns b
  al : a.length ≤ 9
  bl : b.length ≤ 9
  mu : mu0 b ≤ f
  gc : gcF f a b = C
theorem EuI.stop {f : Nat} {a b C : List Int} (h : EuI f a b C) (hz : zeB b = true) : C = a := by
  rw [← h.gc]
  cases f with
  | zero => rfl
  | succ f => rw [gcF, if_pos hz]
theorem EuI.next {f : Nat} {a b C : List Int} (h : EuI f a b C) (hz : zeB b = false) : ∃ g, f = g + 1 ∧ EuI g b (shL (dvD a b).1) C := by
  have hm : mu0 b = b.length := by unfold mu0; rw [hz]; rfl
  have h1 := h.bS.1
  have h2 := h.mu
  obtain ⟨g, rfl⟩ : ∃ g, f = g + 1 := ⟨f - 1, by omega⟩
  have o := dvD_ok (b := b) h.aS.1 h.aN
  have ls := gc_less h.aS h.aN h.bS h.bN hz
  have hg := h.gc
  rw [gcF, if_neg (by rw [hz]; simp)] at hg
  refine ⟨g, rfl, h.bS, shL_Shr (by rw [o.1]; exact h.aS.1), h.bN, shL_N o.2.2.1, h.bl, ?_, by omega, hg⟩
  rw [shL_len]
  have := shN_le (dvD a b).1 (dvD a b).1.length
  have := h.al
  omega
theorem EuI.ok {f : Nat} {a b C : List Int} (h : EuI f a b C) : Shr C ∧ Ns C ∧ C.length ≤ 9 := by
  induction f generalizing a b with
  | zero => rw [← h.gc]; exact ⟨h.aS, h.aN, h.al⟩
  | succ f ih =>
    cases hz : zeB b with
    | true => rw [h.stop hz]; exact ⟨h.aS, h.aN, h.al⟩
    | false =>
      obtain ⟨g, hg, h2⟩ := h.next hz
      obtain rfl : f = g := by omega
      exact ih h2
set_option maxRecDepth 100000 in
theorem l19Common_c {f : Nat} (a b C : List Int) (h : EuI f a b C) : GCon Try.prog 89 [.sl a.length (avs a), .sl b.length (avs b)] (.sl C.length (avs C)) [.any, .any] := by
  refine gcon_of_vc Try.mixed ⟨7, [0, 1, 4, 6], [], []⟩ [4] [] Try.func89 (by decide) rfl rfl (by simp) (by simp) (by decide) ?_
  rw [Try.ntmps89]
  simp [go_sem]
  refine loop_inv ([0, 1] ++ List.range' 5 19) (fun x : Nat × List Int × List Int => [(0, .sl x.2.1.length (avs x.2.1)), (1, .sl x.2.2.length (avs x.2.2))]) (fun x => EuI x.1 x.2.1 x.2.2 C) (fun x => x.1) (f, a, b) h (by simp [go_sem]) (by simp [go_sem]) ?_
  rintro ⟨f, a, b⟩ h
  simp only at h
  have h1 := h.bS.1
  have bl := h.bl
  have al := h.al
  have d0 : avs b = .val (.int .i64 (b[0]?.getD 0)) :: avs b.tail := by
    have := avs_drop (xs := b) (k := 0) (by omega)
    rw [List.drop_zero, List.drop_one] at this
    rw [this]; rfl
  have d1 : AV.val (.int .i64 (b[0]?.getD 0)) :: avs b.tail = avs b := d0.symm
  have bne : ¬ b = [] := by rintro rfl; simp at h1
  have cD := l19Divide_c a b h.aS (by omega) h1 (by omega) h.aN h.bN
  cases hz : zeB b with
  | true =>
    have hs := h.stop hz
    have hz2 := hz
    unfold zeB at hz2
    simp only [Bool.and_eq_true, decide_eq_true_eq] at hz2
    have hl : ¬ (1 : Int) < b.length := by omega
    subst hs
    simp [go_sem, hl, d0, hz2.2]
    omega
  | false =>
    obtain ⟨g, rfl, h2⟩ := h.next hz
    by_cases hl : (1 : Int) < b.length
    · have hl2 : 1 < b.length := by omega
      simp [go_sem, hl, hl2]
      refine CallVC.of (cD) (by decide) ?_
      simp [go_sem]
      exact ⟨g, b, shL (dvD a b).1, h2, by omega, Off_reset _ _ _ (by simp), ⟨rfl, rfl⟩, ⟨rfl, rfl⟩⟩
    · have hl2 : ¬ 1 < b.length := by omega
      have hb0 : ¬ b[0]?.getD 0 = 0 := fun e => by
        unfold zeB at hz
        rw [e] at hz
        simp at hz
        omega
      simp [go_sem, hl, hl2, d0, hb0]
      refine ⟨by omega, ?_⟩
      simp only [d1]
      refine CallVC.of (cD) (by decide) ?_
      simp [go_sem]
      exact ⟨g, b, shL (dvD a b).1, h2, by omega, Off_reset _ _ _ (by simp), ⟨rfl, rfl⟩, ⟨rfl, rfl⟩⟩
end Go.Proofs.Ytkfadbccakbpnaa

/- Plain: determinants over any ring, by the first column. -/
namespace Go.Proofs.Ytkfadbccakbpnaa
open Go.Abs CR
set_option linter.unusedVariables false
set_option linter.unusedSimpArgs false
set_option maxHeartbeats 1000000
section
variable {α : Type}
def mnR (M : Nat → Nat → α) (i : Nat) : Nat → Nat → α := fun r c => M (if r < i then r else r + 1) (c + 1)
def upR (M : Nat → Nat → α) (i : Nat) (w : Nat → α) : Nat → Nat → α := fun r => if r = i then w else M r
theorem upR_self (M : Nat → Nat → α) (i : Nat) : upR M i (M i) = M := funext fun r => by
  unfold upR; split
  · rename_i h; rw [h]
  · rfl
theorem upR_at (M : Nat → Nat → α) (i : Nat) (w : Nat → α) : upR M i w i = w := by simp [upR]
theorem upR_ne (M : Nat → Nat → α) {i r : Nat} (w : Nat → α) (h : r ≠ i) : upR M i w r = M r := by simp [upR, h]
theorem upR_comm (M : Nat → Nat → α) {i j : Nat} (h : i ≠ j) (v w : Nat → α) : upR (upR M i v) j w = upR (upR M j w) i v := funext fun r => by
  unfold upR
  by_cases h1 : r = i
  · subst h1; rw [if_neg h, if_pos rfl, if_pos rfl]
  · rw [if_neg h1, if_neg h1]
theorem mnR_self (M : Nat → Nat → α) (i : Nat) (w : Nat → α) : mnR (upR M i w) i = mnR M i := funext fun r => funext fun c => by
  unfold mnR upR
  rw [if_neg (by split <;> omega)]
theorem mnR_ne (M : Nat → Nat → α) {i j : Nat} (w : Nat → α) (h : j ≠ i) : mnR (upR M i w) j = upR (mnR M j) (if i < j then i else i - 1) (fun c => w (c + 1)) := funext fun r => funext fun c => by
  unfold mnR upR
  by_cases h1 : (if r < j then r else r + 1) = i
  · have h2 : r = if i < j then i else i - 1 := by
      split at h1 <;> split <;> omega
    rw [if_pos h1, if_pos h2]
  · have h2 : ¬ r = if i < j then i else i - 1 := by
      split at h1 <;> split <;> omega
    rw [if_neg h1, if_neg h2]
end
section
variable {α : Type} [CR α]
def dR (f : Nat → α) : Nat → α
  | 0 => ofI 0
  | n + 1 => dR f n + f n
theorem dR_congr {f g : Nat → α} : ∀ {n : Nat}, (∀ i, i < n → f i = g i) → dR f n = dR g n
  | 0, _ => rfl
  | n + 1, h => by rw [dR, dR, dR_congr (fun i hi => h i (by omega)), h n (by omega)]
theorem dR_lin (f g : Nat → α) (k : α) : ∀ n : Nat, dR (fun i => f i + k * g i) n = dR f n + k * dR g n
  | 0 => by simp only [dR]; rw [mul0, add0]
  | n + 1 => by simp only [dR]; rw [dR_lin f g k n, mulD]; ac_rfl
theorem dR_zero {f : Nat → α} : ∀ {n : Nat}, (∀ i, i < n → f i = ofI 0) → dR f n = ofI 0
  | 0, _ => rfl
  | n + 1, h => by rw [dR, dR_zero (fun i hi => h i (by omega)), h n (by omega), add0]
theorem dR_one {f : Nat → α} {k : Nat} : ∀ {n : Nat}, k < n → (∀ i, i < n → i ≠ k → f i = ofI 0) → dR f n = f k
  | 0, h, _ => by omega
  | n + 1, h, hz => by
    rw [dR]
    by_cases e : k = n
    · subst e
      rw [dR_zero (fun i hi => hz i (by omega) (by omega)), zadd]
    · rw [dR_one (n := n) (by omega) (fun i hi hne => hz i (by omega) hne), hz n (by omega) (by omega), add0]
theorem dR_two {f : Nat → α} {k : Nat} : ∀ {n : Nat}, k + 1 < n → (∀ i, i < n → i ≠ k → i ≠ k + 1 → f i = ofI 0) → dR f n = f k + f (k + 1)
  | 0, h, _ => by omega
  | n + 1, h, hz => by
    rw [dR]
    by_cases e : k + 1 = n
    · subst e
      rw [dR_one (k := k) (by omega) (fun i hi hne => hz i (by omega) hne (by omega))]
    · rw [dR_two (n := n) (by omega) (fun i hi h1 h2 => hz i (by omega) h1 h2), hz n (by omega) (by omega) (by omega), add0]
def dtR : Nat → (Nat → Nat → α) → α
  | 0, _ => ofI 1
  | n + 1, M => dR (fun i => ofI (sgd i) * M i 0 * dtR n (mnR M i)) (n + 1)
theorem dtR_congr : ∀ {n : Nat} {M N : Nat → Nat → α}, (∀ r c, r < n → c < n → M r c = N r c) → dtR n M = dtR n N
  | 0, _, _, _ => rfl
  | n + 1, M, N, h => by
    rw [dtR, dtR]
    refine dR_congr fun i hi => ?_
    rw [h i 0 hi (by omega)]
    rw [dtR_congr (n := n) (M := mnR M i) (N := mnR N i) (fun r c hr hc => h _ _ (by split <;> omega) (by omega))]
theorem dtR_lin : ∀ {n : Nat} (M : Nat → Nat → α) {i : Nat} (u v : Nat → α) (k : α), i < n → dtR n (upR M i (fun c => u c + k * v c)) = dtR n (upR M i u) + k * dtR n (upR M i v)
  | 0, _, _, _, _, _, h => by omega
  | n + 1, M, i, u, v, k, h => by
    rw [dtR, dtR, dtR, ← dR_lin]
    refine dR_congr fun j hj => ?_
    by_cases e : j = i
    · subst e
      simp only [mnR_self, upR_at]
      generalize dtR n (mnR M j) = d
      rw [mulD, Dmul]
      congr 1
      ac_rfl
    · simp only [mnR_ne M _ e, upR_ne M _ e]
      rw [dtR_lin (n := n) (mnR M j) (fun c => u (c + 1)) (fun c => v (c + 1)) k (by split <;> omega), mulD]
      congr 1
      ac_rfl
theorem dtR_adj : ∀ {n : Nat} (M : Nat → Nat → α) {i : Nat}, i + 1 < n → M i = M (i + 1) → dtR n M = ofI 0
  | 0, _, _, h, _ => by omega
  | n + 1, M, i, h, he => by
    rw [dtR, dR_two (k := i) h]
    · have hm : mnR M (i + 1) = mnR M i := funext fun r => funext fun c => by
        unfold mnR
        by_cases h1 : r < i
        · rw [if_pos (by omega), if_pos h1]
        · by_cases h2 : r = i
          · subst h2; rw [if_pos (by omega), if_neg (by omega), he]
          · rw [if_neg (by omega), if_neg (by omega)]
      rw [hm, ← he, mulA, mulA, ← Dmul, ← ofAdd, sgd_succ, show sgd i + - sgd i = 0 by omega, zmul]
    · intro j hj h1 h2
      have hz : dtR n (mnR M j) = ofI 0 := by
        by_cases hlt : i < j
        · refine dtR_adj (mnR M j) (i := i) (by omega) (funext fun c => ?_)
          unfold mnR
          rw [if_pos hlt, if_pos (by omega), he]
        · obtain ⟨i', rfl⟩ : ∃ i', i = i' + 1 := ⟨i - 1, by omega⟩
          refine dtR_adj (mnR M j) (i := i') (by omega) (funext fun c => ?_)
          unfold mnR
          rw [if_neg (by omega), if_neg (by omega), he]
      rw [hz, mul0]
end
end Go.Proofs.Ytkfadbccakbpnaa

/- Plain: cofactors over any ring. -/
namespace Go.Proofs.Ytkfadbccakbpnaa
open Go.Abs CR
set_option linter.unusedVariables false
set_option linter.unusedSimpArgs false
set_option maxHeartbeats 1000000
section
variable {α : Type} [CR α]
theorem dtR_nil {n : Nat} (M : Nat → Nat → α) {i : Nat} (hi : i < n) : dtR n (upR M i (fun _ => ofI 0)) = ofI 0 := by
  have := dtR_lin M (fun _ => ofI 0) (fun _ => ofI 0) (ofI (-1)) hi
  have e : (fun _ : Nat => (ofI 0 : α) + ofI (-1) * ofI 0) = fun _ => ofI 0 := funext fun _ => by rw [mul0, add0]
  rw [e] at this
  generalize dtR n (upR M i (fun _ => ofI 0)) = d at *
  have z : d + ofI (-1) * d = ofI 0 := by
    have h1 : d + ofI (-1) * d = ofI 1 * d + ofI (-1) * d := by rw [omul]
    rw [h1, ← Dmul, ← ofAdd]
    exact zmul d
  rw [this]; exact z
def uvR (c : Nat) : Nat → α := fun k => if k = c then ofI 1 else ofI 0
/-- By any row: the row's entries times the cofactors. -/
theorem dtR_exp {n : Nat} (M : Nat → Nat → α) {i : Nat} (hi : i < n) (w : Nat → α) : dtR n (upR M i w) = dR (fun c => w c * dtR n (upR M i (uvR c))) n := by
  have gen : ∀ t : Nat, dtR n (upR M i (fun c => if c < t then w c else ofI 0)) = dR (fun c => w c * dtR n (upR M i (uvR c))) t := by
    intro t
    induction t with
    | zero =>
      have e : (fun c => if c < 0 then w c else (ofI 0 : α)) = fun _ => ofI 0 := funext fun c => if_neg (by omega)
      rw [e]; exact dtR_nil M hi
    | succ t ih =>
      have e : (fun c => if c < t + 1 then w c else (ofI 0 : α)) = fun c => (if c < t then w c else ofI 0) + w t * uvR t c := funext fun c => by
        unfold uvR
        by_cases h1 : c < t
        · rw [if_pos (by omega), if_pos h1, if_neg (by omega), mul0, add0]
        · by_cases h2 : c = t
          · subst h2; rw [if_pos (by omega), if_neg h1, if_pos rfl, mul1, zadd]
          · rw [if_neg (by omega), if_neg h1, if_neg h2, mul0, add0]
      rw [e, dtR_lin M _ _ _ hi, ih]; rfl
  rw [← gen n]
  refine dtR_congr fun r c hr hc => ?_
  unfold upR
  by_cases h : r = i
  · rw [if_pos h, if_pos h, if_pos hc]
  · rw [if_neg h, if_neg h]
theorem neg_of {a b : α} (h : a + b = ofI 0) : a = ofI (-1) * b := by
  have e : b + ofI (-1) * b = ofI 0 := by
    have h1 : b + ofI (-1) * b = ofI 1 * b + ofI (-1) * b := by rw [omul]
    rw [h1, ← Dmul, ← ofAdd]
    exact zmul b
  have h2 : a = a + (b + ofI (-1) * b) := by rw [e, add0]
  rw [← addA, h, zadd] at h2
  exact h2
theorem dtR_swap1 {n : Nat} (M : Nat → Nat → α) {i : Nat} (h : i + 1 < n) (u v : Nat → α) : dtR n (upR (upR M i u) (i + 1) v) = ofI (-1) * dtR n (upR (upR M i v) (i + 1) u) := by
  have hne : i ≠ i + 1 := by omega
  have z := fun w : Nat → α => dtR_adj (n := n) (upR (upR M i w) (i + 1) w) h (by rw [upR_at, upR_ne _ _ hne, upR_at])
  have s := z (fun c => u c + ofI 1 * v c)
  rw [dtR_lin _ u v _ (show i + 1 < n from h), upR_comm _ hne, upR_comm _ hne, dtR_lin _ u v _ (by omega), dtR_lin _ u v _ (by omega)] at s
  have zu := z u
  have zv := z v
  rw [upR_comm _ hne] at zu zv
  rw [zu, zv, omul, omul, omul, zadd, add0] at s
  rw [upR_comm _ hne u v, upR_comm _ hne v u]
  refine neg_of ?_
  rw [addC]; exact s
theorem dtR_eq : ∀ {n : Nat} (k : Nat) (M : Nat → Nat → α) {i : Nat}, i + k + 1 < n → M i = M (i + k + 1) → dtR n M = ofI 0
  | n, 0, M, i, h, he => dtR_adj M h he
  | n, k + 1, M, i, h, he => by
    have hne : i + k + 1 ≠ i + (k + 1) + 1 := by omega
    have e0 : M = upR (upR M (i + k + 1) (M (i + k + 1))) (i + k + 1 + 1) (M (i + k + 1 + 1)) := by rw [upR_self, upR_self]
    rw [e0, dtR_swap1 M (i := i + k + 1) (by omega)]
    have := dtR_eq k (upR (upR M (i + k + 1) (M (i + k + 1 + 1))) (i + k + 1 + 1) (M (i + k + 1))) (i := i) (n := n) (by omega) (by
      rw [upR_ne _ _ (show i ≠ i + k + 1 + 1 by omega), upR_ne _ _ (show i ≠ i + k + 1 by omega), upR_ne _ _ (show i + k + 1 ≠ i + k + 1 + 1 by omega), upR_at]
      exact he)
    rw [this, mul0]
theorem dtR_same {n : Nat} (M : Nat → Nat → α) {i j : Nat} (hi : i < n) (hj : j < n) (hne : i ≠ j) (he : M i = M j) : dtR n M = ofI 0 := by
  by_cases h : i < j
  · have e : j = i + (j - i - 1) + 1 := by omega
    rw [e] at he
    exact dtR_eq (j - i - 1) M (by omega) he
  · have e : i = j + (i - j - 1) + 1 := by omega
    rw [e] at he
    exact dtR_eq (i - j - 1) M (by omega) he.symm
/-- A matrix times its cofactors. -/
theorem dtR_cof {n : Nat} (M : Nat → Nat → α) {i j : Nat} (hi : i < n) (hj : j < n) : dR (fun c => M j c * dtR n (upR M i (uvR c))) n = if i = j then dtR n M else ofI 0 := by
  rw [← dtR_exp M hi (M j)]
  by_cases h : i = j
  · subst h; rw [if_pos rfl, upR_self]
  · rw [if_neg h]
    exact dtR_same _ hi hj h (by rw [upR_at, upR_ne _ _ (fun e => h e.symm)])
end
end Go.Proofs.Ytkfadbccakbpnaa

/- Plain: derivatives of determinants over any ring. -/
namespace Go.Proofs.Ytkfadbccakbpnaa
open Go.Abs CR
set_option linter.unusedVariables false
set_option linter.unusedSimpArgs false
set_option maxHeartbeats 1000000
section
variable {α : Type} [CR α]
theorem dR_skip (F : Nat → α) (z : α) : ∀ {n j : Nat}, j ≤ n → dR (fun i => if i = j then z else F (if i < j then i else i - 1)) (n + 1) = z + dR F n
  | 0, j, h => by
    have : j = 0 := by omega
    subst this
    show (ofI 0 : α) + (if 0 = 0 then z else _) = z + ofI 0
    rw [if_pos rfl, zadd, add0]
  | n + 1, j, h => by
    rw [dR]
    by_cases e : j = n + 1
    · subst e
      rw [if_pos rfl, dR_congr (g := F) (fun i hi => by rw [if_neg (by omega), if_pos hi]), addC]
    · rw [dR_skip F z (show j ≤ n by omega), if_neg (by omega), if_neg (by omega), addA]; rfl
theorem dR_plus (f g : Nat → α) : ∀ n, dR (fun i => f i + g i) n = dR f n + dR g n
  | 0 => by simp only [dR]; rw [add0]
  | n + 1 => by simp only [dR]; rw [dR_plus f g n]; ac_rfl
theorem dR_mul (k : α) (f : Nat → α) : ∀ n, k * dR f n = dR (fun i => k * f i) n
  | 0 => by simp only [dR]; rw [mul0]
  | n + 1 => by simp only [dR]; rw [mulD, dR_mul k f n]
theorem dR_swap (F : Nat → Nat → α) (m : Nat) : ∀ n, dR (fun i => dR (fun k => F i k) m) n = dR (fun k => dR (fun i => F i k) n) m
  | 0 => (dR_zero (f := fun k => dR (fun i => F i k) 0) (fun i hi => rfl)).symm
  | n + 1 => by
    rw [dR, dR_swap F m n, ← dR_plus]
    exact dR_congr fun k hk => rfl
/-- A derivation goes over the rows. -/
theorem dtR_der {T : α → α} (ta : ∀ a b, T (a + b) = T a + T b) (tm : ∀ a b, T (a * b) = T a * b + a * T b) (to : ∀ k, T (ofI k) = ofI 0) :
    ∀ (n : Nat) (M : Nat → Nat → α), T (dtR n M) = dR (fun i => dtR n (upR M i (fun c => T (M i c)))) n
  | 0, M => to 1
  | n + 1, M => by
    have ts : ∀ (f : Nat → α) (m : Nat), T (dR f m) = dR (fun i => T (f i)) m := fun f m => by
      induction m with
      | zero => exact to 0
      | succ m ih => rw [dR, ta, ih]; rfl
    have l1 : T (dtR (n + 1) M) = dR (fun j => ofI (sgd j) * T (M j 0) * dtR n (mnR M j) + ofI (sgd j) * M j 0 * dR (fun i => dtR n (upR (mnR M j) i (fun c => T (mnR M j i c)))) n) (n + 1) := by
      rw [dtR, ts]
      refine dR_congr fun j hj => ?_
      rw [tm, tm, to, zmul, zadd, dtR_der ta tm to n (mnR M j)]
    have l2 : ∀ i, i < n + 1 → dtR (n + 1) (upR M i (fun c => T (M i c))) = dR (fun j => if i = j then ofI (sgd j) * T (M j 0) * dtR n (mnR M j) else ofI (sgd j) * M j 0 * dtR n (upR (mnR M j) (if i < j then i else i - 1) (fun c => T (mnR M j (if i < j then i else i - 1) c)))) (n + 1) := fun i hi => by
      rw [dtR]
      refine dR_congr fun j hj => ?_
      by_cases e : i = j
      · subst e
        rw [if_pos rfl, upR_at, mnR_self]
      · rw [if_neg e, upR_ne _ _ (fun x => e x.symm), mnR_ne M _ (fun x => e x.symm)]
        have hrow : (fun c => T (M i (c + 1))) = fun c => T (mnR M j (if i < j then i else i - 1) c) := funext fun c => by
          unfold mnR
          by_cases h : i < j
          · rw [if_pos h, if_pos h]
          · rw [if_neg h, if_neg (by omega), show i - 1 + 1 = i by omega]
        rw [hrow]
    rw [l1, dR_congr l2, dR_swap]
    refine dR_congr fun j hj => ?_
    rw [dR_mul, ← dR_skip (fun i => ofI (sgd j) * M j 0 * dtR n (upR (mnR M j) i (fun c => T (mnR M j i c)))) (ofI (sgd j) * T (M j 0) * dtR n (mnR M j)) (show j ≤ n by omega)]
end
end Go.Proofs.Ytkfadbccakbpnaa

/- Plain: the determinant of the unit matrix less z times a matrix: its coefficients by traces, its values. -/
namespace Go.Proofs.Ytkfadbccakbpnaa
open Go.Abs CR
set_option linter.unusedVariables false
set_option linter.unusedSimpArgs false
set_option maxHeartbeats 1000000
/-- The unit matrix less z times a matrix. -/
def ulS (M : Mx) : Nat → Nat → Ser Int := fun r c k => if k = 0 then idM r c else if k = 1 then - M r c else 0
def chS (n : Nat) (M : Mx) : Ser Int := dtR n (ulS M)
def adS (n : Nat) (M : Mx) (c i : Nat) : Ser Int := dtR n (upR (ulS M) i (uvR c))
theorem cmul_nil (b : Ser Int) : ∀ (k : Nat) (a : Ser Int), (∀ i, a i = 0) → cmul k a b = 0
  | 0, a, h => by show a 0 * b 0 = 0; rw [h 0, Int.zero_mul]
  | k + 1, a, h => by
    show a 0 * b (k + 1) + cmul k (sh a) b = 0
    rw [h 0, cmul_nil b k (sh a) (fun i => h (i + 1)), Int.zero_mul]; rfl
theorem cmul_lin {a : Ser Int} (h : ∀ i, a (i + 2) = 0) (b : Ser Int) (k : Nat) : cmul (k + 1) a b = a 0 * b (k + 1) + a 1 * b k := by
  show a 0 * b (k + 1) + cmul k (sh a) b = _
  congr 1
  cases k with
  | zero => rfl
  | succ k =>
    show sh a 0 * b (k + 1) + cmul k (sh (sh a)) b = _
    rw [cmul_nil b k (sh (sh a)) (fun i => h i), Int.add_zero]; rfl
theorem dR_at (f : Nat → Ser Int) (k : Nat) : ∀ n, dR f n k = dsum (fun i => f i k) n
  | 0 => by show (ofI 0 : Ser Int) k = 0; cases k <;> rfl
  | n + 1 => by
    have : dR f (n + 1) k = dR f n k + f n k := rfl
    rw [this, dR_at f k n]; rfl
theorem ulS_lin (M : Mx) (r c : Nat) : ∀ i, ulS M r c (i + 2) = 0 := fun i => by unfold ulS; rw [if_neg (by omega), if_neg (by omega)]
theorem ulS_0 (M : Mx) (r c : Nat) : ulS M r c 0 = idM r c := rfl
theorem ulS_1 (M : Mx) (r c : Nat) : ulS M r c 1 = - M r c := rfl
theorem ul_mul (M : Mx) (r c : Nat) (b : Ser Int) (k : Nat) : (ulS M r c * b) (k + 1) = idM r c * b (k + 1) + - M r c * b k := cmul_lin (ulS_lin M r c) b k
theorem ul_mul0 (M : Mx) (r c : Nat) (b : Ser Int) : (ulS M r c * b) 0 = idM r c * b 0 := rfl
theorem dsum_id {n j : Nat} (hj : j < n) (f : Nat → Int) : dsum (fun c => idM j c * f c) n = f j := by
  rw [dsum_one hj (fun i hi hne => by unfold idM; rw [if_neg (fun e => hne e.symm), Int.zero_mul])]
  unfold idM; rw [if_pos rfl, Int.one_mul]
theorem ad_step (n : Nat) (M : Mx) {j i : Nat} (hj : j < n) (hi : i < n) (k : Nat) : adS n M j i (k + 1) = dsum (fun c => M j c * adS n M c i k) n + (if i = j then chS n M (k + 1) else 0) := by
  have h := congrFun (dtR_cof (ulS M) hi hj) (k + 1)
  rw [dR_at] at h
  have e : dsum (fun c => (ulS M j c * dtR n (upR (ulS M) i (uvR c))) (k + 1)) n = dsum (fun c => idM j c * adS n M c i (k + 1)) n + (-1) * dsum (fun c => M j c * adS n M c i k) n := by
    rw [← dsum_lin]
    refine dsum_congr fun c hc => ?_
    rw [ul_mul, Int.neg_mul, Int.neg_mul, Int.one_mul]; rfl
  rw [e, dsum_id hj] at h
  by_cases hij : i = j
  · rw [if_pos hij] at h ⊢
    have e2 : dtR n (ulS M) (k + 1) = chS n M (k + 1) := rfl
    rw [e2] at h; omega
  · rw [if_neg hij] at h ⊢
    have e2 : (ofI 0 : Ser Int) (k + 1) = 0 := rfl
    rw [e2] at h; omega
theorem dtR_at0 : ∀ (n : Nat) (A : Nat → Nat → Ser Int), dtR n A 0 = det n (fun r c => A r c 0)
  | 0, A => rfl
  | n + 1, A => by
    rw [dtR, dR_at, det]
    refine dsum_congr fun i hi => ?_
    have : (ofI (sgd i) * A i 0 * dtR n (mnR A i)) 0 = sgd i * A i 0 0 * dtR n (mnR A i) 0 := rfl
    rw [this, dtR_at0 n (mnR A i)]; rfl
theorem ch_0 (n : Nat) (M : Mx) : chS n M 0 = 1 := by
  unfold chS
  rw [dtR_at0]
  exact det_one n
theorem ad_0 (n : Nat) (M : Mx) {j i : Nat} (hj : j < n) (hi : i < n) : adS n M j i 0 = idM j i := by
  have h := congrFun (dtR_cof (ulS M) hi hj) 0
  rw [dR_at] at h
  have e : dsum (fun c => (ulS M j c * dtR n (upR (ulS M) i (uvR c))) 0) n = dsum (fun c => idM j c * adS n M c i 0) n := dsum_congr fun c hc => by rw [ul_mul0]; rfl
  rw [e, dsum_id hj] at h
  rw [h]
  unfold idM
  by_cases hij : i = j
  · rw [if_pos hij, if_pos hij.symm]; exact ch_0 n M
  · rw [if_neg hij, if_neg (fun x => hij x.symm)]; rfl
theorem ch_step (n : Nat) (M : Mx) (k : Nat) : ((k : Int) + 1) * chS n M (k + 1) = - dsum (fun i => dsum (fun c => M i c * adS n M c i k) n) n := by
  have h := congrFun (dtR_der (T := th) th_add th_mul th_of n (ulS M)) (k + 1)
  rw [dR_at] at h
  have e1 : th (dtR n (ulS M)) (k + 1) = ((k : Int) + 1) * chS n M (k + 1) := by
    show ((k + 1 : Nat) : Int) * _ = _
    rw [Int.natCast_add]; rfl
  rw [e1] at h
  rw [h]
  have e2 : ∀ z : Int, - z = -1 * z := fun z => by omega
  rw [e2, dsum_mul]
  refine dsum_congr fun i hi => ?_
  rw [dtR_exp _ hi, dR_at, dsum_mul]
  refine dsum_congr fun c hc => ?_
  have e3 : (th (ulS M i c) * dtR n (upR (ulS M) i (uvR c))) (k + 1) = th (ulS M i c) 0 * adS n M c i (k + 1) + th (ulS M i c) 1 * adS n M c i k :=
    cmul_lin (fun t => by show ((t + 2 : Nat) : Int) * ulS M i c (t + 2) = 0; rw [ulS_lin, Int.mul_zero]) _ k
  have e4 : th (ulS M i c) 0 = 0 := th_0 _
  have e5 : th (ulS M i c) 1 = - M i c := by show ((1 : Nat) : Int) * ulS M i c 1 = _; rw [ulS_1]; omega
  rw [e3, e4, e5, Int.zero_mul, Int.neg_mul, Int.neg_mul, Int.one_mul, Int.zero_add]
/-- A polynomial's degree and value. -/
def Ev (z : Int) (d : Nat) (f : Ser Int) (v : Int) : Prop := (∀ k, d < k → f k = 0) ∧ dsum (fun k => f k * z ^ k) (d + 1) = v
theorem Ev.zero (z : Int) (d : Nat) : Ev z d (ofI 0) 0 := by
  have h0 : ∀ k, (ofI 0 : Ser Int) k = 0 := fun k => by cases k <;> rfl
  exact ⟨fun k _ => h0 k, dsum_zero fun k _ => by rw [h0, Int.zero_mul]⟩
theorem Ev.add {z : Int} {d : Nat} {f g : Ser Int} {v w : Int} (h : Ev z d f v) (k : Ev z d g w) : Ev z d (f + g) (v + w) := by
  refine ⟨fun i hi => by rw [ser_add, h.1 i hi, k.1 i hi]; rfl, ?_⟩
  rw [← h.2, ← k.2, ← dsum_plus]
  exact dsum_congr fun i hi => by rw [ser_add, Int.add_mul]
theorem Ev.lin {z : Int} {d : Nat} {f g : Ser Int} {w : Int} (hf : ∀ i, f (i + 2) = 0) (k : Ev z d g w) : Ev z (d + 1) (f * g) ((f 0 + f 1 * z) * w) := by
  have at1 : ∀ i, (f * g) (i + 1) = f 0 * g (i + 1) + f 1 * g i := fun i => cmul_lin hf g i
  have at0 : (f * g) 0 = f 0 * g 0 := rfl
  refine ⟨fun i hi => ?_, ?_⟩
  · obtain ⟨j, rfl⟩ : ∃ j, i = j + 1 := ⟨i - 1, by omega⟩
    rw [at1, k.1 (j + 1) (by omega), k.1 j (by omega)]; omega
  · have e1 : dsum (fun i => (f * g) (i + 1) * z ^ (i + 1)) (d + 1) = dsum (fun i => f 0 * (g (i + 1) * z ^ (i + 1)) + (f 1 * z) * (g i * z ^ i)) (d + 1) :=
      dsum_congr fun i hi => by
        rw [at1, Int.add_mul, Int.pow_succ]
        congr 1
        · rw [Int.mul_assoc]
        · rw [Int.mul_assoc, Int.mul_assoc]
          congr 1
          rw [← Int.mul_assoc, Int.mul_comm]
    have e2 : dsum (fun i => g i * z ^ i) (d + 1 + 1) = w := by
      show dsum (fun i => g i * z ^ i) (d + 1) + g (d + 1) * z ^ (d + 1) = w
      rw [k.2, k.1 (d + 1) (by omega), Int.zero_mul, Int.add_zero]
    rw [dsum_shift] at e2
    rw [dsum_shift, e1, dsum_lin, at0, ← dsum_mul, k.2, Int.add_mul]
    have e3 : f 0 * w = f 0 * (g 0 * z ^ 0) + f 0 * dsum (fun i => g (i + 1) * z ^ (i + 1)) (d + 1) := by rw [← Int.mul_add, e2]
    rw [e3, Int.mul_assoc (f 0) (g 0), Int.add_assoc]
theorem Ev.dR {z : Int} {d : Nat} {f : Nat → Ser Int} {v : Nat → Int} : ∀ {n : Nat}, (∀ i, i < n → Ev z d (f i) (v i)) → Ev z d (dR f n) (dsum v n)
  | 0, _ => Ev.zero z d
  | n + 1, h => Ev.add (Ev.dR (n := n) (fun i hi => h i (by omega))) (h n (by omega))
theorem Ev.det {z : Int} : ∀ (n : Nat) (A : Nat → Nat → Ser Int), (∀ r c i, A r c (i + 2) = 0) → Ev z n (dtR n A) (det n (fun r c => A r c 0 + A r c 1 * z))
  | 0, A, _ => by
    refine ⟨fun k hk => ?_, ?_⟩
    · obtain ⟨j, rfl⟩ : ∃ j, k = j + 1 := ⟨k - 1, by omega⟩
      rfl
    · show (0 : Int) + 1 * z ^ 0 = 1
      rw [Int.pow_zero]; rfl
  | n + 1, A, h => by
    rw [dtR, Go.Proofs.Ytkfadbccakbpnaa.det]
    refine Ev.dR fun i hi => ?_
    have q := Ev.lin (f := ofI (sgd i) * A i 0) (fun t => by
      show cmul (t + 2) (sOf (sgd i)) (A i 0) = 0
      rw [cmul_comm, cmul_of, h, Int.zero_mul]) (Ev.det (z := z) n (mnR A i) (fun r c t => h _ _ _))
    have e : ∀ t, (ofI (sgd i) * A i 0) t = sgd i * A i 0 t := fun t => by
      show cmul t (sOf (sgd i)) (A i 0) = _
      rw [cmul_comm, cmul_of]; exact Int.mul_comm _ _
    rw [e, e, Int.mul_assoc, ← Int.mul_add] at q
    exact q
/-- The polynomial's value at a number. -/
theorem ch_val (n : Nat) (M : Mx) (z : Int) : dsum (fun k => chS n M k * z ^ k) (n + 1) = det n (fun r c => idM r c + - M r c * z) := (Ev.det (z := z) n (ulS M) (ulS_lin M)).2
end Go.Proofs.Ytkfadbccakbpnaa

/- Plain: a reduction keeps null vectors; systems with a known solution; powers of the first numbers. -/
namespace Go.Proofs.Ytkfadbccakbpnaa
open Go.Abs
set_option linter.unusedVariables false
set_option linter.unusedSimpArgs false
set_option maxHeartbeats 1000000
def Nul (n w : Nat) (m : List (List Int)) (x : Nat → Int) : Prop := ∀ r, r < n → dsum (fun c => mx m r c * x c) w % 10007 = 0
theorem Nul.swp {n w : Nat} {m : List (List Int)} {x : Nat → Int} (h : Nul n w m x) (hl : m.length = n) {i d : Nat} (hi : i < n) (hd : d < n) : Nul n w (swp m i d) x := by
  intro r hr
  rw [swp_mx (by omega) (by omega)]
  by_cases e1 : r = d
  · subst e1; rw [updR_at]; exact h i hi
  · rw [updR_ne _ _ e1]
    by_cases e2 : r = i
    · subst e2; rw [updR_at]; exact h d hd
    · rw [updR_ne _ _ e2]; exact h r hr
theorem Nul.scl {n w : Nat} {m : List (List Int)} {x : Nat → Int} (h : Nul n w m x) (hl : m.length = n) (hr : Rws w m) {d k : Nat} (hd : d < n) : Nul n w (scl m d k) x := by
  intro r hrn
  by_cases e : r = d
  · subst e
    have e1 : dsum (fun c => mx (Go.Proofs.Ytkfadbccakbpnaa.scl m r k) r c * x c) w % 10007 = dsum (fun c => (pw (mx m r k) 10005 % 10007) * (mx m r c * x c)) w % 10007 := dsum_cong fun c hc => by
      rw [scl_at hr (by omega) hc, if_pos rfl, mul_mod_l]
      congr 1
      rw [Int.mul_comm (mx m r c), Int.mul_assoc]
    rw [e1, ← dsum_mul, ← mul_mod_r, h r hrn]; simp
  · have e1 : dsum (fun c => mx (Go.Proofs.Ytkfadbccakbpnaa.scl m d k) r c * x c) w % 10007 = dsum (fun c => mx m r c * x c) w % 10007 := dsum_cong fun c hc => by
      rw [scl_at hr (by omega) hc, if_neg e]
    rw [e1]; exact h r hrn
theorem Nul.elD {n w : Nat} {m : List (List Int)} {x : Nat → Int} (h : Nul n w m x) (hl : m.length = n) (hr : Rws w m) {d k : Nat} (hd : d < n) : Nul n w (elD m d k) x := by
  intro r hrn
  by_cases e : r = d
  · have e1 : dsum (fun c => mx (Go.Proofs.Ytkfadbccakbpnaa.elD m d k) r c * x c) w % 10007 = dsum (fun c => mx m d c * x c) w % 10007 := dsum_cong fun c hc => by
      rw [elD_at hr (by omega) hc, if_pos e]
    rw [e1]; exact h d hd
  · have e1 : dsum (fun c => mx (Go.Proofs.Ytkfadbccakbpnaa.elD m d k) r c * x c) w % 10007 = dsum (fun c => mx m r c * x c + ((- mx m r k) % 10007) * (mx m d c * x c)) w % 10007 := dsum_cong fun c hc => by
      rw [elD_at hr (by omega) hc, if_neg e, mul_mod_l, Int.add_mul, Int.mul_assoc]
    rw [e1, dsum_lin, Int.add_emod, h r hrn, ← mul_mod_r, h d hd]; simp
theorem stepR_Nul {n w : Nat} {W0 : Mx} {m : List (List Int)} {d : Int} {done k : Nat} {x : Nat → Int} (g : GI n w W0 m done k) (hk : k < w) (hd : done < n) (h : Nul n w m x) : Nul n w (stepR m d done k).1 x := by
  have hl := g.len
  have fl := fndR_le m k (m.length - done) done
  unfold stepR
  by_cases e : fndR m k (m.length - done) done = m.length
  · rw [if_pos e]; exact h
  · rw [if_neg e]
    have s1 := swp_ok g.rws (i := fndR m k (m.length - done) done) (d := done) (by omega) (by omega)
    have s2 := h.swp hl (i := fndR m k (m.length - done) done) (d := done) (by omega) hd
    have l1 := swp_len m (fndR m k (m.length - done) done) done
    have t1 := scl_ok s1 (d := done) (k := k) (by omega)
    have t2 := s2.scl (by omega) s1 (k := k) hd
    exact t2.elD (by rw [scl_len, l1]; exact hl) t1 hd
theorem redR_Nul {n w : Nat} {W0 : Mx} {x : Nat → Int} : ∀ (f k : Nat) (st : List (List Int) × Int × Nat), k + f = w → GI n w W0 st.1 st.2.2 k → Nul n w st.1 x → Nul n w (redR f k st).1 x
  | 0, k, st, hk, g, h => h
  | f + 1, k, st, hk, g, h => by
    rw [redR]
    have hl := g.len
    split
    · rename_i hlt
      exact redR_Nul f (k + 1) _ (by omega) (stepR_GI g (by omega) (by omega)) (stepR_Nul g (by omega) (by omega) h)
    · exact h
/-- A system with a known solution: it is the one that is found. -/
theorem solve_uniq {n : Nat} {a : List (List Int)} {b : List Int} {e : Nat → Int} (hn : 0 < n) (hl : a.length = n) (hr : Rws n a) (hb : Ns b) (h0 : ldet n a ≠ 0)
    (he : ∀ r, r < n → dsum (fun c => mx a r c * e c) n % 10007 = b[r]?.getD 0 % 10007) :
    ∀ k, k < n → ldet n (repL a k b) * pw (ldet n a) 10005 % 10007 = e k % 10007 := by
  intro k hk
  have sv := solve_is hn hl hr hb
  have wo := widL_ok hl hr hb
  have wm := widL_mx (b := b) hl hr
  rw [← sv.2 h0 k hk]
  have ho := sv.1
  rw [decide_eq_true h0] at ho
  obtain ⟨k', h1, h2, h3⟩ := redR_GI (n + 1) 0 (widL a b, 1, 0) (by omega) (GI.start wo.1 wo.2)
  have hid := h3.one hn h1 ho
  have hN := mx_N h3.rws (show k < (redR (n + 1) 0 (widL a b, 1, 0)).1.length by rw [h3.len]; exact hk) n
  have nu : Nul n (n + 1) (widL a b) (fun c => if c < n then e c else -1) := fun r hrn => by
    have e1 : dsum (fun c => mx (widL a b) r c * (fun c => if c < n then e c else -1) c) (n + 1) = dsum (fun c => mx a r c * e c) n + b[r]?.getD 0 * (-1) := by
      rw [dsum]
      congr 1
      · exact dsum_congr fun c hc => by simp only [if_pos hc]; rw [(wm r hrn).1 c hc]
      · simp only [if_neg (show ¬ n < n by omega)]; rw [(wm r hrn).2]
    rw [e1]
    have := he r hrn
    omega
  have nr := redR_Nul (n + 1) 0 (widL a b, 1, 0) (by omega) (GI.start wo.1 wo.2) nu k hk
  have e2 : dsum (fun c => mx (redR (n + 1) 0 (widL a b, 1, 0)).1 k c * (fun c => if c < n then e c else -1) c) (n + 1) = e k + mx (redR (n + 1) 0 (widL a b, 1, 0)).1 k n * (-1) := by
    rw [dsum]
    congr 1
    · have : dsum (fun c => mx (redR (n + 1) 0 (widL a b, 1, 0)).1 k c * (fun c => if c < n then e c else -1) c) n = dsum (fun c => idM k c * e c) n := dsum_congr fun c hc => by
        simp only [if_pos hc]; rw [hid k c hk hc]
      rw [this, dsum_id hk]
    · simp only [if_neg (show ¬ n < n by omega)]
  rw [e2] at nr
  obtain ⟨n0, n1⟩ := hN
  generalize mx (redR (n + 1) 0 (widL a b, 1, 0)).1 k n = y at *
  omega
/-- The reference's determinant with another way to invert. -/
def ldetQ (q : Int → Int) : Nat → List (List Int) → Int
  | 0, _ => 1
  | n + 1, a => if n + 1 ≤ 4 then lsum (fun k => mx a 0 k * ldetQ q n (minL a k) % 10007) (n + 1)
    else if fndR a 0 (n + 1) 0 = n + 1 then 0
    else if fndR a 0 (n + 1) 0 % 2 = 1 then (0 - mx a (fndR a 0 (n + 1) 0) 0 * ldetQ q n (restL a (fndR a 0 (n + 1) 0) (q (mx a (fndR a 0 (n + 1) 0) 0))) % 10007) % 10007
    else mx a (fndR a 0 (n + 1) 0) 0 * ldetQ q n (restL a (fndR a 0 (n + 1) 0) (q (mx a (fndR a 0 (n + 1) 0) 0))) % 10007
theorem ldetQ_is : ∀ (n : Nat) (a : List (List Int)), ldetQ (fun x => pw x 10005) n a = ldet n a
  | 0, _ => rfl
  | n + 1, a => by rw [ldetQ, ldet]; simp only [ldetQ_is n]
def fq (x : Int) : Int := if 0 ≤ x then ((fp 15 x.toNat 10005 : Nat) : Int) else pw x 10005
theorem fq_is : fq = fun x => pw x 10005 := funext fun x => by
  unfold fq
  split
  · rename_i h
    obtain ⟨n, rfl⟩ : ∃ n : Nat, x = n := ⟨x.toNat, by omega⟩
    rw [Int.toNat_natCast, fp_pw]
  · rfl
/-- The powers of the first numbers. -/
def vanL (n : Nat) : List (List Int) := (List.range (n + 1)).map fun (z : Nat) => tb (fun k => pw (z : Int) (k : Int)) (n + 1)
theorem vanL_len (n : Nat) : (vanL n).length = n + 1 := by simp [vanL]
theorem vanL_ok (n : Nat) : Rws (n + 1) (vanL n) := fun x hx => by
  obtain ⟨z, _, rfl⟩ := List.mem_map.1 hx
  exact ⟨by simp [tb], tb_N fun k _ => isN_mod _⟩
theorem vanL_mx {n z k : Nat} (hz : z < n + 1) (hk : k < n + 1) : mx (vanL n) z k = pw (z : Int) (k : Int) := by
  have e : (vanL n)[z]?.getD [] = tb (fun k => pw (z : Int) (k : Int)) (n + 1) := by simp [vanL, hz]
  show ((vanL n)[z]?.getD [])[k]?.getD 0 = _
  rw [e]
  exact tb_get (fun k => pw (z : Int) (k : Int)) hk
theorem van_ne {n : Nat} (h : n ≤ 8) : ldet (n + 1) (vanL n) ≠ 0 := by
  rw [← ldetQ_is, ← fq_is]
  have : ∀ m, m ≤ 8 → decide (ldetQ fq (m + 1) (vanL m) ≠ 0) = true := by decide +kernel
  exact of_decide_eq_true (this n h)
end Go.Proofs.Ytkfadbccakbpnaa

/- Plain: the determinant of the unit matrix less z times a matrix, from its values at the first numbers. -/
namespace Go.Proofs.Ytkfadbccakbpnaa
open Go.Abs
set_option linter.unusedVariables false
set_option linter.unusedSimpArgs false
set_option maxHeartbeats 1000000
/-- The coefficients, as numbers. -/
def chL (n : Nat) (a : List (List Int)) : List Int := tb (fun k => chS n (mx a) k % 10007) (n + 1)
@[simp] theorem chL_len (n : Nat) (a : List (List Int)) : (chL n a).length = n + 1 := by simp [chL]
theorem chL_N (n : Nat) (a : List (List Int)) : Ns (chL n a) := tb_N fun k _ => isN_mod _
/-- The unit matrix less z times a matrix, as the reference makes it. -/
def unlR (n : Nat) (a : List (List Int)) (z i : Nat) : List Int := tb (fun c => ((if c = i then 1 else 0) + (a[i]?.getD [])[c]?.getD 0 * ((0 - (z : Int)) % 10007) % 10007) % 10007) n
def unlL (n : Nat) (a : List (List Int)) (z : Nat) : List (List Int) := (List.range n).map (unlR n a z)
theorem unlL_ok (n : Nat) (a : List (List Int)) (z : Nat) : (unlL n a z).length = n ∧ Rws n (unlL n a z) := by
  refine ⟨by simp [unlL], fun x hx => ?_⟩
  obtain ⟨i, _, rfl⟩ := List.mem_map.1 hx
  exact ⟨by simp [unlR], tb_N fun c _ => isN_mod _⟩
theorem unlL_mx {n : Nat} {a : List (List Int)} {z r c : Nat} (hr : r < n) (hc : c < n) : mx (unlL n a z) r c % 10007 = (idM r c + - mx a r c * (z : Int)) % 10007 := by
  have e : (unlL n a z)[r]?.getD [] = unlR n a z r := by simp [unlL, hr]
  have e2 : mx (unlL n a z) r c = ((if c = r then 1 else 0) + (a[r]?.getD [])[c]?.getD 0 * ((0 - (z : Int)) % 10007) % 10007) % 10007 := by
    show ((unlL n a z)[r]?.getD [])[c]?.getD 0 = _
    rw [e]
    exact tb_get (fun c => ((if c = r then 1 else 0) + (a[r]?.getD [])[c]?.getD 0 * ((0 - (z : Int)) % 10007) % 10007) % 10007) hc
  have e3 : (a[r]?.getD [])[c]?.getD 0 = mx a r c := rfl
  have e4 : idM r c = if c = r then 1 else 0 := by unfold idM; by_cases h : r = c <;> simp [h]; intro h2; exact (h h2.symm).elim
  have e5 : mx a r c * (0 - (z : Int)) = - mx a r c * (z : Int) := by rw [Int.zero_sub, Int.mul_neg, Int.neg_mul]
  rw [e2, e3, e4, mul_mod_r, Int.emod_emod_of_dvd _ (Int.dvd_refl _), e5]
  generalize - mx a r c * (z : Int) = y
  omega
def valL (n : Nat) (a : List (List Int)) : List Int := tb (fun z => ldet n (unlL n a z)) (n + 1)
theorem ldet_N (n : Nat) (a : List (List Int)) (hl : a.length = n) (hr : Rws n a) : isN (ldet n a) := by rw [ldet_is n a hl hr]; exact isN_mod _
theorem valL_N (n : Nat) (a : List (List Int)) : Ns (valL n a) := tb_N fun z _ => ldet_N _ _ (unlL_ok n a z).1 (unlL_ok n a z).2
theorem val_is (n : Nat) (a : List (List Int)) (z : Nat) : ldet n (unlL n a z) = dsum (fun k => chS n (mx a) k * (z : Int) ^ k) (n + 1) % 10007 := by
  have o := unlL_ok n a z
  rw [ldet_is n _ o.1 o.2, ch_val]
  exact det_cong fun r c hr hc => unlL_mx hr hc
/-- What the reference interpolates. -/
theorem interp_is {n : Nat} (h8 : n ≤ 8) (a : List (List Int)) (k : Nat) (hk : k < n + 1) : ldet (n + 1) (repL (vanL n) k (valL n a)) * pw (ldet (n + 1) (vanL n)) 10005 % 10007 = (chL n a)[k]?.getD 0 := by
  have e0 : (chL n a)[k]?.getD 0 = chS n (mx a) k % 10007 := tb_get (fun k => chS n (mx a) k % 10007) hk
  rw [e0]
  refine solve_uniq (by omega) (vanL_len n) (vanL_ok n) (valL_N n a) (van_ne h8) (fun r hr => ?_) k hk
  have e1 : (valL n a)[r]?.getD 0 = ldet n (unlL n a r) := tb_get (fun z => ldet n (unlL n a z)) hr
  rw [e1, val_is, Int.emod_emod_of_dvd _ (Int.dvd_refl _)]
  refine dsum_cong fun c hc => ?_
  rw [vanL_mx hr hc]
  show ((r : Int) ^ (c : Int).toNat % 10007) * _ % 10007 = _
  rw [mul_mod_l, Int.toNat_natCast, Int.mul_comm]
end Go.Proofs.Ytkfadbccakbpnaa

/- Plain: the coefficients by powers and traces, as the program finds them. -/
namespace Go.Proofs.Ytkfadbccakbpnaa
open Go.Abs
set_option linter.unusedVariables false
set_option linter.unusedSimpArgs false
set_option maxHeartbeats 1000000
theorem dotI_dsum : ∀ (xs ys : List Int) (n : Nat), xs.length = n → ys.length = n → dotI xs ys = dsum (fun c => xs[c]?.getD 0 * ys[c]?.getD 0) n
  | [], ys, n, h, h2 => by simp at h; subst h; rfl
  | x :: xs, [], n, h, h2 => by simp at h h2; omega
  | x :: xs, y :: ys, n, h, h2 => by
    obtain ⟨m, rfl⟩ : ∃ m, n = m + 1 := ⟨n - 1, by simp at h; omega⟩
    rw [dsum_shift, dotI, dotI_dsum xs ys m (by simpa using h) (by simpa using h2)]
    rfl
/-- A product of matrices, as numbers. -/
def tmM (a b : List (List Int)) : List (List Int) := (List.range a.length).map fun i => tb (fun k => dotI (a[i]?.getD []) (colS b k) % 10007) (b[0]?.getD []).length
@[simp] theorem tmM_len (a b : List (List Int)) : (tmM a b).length = a.length := by simp [tmM]
theorem tmM_ok (a b : List (List Int)) : Rws (b[0]?.getD []).length (tmM a b) := fun x hx => by
  obtain ⟨i, _, rfl⟩ := List.mem_map.1 hx
  exact ⟨by simp, tb_N fun k _ => isN_mod _⟩
theorem tmM_mx {n : Nat} {a b : List (List Int)} (hl : a.length = n) (hr : Rws n a) (hl2 : b.length = n) (hr2 : Rws n b) {r c : Nat} (h1 : r < n) (h2 : c < n) :
    mx (tmM a b) r c = dsum (fun k => mx a r k * mx b k c) n % 10007 := by
  have q0 := hr2.at (show 0 < b.length by omega)
  have e : (tmM a b)[r]?.getD [] = tb (fun k => dotI (a[r]?.getD []) (colS b k) % 10007) n := by simp [tmM, hl, h1, q0.1]
  show ((tmM a b)[r]?.getD [])[c]?.getD 0 = _
  rw [e, tb_get _ h2, dotI_dsum _ _ n ((hr.at (by omega)).1) (by simp [hl2])]
  congr 1
  refine dsum_congr fun k hk => ?_
  congr 1
  exact tb_get (fun i => (b[i]?.getD [])[c]?.getD 0) (by omega)
/-- A multiple of the unit matrix added. -/
def adU (a : List (List Int)) (k : Int) : List (List Int) := (List.range a.length).map fun i => (a[i]?.getD []).set i (((a[i]?.getD [])[i]?.getD 0 + k) % 10007)
@[simp] theorem adU_len (a : List (List Int)) (k : Int) : (adU a k).length = a.length := by simp [adU]
theorem adU_row {a : List (List Int)} {k : Int} {i : Nat} (h : i < a.length) : (adU a k)[i]?.getD [] = (a[i]?.getD []).set i (((a[i]?.getD [])[i]?.getD 0 + k) % 10007) := by simp [adU, h]
theorem adU_ok {n : Nat} {a : List (List Int)} (hr : Rws n a) (k : Int) : Rws n (adU a k) := fun x hx => by
  obtain ⟨i, h, rfl⟩ := List.mem_map.1 hx
  have q := hr.at (show i < a.length by simpa using h)
  refine ⟨by rw [List.length_set]; exact q.1, fun y hy => ?_⟩
  rcases List.mem_or_eq_of_mem_set hy with h | h
  · exact q.2 y h
  · subst h; exact isN_mod _
theorem adU_mx {n : Nat} {a : List (List Int)} (hl : a.length = n) (hr : Rws n a) (k : Int) {r c : Nat} (h1 : r < n) (h2 : c < n) : mx (adU a k) r c = if r = c then (mx a r c + k) % 10007 else mx a r c := by
  have q := (hr.at (i := r) (by omega)).1
  show ((adU a k)[r]?.getD [])[c]?.getD 0 = _
  rw [adU_row (by omega)]
  by_cases h : r = c
  · subst h; rw [if_pos rfl, List.getElem?_set_self (by omega)]; rfl
  · rw [if_neg h, List.getElem?_set_ne h]; rfl
def zeM (n : Nat) : List (List Int) := (List.range n).map fun _ => List.replicate n 0
theorem zeM_ok (n : Nat) : (zeM n).length = n ∧ Rws n (zeM n) := by
  refine ⟨by simp [zeM], fun x hx => ?_⟩
  obtain ⟨i, _, rfl⟩ := List.mem_map.1 hx
  refine ⟨by simp, fun y hy => ?_⟩
  rw [List.eq_of_mem_replicate hy]
  exact ⟨by omega, by omega⟩
theorem zeM_mx (n r c : Nat) : mx (zeM n) r c = 0 := by
  unfold mx zeM
  by_cases hr : r < n
  · simp [hr]
    by_cases hc : c < n <;> simp [hc]
  · simp [hr]
/-- Rows that are alike are equal. -/
theorem rows_ext {n : Nat} {a b : List (List Int)} (ha : a.length = n) (hb : b.length = n) (hra : Rws n a) (hrb : Rws n b) (h : ∀ r c, r < n → c < n → mx a r c = mx b r c) : a = b := by
  refine List.ext_getElem? fun r => ?_
  by_cases hr : r < n
  · have h1 := (hra.at (i := r) (by omega)).1
    have h2 := (hrb.at (i := r) (by omega)).1
    have e : a[r]?.getD [] = b[r]?.getD [] := by
      refine List.ext_getElem? fun c => ?_
      by_cases hc : c < n
      · have := h r c hr hc
        unfold mx at this
        generalize a[r]?.getD [] = x at *
        generalize b[r]?.getD [] = y at *
        rw [List.getElem?_eq_getElem (show c < x.length by omega), List.getElem?_eq_getElem (show c < y.length by omega)] at this ⊢
        simpa using this
      · rw [List.getElem?_eq_none (by omega), List.getElem?_eq_none (by omega)]
    rw [List.getElem?_eq_getElem (by omega), List.getElem?_eq_getElem (by omega)] at e ⊢
    simpa using e
  · rw [List.getElem?_eq_none (by omega), List.getElem?_eq_none (by omega)]
/-- The cofactors' coefficients, as numbers. -/
def adM (n : Nat) (M : Mx) (k : Nat) : List (List Int) := (List.range n).map fun j => tb (fun i => adS n M j i k % 10007) n
theorem adM_ok (n : Nat) (M : Mx) (k : Nat) : (adM n M k).length = n ∧ Rws n (adM n M k) := by
  refine ⟨by simp [adM], fun x hx => ?_⟩
  obtain ⟨i, _, rfl⟩ := List.mem_map.1 hx
  exact ⟨by simp, tb_N fun k _ => isN_mod _⟩
theorem adM_mx {n : Nat} (M : Mx) (k : Nat) {r c : Nat} (h1 : r < n) (h2 : c < n) : mx (adM n M k) r c = adS n M r c k % 10007 := by
  have e : (adM n M k)[r]?.getD [] = tb (fun i => adS n M r i k % 10007) n := by simp [adM, h1]
  show ((adM n M k)[r]?.getD [])[c]?.getD 0 = _
  rw [e]; exact tb_get _ h2
theorem fl_start (n : Nat) (M : Mx) : adU (zeM n) 1 = adM n M 0 := by
  have z := zeM_ok n
  refine rows_ext (by rw [adU_len]; exact z.1) (adM_ok n M 0).1 (adU_ok z.2 1) (adM_ok n M 0).2 fun r c h1 h2 => ?_
  rw [adU_mx z.1 z.2 1 h1 h2, adM_mx M 0 h1 h2, ad_0 n M h1 h2, zeM_mx]
  unfold idM
  split <;> rfl
theorem fl_times {n : Nat} {a : List (List Int)} (hl : a.length = n) (hr : Rws n a) (k : Nat) {r c : Nat} (h1 : r < n) (h2 : c < n) :
    mx (tmM a (adM n (mx a) k)) r c = dsum (fun j => mx a r j * adS n (mx a) j c k) n % 10007 := by
  have o := adM_ok n (mx a) k
  rw [tmM_mx hl hr o.1 o.2 h1 h2]
  refine dsum_cong fun j hj => ?_
  rw [adM_mx (mx a) k hj h2, mul_mod_r]
theorem fl_next {n : Nat} {a : List (List Int)} (h0 : 0 < n) (hl : a.length = n) (hr : Rws n a) (k : Nat) : adU (tmM a (adM n (mx a) k)) (chS n (mx a) (k + 1) % 10007) = adM n (mx a) (k + 1) := by
  have o := adM_ok n (mx a) k
  have q0 := o.2.at (show 0 < (adM n (mx a) k).length by omega)
  have tr := tmM_ok a (adM n (mx a) k)
  rw [q0.1] at tr
  have tl : (tmM a (adM n (mx a) k)).length = n := by rw [tmM_len]; exact hl
  refine rows_ext (by rw [adU_len]; exact tl) (adM_ok n _ _).1 (adU_ok tr _) (adM_ok n _ _).2 fun r c h1 h2 => ?_
  rw [adU_mx tl tr _ h1 h2, adM_mx _ _ h1 h2, ad_step n (mx a) h1 h2, fl_times hl hr k h1 h2]
  generalize dsum (fun j => mx a r j * adS n (mx a) j c k) n = z
  by_cases h : r = c
  · rw [if_pos h, if_pos h.symm]; omega
  · rw [if_neg h, if_neg (fun e => h e.symm), Int.add_zero]
/-- The trace, up to a row. -/
def trS (m : List (List Int)) : Nat → Int
  | 0 => 0
  | i + 1 => trS m i + mx m i i
theorem trS_is (m : List (List Int)) : ∀ n, trS m n = dsum (fun i => mx m i i) n
  | 0 => rfl
  | n + 1 => by rw [trS, trS_is m n]; rfl
theorem trS_bound {n : Nat} {m : List (List Int)} (hl : m.length = n) (hr : Rws n m) : ∀ i : Nat, i ≤ n → 0 ≤ trS m i ∧ trS m i ≤ i * 10006
  | 0, _ => by simp [trS]
  | i + 1, h => by
    have h1 := trS_bound hl hr i (by omega)
    have h2 := mx_N hr (show i < m.length by omega) i
    obtain ⟨h3, h4⟩ := h2
    rw [trS]; omega
theorem fl_coef {n : Nat} {a : List (List Int)} (h8 : n ≤ 8) (hl : a.length = n) (hr : Rws n a) (k : Nat) (hk : k < n) :
    -(trS (tmM a (adM n (mx a) k)) n % 10007) * pw ((k : Int) + 1) 10005 % 10007 = chS n (mx a) (k + 1) % 10007 := by
  have iv := inv_ok (a := (k : Int) + 1) ⟨by omega, by omega⟩ (by omega)
  have st := ch_step n (mx a) k
  have e1 : trS (tmM a (adM n (mx a) k)) n % 10007 = dsum (fun i => dsum (fun c => mx a i c * adS n (mx a) c i k) n) n % 10007 := by
    rw [trS_is]
    refine dsum_cong fun i hi => ?_
    rw [fl_times hl hr k hi hi, Int.emod_emod_of_dvd _ (Int.dvd_refl _)]
  rw [e1]
  generalize dsum (fun i => dsum (fun c => mx a i c * adS n (mx a) c i k) n) n = T at *
  generalize pw ((k : Int) + 1) 10005 = q at *
  generalize chS n (mx a) (k + 1) = e at *
  have e2 : -(T % 10007) * q % 10007 = (((k : Int) + 1) * e) * q % 10007 := by
    rw [st, Int.neg_mul, Int.neg_mul]
    have h1 : T % 10007 * q % 10007 = T * q % 10007 := mul_mod_l T q
    omega
  rw [e2, show ((k : Int) + 1) * e * q = e * (((k : Int) + 1) * q) by ac_rfl, ← mul_mod_r, iv, Int.mul_one]
end Go.Proofs.Ytkfadbccakbpnaa

/- Contracts: linear systems, solved by the reference and by the program. -/
namespace Go.Proofs.Ytkfadbccakbpnaa
open Go.Abs
set_option linter.unusedVariables false
set_option linter.unusedSimpArgs false
set_option maxHeartbeats 4000000
theorem omat_kl (W : List Nat) (A : List (List Int)) : klL W (omat A) = omat A := by
  induction A with
  | nil => rfl
  | cons r A ih => simp only [omat, List.map_cons] at ih ⊢; rw [klL, ih]; rfl
/-- The solution, by determinants. -/
def sysF (n : Nat) (a : List (List Int)) (b : List Int) (k : Nat) : Int := ldet n (repL a k b) * pw (ldet n a) 10005 % 10007
def solX (n : Nat) (a : List (List Int)) (b : List Int) : List Int := if ldet n a = 0 then [] else tb (sysF n a b) n
def solR (n : Nat) (a : List (List Int)) (b : List Int) : AV := .tup [.own 2 (solX n a b).length (avs (solX n a b)), .bool (decide (ldet n a ≠ 0))]
theorem solX_N (n : Nat) (a : List (List Int)) (b : List Int) : Ns (solX n a b) := by
  unfold solX
  split
  · exact Ns.nil
  · exact tb_N fun k _ => isN_mod _
theorem solX_len {n : Nat} {a : List (List Int)} {b : List Int} (h : ldet n a ≠ 0) : (solX n a b).length = n := by unfold solX; rw [if_neg h]; simp
theorem repL_row {a : List (List Int)} {k i : Nat} {b : List Int} (hi : i < a.length) : (repL a k b)[i]?.getD [] = (a[i]?.getD []).set k (b[i]?.getD 0) := by simp [repL, hi]
set_option maxRecDepth 100000 in
theorem l01Solve_c {n : Nat} (a : List (List Int)) (b : List Int) (hl : a.length = n) (hn : n ≤ 100) (hr : Rws n a) (hb : Ns b) (hbl : n ≤ b.length) :
    Con Try.prog 68 [.sl a.length (mat a), .sl b.length (avs b)] (solR n a b) := by
  have cD := l01Det_c n a hl hn hr
  have dN := ldet_isN n a hl hr
  unfold solR solX
  by_cases h0 : ldet n a = 0
  · rw [if_pos h0]
    simp only [h0, ne_eq, not_true_eq_false, decide_false]
    refine Con.n1 _ ?_
    rw [h0] at cD
    refine con_of_vc Try.mixed ⟨11, [], [], []⟩ Try.func68 (by decide) rfl (by simp) (by decide) (by simp [freshOK, freshL, go_sem]) ?_
    rw [Try.ntmps68]
    simp [go_sem]
    refine CallVC.of (cD) (by decide) ?_
    simp [go_sem]
  · rw [if_neg h0]
    simp only [h0, ne_eq, not_false_eq_true, decide_true, tb_len]
    have sF : ∀ k, sysF n a b k = ldet n (repL a k b) * pw (ldet n a) 10005 % 10007 := fun k => rfl
    generalize ldet n a = d at *
    refine con_of_vc Try.mixed ⟨11, [], [], []⟩ Try.func68 (by decide) rfl (by simp) (by decide) (by simp [freshOK, freshL, go_sem]) ?_
    rw [Try.ntmps68]
    simp [go_sem]
    refine CallVC.of (cD) (by decide) ?_
    simp [go_sem]
    simp [go_sem, h0]
    refine loop_inv ([7, 8, 9, 10] ++ List.range' 16 32) (fun k : Nat => [(7, .own 2 k (avs (tb (sysF n a b) k))), (8, .int k)]) (fun k => k ≤ n) (fun k => n - k) 0 (by simp) (by simp [go_sem]) (by simp [go_sem]) ?_
    intro k hk
    by_cases hkn : k < n
    · have hki : (k : Int) < a.length := by omega
      have rl : ∀ r ∈ a, r.length ≤ 1048576 := fun r h => by have := (hr r h).1; omega
      have cO := l01Own2_c a (by omega) rl
      have ro := repL_ok (b := b) hl hr hb k
      have rw' : ∀ i, i < a.length → (repL a k b)[i]?.getD [] = (a[i]?.getD []).set k (b[i]?.getD 0) := fun i hi => repL_row hi
      have cR := l01Det_c n (repL a k b) ro.1 hn ro.2
      have cR : Con Try.prog 142 [.sl a.length (mat (repL a k b))] (.int (ldet n (repL a k b))) := by rw [ro.1] at cR; rw [hl]; exact cR
      have rN := ldet_isN n (repL a k b) ro.1 ro.2
      have hsf := sF k
      generalize repL a k b = B at *
      simp [go_sem, hki]
      refine CallVC.of (cO) (by decide) ?_
      simp [go_sem]
      refine loop_inv ([10] ++ List.range' 24 16 ++ [9]) (fun i : Nat => [(9, .own 22 a.length (omat (mxR a B i))), (10, .int i)]) (fun i => i ≤ n) (fun i => n - i) 0 (by simp) (by simp [go_sem, mxR_zero]) (by simp [go_sem, omat_kl]) ?_
      intro i hi
      by_cases hin : i < n
      · have hii : (i : Int) < a.length := by omega
        have hia : i < a.length := by omega
        have Ml := mxR_len (A := a) (C := B) (by omega) (show i ≤ a.length by omega)
        have hg := omat_get (A := mxR a B i) (k := i) (by omega)
        have hgi : (mxR a B i)[i]?.getD [] = a[i]?.getD [] := by rw [mxR_get (by omega) (by omega), if_neg (by omega)]
        rw [hgi] at hg
        have hset := omat_set (mxR a B i) i (B[i]?.getD [])
        rw [mxR_set (by omega) hia] at hset
        have hnew := rw' i hia
        have ri := hr.at hia
        have hkr : k < (a[i]?.getD []).length := by omega
        have hib : i < b.length := by omega
        generalize mxR a B i = M at *
        generalize B[i]?.getD [] = new at *
        generalize a[i]?.getD [] = old at *
        have bne : ¬ b = [] := by rintro rfl; simp at hib
        simp [go_sem, hii, hg, avs_drop hib]
        refine ⟨by kernel_rfl, ⟨hib, bne⟩, hkr, ?_⟩
        refine ⟨by kernel_rfl, ?_⟩
        simp [go_sem]
        exact ⟨by omega, i + 1, by omega, by omega, Off_reset _ _ _ (by simp), by rw [← hset, hnew, List.length_set, avs_set], by omega⟩
      · have e : i = n := by omega
        subst e
        have hii : ¬ (i : Int) < a.length := by omega
        have hall := mxR_all (A := a) (C := B) (by omega)
        rw [hl] at hall
        rw [hall]
        have ts := tb_succ (sysF i a b) k
        have f1 : fits (ldet i B * pw d 10005) := mul_fits rN (isN_mod _)
        simp [go_sem, hii]
        refine CallVC.of (cR) (by decide) ?_
        simp [go_sem]
        refine CallVC.of (l01Inv_c _ dN) (by decide) ?_
        simp [go_sem]
        refine CallVC.of (l01Mul_c _ _ f1) (by decide) ?_
        simp [go_sem]
        rw [← hsf]
        exact ⟨by omega, by omega, k + 1, by omega, by omega, (Off.reset (by intro x hx; simp at hx ⊢; omega) (by simp) (by simp [go_sem, Off_reset])), by rw [ts, avs_snoc]; exact ⟨rfl, rfl⟩, by omega⟩
    · have e : k = n := by omega
      subst e
      have hki : ¬ (k : Int) < a.length := by omega
      simp [go_sem, hki]
theorem leadL_c (a : List Int) (hl : a.length ≤ 1048576) : Con Try.prog 146 [.sl a.length (avs a)] (.int (leadL a)) := by
  refine con_of_vc Try.mixed ⟨4, [], [], []⟩ Try.func146 (by decide) rfl (by simp) (by decide) (by simp [freshOK, freshL, go_sem]) ?_
  rw [Try.ntmps146]
  simp [go_sem]
  refine loop_inv (3 :: List.range' 4 13) (fun i : Nat => [(3, .int i)]) (fun i => i ≤ a.length ∧ ldF a (a.length - i) i = leadL a) (fun i => a.length - i) 0 ⟨by omega, by simp [leadL]⟩ (by simp [go_sem]) (by simp [go_sem]) ?_
  rintro i ⟨hi, he⟩
  by_cases h : i < a.length
  · have hf : ldF a (a.length - i) i = if a[i]?.getD 0 = 0 then ldF a (a.length - (i + 1)) (i + 1) else i := by
      rw [show a.length - i = (a.length - (i + 1)) + 1 by omega, ldF]
    have ne : ¬ a = [] := by rintro rfl; simp at h
    have hii : (i : Int) < a.length := by omega
    by_cases hz : a[i]?.getD 0 = 0
    · rw [if_pos hz] at hf
      simp [go_sem, hii, avs_drop h, hz]
      exact ⟨ne, by omega, i + 1, ⟨by omega, by rw [← he, hf]⟩, by omega, Off_reset _ _ _ (by simp), by omega⟩
    · rw [if_neg hz, he] at hf
      simp [go_sem, hii, avs_drop h, hz]
      exact ⟨ne, by omega⟩
  · have e : i = a.length := by omega
    subst e
    rw [Nat.sub_self, ldF] at he
    simp [go_sem]
    omega
theorem widL_take {a : List (List Int)} {b : List Int} {i : Nat} (h : i < a.length) : ((List.range (i + 1)).map fun i => a[i]?.getD [] ++ [b[i]?.getD 0]) = ((List.range i).map fun i => a[i]?.getD [] ++ [b[i]?.getD 0]) ++ [a[i]?.getD [] ++ [b[i]?.getD 0]] := by
  rw [List.range_succ, List.map_append]; rfl
set_option maxRecDepth 100000 in
theorem solve_w {n : Nat} (a : List (List Int)) (b : List Int) (h0 : 0 < n) (hl : a.length = n) (hn : n ≤ 100) (hr : Rws n a) (hb : Ns b) (hbl : n ≤ b.length) {R : List (List Int)} {dt : Int} {dn : Nat} (x : AV)
    (hst : redR (n + 1) 0 (widL a b, 1, 0) = (R, dt, dn)) (gl : R.length = n) (gr : Rws (n + 1) R) (gd : dn ≤ n) (hf : freshOK x = true)
    (hA : dn = n → leadL (R[n - 1]?.getD []) = n - 1 → x = .tup [.own 2 R.length (avs (colS R n)), .bool true])
    (hB : ¬ (dn = n ∧ leadL (R[n - 1]?.getD []) = n - 1) → x = .tup [.val (.slice none 0 0), .bool false]) :
    Con Try.prog 76 [.sl a.length (mat a), .sl b.length (avs b)] x := by
  have wo := widL_ok (a := a) (b := b) hl hr hb
  have cR := reduce_c (w := n + 1) (widL a b) (by omega) (by omega) (by omega) wo.2
  have m0 := mat_drop (xss := a) (k := 0) (by omega)
  simp only [List.drop_zero] at m0
  have m1 : AV.sl (a[0]?.getD []).length (avs (a[0]?.getD [])) :: mat a.tail = mat a := by cases a with | nil => simp at hl; omega | cons x l => simp [mat]
  have r0 := hr.at (show 0 < a.length by omega)
  have hw : widL a b = (List.range a.length).map fun i => a[i]?.getD [] ++ [b[i]?.getD 0] := rfl
  have ne : ¬ a = [] := by rintro rfl; simp at hl; omega
  have wl : (widL a b).length = a.length := by simp [widL]
  rw [wl, hst] at cR
  simp only at cR
  refine con_of_vc Try.mixed ⟨12, [37], [1000000 + 145], []⟩ Try.func76 (by decide) rfl (by simp) (by decide) hf ?_
  rw [Try.ntmps76]
  simp [go_sem]
  simp [go_sem, m0]
  simp only [m1]
  refine ⟨by kernel_rfl, ⟨by omega, ne⟩, ?_⟩
  refine ⟨by kernel_rfl, ?_⟩
  simp [go_sem]
  refine loop_inv ([6, 8, 9] ++ List.range' 19 17) (fun i : Nat => [(6, .own 22 i (omat ((List.range i).map fun i => a[i]?.getD [] ++ [b[i]?.getD 0]))), (19, .int i)]) (fun i => i ≤ n) (fun i => n - i) 0 (by simp) (by simp [go_sem, omat]) (by simp [go_sem]) ?_
  intro i hi
  by_cases hin : i < n
  · have hii : (i : Int) < a.length := by omega
    have hia : i < a.length := by omega
    have hib : i < b.length := by omega
    have bne : ¬ b = [] := by rintro rfl; simp at hib
    have ri := (hr.at hia).1
    have cC := Clone_c (a[i]?.getD []) (by omega)
    have ho := omat_range_succ (fun i => a[i]?.getD [] ++ [b[i]?.getD 0]) i
    simp [go_sem, hii, mat_drop hia, avs_drop hib]
    refine ⟨ne, by kernel_rfl, ?_⟩
    refine CallD.of (cC) (by simp [roots, rootsL]) (by decide) ?_
    simp [go_sem]
    simp [go_sem, avs_drop hib]
    refine ⟨⟨hib, bne⟩, ⟨by omega, by omega⟩, ⟨by omega, by omega⟩, ?_⟩
    refine ⟨by kernel_rfl, ?_⟩
    simp [go_sem]
    refine ⟨by omega, i + 1, by omega, by omega, Off_reset _ _ _ (by simp), ?_, by omega⟩
    rw [ho, List.length_append, List.length_singleton, avs_snoc]
    exact ⟨rfl, rfl⟩
  · have e : i = a.length := by omega
    subst e
    rw [← hw]
    simp [go_sem]
    refine ⟨_, _, cR, ?_⟩
    simp [go_sem]
    have hd3 : (((a[0]?.getD []).length : Int) - 1) = ((n - 1 : Nat) : Int) := by omega
    by_cases hdn : dn = n
    · have hdR : dn = R.length := by omega
      subst hdR
      have hd0 : ((R.length : Nat) : Int) = (a[0]?.getD []).length := by omega
      have ht : R.take R.length = R := List.take_of_length_le (by omega)
      have hR1 := rmat_get (A := R) (k := n - 1) (by omega)
      have rr := (gr.at (show n - 1 < R.length by omega)).1
      have hL := leadL_c (R[n - 1]?.getD []) (by omega)
      rw [ht]
      have hk : n ≤ R.length := by omega
      have cC := column_c R n (by omega) (fun r h => by have := (gr r h).1; omega) (by omega)
      have hd4 : R.length = (a[0]?.getD []).length := by omega
      simp [go_sem, hd0, hd3, hR1]
      refine ⟨by omega, by omega, ?_⟩
      refine CallVC.of (hL) (by decide) ?_
      simp [go_sem]
      by_cases hld : leadL (R[n - 1]?.getD []) = n - 1
      · have hx := hA hdn hld
        have hlt : ¬ (leadL (R[n - 1]?.getD []) : Int) ≠ (((a[0]?.getD []).length : Int) - 1) := by omega
        subst hx
        simp [go_sem, hd3, hld]
        refine ⟨by omega, ?_⟩
        have hr0 : ((a[0]?.getD []).length : Int) = (n : Int) := by omega
        simp [go_sem, hr0]
        refine CallVC.of (cC) (by decide) ?_
        simp [go_sem]
      · have hx := hB (fun h => hld h.2)
        have hlt : ¬ (leadL (R[n - 1]?.getD []) : Int) = (((n - 1 : Nat) : Int)) := by omega
        subst hx
        simp [go_sem, hd3, hld, hlt]
        omega
    · have hx := hB (fun h => hdn h.1)
      have hd0 : ¬ ((dn : Nat) : Int) = (a[0]?.getD []).length := by omega
      subst hx
      simp [go_sem, hd0]
theorem solve_c {n : Nat} (a : List (List Int)) (b : List Int) (h0 : 0 < n) (hl : a.length = n) (hn : n ≤ 100) (hr : Rws n a) (hb : Ns b) (hbl : n ≤ b.length) :
    Con Try.prog 76 [.sl a.length (mat a), .sl b.length (avs b)] (solR n a b) := by
  have wo := widL_ok (a := a) (b := b) hl hr hb
  have sv := solve_is h0 hl hr hb
  obtain ⟨k', g1, g2, g3⟩ := redR_GI (n + 1) 0 (widL a b, 1, 0) (by omega) (GI.start wo.1 wo.2)
  have gl := g3.len
  have gr := g3.rws
  have gd := g3.dle
  clear g3 g1 g2
  generalize hst : redR (n + 1) 0 (widL a b, 1, 0) = st at *
  obtain ⟨R, dt, dn⟩ := st
  simp only at sv gl gr gd
  unfold oneB at sv
  have sv2 : ldet n a ≠ 0 → colS R n = tb (sysF n a b) n := fun h => by
    unfold colS tb
    rw [gl]
    refine List.map_congr_left fun k hk => ?_
    have hk : k < n := by simpa using hk
    exact sv.2 h k hk
  unfold solR solX
  by_cases hz : ldet n a = 0
  · rw [if_pos hz]
    have h1 := sv.1
    simp only [hz, ne_eq, not_true_eq_false, decide_false] at h1 ⊢
    refine Con.n1 _ (solve_w a b h0 hl hn hr hb hbl _ hst gl gr gd (by simp [freshOK, freshL]) (fun h2 h3 => ?_) (fun _ => rfl))
    rw [h2, h3] at h1
    simp at h1
  · rw [if_neg hz]
    have h1 := sv.1
    simp only [hz, ne_eq, not_false_eq_true, decide_true, Bool.and_eq_true, decide_eq_true_eq] at h1 ⊢
    refine solve_w a b h0 hl hn hr hb hbl _ hst gl gr gd (by simp [freshOK, freshL]) (fun h2 h3 => ?_) (fun h => (h h1).elim)
    rw [sv2 hz, tb_len, gl]
end Go.Proofs.Ytkfadbccakbpnaa

/- Contracts: products of matrices, the unit matrix, the coefficients of a determinant, the program's. -/
namespace Go.Proofs.Ytkfadbccakbpnaa
open Go.Abs
set_option linter.unusedVariables false
set_option linter.unusedSimpArgs false
set_option maxHeartbeats 4000000
theorem colS_is {n : Nat} {b : List (List Int)} (hr : Rws n b) (k : Nat) : Ns (colS b k) := tb_N fun i hi => (hr.at hi).2.get k
set_option maxRecDepth 100000 in
theorem timesMatrix_c {n : Nat} (a b : List (List Int)) (ha : a.length ≤ 64) (hn : n ≤ 64) (hr : Rws n a) (h0 : 0 < b.length) (hb : b.length = n) {w : Nat} (hw : w ≤ 64) (hrb : Rws w b) :
    Con Try.prog 103 [.sl a.length (mat a), .sl b.length (mat b)] (.own 22 a.length (omat (tmM a b))) := by
  have q0 := (hrb.at h0).1
  have m0 := mat_drop (xss := b) (k := 0) h0
  simp only [List.drop_zero] at m0
  have m1 : AV.sl (b[0]?.getD []).length (avs (b[0]?.getD [])) :: mat b.tail = mat b := by cases b with | nil => simp at h0 | cons x l => simp [mat]
  have hd : tmM a b = (List.range a.length).map fun i => tb (fun k => dotI (a[i]?.getD []) (colS b k) % 10007) w := by unfold tmM; rw [q0]
  have bne : ¬ b = [] := by rintro rfl; simp at h0
  rw [hd]
  refine con_of_vc Try.mixed ⟨10, [], [], []⟩ Try.func103 (by decide) rfl (by simp) (by decide) (by simp [freshOK, freshL, go_sem]) ?_
  rw [Try.ntmps103]
  simp [go_sem]
  refine loop_inv ([5, 7, 8, 9] ++ List.range' 13 26) (fun i : Nat => [(5, .own 22 i (omat ((List.range i).map fun i => tb (fun k => dotI (a[i]?.getD []) (colS b k) % 10007) w))), (13, .int i)]) (fun i => i ≤ a.length) (fun i => a.length - i) 0 (by simp) (by simp [go_sem, omat]) (by simp [go_sem]) ?_
  intro i hi
  by_cases hin : i < a.length
  · have hii : (i : Int) < a.length := by omega
    have ri := hr.at hin
    have os := omat_range_succ (fun i => tb (fun k => dotI (a[i]?.getD []) (colS b k) % 10007) w) i
    have ane : ¬ a = [] := by rintro rfl; simp at hin
    rw [tb_len] at os
    generalize hrow : a[i]?.getD [] = row at *
    simp [go_sem, hii, mat_drop hin, hrow, m0]
    simp only [m1]
    refine ⟨ane, h0, ?_⟩
    have ex : ∀ k, tb (fun k => dotI row (colS b k) % 10007) (k + 1) = tb (fun k => dotI row (colS b k) % 10007) k ++ [dotI row (colS b k) % 10007] := fun k => tb_succ _ k
    refine loop_inv ([8, 9] ++ List.range' 22 12) (fun k : Nat => [(8, .own 2 k (avs (tb (fun k => dotI row (colS b k) % 10007) k))), (22, .int k)]) (fun k => k ≤ w) (fun k => w - k) 0 (by simp) (by simp [go_sem]) (by simp [go_sem]) ?_
    intro k hk
    by_cases hkw : k < w
    · have hki : (k : Int) < (b[0]?.getD []).length := by omega
      have cC := column_c b k (by omega) (fun r h => by have := (hrb r h).1; omega) (by omega)
      have cD := dot_c row (colS b k) (by rw [colS_len]; omega) (by omega) ri.2 (colS_is hrb k)
      rw [colS_len] at cD
      simp [go_sem, hki]
      refine CallVC.of (cC) (by decide) ?_
      simp [go_sem]
      refine CallVC.of (cD) (by decide) ?_
      simp [go_sem]
      exact ⟨⟨by omega, by omega⟩, by omega, k + 1, by omega, by omega, Off_reset _ _ _ (by simp), by rw [ex, avs_snoc]; exact ⟨rfl, rfl⟩, by omega⟩
    · have e : k = w := by omega
      subst e
      have hki : ¬ (k : Int) < (b[0]?.getD []).length := by omega
      simp [go_sem, hki]
      exact ⟨⟨by omega, by omega⟩, by omega, i + 1, by omega, by omega, (Off.reset (by intro x hx; simp at hx ⊢; omega) (by simp) (by simp [go_sem, Off_reset])), by rw [os]; exact ⟨rfl, rfl⟩, by omega⟩
  · have e : i = a.length := by omega
    subst e
    simp [go_sem]
theorem zeroMatrix_c (n : Nat) (hn : n ≤ 64) : Con Try.prog 168 [.int n] (.own 22 n (omat (zeM n))) := by
  have hd : zeM n = (List.range n).map fun _ => List.replicate n 0 := rfl
  rw [hd]
  refine con_of_vc Try.mixed ⟨4, [], [], []⟩ Try.func168 (by decide) rfl (by simp) (by decide) (by simp [freshOK, freshL, go_sem]) ?_
  rw [Try.ntmps168]
  simp [go_sem]
  refine loop_inv ([3] ++ List.range' 6 8) (fun i : Nat => [(3, .own 22 i (omat ((List.range i).map fun _ => List.replicate n 0))), (6, .int i)]) (fun i => i ≤ n) (fun i => n - i) 0 (by simp) (by simp [go_sem, omat]) (by simp [go_sem]) ?_
  intro i hi
  by_cases hin : i < n
  · have hii : (i : Int) < n := by omega
    have os := omat_range_succ (fun _ => List.replicate n 0) i
    have rp := avs_repl n 0
    rw [List.length_replicate] at os
    simp [go_sem, hii, hin]
    exact ⟨⟨by omega, by omega⟩, ⟨by omega, by omega⟩, ⟨by omega, by omega⟩, i + 1, by omega, by omega, Off_reset _ _ _ (by simp), by rw [os, rp]; exact ⟨rfl, rfl⟩, by omega⟩
  · have e : i = n := by omega
    subst e
    simp [go_sem]
set_option maxRecDepth 100000 in
theorem addUnit_c {n : Nat} (a : List (List Int)) (k : Int) (hl : a.length = n) (hn : n ≤ 64) (hr : Rws n a) (hk : isN k) : Con Try.prog 169 [.sl a.length (mat a), .int k] (.own 22 a.length (omat (adU a k))) := by
  have cC := cloneRows_c a (by omega) (fun r h => by have := (hr r h).1; omega)
  have al := adU_len a k
  refine con_of_vc Try.mixed ⟨7, [], [], []⟩ Try.func169 (by decide) rfl (by simp) (by decide) (by simp [freshOK, freshL, go_sem]) ?_
  rw [Try.ntmps169]
  simp [go_sem]
  refine CallVC.of (cC) (by decide) ?_
  simp [go_sem]
  refine loop_inv ([5, 6] ++ List.range' 11 20) (fun i : Nat => [(5, .own 22 a.length (omat (mxR a (adU a k) i))), (11, .int i)]) (fun i => i ≤ a.length) (fun i => a.length - i) 0 (by simp) (by simp [go_sem, mxR_zero]) (by simp [go_sem, omat_kl]) ?_
  intro i hi
  by_cases hin : i < a.length
  · have hii : (i : Int) < a.length := by omega
    have hg := omat_get (A := mxR a (adU a k) i) (k := i) (by rw [mxR_len al hi]; exact hin)
    have hgi : (mxR a (adU a k) i)[i]?.getD [] = a[i]?.getD [] := by rw [mxR_get al hi, if_neg (by omega)]
    rw [hgi] at hg
    have hset := omat_set (mxR a (adU a k) i) i ((adU a k)[i]?.getD [])
    rw [mxR_set al hin] at hset
    have hnew := adU_row (k := k) hin
    have ri := hr.at hin
    have hkr : i < (a[i]?.getD []).length := by omega
    have nN := ri.2.get i
    have f1 := add_fits nN hk
    generalize mxR a (adU a k) i = M at *
    generalize (adU a k)[i]?.getD [] = new at *
    generalize a[i]?.getD [] = old at *
    simp [go_sem, hii, hg, avs_at hkr, avs_drop hkr]
    refine ⟨by kernel_rfl, hkr, f1, ?_⟩
    refine CallD.of (num_c _ f1.1 f1.2) (by simp [roots, rootsL]) (by decide) ?_
    simp [go_sem]
    simp [go_sem, hg]
    refine ⟨hkr, ?_⟩
    refine ⟨by kernel_rfl, ?_⟩
    simp [go_sem]
    exact ⟨by omega, i + 1, by omega, by omega, Off_reset _ _ _ (by simp), by rw [← hset, hnew, List.length_set, avs_set], by omega⟩
  · have e : i = a.length := by omega
    subst e
    rw [mxR_all al]
    simp [go_sem]
theorem lengthM_c (n : Nat) (cs : List AV) (hn : n ≤ 9223372036854775807) : Con Try.prog 164 [.sl n cs] (.int n) := by
  refine con_of_vc Try.mixed ⟨3, [], [], []⟩ Try.func164 (by decide) rfl (by simp) (by decide) (by simp [freshOK, freshL, go_sem]) ?_
  rw [Try.ntmps164]
  simp [go_sem]
set_option maxRecDepth 100000 in
theorem unitLess_c {n : Nat} (a : List (List Int)) (h0 : 0 < n) (h8 : n ≤ 8) (hl : a.length = n) (hr : Rws n a) : Con Try.prog 153 [.sl a.length (mat a)] (.own 2 (n + 1) (avs (chL n a))) := by
  have cZ := zeroMatrix_c n (by omega)
  have z := zeM_ok n
  have cU := addUnit_c (n := n) (zeM n) 1 z.1 (by omega) z.2 ⟨by omega, by omega⟩
  rw [z.1, fl_start n (mx a)] at cU
  have ad := adM_ok n (mx a)
  have cd : chL n a = tb (fun k => chS n (mx a) k % 10007) (n + 1) := rfl
  have c0 : tb (fun k => chS n (mx a) k % 10007) (0 + 1) = [1] := by rw [tb_succ]; simp [ch_0]
  have tl : ∀ k, (tmM a (adM n (mx a) k)).length = n := fun k => by rw [tmM_len]; exact hl
  have tr : ∀ k, Rws n (tmM a (adM n (mx a) k)) := fun k => by
    have := tmM_ok a (adM n (mx a) k)
    rwa [((ad k).2.at (show 0 < (adM n (mx a) k).length by rw [(ad k).1]; exact h0)).1] at this
  rw [cd]
  refine con_of_vc Try.mixed ⟨9, [], [], []⟩ Try.func153 (by decide) rfl (by simp) (by decide) (by simp [freshOK, freshL, go_sem]) ?_
  rw [Try.ntmps153]
  simp [go_sem]
  simp [go_sem, hl]
  refine CallVC.of (cZ) (by decide) ?_
  simp [go_sem]
  refine CallVC.of (cU) (by decide) ?_
  simp [go_sem]
  refine loop_inv ([3, 4, 5, 6, 7, 8] ++ List.range' 14 38) (fun k : Nat => [(3, .own 2 (k + 1) (avs (tb (fun k => chS n (mx a) k % 10007) (k + 1)))), (4, .own 22 n (omat (adM n (mx a) k))), (5, .int (k + 1))]) (fun k => k ≤ n) (fun k => n - k) 0 (by simp) (by simp [go_sem, c0]; rfl) (by simp [go_sem, omat_kl]) ?_
  intro k hk
  have cL := lengthM_c a.length (mat a) (by omega)
  simp [go_sem, hl]
  rw [hl] at cL
  refine CallVC.of (cL) (by decide) ?_
  simp [go_sem]
  by_cases hkn : k < n
  · have hki : (k : Int) + 1 ≤ n := by omega
    have cT := timesMatrix_c a (adM n (mx a) k) (by omega) (show n ≤ 64 by omega) hr (by rw [(ad k).1]; exact h0) (ad k).1 (show n ≤ 64 by omega) (ad k).2
    rw [(ad k).1, hl] at cT
    have tb' := trS_bound (tl k) (tr k) n (Nat.le_refl _)
    have fc := fl_coef h8 hl hr k hkn
    have fn := fl_next h0 hl hr k
    have cA := addUnit_c (n := n) (tmM a (adM n (mx a) k)) (chS n (mx a) (k + 1) % 10007) (tl k) (by omega) (tr k) (isN_mod _)
    rw [fn, tl k] at cA
    have ts := tb_succ (fun k => chS n (mx a) k % 10007) (k + 1)
    have trN := fun i hi => trS_bound (tl k) (tr k) i hi
    have mN := fun i (hi : i < n) => mx_N (tr k) (show i < (tmM a (adM n (mx a) k)).length by rw [tl k]; exact hi) i
    have tlk := tl k
    have trk := tr k
    generalize tmM a (adM n (mx a) k) = T at *
    have cI := inv_c ((k : Int) + 1) ⟨by omega, by omega⟩
    simp [go_sem, hki]
    refine CallVC.of (cT) (by decide) ?_
    simp [go_sem]
    refine loop_inv ([6, 7] ++ List.range' 25 13) (fun i : Nat => [(6, .int (trS T i)), (25, .int i)]) (fun i => i ≤ n) (fun i => n - i) 0 (by simp) (by simp [go_sem, trS]) (by simp [go_sem]) ?_
    intro i hi
    by_cases hin : i < n
    · have hii : (i : Int) < n := by omega
      have ri := trk.at (show i < T.length by omega)
      have hkr : i < (T[i]?.getD []).length := by omega
      have hg := omat_get (A := T) (k := i) (by omega)
      have mm : (T[i]?.getD [])[i]?.getD 0 = mx T i i := rfl
      have b1 := trN i hi
      have b2 := mN i hin
      obtain ⟨b3, b4⟩ := b2
      have ps : trS T (i + 1) = trS T i + mx T i i := rfl
      simp [go_sem, hii, hg, avs_at hkr, avs_drop hkr, mm]
      exact ⟨hkr, ⟨by omega, by omega⟩, ⟨by omega, by omega⟩, i + 1, by omega, by omega, Off_reset _ _ _ (by simp), by rw [ps], by omega⟩
    · have e : i = n := by omega
      subst e
      have hii : ¬ (i : Int) < i := by omega
      have hb := mul_bound (isN_mod (trS T i)) (show isN (pw ((k : Int) + 1) 10005) from isN_mod _)
      have f1 : fits (-(trS T i % 10007) * pw ((k : Int) + 1) 10005) := by
        rw [Int.neg_mul]
        exact ⟨by omega, by omega⟩
      have tn := isN_mod (trS T i)
      simp [go_sem, hii]
      refine CallVC.of (num_c _ (by omega) (by omega)) (by decide) ?_
      simp [go_sem]
      refine ⟨⟨by have := tn.2; omega, by have := tn.1; omega⟩, ?_⟩
      refine CallVC.of (cI) (by decide) ?_
      simp [go_sem]
      refine ⟨f1, ?_⟩
      refine CallVC.of (num_c _ f1.1 f1.2) (by decide) ?_
      simp [go_sem]
      rw [fc]
      refine ⟨⟨by omega, by omega⟩, ?_⟩
      refine CallVC.of (cA) (by decide) ?_
      simp [go_sem]
      exact ⟨⟨by omega, by omega⟩, k + 1, by omega, by omega, (Off.reset (by intro x hx; simp at hx ⊢; omega) (by simp) (by simp [go_sem, Off_reset])), by rw [ts, avs_snoc]; exact ⟨rfl, rfl⟩, rfl, by omega⟩
  · have e : k = n := by omega
    subst e
    have hki : ¬ (k : Int) + 1 ≤ k := by omega
    simp [go_sem, hki]
end Go.Proofs.Ytkfadbccakbpnaa

/- Contracts: the coefficients of a determinant, the reference's. -/
namespace Go.Proofs.Ytkfadbccakbpnaa
open Go.Abs
set_option linter.unusedVariables false
set_option linter.unusedSimpArgs false
set_option maxHeartbeats 4000000
def unR (n i : Nat) : List Int := tb (fun c => if c = i then 1 else 0) n
def unM (n : Nat) : List (List Int) := (List.range n).map (unR n)
theorem unR_set {n i : Nat} (h : i < n) : (List.replicate n (0 : Int)).set i 1 = unR n i := by
  refine List.ext_getElem (by simp [unR]) fun c h1 h2 => ?_
  rw [List.getElem_set]
  simp only [unR, tb, List.getElem_map, List.getElem_range]
  by_cases e : i = c
  · subst e; simp
  · rw [if_neg e, if_neg (fun x => e x.symm)]; simp
theorem unM_ok (n : Nat) : (unM n).length = n ∧ Rws n (unM n) := by
  refine ⟨by simp [unM], fun x hx => ?_⟩
  obtain ⟨i, _, rfl⟩ := List.mem_map.1 hx
  exact ⟨by simp [unR], tb_N fun k _ => by split <;> exact ⟨by omega, by omega⟩⟩
theorem unM_row {n i : Nat} (h : i < n) : (unM n)[i]?.getD [] = unR n i := by simp [unM, h]
theorem l19Unit_c (n : Nat) (hn : n ≤ 64) : Con Try.prog 95 [.int n] (.own 22 n (omat (unM n))) := by
  have hd : unM n = (List.range n).map (unR n) := rfl
  rw [hd]
  refine con_of_vc Try.mixed ⟨6, [], [], []⟩ Try.func95 (by decide) rfl (by simp) (by decide) (by simp [freshOK, freshL, go_sem]) ?_
  rw [Try.ntmps95]
  simp [go_sem]
  refine loop_inv ([3, 4, 5] ++ List.range' 7 14) (fun i : Nat => [(3, .own 22 i (omat ((List.range i).map (unR n)))), (4, .int i)]) (fun i => i ≤ n) (fun i => n - i) 0 (by simp) (by simp [go_sem, omat]) (by simp [go_sem]) ?_
  intro i hi
  by_cases hin : i < n
  · have hii : (i : Int) < n := by omega
    have os := omat_range_succ (unR n) i
    have rp := avs_repl n 0
    have rs := unR_set hin
    have ul : (unR n i).length = n := by simp [unR]
    rw [ul] at os
    simp [go_sem, hii, hin, rp]
    exact ⟨⟨by omega, by omega⟩, ⟨by omega, by omega⟩, ⟨by omega, by omega⟩, i + 1, by omega, by omega, Off_reset _ _ _ (by simp), by rw [os, avs_set, rs]; exact ⟨rfl, rfl⟩, by omega⟩
  · have e : i = n := by omega
    subst e
    simp [go_sem]
theorem unlR_is {n : Nat} {a : List (List Int)} {i : Nat} (ha : (a[i]?.getD []).length = n) (z : Nat) :
    tb (fun c => ((unR n i)[c]?.getD 0 + (tb (fun c => (a[i]?.getD [])[c]?.getD 0 * ((0 - (z : Int)) % 10007) % 10007) n)[c]?.getD 0) % 10007) n = unlR n a z i := by
  unfold unlR tb
  refine List.map_congr_left fun c hc => ?_
  have hc : c < n := by simpa using hc
  have e1 : (unR n i)[c]?.getD 0 = if c = i then 1 else 0 := tb_get (fun c => if c = i then 1 else 0) hc
  have e2 := tb_get (fun c => (a[i]?.getD [])[c]?.getD 0 * ((0 - (z : Int)) % 10007) % 10007) hc
  unfold tb at e2
  rw [e1, e2]
theorem unlL_row {n : Nat} {a : List (List Int)} {z i : Nat} (h : i < n) : (unlL n a z)[i]?.getD [] = unlR n a z i := by simp [unlL, h]
theorem interp_X {n : Nat} (h8 : n ≤ 8) (a : List (List Int)) : solX (n + 1) (vanL n) (valL n a) = chL n a := by
  unfold solX
  rw [if_neg (van_ne h8)]
  refine List.ext_getElem (by simp) fun k h1 h2 => ?_
  have hk : k < n + 1 := by simpa using h2
  have e := interp_is h8 a k hk
  simp only [tb, List.getElem_map, List.getElem_range]
  show sysF (n + 1) (vanL n) (valL n a) k = _
  unfold sysF
  rw [e, List.getElem?_eq_getElem h2]; rfl
set_option maxRecDepth 100000 in
theorem l19Det_c {n : Nat} (a : List (List Int)) (h8 : n ≤ 8) (hl : a.length = n) (hr : Rws n a) : Con Try.prog 148 [.sl a.length (mat a)] (.own 2 (n + 1) (avs (chL n a))) := by
  have cU := l19Unit_c n (by omega)
  have cS := l01Solve_c (n := n + 1) (vanL n) (valL n a) (vanL_len n) (by omega) (vanL_ok n) (valL_N n a) (by simp [valL])
  have vl : (valL n a).length = n + 1 := by simp [valL]
  have ie := interp_X h8 a
  unfold solR at cS
  rw [ie, vanL_len, vl, chL_len] at cS
  have hv : vanL n = (List.range (n + 1)).map fun (z : Nat) => tb (fun k => pw (z : Int) (k : Int)) (n + 1) := rfl
  have hw : valL n a = tb (fun z => ldet n (unlL n a z)) (n + 1) := rfl
  refine con_of_vc Try.mixed ⟨13, [], [], []⟩ Try.func148 (by decide) rfl (by simp) (by decide) (by simp [freshOK, freshL, go_sem]) ?_
  rw [Try.ntmps148]
  simp [go_sem]
  simp [go_sem, hl]
  refine loop_inv ([4, 5, 6, 7, 8, 9, 10] ++ List.range' 17 48) (fun z : Nat => [(4, .own 22 z (omat ((List.range z).map fun (z : Nat) => tb (fun k => pw (z : Int) (k : Int)) (n + 1)))), (5, .own 2 z (avs (tb (fun z => ldet n (unlL n a z)) z))), (6, .int z)]) (fun z => z ≤ n + 1) (fun z => n + 1 - z) 0 (by simp) (by simp [go_sem, omat]) (by simp [go_sem]) ?_
  intro z hz
  by_cases hzn : z ≤ n
  · have hzi : (z : Int) ≤ n := by omega
    have uo := unlL_ok n a z
    have cD := l01Det_c n (unlL n a z) uo.1 (by omega) uo.2
    rw [uo.1] at cD
    have dN := ldet_isN n (unlL n a z) uo.1 uo.2
    have ts := tb_succ (fun z => ldet n (unlL n a z)) z
    have os := omat_range_succ (fun (z : Nat) => tb (fun k => pw (z : Int) (k : Int)) (n + 1)) z
    rw [tb_len] at os
    have uM := unM_ok n
    have ur := fun i (h : i < n) => unlL_row (a := a) (z := z) h
    generalize hU : unlL n a z = U at *
    simp [go_sem, hzi, hzn]
    refine CallVC.of (cU) (by decide) ?_
    simp [go_sem]
    refine loop_inv ([8] ++ List.range' 24 20 ++ [7]) (fun i : Nat => [(7, .own 22 n (omat (mxR (unM n) U i))), (8, .int i)]) (fun i => i ≤ n) (fun i => n - i) 0 (by simp) (by simp [go_sem, mxR_zero]) (by simp [go_sem, omat_kl]) ?_
    intro i hi
    by_cases hin : i < n
    · have hii : (i : Int) < n := by omega
      have hia : i < a.length := by omega
      have ane : ¬ a = [] := by rintro rfl; simp at hia
      have hg := omat_get (A := mxR (unM n) U i) (k := i) (by rw [mxR_len (by omega) (by omega)]; omega)
      have Ml := mxR_len (A := unM n) (C := U) (by omega) (show i ≤ (unM n).length by omega)
      have hgi : (mxR (unM n) U i)[i]?.getD [] = unR n i := by rw [mxR_get (by omega) (by omega), if_neg (by omega), unM_row hin]
      rw [hgi] at hg
      have hset := omat_set (mxR (unM n) U i) i (U[i]?.getD [])
      rw [mxR_set (by omega) (by omega), ur i hin] at hset
      have ul : (unR n i).length = n := by simp [unR]
      have rl : (unlR n a z i).length = n := by simp [unlR]
      have ri := hr.at hia
      have uN : Ns (unR n i) := by rw [← unM_row hin]; exact (uM.2.at (by omega)).2
      have hRi := unlR_is ri.1 z
      have cT := l02Times_c (a[i]?.getD []) ((0 - (z : Int)) % 10007) ri.2 (isN_mod _) (by omega)
      have cA := l02Add_c (unR n i) (tb (fun c => (a[i]?.getD [])[c]?.getD 0 * ((0 - (z : Int)) % 10007) % 10007) n) uN (tb_N fun k _ => isN_mod _) (by omega) (by rw [ul, tb_len]; omega)
      rw [ri.1] at cT
      rw [ul, tb_len, hRi] at cA
      rw [rl] at hset
      generalize tb (fun c => (a[i]?.getD [])[c]?.getD 0 * ((0 - (z : Int)) % 10007) % 10007) n = tt at *
      generalize mxR (unM n) U i = M at *
      generalize unlR n a z i = new at *
      generalize unR n i = old at *
      have f1 := sub_fits (show isN 0 from ⟨by omega, by omega⟩) (show isN (z : Int) from ⟨by omega, by omega⟩)
      rw [ul] at hg
      rw [Int.zero_sub] at cT
      rw [← ri.1] at cT
      simp [go_sem, hii, hg, mat_drop hia]
      refine ⟨by kernel_rfl, ane, ?_⟩
      have cA2 : Con Try.prog 161 [.sl n (avs old), .sl (a[i]?.getD []).length (avs tt)] (.own 2 n (avs new)) := by rw [ri.1]; exact cA
      refine CallD.of (l01Sub_c _ _ f1) (by simp [roots, rootsL]) (by decide) ?_
      simp [go_sem]
      refine CallD.of (cT) (by simp [roots, rootsL]) (by decide) ?_
      simp [go_sem]
      simp [go_sem, hg]
      refine CallD.of (cA2) (by simp [roots, rootsL]) (by decide) ?_
      simp [go_sem]
      refine ⟨by omega, by omega, ?_⟩
      refine ⟨by kernel_rfl, ?_⟩
      simp [go_sem]
      exact ⟨by omega, i + 1, by omega, by omega, Off_reset _ _ _ (by simp), by rw [← hset], by omega⟩
    · have e : n = i := by omega
      subst e
      have hii : ¬ (n : Int) < n := by omega
      have hall := mxR_all (A := unM n) (C := U) (by omega)
      rw [uM.1] at hall
      rw [hall]
      simp [go_sem, hii]
      refine CallVC.of (cD) (by decide) ?_
      simp [go_sem]
      refine ⟨⟨by omega, by omega⟩, ?_⟩
      have zN : isN (z : Int) := ⟨by omega, by omega⟩
      refine loop_inv ([9, 10] ++ List.range' 50 11) (fun k : Nat => [(9, .own 2 k (avs (tb (fun k => pw (z : Int) (k : Int)) k))), (10, .int k)]) (fun k => k ≤ n + 1) (fun k => n + 1 - k) 0 (by simp) (by simp [go_sem]) (by simp [go_sem]) ?_
      intro k hk
      by_cases hkn : k ≤ n
      · have hki : (k : Int) ≤ n := by omega
        have ps := tb_succ (fun k => pw (z : Int) (k : Int)) k
        simp [go_sem, hki, hkn]
        refine CallVC.of (l01Pow_c _ _ zN (by omega) (by omega)) (by decide) ?_
        simp [go_sem]
        exact ⟨⟨by omega, by omega⟩, ⟨by omega, by omega⟩, k + 1, by omega, by omega, Off_reset _ _ _ (by simp), by rw [ps, avs_snoc]; exact ⟨rfl, rfl⟩, by omega⟩
      · have e : k = n + 1 := by omega
        subst e
        have hki : ¬ ((n : Int) + 1) ≤ n := by omega
        simp [go_sem, hki]
        exact ⟨⟨by omega, by omega⟩, ⟨by omega, by omega⟩, z + 1, by omega, by omega, (by repeat (first | exact Off_reset _ _ _ (by simp) | (refine Off.reset (by intro x hx; simp at hx ⊢; omega) (by simp) ?_; simp -failIfUnchanged [go_sem, Off_reset]))), by rw [os]; exact ⟨rfl, rfl⟩, by rw [ts, avs_snoc]; exact ⟨rfl, rfl⟩, by omega⟩
  · have e : z = n + 1 := by omega
    subst e
    have hzi : ¬ ((n : Int) + 1) ≤ n := by omega
    rw [← hv, ← hw]
    simp [go_sem, hzi]
    refine CallVC.of (cS) (by decide) ?_
    simp [go_sem]
end Go.Proofs.Ytkfadbccakbpnaa

/- Contracts: stability fractions. -/
namespace Go.Proofs.Ytkfadbccakbpnaa
open Go.Abs
set_option linter.unusedVariables false
set_option linter.unusedSimpArgs false
set_option maxHeartbeats 4000000
/-- The rows less the weights. -/
def lesM (A : List (List Int)) (B : List Int) : List (List Int) := (List.range A.length).map fun i => plusS (A[i]?.getD []) B (-1)
theorem Tab.rws {A : List (List Int)} {B : List Int} (h : Tab A B) : Rws B.length A := h.a
theorem lesM_ok {A : List (List Int)} {B : List Int} (h : Tab A B) : (lesM A B).length = B.length ∧ Rws B.length (lesM A B) := by
  refine ⟨by simp [lesM, h.len], fun x hx => ?_⟩
  obtain ⟨i, hi, rfl⟩ := List.mem_map.1 hx
  exact ⟨by rw [plusS_len]; exact (h.rws.at (show i < A.length by simpa using hi)).1, plusS_N _ _ _⟩
theorem les_row {a b : List Int} (hl : a.length = b.length) : tb (fun i => (a[i]?.getD 0 + (tb (fun i => b[i]?.getD 0 * 10006 % 10007) b.length)[i]?.getD 0) % 10007) a.length = plusS a b (-1) := by
  unfold plusS
  rw [show (-1 : Int) % 10007 = 10006 by decide]
  have : ∀ i, i < a.length → (a[i]?.getD 0 + (tb (fun i => b[i]?.getD 0 * 10006 % 10007) b.length)[i]?.getD 0) % 10007 = (a[i]?.getD 0 + 10006 * b[i]?.getD 0) % 10007 := fun i hi => by
    rw [tb_get _ (show i < b.length by omega), Int.mul_comm 10006]
    omega
  unfold tb at this ⊢
  exact List.map_congr_left fun i hi => this i (by simpa using hi)
set_option maxRecDepth 100000 in
theorem fraction_c (A : List (List Int)) (B : List Int) (h : Tab A B) : Con Try.prog 81 [.agg [.sl A.length (mat A), .sl B.length (avs B)]]
    (.tup [.own 2 (B.length + 1) (avs (chL B.length (lesM A B))), .own 2 (B.length + 1) (avs (chL B.length A))]) := by
  have b1 := h.pos
  have b8 := h.le
  have ab := h.len
  have rw1 := h.rws
  have lo := lesM_ok h
  have c1 := unitLess_c (n := B.length) (lesM A B) (by omega) b8 lo.1 lo.2
  have c2 := unitLess_c (n := B.length) A (by omega) b8 ab rw1
  have c1 : Con Try.prog 153 [.sl A.length (mat (lesM A B))] (.own 2 (B.length + 1) (avs (chL B.length (lesM A B)))) := by rw [lo.1] at c1; rw [ab]; exact c1
  have hd : lesM A B = (List.range A.length).map fun i => plusS (A[i]?.getD []) B (-1) := rfl
  have bN := h.b
  refine con_of_vc Try.mixed ⟨7, [], [], []⟩ Try.func81 (by decide) rfl (by simp) (by decide) (by simp [freshOK, freshL, go_sem]) ?_
  rw [Try.ntmps81]
  simp [go_sem]
  refine loop_inv ([4, 6] ++ List.range' 11 12) (fun i : Nat => [(4, .own 22 i (omat ((List.range i).map fun i => plusS (A[i]?.getD []) B (-1)))), (11, .int i)]) (fun i => i ≤ A.length) (fun i => A.length - i) 0 (by simp) (by simp [go_sem, omat]) (by simp [go_sem]) ?_
  intro i hi
  by_cases hin : i < A.length
  · have hii : (i : Int) < A.length := by omega
    have ri := rw1.at hin
    have ane : ¬ A = [] := by rintro rfl; simp at hin
    have cP := plus_c (A[i]?.getD []) B (-1) ri.2 bN ⟨by omega, by omega⟩ (by omega) (by omega)
    have os := omat_range_succ (fun i => plusS (A[i]?.getD []) B (-1)) i
    rw [plusS_len] at os
    simp [go_sem, hii, mat_drop hin]
    refine ⟨ane, ?_⟩
    refine CallVC.of (cP) (by decide) ?_
    simp [go_sem]
    exact ⟨⟨by omega, by omega⟩, by omega, i + 1, by omega, by omega, Off_reset _ _ _ (by simp), by rw [os]; exact ⟨rfl, rfl⟩, by omega⟩
  · have e : i = A.length := by omega
    subst e
    rw [← hd]
    simp [go_sem]
    refine ⟨by kernel_rfl, ?_⟩
    refine CallD.of (c1) (by simp [roots, rootsL]) (by decide) ?_
    simp [go_sem]
    refine CallD.of (c2) (by simp [roots, rootsL]) (by decide) ?_
    simp [go_sem]
    refine ⟨by kernel_rfl, ?_⟩
    simp [go_sem]
set_option maxRecDepth 100000 in
theorem l10Inverse_c (A : List (List Int)) (B : List Int) (h : Tab A B) : Con Try.prog 149 [.agg [.sl A.length (mat A), .sl B.length (avs B)]]
    (.agg [.own 22 B.length (omat (lesM A B)), .own 2 B.length (avs (tb (fun i => B[i]?.getD 0 * 10006 % 10007) B.length))]) := by
  have b1 := h.pos
  have b8 := h.le
  have ab := h.len
  have rw1 := h.rws
  have hd : lesM A B = (List.range A.length).map fun i => plusS (A[i]?.getD []) B (-1) := rfl
  have bN := h.b
  have cT := l02Times_c B 10006 bN ⟨by omega, by omega⟩ (by omega)
  have les := fun (a : List Int) (hl : a.length = B.length) => les_row (a := a) (b := B) hl
  have zN : Ns (tb (fun i => B[i]?.getD 0 * 10006 % 10007) B.length) := tb_N fun k _ => isN_mod _
  have zl : (tb (fun i => B[i]?.getD 0 * 10006 % 10007) B.length).length = B.length := by simp
  generalize tb (fun i => B[i]?.getD 0 * 10006 % 10007) B.length = Z at *
  refine con_of_vc Try.mixed ⟨5, [], [], []⟩ Try.func149 (by decide) rfl (by simp) (by decide) (by simp [freshOK, freshL, go_sem]) ?_
  rw [Try.ntmps149]
  simp [go_sem]
  refine CallVC.of (cT) (by decide) ?_
  simp [go_sem]
  refine loop_inv ([3, 4] ++ List.range' 9 20) (fun i : Nat => [(3, .box 34 [if i = 0 then .val (.slice none 0 0) else .own 22 i (omat ((List.range i).map fun i => plusS (A[i]?.getD []) B (-1))), .own 2 B.length (avs Z)]), (4, .int i)]) (fun i => i ≤ A.length) (fun i => A.length - i) 0 (by simp) (by simp [go_sem]) (by simp [go_sem]) ?_
  intro i hi
  by_cases hin : i < A.length
  · have hii : (i : Int) < A.length := by omega
    have ri := rw1.at hin
    have ane : ¬ A = [] := by rintro rfl; simp at hin
    have cA := l02Add_c (A[i]?.getD []) Z ri.2 zN (by omega) (by omega)
    rw [les _ ri.1, zl] at cA
    have os := omat_range_succ (fun i => plusS (A[i]?.getD []) B (-1)) i
    rw [plusS_len] at os
    by_cases h0 : i = 0
    · have ox : omat ((List.range (i + 1)).map fun i => plusS (A[i]?.getD []) B (-1)) = [.own 2 (A[i]?.getD []).length (avs (plusS (A[i]?.getD []) B (-1)))] := by rw [os, h0]; simp [omat]
      rw [if_pos h0]
      simp [go_sem, hii, mat_drop hin]
      refine ⟨by kernel_rfl, ane, ?_⟩
      refine CallD.of (cA) (by simp [roots, rootsL]) (by decide) ?_
      simp [go_sem]
      refine ⟨by kernel_rfl, ?_⟩
      simp [go_sem]
      exact ⟨by omega, i + 1, by omega, by omega, Off_reset _ _ _ (by simp), by rw [if_neg (by omega), ox, h0], by omega⟩
    · rw [if_neg h0]
      simp [go_sem, hii, mat_drop hin]
      refine ⟨by kernel_rfl, ane, ?_⟩
      refine CallD.of (cA) (by simp [roots, rootsL]) (by decide) ?_
      simp [go_sem]
      refine ⟨⟨by omega, by omega⟩, ?_⟩
      refine ⟨by kernel_rfl, ?_⟩
      simp [go_sem]
      exact ⟨by omega, i + 1, by omega, by omega, Off_reset _ _ _ (by simp), by rw [if_neg (by omega), os], by omega⟩
  · have e : i = A.length := by omega
    subst e
    rw [← hd, if_neg (show ¬ A.length = 0 by omega)]
    simp [go_sem]
    exact ab
set_option maxRecDepth 100000 in
theorem l19Fraction_c (A : List (List Int)) (B : List Int) (h : Tab A B) : Con Try.prog 79 [.agg [.sl A.length (mat A), .sl B.length (avs B)]]
    (.tup [.own 2 (B.length + 1) (avs (chL B.length (lesM A B))), .own 2 (B.length + 1) (avs (chL B.length A))]) := by
  have lo := lesM_ok h
  have c0 := l10Inverse_c A B h
  have c1 := l19Det_c (n := B.length) (lesM A B) h.le lo.1 lo.2
  have c2 := l19Det_c (n := B.length) A h.le h.len h.rws
  rw [lo.1] at c1
  generalize tb (fun i => B[i]?.getD 0 * 10006 % 10007) B.length = Z at *
  refine con_of_vc Try.mixed ⟨4, [], [], []⟩ Try.func79 (by decide) rfl (by simp) (by decide) (by simp [freshOK, freshL, go_sem]) ?_
  rw [Try.ntmps79]
  simp [go_sem]
  refine ⟨by kernel_rfl, ?_⟩
  refine CallD.of (c0) (by simp [roots, rootsL]) (by decide) ?_
  simp [go_sem]
  refine CallD.of (c1) (by simp [roots, rootsL]) (by decide) ?_
  simp [go_sem]
  refine CallD.of (c2) (by simp [roots, rootsL]) (by decide) ?_
  simp [go_sem]
  refine ⟨by kernel_rfl, ?_⟩
  simp [go_sem]
def sfE (A : List (List Int)) (B : List Int) : Int := if tabB A B = true then 0 else 1
def sfP (A : List (List Int)) (B : List Int) : List Int := if tabB A B = true then chL B.length (lesM A B) else []
def sfQ (A : List (List Int)) (B : List Int) : List Int := if tabB A B = true then chL B.length A else []
def sfR (A : List (List Int)) (B : List Int) : AV := .tup [.own 2 (sfP A B).length (avs (sfP A B)), .own 2 (sfQ A B).length (avs (sfQ A B)), .int (sfE A B)]
theorem sfP_len (A : List (List Int)) (B : List Int) : (sfP A B).length ≤ 9 ∧ (sfQ A B).length ≤ 9 := by
  unfold sfP sfQ
  by_cases h : tabB A B = true
  · have := (tabB_iff.1 h).le
    rw [if_pos h, if_pos h, chL_len, chL_len]; omega
  · rw [if_neg h, if_neg h]; simp
theorem specStabilityFraction_c (A : List (List Int)) (B : List Int) (hA : A.length ≤ 1048576) (hr : ∀ r ∈ A, r.length ≤ 1048576) (hB : B.length ≤ 1048576) :
    Con Try.prog 20 [.agg [.sl A.length (mat A), .sl B.length (avs B)]] (sfR A B) := by
  have cI := l09Is_c A B (by omega) (by omega) (fun r h => by have := hr r h; omega)
  unfold sfR sfP sfQ sfE
  by_cases h : tabB A B = true
  · have cF := l19Fraction_c A B (tabB_iff.1 h)
    rw [h] at cI
    rw [if_pos h, if_pos h, if_pos h, chL_len, chL_len]
    refine con_of_vc Try.mixed ⟨6, [], [], []⟩ Try.func20 (by decide) rfl (by simp) (by decide) (by simp [freshOK, freshL, go_sem]) ?_
    rw [Try.ntmps20]
    simp [go_sem]
    refine CallVC.of (cI) (by decide) ?_
    simp [go_sem]
    refine CallVC.of (cF) (by decide) ?_
    simp [go_sem]
  · rw [if_neg h, if_neg h, if_neg h]
    have hf : tabB A B = false := by simpa using h
    rw [hf] at cI
    refine Con.n2 _ _ ?_
    refine con_of_vc Try.mixed ⟨6, [], [], []⟩ Try.func20 (by decide) rfl (by simp) (by decide) (by simp [freshOK, freshL, go_sem]) ?_
    rw [Try.ntmps20]
    simp [go_sem]
    refine CallVC.of (cI) (by decide) ?_
    simp [go_sem]
theorem StabilityFraction_c (A : List (List Int)) (B : List Int) (hA : A.length ≤ 1048576) (hr : ∀ r ∈ A, r.length ≤ 1048576) (hB : B.length ≤ 1048576) :
    Con Try.prog 22 [.agg [.sl A.length (mat A), .sl B.length (avs B)]] (sfR A B) := by
  have cI := IsTableau_c A B (by omega) (by omega) (fun r h => by have := hr r h; omega)
  unfold sfR sfP sfQ sfE
  by_cases h : tabB A B = true
  · have cF := fraction_c A B (tabB_iff.1 h)
    rw [h] at cI
    rw [if_pos h, if_pos h, if_pos h, chL_len, chL_len]
    refine con_of_vc Try.mixed ⟨6, [], [], []⟩ Try.func22 (by decide) rfl (by simp) (by decide) (by simp [freshOK, freshL, go_sem]) ?_
    rw [Try.ntmps22]
    simp [go_sem]
    refine CallVC.of (cI) (by decide) ?_
    simp [go_sem]
    refine CallVC.of (cF) (by decide) ?_
    simp [go_sem]
  · rw [if_neg h, if_neg h, if_neg h]
    have hf : tabB A B = false := by simpa using h
    rw [hf] at cI
    refine Con.n2 _ _ ?_
    refine con_of_vc Try.mixed ⟨6, [], [], []⟩ Try.func22 (by decide) rfl (by simp) (by decide) (by simp [freshOK, freshL, go_sem]) ?_
    rw [Try.ntmps22]
    simp [go_sem]
    refine CallVC.of (cI) (by decide) ?_
    simp [go_sem]
end Go.Proofs.Ytkfadbccakbpnaa

/- Contracts: reduced stability fractions. -/
namespace Go.Proofs.Ytkfadbccakbpnaa
open Go.Abs
set_option linter.unusedVariables false
set_option linter.unusedSimpArgs false
set_option maxHeartbeats 4000000
def fmC (p q : List Int) : List Int := gcF (shL q).length (shL p) (shL q)
def fm1 (p q : List Int) : List Int := shL (dvD (shL p) (fmC p q)).2
def fm2 (p q : List Int) : List Int := shL (dvD (shL q) (fmC p q)).2
def fmK (p q : List Int) : Int := pw ((fm2 p q)[0]?.getD 0) 10005
theorem fm_EuI {p q : List Int} (hp : 1 ≤ p.length) (hpl : p.length ≤ 9) (hpN : Ns p) (hq : 1 ≤ q.length) (hql : q.length ≤ 9) (hqN : Ns q) : EuI (shL q).length (shL p) (shL q) (fmC p q) := by
  have l1 := shL_len p
  have l2 := shL_len q
  have l3 := shN_le p p.length
  have l4 := shN_le q q.length
  exact ⟨shL_Shr hp, shL_Shr hq, shL_N hpN, shL_N hqN, by omega, by omega, by unfold mu0; split <;> omega, rfl⟩
theorem fm_len {p q : List Int} (hp : 1 ≤ p.length) (hpl : p.length ≤ 9) (hpN : Ns p) (hq : 1 ≤ q.length) (hql : q.length ≤ 9) (hqN : Ns q) : (fm1 p q).length ≤ 9 ∧ (fm2 p q).length ≤ 9 ∧ 1 ≤ (fm1 p q).length ∧ 1 ≤ (fm2 p q).length ∧ Ns (fm1 p q) ∧ Ns (fm2 p q) := by
  have E := fm_EuI hp hpl hpN hq hql hqN
  have C := E.ok
  have c1 := C.1.1
  have p1 := E.aS.1
  have q1 := E.bS.1
  have pl := E.al
  have ql := E.bl
  have o1 := dvD_ok (b := fmC p q) p1 E.aN
  have o2 := dvD_ok (b := fmC p q) q1 E.bN
  have a1 := shL_len (dvD (shL p) (fmC p q)).2
  have a2 := shL_len (dvD (shL q) (fmC p q)).2
  have b1 := shN_le (dvD (shL p) (fmC p q)).2 (dvD (shL p) (fmC p q)).2.length
  have b2 := shN_le (dvD (shL q) (fmC p q)).2 (dvD (shL q) (fmC p q)).2.length
  have c2 := shN_pos (dvD (shL p) (fmC p q)).2 (dvD (shL p) (fmC p q)).2.length (by omega)
  have c3 := shN_pos (dvD (shL q) (fmC p q)).2 (dvD (shL q) (fmC p q)).2.length (by omega)
  unfold fm1 fm2
  exact ⟨by omega, by omega, by omega, by omega, shL_N o1.2.2.2, shL_N o2.2.2.2⟩
set_option maxRecDepth 100000 in
theorem reducedFraction_c (p q : List Int) (hp : 1 ≤ p.length) (hpl : p.length ≤ 9) (hpN : Ns p) (hq : 1 ≤ q.length) (hql : q.length ≤ 9) (hqN : Ns q) :
    Con Try.prog 92 [.sl p.length (avs p), .sl q.length (avs q)] (.tup [.own 2 (fm1 p q).length (avs (scalS (fm1 p q) (fmK p q))), .own 2 (fm2 p q).length (avs (scalS (fm2 p q) (fmK p q)))]) := by
  have E := fm_EuI hp hpl hpN hq hql hqN
  have ok := E.ok
  have fl := fm_len hp hpl hpN hq hql hqN
  have c1 := short_c p (by omega) hp
  have c2 := short_c q (by omega) hq
  have d1 : fm1 p q = shL (dvD (shL p) (fmC p q)).2 := rfl
  have d2 : fm2 p q = shL (dvD (shL q) (fmC p q)).2 := rfl
  have dk : fmK p q = pw ((fm2 p q)[0]?.getD 0) 10005 := rfl
  have pl := E.al
  have ql := E.bl
  have cA := divide_c (shL p) (fmC p q) E.aS.1 (by omega) ok.1.1 (by have := ok.2.2; omega) E.aN ok.2.1
  have cB := divide_c (shL q) (fmC p q) E.bS.1 (by omega) ok.1.1 (by have := ok.2.2; omega) E.bN ok.2.1
  rw [← d1] at cA
  rw [← d2] at cB
  have cI := inv_c ((fm2 p q)[0]?.getD 0) (fl.2.2.2.2.2.get 0)
  rw [← dk] at cI
  have kf : fits (fmK p q) := by have := isN_mod (((fm2 p q)[0]?.getD 0) ^ (10005 : Int).toNat); exact ⟨by have := this.1; show _ ≤ _ % _; omega, by have := this.2; show _ % _ ≤ _; omega⟩
  have cS1 := scaled_c (fm1 p q) (fmK p q) fl.2.2.2.2.1 kf (by omega)
  have cS2 := scaled_c (fm2 p q) (fmK p q) fl.2.2.2.2.2 kf (by omega)
  have q0 : avs (fm2 p q) = .val (.int .i64 ((fm2 p q)[0]?.getD 0)) :: avs (fm2 p q).tail := by
    have := avs_drop (xs := fm2 p q) (k := 0) (by omega)
    rw [List.drop_zero, List.drop_one] at this
    rw [this]; rfl
  have q1 : AV.val (.int .i64 ((fm2 p q)[0]?.getD 0)) :: avs (fm2 p q).tail = avs (fm2 p q) := q0.symm
  have f1 := fl.2.2.2.1
  generalize fmK p q = K at *
  generalize fm1 p q = F1 at *
  generalize fm2 p q = F2 at *
  generalize fmC p q = C at *
  generalize (dvD (shL p) C).1 = r1 at *
  generalize (dvD (shL q) C).1 = r2 at *
  refine con_of_vc Try.mixed ⟨11, [0, 1, 9], [], []⟩ Try.func92 (by decide) rfl (by simp) (by decide) (by simp [freshOK, freshL, go_sem]) ?_
  rw [Try.ntmps92]
  simp [go_sem]
  refine CallVC.of (c1) (by decide) ?_
  simp [go_sem]
  refine CallVC.of (c2) (by decide) ?_
  simp [go_sem]
  generalize shL p = P at *
  generalize shL q = Q at *
  refine loop_inv ([6, 7, 8, 9] ++ List.range' 17 11) (fun x : Nat × List Int × List Int => [(6, .sl x.2.1.length (avs x.2.1)), (7, .sl x.2.2.length (avs x.2.2))]) (fun x => EuI x.1 x.2.1 x.2.2 C) (fun x => x.1) (_, P, Q) E (by simp [go_sem]) (by simp [go_sem]) ?_
  rintro ⟨f, a, b⟩ h
  simp only at h
  have h1 := h.bS.1
  have bl := h.bl
  have al := h.al
  have cZ := isZero_c b h1
  have cD := divide_c a b h.aS.1 (by omega) h1 (by omega) h.aN h.bN
  cases hz : zeB b with
  | false =>
    rw [hz] at cZ
    obtain ⟨g, rfl, h2⟩ := h.next hz
    simp [go_sem]
    refine CallVC.of (cZ) (by decide) ?_
    simp [go_sem]
    refine CallVC.of (cD) (by decide) ?_
    simp [go_sem]
    exact ⟨g, b, shL (dvD a b).1, h2, by omega, Off_reset _ _ _ (by simp), ⟨rfl, rfl⟩, ⟨rfl, rfl⟩⟩
  | true =>
    rw [hz] at cZ
    have hs := h.stop hz
    subst hs
    simp [go_sem]
    refine CallVC.of (cZ) (by decide) ?_
    simp [go_sem]
    refine CallVC.of (cA) (by decide) ?_
    simp [go_sem]
    refine CallVC.of (cB) (by decide) ?_
    simp [go_sem]
    simp [go_sem, q0]
    simp only [q1]
    refine ⟨⟨by omega, by rintro rfl; simp at f1⟩, ?_⟩
    refine CallVC.of (cI) (by decide) ?_
    simp [go_sem]
    refine CallVC.of (cS1) (by decide) ?_
    simp [go_sem]
    refine CallVC.of (cS2) (by decide) ?_
    simp [go_sem]
theorem scal_is (a : List Int) {k : Int} (hk : isN k) : tb (fun i => a[i]?.getD 0 * k % 10007) a.length = scalS a k := by
  unfold scalS
  rw [Int.emod_eq_of_lt hk.1 (by have := hk.2; omega)]
def foE (A : List (List Int)) (B : List Int) : Int := if tabB A B = true then 0 else 1
def foP (A : List (List Int)) (B : List Int) : List Int := if tabB A B = true then scalS (fm1 (chL B.length (lesM A B)) (chL B.length A)) (fmK (chL B.length (lesM A B)) (chL B.length A)) else []
def foQ (A : List (List Int)) (B : List Int) : List Int := if tabB A B = true then scalS (fm2 (chL B.length (lesM A B)) (chL B.length A)) (fmK (chL B.length (lesM A B)) (chL B.length A)) else []
def foR (A : List (List Int)) (B : List Int) : AV := .tup [.own 2 (foP A B).length (avs (foP A B)), .own 2 (foQ A B).length (avs (foQ A B)), .int (foE A B)]
theorem fo_fm {A : List (List Int)} {B : List Int} (h : tabB A B = true) : (fm1 (chL B.length (lesM A B)) (chL B.length A)).length ≤ 9 ∧ (fm2 (chL B.length (lesM A B)) (chL B.length A)).length ≤ 9 ∧ 1 ≤ (fm1 (chL B.length (lesM A B)) (chL B.length A)).length ∧ 1 ≤ (fm2 (chL B.length (lesM A B)) (chL B.length A)).length ∧ Ns (fm1 (chL B.length (lesM A B)) (chL B.length A)) ∧ Ns (fm2 (chL B.length (lesM A B)) (chL B.length A)) := fm_len (p := chL B.length (lesM A B)) (q := chL B.length A) (by simp) (by rw [chL_len]; have := (tabB_iff.1 h).le; omega) (chL_N _ _) (by simp) (by rw [chL_len]; have := (tabB_iff.1 h).le; omega) (chL_N _ _)
theorem foP_len (A : List (List Int)) (B : List Int) : (foP A B).length ≤ 9 ∧ (foQ A B).length ≤ 9 := by
  unfold foP foQ
  by_cases h : tabB A B = true
  · have := fo_fm h
    rw [if_pos h, if_pos h, scalS_len, scalS_len]; omega
  · rw [if_neg h, if_neg h]; simp
theorem StabilityForm_c (A : List (List Int)) (B : List Int) (hA : A.length ≤ 1048576) (hr : ∀ r ∈ A, r.length ≤ 1048576) (hB : B.length ≤ 1048576) :
    Con Try.prog 28 [.agg [.sl A.length (mat A), .sl B.length (avs B)]] (foR A B) := by
  have cI := IsTableau_c A B (by omega) (by omega) (fun r h => by have := hr r h; omega)
  unfold foR foP foQ foE
  by_cases h : tabB A B = true
  · have cF := fraction_c A B (tabB_iff.1 h)
    have b8 := (tabB_iff.1 h).le
    have cR := reducedFraction_c (chL B.length (lesM A B)) (chL B.length A) (by simp) (by rw [chL_len]; omega) (chL_N _ _) (by simp) (by rw [chL_len]; omega) (chL_N _ _)
    rw [h] at cI
    rw [if_pos h, if_pos h, if_pos h, scalS_len, scalS_len]
    simp only [chL_len] at cR
    refine con_of_vc Try.mixed ⟨7, [], [], []⟩ Try.func28 (by decide) rfl (by simp) (by decide) (by simp [freshOK, freshL, go_sem]) ?_
    rw [Try.ntmps28]
    simp [go_sem]
    refine CallVC.of (cI) (by decide) ?_
    simp [go_sem]
    refine CallVC.of (cF) (by decide) ?_
    simp [go_sem]
    refine CallVC.of (cR) (by decide) ?_
    simp [go_sem]
  · rw [if_neg h, if_neg h, if_neg h]
    have hf : tabB A B = false := by simpa using h
    rw [hf] at cI
    refine Con.n2 _ _ ?_
    refine con_of_vc Try.mixed ⟨7, [], [], []⟩ Try.func28 (by decide) rfl (by simp) (by decide) (by simp [freshOK, freshL, go_sem]) ?_
    rw [Try.ntmps28]
    simp [go_sem]
    refine CallVC.of (cI) (by decide) ?_
    simp [go_sem]
set_option maxRecDepth 100000 in
theorem specStabilityForm_c (A : List (List Int)) (B : List Int) (hA : A.length ≤ 1048576) (hr : ∀ r ∈ A, r.length ≤ 1048576) (hB : B.length ≤ 1048576) :
    Con Try.prog 27 [.agg [.sl A.length (mat A), .sl B.length (avs B)]] (foR A B) := by
  have cI := l09Is_c A B (by omega) (by omega) (fun r h => by have := hr r h; omega)
  unfold foR foP foQ foE
  by_cases h : tabB A B = true
  · have cF := l19Fraction_c A B (tabB_iff.1 h)
    have b8 := (tabB_iff.1 h).le
    have fl := fo_fm h
    have E := fm_EuI (p := chL B.length (lesM A B)) (q := chL B.length A) (by simp) (by rw [chL_len]; omega) (chL_N _ _) (by simp) (by rw [chL_len]; omega) (chL_N _ _)
    have pl := chL_len B.length (lesM A B)
    have ql := chL_len B.length A
    have ok := E.ok
    have c1 := l19Short_c (chL B.length (lesM A B)) (by omega) (by omega)
    have c2 := l19Short_c (chL B.length A) (by omega) (by omega)
    rw [pl] at c1
    rw [ql] at c2
    have cC := l19Common_c _ _ _ E
    have al := E.al
    have bl := E.bl
    have cl := ok.2.2
    have cA := l19Divide_c (shL (chL B.length (lesM A B))) (fmC (chL B.length (lesM A B)) (chL B.length A)) E.aS (by omega) ok.1.1 (by omega) E.aN ok.2.1
    have cB := l19Divide_c (shL (chL B.length A)) (fmC (chL B.length (lesM A B)) (chL B.length A)) E.bS (by omega) ok.1.1 (by omega) E.bN ok.2.1
    have oA := dvD_ok (b := fmC (chL B.length (lesM A B)) (chL B.length A)) E.aS.1 E.aN
    have oB := dvD_ok (b := fmC (chL B.length (lesM A B)) (chL B.length A)) E.bS.1 E.bN
    have d1 : shL (dvD (shL (chL B.length (lesM A B))) (fmC (chL B.length (lesM A B)) (chL B.length A))).2 = fm1 (chL B.length (lesM A B)) (chL B.length A) := rfl
    have d2 : shL (dvD (shL (chL B.length A)) (fmC (chL B.length (lesM A B)) (chL B.length A))).2 = fm2 (chL B.length (lesM A B)) (chL B.length A) := rfl
    have dk : fmK (chL B.length (lesM A B)) (chL B.length A) = pw ((fm2 (chL B.length (lesM A B)) (chL B.length A))[0]?.getD 0) 10005 := rfl
    have kN : isN (fmK (chL B.length (lesM A B)) (chL B.length A)) := isN_mod _
    generalize fmK (chL B.length (lesM A B)) (chL B.length A) = K at *
    generalize fm1 (chL B.length (lesM A B)) (chL B.length A) = F1 at *
    generalize fm2 (chL B.length (lesM A B)) (chL B.length A) = F2 at *
    generalize fmC (chL B.length (lesM A B)) (chL B.length A) = C at *
    generalize chL B.length (lesM A B) = p at *
    generalize chL B.length A = q at *
    clear E
    generalize shL p = P at *
    generalize shL q = Q at *
    have s1 := l19Short_c (dvD P C).2 (by omega) (by omega)
    have s2 := l19Short_c (dvD Q C).2 (by omega) (by omega)
    rw [d1] at s1
    rw [d2] at s2
    have q2 := shL_get (p := (dvD Q C).2) (j := 0) (by rw [d2]; omega)
    rw [d2] at q2
    rw [q2] at dk
    have w0 : 0 < (dvD Q C).2.length := by omega
    generalize (dvD P C).1 = r1 at *
    generalize (dvD Q C).1 = r2 at *
    generalize (dvD P C).2 = u1 at *
    generalize (dvD Q C).2 = u2 at *
    have cI2 := l01Inv_c (u2[0]?.getD 0) (oB.2.2.2.get 0)
    rw [← dk] at cI2
    have t1 := l02Times_c F1 K fl.2.2.2.2.1 kN (by omega)
    have t2 := l02Times_c F2 K fl.2.2.2.2.2 kN (by omega)
    rw [scal_is F1 kN] at t1
    rw [scal_is F2 kN] at t2
    have q0 : avs u2 = .val (.int .i64 (u2[0]?.getD 0)) :: avs u2.tail := by
      have := avs_drop (xs := u2) (k := 0) (by omega)
      rw [List.drop_zero, List.drop_one] at this
      rw [this]; rfl
    have q1 : AV.val (.int .i64 (u2[0]?.getD 0)) :: avs u2.tail = avs u2 := q0.symm
    rw [h] at cI
    rw [if_pos h, if_pos h, if_pos h, scalS_len, scalS_len]
    refine con_of_vc Try.mixed ⟨9, [5, 6, 7], [1000000 + 89], []⟩ Try.func27 (by decide) rfl (by simp) (by decide) (by simp [freshOK, freshL, go_sem]) ?_
    rw [Try.ntmps27]
    simp [go_sem]
    refine CallVC.of (cI) (by decide) ?_
    simp [go_sem]
    refine CallVC.of (cF) (by decide) ?_
    simp [go_sem]
    refine CallVC.of (c1) (by decide) ?_
    simp [go_sem]
    refine CallVC.of (c2) (by decide) ?_
    simp [go_sem]
    refine ⟨_, _, cC, ?_⟩
    simp [go_sem]
    refine CallVC.of (cA) (by decide) ?_
    simp [go_sem]
    refine CallVC.of (cB) (by decide) ?_
    simp [go_sem]
    simp [go_sem, q0]
    simp only [q1]
    refine ⟨⟨w0, by rintro rfl; simp at w0⟩, ?_⟩
    refine CallVC.of (cI2) (by decide) ?_
    simp [go_sem]
    refine CallVC.of (s1) (by decide) ?_
    simp [go_sem]
    refine CallVC.of (t1) (by decide) ?_
    simp [go_sem]
    refine CallVC.of (s2) (by decide) ?_
    simp [go_sem]
    refine CallVC.of (t2) (by decide) ?_
    simp [go_sem]
  · rw [if_neg h, if_neg h, if_neg h]
    have hf : tabB A B = false := by simpa using h
    rw [hf] at cI
    refine Con.n2 _ _ ?_
    refine con_of_vc Try.mixed ⟨9, [], [], []⟩ Try.func27 (by decide) rfl (by simp) (by decide) (by simp [freshOK, freshL, go_sem]) ?_
    rw [Try.ntmps27]
    simp [go_sem]
    refine CallVC.of (cI) (by decide) ?_
    simp [go_sem]
end Go.Proofs.Ytkfadbccakbpnaa

/- What the statements' walks share: sizes. -/
namespace Go.Proofs.Ytkfadbccakbpnaa
open Go.Abs
set_option linter.unusedVariables false
theorem small_of {f : List (List Mon)} (h : (cF f : Int) ≤ 1048576) : Small f := by
  unfold cF at h
  refine ⟨by omega, fun p hp => ?_⟩
  have h1 : p.length + sumC cM p ≤ sumC cP f := sumC_mem cP hp
  refine ⟨by omega, fun q hq => ?_⟩
  have h2 : q.2.length ≤ sumC cM p := sumC_mem cM hq
  omega
theorem sumL_bound {A : List (List Int)} {n : Nat} (h : ∀ r ∈ A, r.length ≤ n) : sumL A ≤ A.length * n := by
  induction A with
  | nil => simp [sumL]
  | cons r A ih =>
    have h1 := h r (by simp)
    have h2 := ih (fun q hq => h q (by simp [hq]))
    simp only [sumL, List.length_cons, Nat.add_mul, Nat.one_mul]; omega
theorem szT_hi {A : List (List Int)} {B : List Int} {left : Int} (h0 : 0 ≤ left) : szT A B left ≤ left := by
  unfold szT
  split
  · omega
  · rename_i h
    have := (szM_ok h0 (by omega : 0 ≤ szM left A)).2.1
    have := szR_le (left := szM left A) (n := (B.length : Int)) (by omega) (by omega)
    omega
end Go.Proofs.Ytkfadbccakbpnaa

/- The statement's function FnExactStabilityForm, walked: it answers true. -/
namespace Go.Proofs.Ytkfadbccakbpnaa
open Go.Abs
set_option linter.unusedVariables false
set_option linter.unusedSimpArgs false
set_option maxHeartbeats 4000000
set_option maxRecDepth 100000 in
theorem law11_c (A0 : List (List Int)) (B0 : List Int) (hA0 : A0.length ≤ 9223372036854775807) (hr0 : ∀ r ∈ A0, r.length ≤ 9223372036854775807) (hB0 : B0.length ≤ 9223372036854775807) :
    Con Try.prog 6 [.agg [.sl A0.length (mat A0), .sl B0.length (avs B0)]] (.bool true) := by
  refine con_of_vc Try.mixed ⟨17, [], [24, 17], []⟩ Try.func6 (by decide) rfl (by simp) (by decide) (by simp [freshOK, freshL, go_sem]) ?_
  rw [Try.ntmps6]
  simp [go_sem]
  have cS0 := szTableau_c A0 B0 (1048576) hA0 hr0 hB0 (by omega) (by omega)
  refine CallVC.of (cS0) (by decide) ?_
  simp [go_sem]
  by_cases hs0 : szT A0 B0 (1048576) < 0
  · simp [go_sem, hs0]
  simp [go_sem, hs0]
  have hc0 := szT_ok (A := A0) (B := B0) (left := 1048576) (by omega) (by omega)
  have hh0 := szT_hi (A := A0) (B := B0) (left := 1048576) (by omega)
  generalize hL0 : szT A0 B0 (1048576) = L0 at *
  have A0l : A0.length ≤ 1048576 := by omega
  have A0r : ∀ r ∈ A0, r.length ≤ 1048576 := fun r hr => by have := hc0.2 r hr; omega
  have B0l : B0.length ≤ 1048576 := by omega
  have cT0 := toTableau_c A0 B0 A0l A0r B0l
  have cQ0 := eqTableau_c A0 A0 B0 B0 hA0 hr0 hB0
  simp at cQ0
  have cSp := specStabilityForm_c A0 B0 A0l A0r B0l
  have cIm := StabilityForm_c A0 B0 A0l A0r B0l
  have xl := (foP_len A0 B0)
  unfold foR at cSp cIm
  generalize foP A0 B0 = xs at cSp cIm xl
  generalize foQ A0 B0 = ys at cSp cIm xl
  generalize foE A0 B0 = e at cSp cIm
  have cM0 := markTableau_c A0 B0 (1) A0l A0r (by omega) (by omega)
  have p2 : ¬ (1 + (sumL A0 : Int) + (B0.length : Int) < 0) := by omega
  have cE := eqInt64S_c xs xs (by omega)
  have cF := eqInt64S_c ys ys (by omega)
  have cN := markInt64S_c 2 xs 1 (by omega) (by omega)
  have cO := markInt64S_c 2 ys (1 + xs.length) (by omega) (by omega)
  have cH := heldInt64S_c ((List.range xs.length).map (fun (i : Nat) => 1 + (i : Int))) 1 (by omega) (by simp; omega)
  have cI := heldInt64S_c ((List.range ys.length).map (fun (i : Nat) => 1 + (xs.length : Int) + i)) (1 + xs.length) (by omega) (by simp; omega)
  rw [held_mark, List.length_map, List.length_range] at cH cI
  simp at cE cF
  have p1 : ¬ (1 + (xs.length : Int) < 0) := by omega
  have p3 : ¬ (1 + (xs.length : Int) + ys.length < 0) := by omega
  refine CallVC.of (cT0) (by decide) ?_
  simp [go_sem]
  refine CallVC.of (cSp) (by decide) ?_
  simp [go_sem]
  refine CallVC.of (cT0) (by decide) ?_
  simp [go_sem]
  refine CallVC.of (cIm) (by decide) ?_
  simp [go_sem]
  refine CallVC.of (cE) (by decide) ?_
  simp [go_sem]
  refine CallVC.of (cF) (by decide) ?_
  simp [go_sem]
  refine ⟨by kernel_rfl, ?_⟩
  refine CallD.of (cT0) (by simp [roots, rootsL]) (by decide) ?_
  simp [go_sem]
  refine CallD.of (cQ0) (by simp [roots, rootsL]) (by decide) ?_
  simp [go_sem]
  refine ⟨by kernel_rfl, ?_⟩
  simp [go_sem]
  refine ⟨_, _, cM0, ?_⟩
  simp [go_sem]
  simp [go_sem, p2]
  refine CallVC.of (cE) (by decide) ?_
  simp [go_sem]
  refine CallVC.of (cF) (by decide) ?_
  simp [go_sem]
  refine ⟨_, _, cN, ?_⟩
  simp [go_sem]
  refine ⟨_, _, cO, ?_⟩
  simp [go_sem]
  refine CallVC.of (cH) (by decide) ?_
  simp [go_sem]
  simp [go_sem, p1]
  refine CallVC.of (cI) (by decide) ?_
  simp [go_sem]
  simp [go_sem, p3]
  refine CallVC.of (cT0) (by decide) ?_
  simp [go_sem]
  refine CallVC.of (cIm) (by decide) ?_
  simp [go_sem]
  refine CallVC.of (cE) (by decide) ?_
  simp [go_sem]
  refine CallVC.of (cF) (by decide) ?_
  simp [go_sem]
  refine CallVC.of (cH) (by decide) ?_
  simp [go_sem]
  simp [go_sem, p1]
  refine CallVC.of (cI) (by decide) ?_
  simp [go_sem]
  simp [go_sem, p3]
end Go.Proofs.Ytkfadbccakbpnaa
