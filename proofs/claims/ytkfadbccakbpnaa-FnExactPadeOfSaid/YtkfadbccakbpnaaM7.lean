/- Texts of the own layer and contracts, part 7: R3 R4 R5 R6 LK L4. -/
import Derived.Test.YtkfadbccakbpnaaM6
/- Contracts: linear systems, solved by the reference and by the program. -/
namespace Go.Proofs.Ytkfadbccakbpnaa
open Go.Abs
set_option linter.unusedVariables false
set_option linter.unusedSimpArgs false
set_option maxHeartbeats 4000000
theorem omat_kl (W : List Nat) (A : List (List Int)) : klL W (omat A) = omat A := by
  induction A with
  | nil => rfl
  | cons r A ih => simp only [omat, List.map_cons] at ih ⊢; rw [klL, ih]; rfl
/-- The solution, by determinants. -/
def sysF (n : Nat) (a : List (List Int)) (b : List Int) (k : Nat) : Int := ldet n (repL a k b) * pw (ldet n a) 10005 % 10007
def solX (n : Nat) (a : List (List Int)) (b : List Int) : List Int := if ldet n a = 0 then [] else tb (sysF n a b) n
def solR (n : Nat) (a : List (List Int)) (b : List Int) : AV := .tup [.own 2 (solX n a b).length (avs (solX n a b)), .bool (decide (ldet n a ≠ 0))]
theorem solX_N (n : Nat) (a : List (List Int)) (b : List Int) : Ns (solX n a b) := by
  unfold solX
  split
  · exact Ns.nil
  · exact tb_N fun k _ => isN_mod _
theorem solX_len {n : Nat} {a : List (List Int)} {b : List Int} (h : ldet n a ≠ 0) : (solX n a b).length = n := by unfold solX; rw [if_neg h]; simp
theorem repL_row {a : List (List Int)} {k i : Nat} {b : List Int} (hi : i < a.length) : (repL a k b)[i]?.getD [] = (a[i]?.getD []).set k (b[i]?.getD 0) := by simp [repL, hi]
set_option maxRecDepth 100000 in
theorem l01Solve_c {n : Nat} (a : List (List Int)) (b : List Int) (hl : a.length = n) (hn : n ≤ 100) (hr : Rws n a) (hb : Ns b) (hbl : n ≤ b.length) :
    Con Try.prog 68 [.sl a.length (mat a), .sl b.length (avs b)] (solR n a b) := by
  have cD := l01Det_c n a hl hn hr
  have dN := ldet_isN n a hl hr
  unfold solR solX
  by_cases h0 : ldet n a = 0
  · rw [if_pos h0]
    simp only [h0, ne_eq, not_true_eq_false, decide_false]
    refine Con.n1 _ ?_
    rw [h0] at cD
    refine con_of_vc Try.mixed ⟨11, [], [], []⟩ Try.func68 (by decide) rfl (by simp) (by decide) (by simp [freshOK, freshL, go_sem]) ?_
    rw [Try.ntmps68]
    simp [go_sem]
    refine CallVC.of (cD) (by decide) ?_
    simp [go_sem]
  · rw [if_neg h0]
    simp only [h0, ne_eq, not_false_eq_true, decide_true, tb_len]
    have sF : ∀ k, sysF n a b k = ldet n (repL a k b) * pw (ldet n a) 10005 % 10007 := fun k => rfl
    generalize ldet n a = d at *
    refine con_of_vc Try.mixed ⟨11, [], [], []⟩ Try.func68 (by decide) rfl (by simp) (by decide) (by simp [freshOK, freshL, go_sem]) ?_
    rw [Try.ntmps68]
    simp [go_sem]
    refine CallVC.of (cD) (by decide) ?_
    simp [go_sem]
    simp [go_sem, h0]
    refine loop_inv ([7, 8, 9, 10] ++ List.range' 16 32) (fun k : Nat => [(7, .own 2 k (avs (tb (sysF n a b) k))), (8, .int k)]) (fun k => k ≤ n) (fun k => n - k) 0 (by simp) (by simp [go_sem]) (by simp [go_sem]) ?_
    intro k hk
    by_cases hkn : k < n
    · have hki : (k : Int) < a.length := by omega
      have rl : ∀ r ∈ a, r.length ≤ 1048576 := fun r h => by have := (hr r h).1; omega
      have cO := l01Own2_c a (by omega) rl
      have ro := repL_ok (b := b) hl hr hb k
      have rw' : ∀ i, i < a.length → (repL a k b)[i]?.getD [] = (a[i]?.getD []).set k (b[i]?.getD 0) := fun i hi => repL_row hi
      have cR := l01Det_c n (repL a k b) ro.1 hn ro.2
      have cR : Con Try.prog 142 [.sl a.length (mat (repL a k b))] (.int (ldet n (repL a k b))) := by rw [ro.1] at cR; rw [hl]; exact cR
      have rN := ldet_isN n (repL a k b) ro.1 ro.2
      have hsf := sF k
      generalize repL a k b = B at *
      simp [go_sem, hki]
      refine CallVC.of (cO) (by decide) ?_
      simp [go_sem]
      refine loop_inv ([10] ++ List.range' 24 16 ++ [9]) (fun i : Nat => [(9, .own 22 a.length (omat (mxR a B i))), (10, .int i)]) (fun i => i ≤ n) (fun i => n - i) 0 (by simp) (by simp [go_sem, mxR_zero]) (by simp [go_sem, omat_kl]) ?_
      intro i hi
      by_cases hin : i < n
      · have hii : (i : Int) < a.length := by omega
        have hia : i < a.length := by omega
        have Ml := mxR_len (A := a) (C := B) (by omega) (show i ≤ a.length by omega)
        have hg := omat_get (A := mxR a B i) (k := i) (by omega)
        have hgi : (mxR a B i)[i]?.getD [] = a[i]?.getD [] := by rw [mxR_get (by omega) (by omega), if_neg (by omega)]
        rw [hgi] at hg
        have hset := omat_set (mxR a B i) i (B[i]?.getD [])
        rw [mxR_set (by omega) hia] at hset
        have hnew := rw' i hia
        have ri := hr.at hia
        have hkr : k < (a[i]?.getD []).length := by omega
        have hib : i < b.length := by omega
        generalize mxR a B i = M at *
        generalize B[i]?.getD [] = new at *
        generalize a[i]?.getD [] = old at *
        have bne : ¬ b = [] := by rintro rfl; simp at hib
        simp [go_sem, hii, hg, avs_drop hib]
        refine ⟨by kernel_rfl, ⟨hib, bne⟩, hkr, ?_⟩
        refine ⟨by kernel_rfl, ?_⟩
        simp [go_sem]
        exact ⟨by omega, i + 1, by omega, by omega, Off_reset _ _ _ (by simp), by rw [← hset, hnew, List.length_set, avs_set], by omega⟩
      · have e : i = n := by omega
        subst e
        have hii : ¬ (i : Int) < a.length := by omega
        have hall := mxR_all (A := a) (C := B) (by omega)
        rw [hl] at hall
        rw [hall]
        have ts := tb_succ (sysF i a b) k
        have f1 : fits (ldet i B * pw d 10005) := mul_fits rN (isN_mod _)
        simp [go_sem, hii]
        refine CallVC.of (cR) (by decide) ?_
        simp [go_sem]
        refine CallVC.of (l01Inv_c _ dN) (by decide) ?_
        simp [go_sem]
        refine CallVC.of (l01Mul_c _ _ f1) (by decide) ?_
        simp [go_sem]
        rw [← hsf]
        exact ⟨by omega, by omega, k + 1, by omega, by omega, (Off.reset (by intro x hx; simp at hx ⊢; omega) (by simp) (by simp [go_sem, Off_reset])), by rw [ts, avs_snoc]; exact ⟨rfl, rfl⟩, by omega⟩
    · have e : k = n := by omega
      subst e
      have hki : ¬ (k : Int) < a.length := by omega
      simp [go_sem, hki]
theorem leadL_c (a : List Int) (hl : a.length ≤ 1048576) : Con Try.prog 146 [.sl a.length (avs a)] (.int (leadL a)) := by
  refine con_of_vc Try.mixed ⟨4, [], [], []⟩ Try.func146 (by decide) rfl (by simp) (by decide) (by simp [freshOK, freshL, go_sem]) ?_
  rw [Try.ntmps146]
  simp [go_sem]
  refine loop_inv (3 :: List.range' 4 13) (fun i : Nat => [(3, .int i)]) (fun i => i ≤ a.length ∧ ldF a (a.length - i) i = leadL a) (fun i => a.length - i) 0 ⟨by omega, by simp [leadL]⟩ (by simp [go_sem]) (by simp [go_sem]) ?_
  rintro i ⟨hi, he⟩
  by_cases h : i < a.length
  · have hf : ldF a (a.length - i) i = if a[i]?.getD 0 = 0 then ldF a (a.length - (i + 1)) (i + 1) else i := by
      rw [show a.length - i = (a.length - (i + 1)) + 1 by omega, ldF]
    have ne : ¬ a = [] := by rintro rfl; simp at h
    have hii : (i : Int) < a.length := by omega
    by_cases hz : a[i]?.getD 0 = 0
    · rw [if_pos hz] at hf
      simp [go_sem, hii, avs_drop h, hz]
      exact ⟨ne, by omega, i + 1, ⟨by omega, by rw [← he, hf]⟩, by omega, Off_reset _ _ _ (by simp), by omega⟩
    · rw [if_neg hz, he] at hf
      simp [go_sem, hii, avs_drop h, hz]
      exact ⟨ne, by omega⟩
  · have e : i = a.length := by omega
    subst e
    rw [Nat.sub_self, ldF] at he
    simp [go_sem]
    omega
theorem widL_take {a : List (List Int)} {b : List Int} {i : Nat} (h : i < a.length) : ((List.range (i + 1)).map fun i => a[i]?.getD [] ++ [b[i]?.getD 0]) = ((List.range i).map fun i => a[i]?.getD [] ++ [b[i]?.getD 0]) ++ [a[i]?.getD [] ++ [b[i]?.getD 0]] := by
  rw [List.range_succ, List.map_append]; rfl
set_option maxRecDepth 100000 in
theorem solve_w {n : Nat} (a : List (List Int)) (b : List Int) (h0 : 0 < n) (hl : a.length = n) (hn : n ≤ 100) (hr : Rws n a) (hb : Ns b) (hbl : n ≤ b.length) {R : List (List Int)} {dt : Int} {dn : Nat} (x : AV)
    (hst : redR (n + 1) 0 (widL a b, 1, 0) = (R, dt, dn)) (gl : R.length = n) (gr : Rws (n + 1) R) (gd : dn ≤ n) (hf : freshOK x = true)
    (hA : dn = n → leadL (R[n - 1]?.getD []) = n - 1 → x = .tup [.own 2 R.length (avs (colS R n)), .bool true])
    (hB : ¬ (dn = n ∧ leadL (R[n - 1]?.getD []) = n - 1) → x = .tup [.val (.slice none 0 0), .bool false]) :
    Con Try.prog 76 [.sl a.length (mat a), .sl b.length (avs b)] x := by
  have wo := widL_ok (a := a) (b := b) hl hr hb
  have cR := reduce_c (w := n + 1) (widL a b) (by omega) (by omega) (by omega) wo.2
  have m0 := mat_drop (xss := a) (k := 0) (by omega)
  simp only [List.drop_zero] at m0
  have m1 : AV.sl (a[0]?.getD []).length (avs (a[0]?.getD [])) :: mat a.tail = mat a := by cases a with | nil => simp at hl; omega | cons x l => simp [mat]
  have r0 := hr.at (show 0 < a.length by omega)
  have hw : widL a b = (List.range a.length).map fun i => a[i]?.getD [] ++ [b[i]?.getD 0] := rfl
  have ne : ¬ a = [] := by rintro rfl; simp at hl; omega
  have wl : (widL a b).length = a.length := by simp [widL]
  rw [wl, hst] at cR
  simp only at cR
  refine con_of_vc Try.mixed ⟨12, [37], [1000000 + 145], []⟩ Try.func76 (by decide) rfl (by simp) (by decide) hf ?_
  rw [Try.ntmps76]
  simp [go_sem]
  simp [go_sem, m0]
  simp only [m1]
  refine ⟨by kernel_rfl, ⟨by omega, ne⟩, ?_⟩
  refine ⟨by kernel_rfl, ?_⟩
  simp [go_sem]
  refine loop_inv ([6, 8, 9] ++ List.range' 19 17) (fun i : Nat => [(6, .own 22 i (omat ((List.range i).map fun i => a[i]?.getD [] ++ [b[i]?.getD 0]))), (19, .int i)]) (fun i => i ≤ n) (fun i => n - i) 0 (by simp) (by simp [go_sem, omat]) (by simp [go_sem]) ?_
  intro i hi
  by_cases hin : i < n
  · have hii : (i : Int) < a.length := by omega
    have hia : i < a.length := by omega
    have hib : i < b.length := by omega
    have bne : ¬ b = [] := by rintro rfl; simp at hib
    have ri := (hr.at hia).1
    have cC := Clone_c (a[i]?.getD []) (by omega)
    have ho := omat_range_succ (fun i => a[i]?.getD [] ++ [b[i]?.getD 0]) i
    simp [go_sem, hii, mat_drop hia, avs_drop hib]
    refine ⟨ne, by kernel_rfl, ?_⟩
    refine CallD.of (cC) (by simp [roots, rootsL]) (by decide) ?_
    simp [go_sem]
    simp [go_sem, avs_drop hib]
    refine ⟨⟨hib, bne⟩, ⟨by omega, by omega⟩, ⟨by omega, by omega⟩, ?_⟩
    refine ⟨by kernel_rfl, ?_⟩
    simp [go_sem]
    refine ⟨by omega, i + 1, by omega, by omega, Off_reset _ _ _ (by simp), ?_, by omega⟩
    rw [ho, List.length_append, List.length_singleton, avs_snoc]
    exact ⟨rfl, rfl⟩
  · have e : i = a.length := by omega
    subst e
    rw [← hw]
    simp [go_sem]
    refine ⟨_, _, cR, ?_⟩
    simp [go_sem]
    have hd3 : (((a[0]?.getD []).length : Int) - 1) = ((n - 1 : Nat) : Int) := by omega
    by_cases hdn : dn = n
    · have hdR : dn = R.length := by omega
      subst hdR
      have hd0 : ((R.length : Nat) : Int) = (a[0]?.getD []).length := by omega
      have ht : R.take R.length = R := List.take_of_length_le (by omega)
      have hR1 := rmat_get (A := R) (k := n - 1) (by omega)
      have rr := (gr.at (show n - 1 < R.length by omega)).1
      have hL := leadL_c (R[n - 1]?.getD []) (by omega)
      rw [ht]
      have hk : n ≤ R.length := by omega
      have cC := column_c R n (by omega) (fun r h => by have := (gr r h).1; omega) (by omega)
      have hd4 : R.length = (a[0]?.getD []).length := by omega
      simp [go_sem, hd0, hd3, hR1]
      refine ⟨by omega, by omega, ?_⟩
      refine CallVC.of (hL) (by decide) ?_
      simp [go_sem]
      by_cases hld : leadL (R[n - 1]?.getD []) = n - 1
      · have hx := hA hdn hld
        have hlt : ¬ (leadL (R[n - 1]?.getD []) : Int) ≠ (((a[0]?.getD []).length : Int) - 1) := by omega
        subst hx
        simp [go_sem, hd3, hld]
        refine ⟨by omega, ?_⟩
        have hr0 : ((a[0]?.getD []).length : Int) = (n : Int) := by omega
        simp [go_sem, hr0]
        refine CallVC.of (cC) (by decide) ?_
        simp [go_sem]
      · have hx := hB (fun h => hld h.2)
        have hlt : ¬ (leadL (R[n - 1]?.getD []) : Int) = (((n - 1 : Nat) : Int)) := by omega
        subst hx
        simp [go_sem, hd3, hld, hlt]
        omega
    · have hx := hB (fun h => hdn h.1)
      have hd0 : ¬ ((dn : Nat) : Int) = (a[0]?.getD []).length := by omega
      subst hx
      simp [go_sem, hd0]
theorem solve_c {n : Nat} (a : List (List Int)) (b : List Int) (h0 : 0 < n) (hl : a.length = n) (hn : n ≤ 100) (hr : Rws n a) (hb : Ns b) (hbl : n ≤ b.length) :
    Con Try.prog 76 [.sl a.length (mat a), .sl b.length (avs b)] (solR n a b) := by
  have wo := widL_ok (a := a) (b := b) hl hr hb
  have sv := solve_is h0 hl hr hb
  obtain ⟨k', g1, g2, g3⟩ := redR_GI (n + 1) 0 (widL a b, 1, 0) (by omega) (GI.start wo.1 wo.2)
  have gl := g3.len
  have gr := g3.rws
  have gd := g3.dle
  clear g3 g1 g2
  generalize hst : redR (n + 1) 0 (widL a b, 1, 0) = st at *
  obtain ⟨R, dt, dn⟩ := st
  simp only at sv gl gr gd
  unfold oneB at sv
  have sv2 : ldet n a ≠ 0 → colS R n = tb (sysF n a b) n := fun h => by
    unfold colS tb
    rw [gl]
    refine List.map_congr_left fun k hk => ?_
    have hk : k < n := by simpa using hk
    exact sv.2 h k hk
  unfold solR solX
  by_cases hz : ldet n a = 0
  · rw [if_pos hz]
    have h1 := sv.1
    simp only [hz, ne_eq, not_true_eq_false, decide_false] at h1 ⊢
    refine Con.n1 _ (solve_w a b h0 hl hn hr hb hbl _ hst gl gr gd (by simp [freshOK, freshL]) (fun h2 h3 => ?_) (fun _ => rfl))
    rw [h2, h3] at h1
    simp at h1
  · rw [if_neg hz]
    have h1 := sv.1
    simp only [hz, ne_eq, not_false_eq_true, decide_true, Bool.and_eq_true, decide_eq_true_eq] at h1 ⊢
    refine solve_w a b h0 hl hn hr hb hbl _ hst gl gr gd (by simp [freshOK, freshL]) (fun h2 h3 => ?_) (fun h => (h h1).elim)
    rw [sv2 hz, tb_len, gl]
end Go.Proofs.Ytkfadbccakbpnaa

/- Contracts: Pade approximants, the reference's and the program's. -/
namespace Go.Proofs.Ytkfadbccakbpnaa
open Go.Abs
set_option linter.unusedVariables false
set_option linter.unusedSimpArgs false
set_option maxHeartbeats 4000000
def serOk (a : List Int) : Bool := decide (1 ≤ (a.length : Int)) && decide ((a.length : Int) ≤ 16) && numsB a
theorem serOk_iff {a : List Int} (h : serOk a = true) : 1 ≤ a.length ∧ a.length ≤ 16 ∧ Ns a := by
  unfold serOk at h
  simp only [Bool.and_eq_true, decide_eq_true_eq, numsB_N] at h
  exact ⟨by omega, by omega, h.2⟩
theorem IsSeries_c (a : List Int) (hl : a.length ≤ 9223372036854775807) : Con Try.prog 71 [.sl a.length (avs a)] (.bool (serOk a)) := by
  have cN := areNumbers_c a hl
  unfold serOk
  generalize numsB a = b at *
  refine con_of_vc Try.mixed ⟨3, [], [], []⟩ Try.func71 (by decide) rfl (by simp) (by decide) (by simp [freshOK, freshL, go_sem]) ?_
  rw [Try.ntmps71]
  simp [go_sem]
  refine CallVC.of (length_c _ _ hl) (by decide) ?_
  simp [go_sem]
  refine CallVC.of (inRange_c _ _ _) (by decide) ?_
  simp [go_sem]
  by_cases h1 : 1 ≤ (a.length : Int) <;> by_cases h2 : (a.length : Int) ≤ 16
  · simp [go_sem, h1, h2]
    refine CallVC.of (cN) (by decide) ?_
    simp [go_sem]
  all_goals simp [go_sem, h1, h2]
theorem l02Is_c (a : List Int) (hl : a.length ≤ 9223372036854775807) : Con Try.prog 65 [.sl a.length (avs a)] (.bool (serOk a)) := by
  have cN := l01Numbers_c a hl
  unfold serOk
  generalize numsB a = b at *
  refine con_of_vc Try.mixed ⟨3, [], [], []⟩ Try.func65 (by decide) rfl (by simp) (by decide) (by simp [freshOK, freshL, go_sem]) ?_
  rw [Try.ntmps65]
  simp [go_sem]
  refine CallVC.of (l01In_c _ _ _) (by decide) ?_
  simp [go_sem]
  by_cases h1 : 1 ≤ (a.length : Int) <;> by_cases h2 : (a.length : Int) ≤ 16
  · simp [go_sem, h1, h2]
    refine CallVC.of (cN) (by decide) ?_
    simp [go_sem]
  all_goals simp [go_sem, h1, h2]
/-- A coefficient, 0 for a place below 0. -/
def cof (a : List Int) (k : Int) : Int := if k < 0 then 0 else a[k.toNat]?.getD 0
theorem cof_N {a : List Int} (h : Ns a) (k : Int) : isN (cof a k) := by
  unfold cof
  split
  · exact ⟨by omega, by omega⟩
  · exact h.get _
theorem coefficient_c (a : List Int) (k : Int) (hk : k < a.length) : Con Try.prog 74 [.sl a.length (avs a), .int k] (.int (cof a k)) := by
  unfold cof
  by_cases h : k < 0
  · rw [if_pos h]
    refine con_of_vc Try.mixed ⟨5, [], [], []⟩ Try.func74 (by decide) rfl (by simp) (by decide) (by simp [freshOK, freshL, go_sem]) ?_
    rw [Try.ntmps74]
    simp [go_sem]
    simp [go_sem, h]
  · rw [if_neg h]
    obtain ⟨j, rfl⟩ : ∃ j : Nat, k = j := ⟨k.toNat, by omega⟩
    have hj : j < a.length := by omega
    have ne : ¬ a = [] := by rintro rfl; simp at hj
    refine con_of_vc Try.mixed ⟨5, [], [], []⟩ Try.func74 (by decide) rfl (by simp) (by decide) (by simp [freshOK, freshL, go_sem]) ?_
    rw [Try.ntmps74]
    simp [go_sem]
    simp [go_sem, h, avs_drop hj]
    exact ⟨hj, ne⟩
def paE (a : List Int) (m : Nat) (i j : Nat) : Int := cof a ((m : Int) + 1 + i - (j + 1))
def paA (a : List Int) (m n : Nat) : List (List Int) := (List.range n).map fun i => tb (paE a m i) n
def paG (a : List Int) (m i : Nat) : Int := (0 - a[m + 1 + i]?.getD 0) % 10007
theorem paG_is (a : List Int) (m i : Nat) : (-a[m + 1 + i]?.getD 0) % 10007 = paG a m i := by unfold paG; rw [Int.zero_sub]
def paB (a : List Int) (m n : Nat) : List Int := tb (paG a m) n
def paQ (a : List Int) (m n : Nat) : List Int := 1 :: solX n (paA a m n) (paB a m n)
def psum (a q : List Int) (k : Nat) : Nat → Int
  | 0 => 0
  | j + 1 => psum a q k j + q[j]?.getD 0 * cof a ((k : Int) - j)
def paP (a : List Int) (m n : Nat) (q : List Int) : List Int := tb (fun k => psum a q k (n + 1) % 10007) (m + 1)
theorem paA_ok {a : List Int} (h : Ns a) (m n : Nat) : (paA a m n).length = n ∧ Rws n (paA a m n) := by
  refine ⟨by simp [paA], fun x hx => ?_⟩
  obtain ⟨i, _, rfl⟩ := List.mem_map.1 hx
  exact ⟨by simp, tb_N fun j _ => cof_N h _⟩
theorem paB_N (a : List Int) (m n : Nat) : Ns (paB a m n) := tb_N fun i _ => isN_mod _
theorem paQ_N (a : List Int) (m n : Nat) : Ns (paQ a m n) := fun x hx => by
  rcases List.mem_cons.1 hx with rfl | hx
  · exact ⟨by omega, by omega⟩
  · exact solX_N _ _ _ x hx
theorem psum_bound {a q : List Int} (ha : Ns a) (hq : Ns q) (k : Nat) : ∀ j : Nat, 0 ≤ psum a q k j ∧ psum a q k j ≤ j * 100120036
  | 0 => by simp [psum]
  | j + 1 => by
    have h1 := psum_bound ha hq k j
    have h2 := mul_bound (hq.get j) (cof_N ha ((k : Int) - j))
    rw [psum]
    omega
theorem psum_stop {a q : List Int} {k : Nat} : ∀ d j : Nat, k < j → psum a q k (j + d) = psum a q k j
  | 0, j, h => rfl
  | d + 1, j, h => by
    rw [show j + (d + 1) = (j + d) + 1 by omega, psum, psum_stop d j h]
    have : cof a ((k : Int) - (j + d : Nat)) = 0 := by unfold cof; rw [if_pos (by omega)]
    rw [this, Int.mul_zero, Int.add_zero]
theorem paA_succ (a : List Int) (m n i : Nat) : omat ((List.range (i + 1)).map fun i => tb (paE a m i) n) = omat ((List.range i).map fun i => tb (paE a m i) n) ++ [.own 2 n (avs (tb (paE a m i) n))] := by
  rw [omat_range_succ]; simp
set_option maxRecDepth 100000 in
theorem specPade_w (a : List Int) (m n : Nat) (hs : serOk a = true) (hm : m ≤ 8) (hn : n ≤ 8) (hmn : m + n + 1 ≤ a.length) (x : AV) (hf : freshOK x = true)
    (hA : ldet n (paA a m n) ≠ 0 → x = .tup [.own 2 (m + 1) (avs (paP a m n (paQ a m n))), .own 2 (n + 1) (avs (paQ a m n)), .int 0])
    (hB : ldet n (paA a m n) = 0 → x = .tup [.val (.slice none 0 0), .val (.slice none 0 0), .int 5]) :
    Con Try.prog 13 [.sl a.length (avs a), .int m, .int n] x := by
  obtain ⟨h1, h16, hN⟩ := serOk_iff hs
  have cI := l02Is_c a (by omega)
  rw [hs] at cI
  have Ao := paA_ok hN m n
  have cS := l01Solve_c (n := n) (paA a m n) (paB a m n) Ao.1 (by omega) Ao.2 (paB_N a m n) (by simp [paB])
  have hAd : paA a m n = (List.range n).map fun i => tb (paE a m i) n := rfl
  have hBd : paB a m n = tb (paG a m) n := rfl
  have Bl : (paB a m n).length = n := by simp [paB]
  rw [Ao.1, Bl] at cS
  unfold solR at cS
  have hm8 : (m : Int) ≤ 8 := by omega
  have hn8 : (n : Int) ≤ 8 := by omega
  have hml : ¬ (a.length : Int) < (m : Int) + n + 1 := by omega
  have ane : ¬ a = [] := by rintro rfl; simp at h1
  refine con_of_vc Try.mixed ⟨21, [], [], []⟩ Try.func13 (by decide) rfl (by simp) (by decide) hf ?_
  rw [Try.ntmps13]
  simp [go_sem]
  refine CallVC.of (cI) (by decide) ?_
  simp [go_sem]
  refine CallVC.of (l01In_c _ _ _) (by decide) ?_
  simp [go_sem]
  simp [go_sem, hm8]
  refine CallVC.of (l01In_c _ _ _) (by decide) ?_
  simp [go_sem]
  simp [go_sem, hn8, hml]
  refine ⟨⟨by omega, by omega⟩, ⟨by omega, by omega⟩, ?_⟩
  have qN := paQ_N a m n
  by_cases hn0 : n = 0
  · have hn1 : ¬ 0 < n := by omega
    have hq : paQ a m n = [1] := by subst hn0; unfold paQ solX; simp [ldet, tb]
    have ql : (paQ a m n).length = n + 1 := by rw [hq, hn0]; rfl
    have hx := hA (by rw [hn0]; simp [ldet])
    subst hx
    have hq2 : avs (paQ a m n) = [.val (.int .i64 1)] := by rw [hq]; rfl
    simp [go_sem, hn1]
    generalize hQ : paQ a m n = q at *
    have q0 : ¬ q = [] := by rintro rfl; simp at ql
    refine loop_inv ([9, 17, 18, 19, 20] ++ List.range' 101 32) (fun k : Nat => [(17, .own 2 k (avs (tb (fun k => psum a q k (n + 1) % 10007) k))), (18, .int k), (9, .own 2 (n + 1) (avs q))]) (fun k => k ≤ m + 1) (fun k => m + 1 - k) 0 (by simp) (by simp [go_sem, hn0, hq2]) (by simp [go_sem]) ?_
    intro k hk
    by_cases hkm : k ≤ m
    · have hki : (k : Int) ≤ m := by omega
      have ts := tb_succ (fun k => psum a q k (n + 1) % 10007) k
      simp [go_sem, hki, hkm]
      refine loop_inv ([19, 20] ++ List.range' 106 23) (fun j : Nat => [(19, .int (psum a q k j % 10007)), (20, .int j)]) (fun j => j ≤ n + 1 ∧ j ≤ k + 1) (fun j => n + 1 - j) 0 (by simp) (by simp [go_sem, psum]) (by simp [go_sem]) ?_
      rintro j ⟨hj1, hj2⟩
      by_cases hjn : j ≤ n
      · have hji : (j : Int) ≤ n := by omega
        by_cases hjk : j ≤ k
        · have hjki : (j : Int) ≤ k := by omega
          have ix : ((k : Int) - j).toNat = k - j := by omega
          have kj : k - j < a.length := by omega
          have jq : j < q.length := by omega
          have cf : cof a ((k : Int) - j) = a[k - j]?.getD 0 := by unfold cof; rw [if_neg (by omega), ix]
          have ps : psum a q k (j + 1) = psum a q k j + q[j]?.getD 0 * cof a ((k : Int) - j) := rfl
          rw [cf] at ps
          have f1 := mul_fits (hN.get (k - j)) (qN.get j)
          have f2 := add_fits (isN_mod (psum a q k j)) (isN_mod (a[k - j]?.getD 0 * q[j]?.getD 0))
          simp [go_sem, hji, hjki, hjn, hjk, ix, avs_drop kj, avs_at jq, avs_drop jq]
          have ej : (psum a q k j + a[k - j]?.getD 0 * q[j]?.getD 0) % 10007 = psum a q k (j + 1) % 10007 := by rw [ps, Int.mul_comm (q[j]?.getD 0)]
          refine ⟨by kernel_rfl, ⟨by omega, by omega⟩, ⟨by omega, ane⟩, by omega, ?_⟩
          refine CallD.of (l01Mul_c _ _ f1) (by simp [roots, rootsL]) (by decide) ?_
          simp [go_sem]
          refine CallD.of (l01Add_c _ _ f2) (by simp [roots, rootsL]) (by decide) ?_
          simp [go_sem]
          refine ⟨by kernel_rfl, ?_⟩
          simp [go_sem]
          exact ⟨by omega, j + 1, ⟨by omega, by omega⟩, by omega, Off_reset _ _ _ (by simp), ej, by omega⟩
        · have hjki : ¬ (j : Int) ≤ k := by omega
          have st := psum_stop (a := a) (q := q) (k := k) (n + 1 - j) j (by omega)
          rw [show j + (n + 1 - j) = n + 1 by omega] at st
          simp [go_sem, hji, hjki, hjn, hjk]
          rw [← st]
          exact ⟨by omega, by omega, k + 1, by omega, by omega, (Off.reset (by intro x hx; simp at hx ⊢; omega) (by simp) (by simp [go_sem, Off_reset])), by rw [ts, avs_snoc]; exact ⟨rfl, rfl⟩, by omega⟩
      · have e : j = n + 1 := by omega
        subst e
        have hji : ¬ ((n : Int) + 1) ≤ n := by omega
        simp [go_sem, hji]
        exact ⟨by omega, by omega, k + 1, by omega, by omega, (Off.reset (by intro x hx; simp at hx ⊢; omega) (by simp) (by simp [go_sem, Off_reset])), by rw [ts, avs_snoc]; exact ⟨rfl, rfl⟩, by omega⟩
    · have e : k = m + 1 := by omega
      subst e
      have hki : ¬ ((m : Int) + 1) ≤ m := by omega
      simp [go_sem, hki]
      rfl
  · have hn1 : 0 < n := by omega
    simp [go_sem, hn1]
    refine ⟨⟨by omega, by omega⟩, ?_⟩
    refine loop_inv ([10, 11, 12, 13, 14] ++ List.range' 48 41) (fun i : Nat => [(10, .own 22 i (omat ((List.range i).map fun i => tb (paE a m i) n))), (11, .own 2 i (avs (tb (paG a m) i))), (12, .int ((m : Int) + 1 + i))]) (fun i => i ≤ n) (fun i => n - i) 0 (by simp) (by simp [go_sem, omat]) (by simp [go_sem]) ?_
    intro i hi
    by_cases hin : i < n
    · have hii : (m : Int) + 1 + i ≤ (m : Int) + n := by omega
      have os := paA_succ a m n i
      have bs := tb_succ (paG a m) i
      simp [go_sem, hii]
      refine ⟨⟨by omega, by omega⟩, ?_⟩
      refine loop_inv ([13, 14] ++ List.range' 56 21) (fun j : Nat => [(13, .own 2 j (avs (tb (paE a m i) j))), (14, .int (j + 1))]) (fun j => j ≤ n) (fun j => n - j) 0 (by simp) (by simp [go_sem]) (by simp [go_sem]) ?_
      intro j hj
      by_cases hjn : j < n
      · have hji : (j : Int) + 1 ≤ n := by omega
        have ts := tb_succ (paE a m i) j
        have pe : paE a m i j = cof a ((m : Int) + 1 + i - (j + 1)) := rfl
        by_cases hsg : (0 : Int) ≤ (m : Int) + 1 + i - (j + 1)
        · obtain ⟨d, hd⟩ : ∃ d : Nat, (m : Int) + 1 + i - (j + 1) = d := ⟨((m : Int) + 1 + i - (j + 1)).toNat, by omega⟩
          have hda : d < a.length := by omega
          rw [hd] at pe hsg
          have pe2 : paE a m i j = a[d]?.getD 0 := by rw [pe]; unfold cof; rw [if_neg (by omega), Int.toNat_natCast]
          simp [go_sem, hji, hd, avs_drop hda]
          exact ⟨by omega, ⟨hda, ane⟩, ⟨by omega, by omega⟩, ⟨by omega, by omega⟩, j + 1, by omega, by omega, Off_reset _ _ _ (by simp), by rw [ts, avs_snoc, pe2]; exact ⟨rfl, rfl⟩, by omega⟩
        · have pe2 : paE a m i j = 0 := by rw [pe]; unfold cof; rw [if_pos (by omega)]
          simp [go_sem, hji, hsg]
          refine ⟨⟨by omega, by omega⟩, ?_⟩
          have hsg2 : ¬ (j : Int) + 1 ≤ (m : Int) + 1 + i := by omega
          simp [go_sem, hsg2]
          exact ⟨⟨by omega, by omega⟩, ⟨by omega, by omega⟩, j + 1, by omega, by omega, Off_reset _ _ _ (by simp), by rw [ts, avs_snoc, pe2]; exact ⟨rfl, rfl⟩, by omega⟩
      · have e : j = n := by omega
        subst e
        have hji : ¬ ((j : Int) + 1) ≤ j := by omega
        have hma : m + 1 + i < a.length := by omega
        have hmi : ((m : Int) + 1 + i).toNat = m + 1 + i := by omega
        have nN := hN.get (m + 1 + i)
        have f1 := sub_fits (show isN 0 from ⟨by omega, by omega⟩) nN
        simp [go_sem, hji, hmi, avs_drop hma]
        refine ⟨⟨by omega, by omega⟩, ⟨by omega, by omega, ane⟩, ?_⟩
        refine CallVC.of (l01Sub_c _ _ f1) (by decide) ?_
        simp [go_sem]
        rw [paG_is]
        exact ⟨⟨by omega, by omega⟩, ⟨by omega, by omega⟩, i + 1, by omega, by omega, (Off.reset (by intro x hx; simp at hx ⊢; omega) (by simp) (by simp [go_sem, Off_reset])), by rw [os]; exact ⟨rfl, rfl⟩, by rw [bs, avs_snoc]; exact ⟨rfl, rfl⟩, by omega⟩
    · have e : n = i := by omega
      subst e
      have hii : ¬ (m : Int) + 1 + n ≤ (m : Int) + n := by omega
      rw [← hAd, ← hBd]
      simp [go_sem, hii]
      refine ⟨⟨by omega, by omega⟩, ?_⟩
      refine CallVC.of (cS) (by decide) ?_
      simp [go_sem]
      have sl := @solX_len n (paA a m n) (paB a m n)
      have hQq : paQ a m n = 1 :: solX n (paA a m n) (paB a m n) := rfl
      by_cases hz : ldet n (paA a m n) = 0
      · have hx := hB hz
        subst hx
        simp [go_sem, hz]
      · have hx := hA hz
        have sl := sl hz
        subst hx
        have ql : (paQ a m n).length = n + 1 := by rw [hQq, List.length_cons, sl]
        have hq2 : .val (.int .i64 1) :: avs (solX n (paA a m n) (paB a m n)) = avs (paQ a m n) := by rw [hQq, avs_cons]
        generalize solX n (paA a m n) (paB a m n) = sx at *
        have hl1 : 1 + sx.length = n + 1 := by omega
        simp [go_sem, hz]
        refine ⟨⟨by omega, by omega⟩, ?_⟩
        generalize hQ : paQ a m n = q at *
        have q0 : ¬ q = [] := by rintro rfl; simp at ql
        refine loop_inv ([9, 17, 18, 19, 20] ++ List.range' 101 32) (fun k : Nat => [(17, .own 2 k (avs (tb (fun k => psum a q k (n + 1) % 10007) k))), (18, .int k), (9, .own 2 (n + 1) (avs q))]) (fun k => k ≤ m + 1) (fun k => m + 1 - k) 0 (by simp) (by simp [go_sem, hq2, hl1]) (by simp [go_sem]) ?_
        intro k hk
        by_cases hkm : k ≤ m
        · have hki : (k : Int) ≤ m := by omega
          have ts := tb_succ (fun k => psum a q k (n + 1) % 10007) k
          simp [go_sem, hki, hkm]
          refine loop_inv ([19, 20] ++ List.range' 106 23) (fun j : Nat => [(19, .int (psum a q k j % 10007)), (20, .int j)]) (fun j => j ≤ n + 1 ∧ j ≤ k + 1) (fun j => n + 1 - j) 0 (by simp) (by simp [go_sem, psum]) (by simp [go_sem]) ?_
          rintro j ⟨hj1, hj2⟩
          by_cases hjn : j ≤ n
          · have hji : (j : Int) ≤ n := by omega
            by_cases hjk : j ≤ k
            · have hjki : (j : Int) ≤ k := by omega
              have ix : ((k : Int) - j).toNat = k - j := by omega
              have kj : k - j < a.length := by omega
              have jq : j < q.length := by omega
              have cf : cof a ((k : Int) - j) = a[k - j]?.getD 0 := by unfold cof; rw [if_neg (by omega), ix]
              have ps : psum a q k (j + 1) = psum a q k j + q[j]?.getD 0 * cof a ((k : Int) - j) := rfl
              rw [cf] at ps
              have f1 := mul_fits (hN.get (k - j)) (qN.get j)
              have f2 := add_fits (isN_mod (psum a q k j)) (isN_mod (a[k - j]?.getD 0 * q[j]?.getD 0))
              simp [go_sem, hji, hjki, hjn, hjk, ix, avs_drop kj, avs_at jq, avs_drop jq]
              have ej : (psum a q k j + a[k - j]?.getD 0 * q[j]?.getD 0) % 10007 = psum a q k (j + 1) % 10007 := by rw [ps, Int.mul_comm (q[j]?.getD 0)]
              refine ⟨by kernel_rfl, ⟨by omega, by omega⟩, ⟨by omega, ane⟩, by omega, ?_⟩
              refine CallD.of (l01Mul_c _ _ f1) (by simp [roots, rootsL]) (by decide) ?_
              simp [go_sem]
              refine CallD.of (l01Add_c _ _ f2) (by simp [roots, rootsL]) (by decide) ?_
              simp [go_sem]
              refine ⟨by kernel_rfl, ?_⟩
              simp [go_sem]
              exact ⟨by omega, j + 1, ⟨by omega, by omega⟩, by omega, Off_reset _ _ _ (by simp), ej, by omega⟩
            · have hjki : ¬ (j : Int) ≤ k := by omega
              have st := psum_stop (a := a) (q := q) (k := k) (n + 1 - j) j (by omega)
              rw [show j + (n + 1 - j) = n + 1 by omega] at st
              simp [go_sem, hji, hjki, hjn, hjk]
              rw [← st]
              exact ⟨by omega, by omega, k + 1, by omega, by omega, (Off.reset (by intro x hx; simp at hx ⊢; omega) (by simp) (by simp [go_sem, Off_reset])), by rw [ts, avs_snoc]; exact ⟨rfl, rfl⟩, by omega⟩
          · have e : j = n + 1 := by omega
            subst e
            have hji : ¬ ((n : Int) + 1) ≤ n := by omega
            simp [go_sem, hji]
            exact ⟨by omega, by omega, k + 1, by omega, by omega, (Off.reset (by intro x hx; simp at hx ⊢; omega) (by simp) (by simp [go_sem, Off_reset])), by rw [ts, avs_snoc]; exact ⟨rfl, rfl⟩, by omega⟩
        · have e : k = m + 1 := by omega
          subst e
          have hki : ¬ ((m : Int) + 1) ≤ m := by omega
          simp [go_sem, hki]
          rfl
end Go.Proofs.Ytkfadbccakbpnaa

/- Contracts: Pade approximants, the program's. -/
namespace Go.Proofs.Ytkfadbccakbpnaa
open Go.Abs
set_option linter.unusedVariables false
set_option linter.unusedSimpArgs false
set_option maxHeartbeats 4000000
set_option maxRecDepth 100000 in
theorem Pade_w (a : List Int) (m n : Nat) (hs : serOk a = true) (hm : m ≤ 8) (hn : n ≤ 8) (hmn : m + n + 1 ≤ a.length) (x : AV) (hf : freshOK x = true)
    (hA : ldet n (paA a m n) ≠ 0 → x = .tup [.own 2 (m + 1) (avs (paP a m n (paQ a m n))), .own 2 (n + 1) (avs (paQ a m n)), .int 0])
    (hB : ldet n (paA a m n) = 0 → x = .tup [.val (.slice none 0 0), .val (.slice none 0 0), .int 5]) :
    Con Try.prog 15 [.sl a.length (avs a), .int m, .int n] x := by
  obtain ⟨h1, h16, hN⟩ := serOk_iff hs
  have cI := IsSeries_c a (by omega)
  rw [hs] at cI
  have Ao := paA_ok hN m n
  have cS := fun h0 => solve_c (n := n) (paA a m n) (paB a m n) h0 Ao.1 (by omega) Ao.2 (paB_N a m n) (by simp [paB])
  have hAd : paA a m n = (List.range n).map fun i => tb (paE a m i) n := rfl
  have hBd : paB a m n = tb (paG a m) n := rfl
  have Bl : (paB a m n).length = n := by simp [paB]
  rw [Ao.1, Bl] at cS
  unfold solR at cS
  have hm8 : (m : Int) ≤ 8 := by omega
  have hn8 : (n : Int) ≤ 8 := by omega
  have hml : ¬ (a.length : Int) < (m : Int) + n + 1 := by omega
  have ane : ¬ a = [] := by rintro rfl; simp at h1
  refine con_of_vc Try.mixed ⟨22, [], [], []⟩ Try.func15 (by decide) rfl (by simp) (by decide) hf ?_
  rw [Try.ntmps15]
  simp [go_sem]
  refine CallVC.of (cI) (by decide) ?_
  simp [go_sem]
  refine CallVC.of (areDegrees_c _ _) (by decide) ?_
  simp [go_sem]
  simp [go_sem, hm8, hn8]
  refine CallVC.of (length_c _ _ (by omega)) (by decide) ?_
  simp [go_sem]
  simp [go_sem, hml]
  refine ⟨⟨by omega, by omega⟩, ⟨by omega, by omega⟩, ?_⟩
  have qN := paQ_N a m n
  by_cases hn0 : n = 0
  · have hn1 : ¬ 0 < n := by omega
    have hq : paQ a m n = [1] := by subst hn0; unfold paQ solX; simp [ldet, tb]
    have ql : (paQ a m n).length = n + 1 := by rw [hq, hn0]; rfl
    have hx := hA (by rw [hn0]; simp [ldet])
    subst hx
    have hq2 : avs (paQ a m n) = [.val (.int .i64 1)] := by rw [hq]; rfl
    simp [go_sem, hn1]
    generalize hQ : paQ a m n = q at *
    have q0 : ¬ q = [] := by rintro rfl; simp at ql
    refine ⟨⟨by omega, by omega⟩, ?_⟩
    refine loop_inv ([9, 17, 18, 19, 20, 21] ++ List.range' 95 26) (fun k : Nat => [(17, .own 2 k (avs (tb (fun k => psum a q k (n + 1) % 10007) k))), (95, .int k), (9, .own 2 (n + 1) (avs q))]) (fun k => k ≤ m + 1) (fun k => m + 1 - k) 0 (by simp) (by simp [go_sem, hn0, hq2]) (by simp [go_sem]) ?_
    intro k hk
    by_cases hkm : k ≤ m
    · have hki : (k : Int) < (m : Int) + 1 := by omega
      have ts := tb_succ (fun k => psum a q k (n + 1) % 10007) k
      simp [go_sem, hki]
      refine loop_inv ([19, 20, 21] ++ List.range' 100 15) (fun j : Nat => [(19, .int (psum a q k j)), (100, .int j)]) (fun j => j ≤ n + 1) (fun j => n + 1 - j) 0 (by simp) (by simp [go_sem, psum]) (by simp [go_sem]) ?_
      intro j hj
      by_cases hjn : j ≤ n
      · have hji : (j : Int) < (n : Int) + 1 := by omega
        have jq : j < q.length := by omega
        have ps : psum a q k (j + 1) = psum a q k j + q[j]?.getD 0 * cof a ((k : Int) - j) := rfl
        have cC := coefficient_c a ((k : Int) - j) (by omega)
        have cN := cof_N hN ((k : Int) - j)
        have f1 := mul_fits (qN.get j) cN
        have b1 := psum_bound hN qN k j
        have b2 := mul_bound (qN.get j) cN
        simp [go_sem, hji, avs_at jq, avs_drop jq]
        refine ⟨⟨by omega, by omega⟩, ?_⟩
        refine CallVC.of (cC) (by decide) ?_
        simp [go_sem]
        rw [← ps]
        refine ⟨f1, ⟨by omega, by omega⟩, ⟨by omega, by omega⟩, j + 1, by omega, by omega, Off_reset _ _ _ (by simp), rfl, by omega⟩
      · have e : j = n + 1 := by omega
        subst e
        have hji : ¬ ((n : Int) + 1) < (n : Int) + 1 := by omega
        have b1 := psum_bound hN qN k (n + 1)
        simp [go_sem, hji]
        refine CallVC.of (num_c _ (by omega) (by omega)) (by decide) ?_
        simp [go_sem]
        exact ⟨⟨by omega, by omega⟩, ⟨by omega, by omega⟩, k + 1, by omega, by omega, (Off.reset (by intro x hx; simp at hx ⊢; omega) (by simp) (by simp [go_sem, Off_reset])), by rw [ts, avs_snoc]; exact ⟨rfl, rfl⟩, by omega⟩
    · have e : k = m + 1 := by omega
      subst e
      have hki : ¬ ((m : Int) + 1) < (m : Int) + 1 := by omega
      simp [go_sem, hki]
      rfl
  · have hn1 : 0 < n := by omega
    have cS := cS hn1
    simp [go_sem, hn1]
    refine ⟨⟨by omega, by omega⟩, ?_⟩
    refine loop_inv ([10, 11, 12, 13, 14] ++ List.range' 47 34) (fun i : Nat => [(10, .own 22 i (omat ((List.range i).map fun i => tb (paE a m i) n))), (11, .own 2 i (avs (tb (paG a m) i))), (12, .int ((m : Int) + 1 + i))]) (fun i => i ≤ n) (fun i => n - i) 0 (by simp) (by simp [go_sem, omat]) (by simp [go_sem]) ?_
    intro i hi
    by_cases hin : i < n
    · have hii : (m : Int) + 1 + i ≤ (m : Int) + n := by omega
      have os := paA_succ a m n i
      have bs := tb_succ (paG a m) i
      simp [go_sem, hii]
      refine ⟨⟨by omega, by omega⟩, ?_⟩
      refine loop_inv ([13, 14] ++ List.range' 55 13) (fun j : Nat => [(13, .own 2 j (avs (tb (paE a m i) j))), (14, .int (j + 1))]) (fun j => j ≤ n) (fun j => n - j) 0 (by simp) (by simp [go_sem]) (by simp [go_sem]) ?_
      intro j hj
      by_cases hjn : j < n
      · have hji : (j : Int) + 1 ≤ n := by omega
        have ts := tb_succ (paE a m i) j
        have pe : paE a m i j = cof a ((m : Int) + 1 + i - (j + 1)) := rfl
        have cC := coefficient_c a ((m : Int) + 1 + i - (j + 1)) (by omega)
        simp [go_sem, hji]
        refine ⟨⟨by omega, by omega⟩, ?_⟩
        refine CallVC.of (cC) (by decide) ?_
        simp [go_sem]
        exact ⟨⟨by omega, by omega⟩, ⟨by omega, by omega⟩, j + 1, by omega, by omega, Off_reset _ _ _ (by simp), by rw [ts, avs_snoc, pe]; exact ⟨rfl, rfl⟩, by omega⟩
      · have e : j = n := by omega
        subst e
        have hji : ¬ ((j : Int) + 1) ≤ j := by omega
        have hma : m + 1 + i < a.length := by omega
        have hmi : ((m : Int) + 1 + i).toNat = m + 1 + i := by omega
        have nN := hN.get (m + 1 + i)
        obtain ⟨nN0, nN1⟩ := nN
        simp [go_sem, hji, hmi, avs_drop hma]
        refine ⟨by kernel_rfl, ⟨by omega, by omega⟩, ⟨by omega, by omega, ane⟩, ⟨by omega, by omega⟩, ?_⟩
        refine CallD.of (num_c _ (by omega) (by omega)) (by simp [roots, rootsL]) (by decide) ?_
        simp [go_sem]
        refine ⟨⟨by omega, by omega⟩, ?_⟩
        refine ⟨by kernel_rfl, ?_⟩
        simp [go_sem]
        rw [paG_is]
        exact ⟨⟨by omega, by omega⟩, i + 1, by omega, by omega, (Off.reset (by intro x hx; simp at hx ⊢; omega) (by simp) (by simp [go_sem, Off_reset])), by rw [os]; exact ⟨rfl, rfl⟩, by rw [bs, avs_snoc]; exact ⟨rfl, rfl⟩, by omega⟩
    · have e : n = i := by omega
      subst e
      have hii : ¬ (m : Int) + 1 + n ≤ (m : Int) + n := by omega
      rw [← hAd, ← hBd]
      simp [go_sem, hii]
      refine ⟨⟨by omega, by omega⟩, ?_⟩
      refine CallVC.of (cS) (by decide) ?_
      simp [go_sem]
      have sl := @solX_len n (paA a m n) (paB a m n)
      have hQq : paQ a m n = 1 :: solX n (paA a m n) (paB a m n) := rfl
      by_cases hz : ldet n (paA a m n) = 0
      · have hx := hB hz
        subst hx
        simp [go_sem, hz]
      · have hx := hA hz
        have sl := sl hz
        subst hx
        have ql : (paQ a m n).length = n + 1 := by rw [hQq, List.length_cons, sl]
        have hq2 : .val (.int .i64 1) :: avs (solX n (paA a m n) (paB a m n)) = avs (paQ a m n) := by rw [hQq, avs_cons]
        generalize solX n (paA a m n) (paB a m n) = sx at *
        have hl1 : 1 + sx.length = n + 1 := by omega
        simp [go_sem, hz]
        refine ⟨⟨by omega, by omega⟩, ?_⟩
        generalize hQ : paQ a m n = q at *
        have q0 : ¬ q = [] := by rintro rfl; simp at ql
        refine ⟨⟨by omega, by omega⟩, ?_⟩
        refine loop_inv ([9, 17, 18, 19, 20, 21] ++ List.range' 95 26) (fun k : Nat => [(17, .own 2 k (avs (tb (fun k => psum a q k (n + 1) % 10007) k))), (95, .int k), (9, .own 2 (n + 1) (avs q))]) (fun k => k ≤ m + 1) (fun k => m + 1 - k) 0 (by simp) (by simp [go_sem, hq2, hl1]) (by simp [go_sem]) ?_
        intro k hk
        by_cases hkm : k ≤ m
        · have hki : (k : Int) < (m : Int) + 1 := by omega
          have ts := tb_succ (fun k => psum a q k (n + 1) % 10007) k
          simp [go_sem, hki]
          refine loop_inv ([19, 20, 21] ++ List.range' 100 15) (fun j : Nat => [(19, .int (psum a q k j)), (100, .int j)]) (fun j => j ≤ n + 1) (fun j => n + 1 - j) 0 (by simp) (by simp [go_sem, psum]) (by simp [go_sem]) ?_
          intro j hj
          by_cases hjn : j ≤ n
          · have hji : (j : Int) < (n : Int) + 1 := by omega
            have jq : j < q.length := by omega
            have ps : psum a q k (j + 1) = psum a q k j + q[j]?.getD 0 * cof a ((k : Int) - j) := rfl
            have cC := coefficient_c a ((k : Int) - j) (by omega)
            have cN := cof_N hN ((k : Int) - j)
            have f1 := mul_fits (qN.get j) cN
            have b1 := psum_bound hN qN k j
            have b2 := mul_bound (qN.get j) cN
            simp [go_sem, hji, avs_at jq, avs_drop jq]
            refine ⟨⟨by omega, by omega⟩, ?_⟩
            refine CallVC.of (cC) (by decide) ?_
            simp [go_sem]
            rw [← ps]
            refine ⟨f1, ⟨by omega, by omega⟩, ⟨by omega, by omega⟩, j + 1, by omega, by omega, Off_reset _ _ _ (by simp), rfl, by omega⟩
          · have e : j = n + 1 := by omega
            subst e
            have hji : ¬ ((n : Int) + 1) < (n : Int) + 1 := by omega
            have b1 := psum_bound hN qN k (n + 1)
            simp [go_sem, hji]
            refine CallVC.of (num_c _ (by omega) (by omega)) (by decide) ?_
            simp [go_sem]
            exact ⟨⟨by omega, by omega⟩, ⟨by omega, by omega⟩, k + 1, by omega, by omega, (Off.reset (by intro x hx; simp at hx ⊢; omega) (by simp) (by simp [go_sem, Off_reset])), by rw [ts, avs_snoc]; exact ⟨rfl, rfl⟩, by omega⟩
        · have e : k = m + 1 := by omega
          subst e
          have hki : ¬ ((m : Int) + 1) < (m : Int) + 1 := by omega
          simp [go_sem, hki]
          rfl
end Go.Proofs.Ytkfadbccakbpnaa

/- Contracts: Pade approximants, for all arguments. -/
namespace Go.Proofs.Ytkfadbccakbpnaa
open Go.Abs
set_option linter.unusedVariables false
set_option linter.unusedSimpArgs false
set_option maxHeartbeats 4000000
def pdE (a : List Int) (m n : Int) : Int := if serOk a = true then if 0 ≤ m ∧ m ≤ 8 ∧ 0 ≤ n ∧ n ≤ 8 ∧ m + n + 1 ≤ a.length then if ldet n.toNat (paA a m.toNat n.toNat) = 0 then 5 else 0 else 2 else 1
def pdP (a : List Int) (m n : Int) : List Int := if pdE a m n = 0 then paP a m.toNat n.toNat (paQ a m.toNat n.toNat) else []
def pdQ (a : List Int) (m n : Int) : List Int := if pdE a m n = 0 then paQ a m.toNat n.toNat else []
def pdR (a : List Int) (m n : Int) : AV := .tup [.own 2 (pdP a m n).length (avs (pdP a m n)), .own 2 (pdQ a m n).length (avs (pdQ a m n)), .int (pdE a m n)]
theorem pd_cases (a : List Int) (m n : Int) {C : AV → Prop} (hw : ∀ c, C (.tup [.val (.slice none 0 0), .val (.slice none 0 0), .int c]) → C (.tup [.own 2 0 [], .own 2 0 [], .int c]))
    (h1 : serOk a = false → C (.tup [.val (.slice none 0 0), .val (.slice none 0 0), .int 1]))
    (h2 : serOk a = true → ¬ (0 ≤ m ∧ m ≤ 8 ∧ 0 ≤ n ∧ n ≤ 8 ∧ m + n + 1 ≤ a.length) → C (.tup [.val (.slice none 0 0), .val (.slice none 0 0), .int 2]))
    (h3 : ∀ M N : Nat, m = M → n = N → serOk a = true → M ≤ 8 → N ≤ 8 → M + N + 1 ≤ a.length → ∀ x : AV, freshOK x = true →
      (ldet N (paA a M N) ≠ 0 → x = .tup [.own 2 (M + 1) (avs (paP a M N (paQ a M N))), .own 2 (N + 1) (avs (paQ a M N)), .int 0]) →
      (ldet N (paA a M N) = 0 → x = .tup [.val (.slice none 0 0), .val (.slice none 0 0), .int 5]) → C x) : C (pdR a m n) := by
  unfold pdR pdP pdQ
  cases hs : serOk a with
  | false =>
    have e : pdE a m n = 1 := by unfold pdE; rw [if_neg (by rw [hs]; simp)]
    simp only [e, show ¬ (1 : Int) = 0 by omega, if_false]
    exact hw _ (h1 hs)
  | true =>
    by_cases hr : 0 ≤ m ∧ m ≤ 8 ∧ 0 ≤ n ∧ n ≤ 8 ∧ m + n + 1 ≤ a.length
    · obtain ⟨M, rfl⟩ : ∃ M : Nat, m = M := ⟨m.toNat, by omega⟩
      obtain ⟨N, rfl⟩ : ∃ N : Nat, n = N := ⟨n.toNat, by omega⟩
      by_cases hz : ldet N (paA a M N) = 0
      · have e : pdE a M N = 5 := by unfold pdE; rw [if_pos hs, if_pos hr, Int.toNat_natCast, Int.toNat_natCast, if_pos hz]
        simp only [e, show ¬ (5 : Int) = 0 by omega, if_false]
        exact hw _ (h3 M N rfl rfl hs (by omega) (by omega) (by omega) _ (by simp [freshOK, freshL]) (fun h => (h hz).elim) (fun _ => rfl))
      · have e : pdE a M N = 0 := by unfold pdE; rw [if_pos hs, if_pos hr, Int.toNat_natCast, Int.toNat_natCast, if_neg hz]
        simp only [e, if_true, Int.toNat_natCast]
        have ql : (paQ a M N).length = N + 1 := by unfold paQ; rw [List.length_cons, solX_len hz]
        have pl : (paP a M N (paQ a M N)).length = M + 1 := by simp [paP]
        exact h3 M N rfl rfl hs (by omega) (by omega) (by omega) _ (by simp [freshOK, freshL]) (fun _ => by rw [ql, pl]) (fun h => (hz h).elim)
    · have e : pdE a m n = 2 := by unfold pdE; rw [if_pos hs, if_neg hr]
      simp only [e, show ¬ (2 : Int) = 0 by omega, if_false]
      exact hw _ (h2 hs hr)
theorem pdP_len (a : List Int) (m n : Int) : (pdP a m n).length ≤ 9 ∧ (pdQ a m n).length ≤ 9 := by
  unfold pdP pdQ
  by_cases h : pdE a m n = 0
  · rw [if_pos h, if_pos h]
    unfold pdE at h
    split at h
    · split at h
      · rename_i hr
        split at h
        · omega
        · rename_i hz
          have pl : (paP a m.toNat n.toNat (paQ a m.toNat n.toNat)).length = m.toNat + 1 := by simp [paP]
          have ql : (paQ a m.toNat n.toNat).length = n.toNat + 1 := by unfold paQ; rw [List.length_cons, solX_len hz]
          omega
      · omega
    · omega
  · rw [if_neg h, if_neg h]; simp
theorem specPadeOf_c (a : List Int) (m n : Int) (hl : a.length ≤ 1048576) : Con Try.prog 13 [.sl a.length (avs a), .int m, .int n] (pdR a m n) := by
  have cI := l02Is_c a (by omega)
  refine pd_cases a m n (C := fun x => Con Try.prog 13 [.sl a.length (avs a), .int m, .int n] x) (fun c h => Con.n2 _ _ h) (fun hs => ?_) (fun hs hr => ?_) (fun M N hM hN hs h1 h2 h3 x hf hA hB => ?_)
  · rw [hs] at cI
    refine con_of_vc Try.mixed ⟨21, [], [], []⟩ Try.func13 (by decide) rfl (by simp) (by decide) (by simp [freshOK, freshL, go_sem]) ?_
    rw [Try.ntmps13]
    simp [go_sem]
    refine CallVC.of (cI) (by decide) ?_
    simp [go_sem]
  · rw [hs] at cI
    refine con_of_vc Try.mixed ⟨21, [], [], []⟩ Try.func13 (by decide) rfl (by simp) (by decide) (by simp [freshOK, freshL, go_sem]) ?_
    rw [Try.ntmps13]
    simp [go_sem]
    refine CallVC.of (cI) (by decide) ?_
    simp [go_sem]
    refine CallVC.of (l01In_c _ _ _) (by decide) ?_
    simp [go_sem]
    by_cases hm : 0 ≤ m ∧ m ≤ 8
    · simp [go_sem, hm.1, hm.2]
      refine CallVC.of (l01In_c _ _ _) (by decide) ?_
      simp [go_sem]
      by_cases hn : 0 ≤ n ∧ n ≤ 8
      · have hlt : (a.length : Int) < m + n + 1 := by omega
        simp [go_sem, hn.1, hn.2, hlt]
        omega
      · by_cases h0 : 0 ≤ n
        · have h8 : ¬ n ≤ 8 := by omega
          simp [go_sem, h0, h8]
        · simp [go_sem, h0]
    · by_cases h0 : 0 ≤ m
      · have h8 : ¬ m ≤ 8 := by omega
        simp [go_sem, h0, h8]
      · simp [go_sem, h0]
  · subst hM; subst hN
    exact specPade_w a M N hs h1 h2 h3 x hf hA hB
theorem PadeOf_c (a : List Int) (m n : Int) (hl : a.length ≤ 1048576) : Con Try.prog 15 [.sl a.length (avs a), .int m, .int n] (pdR a m n) := by
  have cI := IsSeries_c a (by omega)
  refine pd_cases a m n (C := fun x => Con Try.prog 15 [.sl a.length (avs a), .int m, .int n] x) (fun c h => Con.n2 _ _ h) (fun hs => ?_) (fun hs hr => ?_) (fun M N hM hN hs h1 h2 h3 x hf hA hB => ?_)
  · rw [hs] at cI
    refine con_of_vc Try.mixed ⟨22, [], [], []⟩ Try.func15 (by decide) rfl (by simp) (by decide) (by simp [freshOK, freshL, go_sem]) ?_
    rw [Try.ntmps15]
    simp [go_sem]
    refine CallVC.of (cI) (by decide) ?_
    simp [go_sem]
  · rw [hs] at cI
    have cD := areDegrees_c m n
    by_cases hd : 0 ≤ m ∧ m ≤ 8 ∧ 0 ≤ n ∧ n ≤ 8
    · have hlt : (a.length : Int) < m + n + 1 := by omega
      rw [decide_eq_true hd] at cD
      refine con_of_vc Try.mixed ⟨22, [], [], []⟩ Try.func15 (by decide) rfl (by simp) (by decide) (by simp [freshOK, freshL, go_sem]) ?_
      rw [Try.ntmps15]
      simp [go_sem]
      refine CallVC.of (cI) (by decide) ?_
      simp [go_sem]
      refine CallVC.of (cD) (by decide) ?_
      simp [go_sem]
      refine CallVC.of (length_c _ _ (by omega)) (by decide) ?_
      simp [go_sem]
      simp [go_sem, hlt]
      omega
    · rw [decide_eq_false hd] at cD
      refine con_of_vc Try.mixed ⟨22, [], [], []⟩ Try.func15 (by decide) rfl (by simp) (by decide) (by simp [freshOK, freshL, go_sem]) ?_
      rw [Try.ntmps15]
      simp [go_sem]
      refine CallVC.of (cI) (by decide) ?_
      simp [go_sem]
      refine CallVC.of (cD) (by decide) ?_
      simp [go_sem]
  · subst hM; subst hN
    exact Pade_w a M N hs h1 h2 h3 x hf hA hB
end Go.Proofs.Ytkfadbccakbpnaa

/- What the statements' walks share: sizes. -/
namespace Go.Proofs.Ytkfadbccakbpnaa
open Go.Abs
set_option linter.unusedVariables false
theorem small_of {f : List (List Mon)} (h : (cF f : Int) ≤ 1048576) : Small f := by
  unfold cF at h
  refine ⟨by omega, fun p hp => ?_⟩
  have h1 : p.length + sumC cM p ≤ sumC cP f := sumC_mem cP hp
  refine ⟨by omega, fun q hq => ?_⟩
  have h2 : q.2.length ≤ sumC cM p := sumC_mem cM hq
  omega
theorem sumL_bound {A : List (List Int)} {n : Nat} (h : ∀ r ∈ A, r.length ≤ n) : sumL A ≤ A.length * n := by
  induction A with
  | nil => simp [sumL]
  | cons r A ih =>
    have h1 := h r (by simp)
    have h2 := ih (fun q hq => h q (by simp [hq]))
    simp only [sumL, List.length_cons, Nat.add_mul, Nat.one_mul]; omega
theorem szT_hi {A : List (List Int)} {B : List Int} {left : Int} (h0 : 0 ≤ left) : szT A B left ≤ left := by
  unfold szT
  split
  · omega
  · rename_i h
    have := (szM_ok h0 (by omega : 0 ≤ szM left A)).2.1
    have := szR_le (left := szM left A) (n := (B.length : Int)) (by omega) (by omega)
    omega
end Go.Proofs.Ytkfadbccakbpnaa

/- The statement's function FnExactPadeOf, walked: it answers true. -/
namespace Go.Proofs.Ytkfadbccakbpnaa
open Go.Abs
set_option linter.unusedVariables false
set_option linter.unusedSimpArgs false
set_option maxHeartbeats 4000000
set_option maxRecDepth 100000 in
theorem law4_c (y0 : List Int) (n1 n2 : Int) (hy0 : y0.length ≤ 9223372036854775807) :
    Con Try.prog 3 [.sl y0.length (avs y0), .int n1, .int n2] (.bool true) := by
  refine con_of_vc Try.mixed ⟨21, [], [17], []⟩ Try.func3 (by decide) rfl (by simp) (by decide) (by simp [freshOK, freshL, go_sem]) ?_
  rw [Try.ntmps3]
  simp [go_sem]
  by_cases hl0 : (1048576 : Int) < y0.length
  · have hl02 : 1048576 < y0.length := by omega
    simp [go_sem, hl0, hl02]
  have hk0 : ¬ 1048576 < y0.length := by omega
  simp [go_sem, hl0, hk0]
  have y0l : y0.length ≤ 1048576 := by omega
  have cT0 := toInt64S_c y0 y0l
  have cQ0 := eqInt64S_c y0 y0 (by omega)
  simp at cQ0
  have cSp := specPadeOf_c y0 n1 n2 y0l
  have cIm := PadeOf_c y0 n1 n2 y0l
  have xl := pdP_len y0 n1 n2
  unfold pdR at cSp cIm
  generalize pdP y0 n1 n2 = xs at cSp cIm xl
  generalize pdQ y0 n1 n2 = ys at cSp cIm xl
  generalize pdE y0 n1 n2 = e at cSp cIm
  have cM0 := markInt64S_c 2 y0 (1) (by omega) (by omega)
  have p2 : ¬ (1 + (y0.length : Int) < 0) := by omega
  have e1 := eqInt64S_c xs xs (by omega)
  have e2 := eqInt64S_c ys ys (by omega)
  have m1 := markInt64S_c 2 xs 1 (by omega) (by omega)
  have m2 := markInt64S_c 2 ys (1 + xs.length) (by omega) (by omega)
  have t1 := heldInt64S_c ((List.range xs.length).map (fun (i : Nat) => 1 + (i : Int))) 1 (by omega) (by simp; omega)
  have t2 := heldInt64S_c ((List.range ys.length).map (fun (i : Nat) => 1 + (xs.length : Int) + i)) (1 + xs.length) (by omega) (by simp; omega)
  rw [held_mark, List.length_map, List.length_range] at t1 t2
  simp at e1 e2
  have q1 : ¬ (1 + (xs.length : Int) < 0) := by omega
  have q2 : ¬ (1 + (xs.length : Int) + ys.length < 0) := by omega
  refine CallVC.of (cT0) (by decide) ?_
  simp [go_sem]
  refine CallVC.of (cSp) (by decide) ?_
  simp [go_sem]
  refine CallVC.of (cT0) (by decide) ?_
  simp [go_sem]
  refine CallVC.of (cIm) (by decide) ?_
  simp [go_sem]
  refine CallVC.of (e1) (by decide) ?_
  simp [go_sem]
  refine CallVC.of (e2) (by decide) ?_
  simp [go_sem]
  refine CallVC.of (cT0) (by decide) ?_
  simp [go_sem]
  refine CallVC.of (cQ0) (by decide) ?_
  simp [go_sem]
  refine ⟨_, _, cM0, ?_⟩
  simp [go_sem]
  simp [go_sem, p2]
  refine CallVC.of (e1) (by decide) ?_
  simp [go_sem]
  refine CallVC.of (e2) (by decide) ?_
  simp [go_sem]
  refine ⟨_, _, m1, ?_⟩
  simp [go_sem]
  refine ⟨_, _, m2, ?_⟩
  simp [go_sem]
  refine CallVC.of (t1) (by decide) ?_
  simp [go_sem]
  simp [go_sem, q1]
  refine CallVC.of (t2) (by decide) ?_
  simp [go_sem]
  simp [go_sem, q2]
  refine CallVC.of (cT0) (by decide) ?_
  simp [go_sem]
  refine CallVC.of (cIm) (by decide) ?_
  simp [go_sem]
  refine CallVC.of (e1) (by decide) ?_
  simp [go_sem]
  refine CallVC.of (e2) (by decide) ?_
  simp [go_sem]
  refine CallVC.of (t1) (by decide) ?_
  simp [go_sem]
  simp [go_sem, q1]
  refine CallVC.of (t2) (by decide) ?_
  simp [go_sem]
  simp [go_sem, q2]
end Go.Proofs.Ytkfadbccakbpnaa
