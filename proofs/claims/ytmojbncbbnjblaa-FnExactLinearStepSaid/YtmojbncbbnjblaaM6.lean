/- Texts of the own layer and contracts, part 6: R3 E3 B15 B16 R7 R8 E12 N0 N1 R9 N2 N4 E13 N5 Q29 Q36 N6 N7 L20. -/
import Derived.RangeFuncNested
import Derived.RangeFuncBox
import Derived.RangeFuncBound
import Derived.RangeFuncCalls
import Derived.RangeFuncLeaves
import Derived.Shelf.Abstract
import Derived.WalkKit
import Derived.OwnWalkIn
import Derived.TacticsInMore
import Derived.LoopNIn
import Derived.LoopIn
import Derived.Test.YtmojbncbbnjblaaM5
namespace Go.Proofs.Ytmojbncbbnjblaa
open Go.Abs
set_option linter.unusedVariables false
set_option linter.unusedSimpArgs false
set_option maxHeartbeats 4000000
theorem omat_kl (W : List Nat) (A : List (List Int)) : klL W (omat A) = omat A := by
  induction A with
  | nil => rfl
  | cons r A ih => simp only [omat, List.map_cons] at ih ⊢; rw [klL, ih]; rfl
def sysF (n : Nat) (a : List (List Int)) (b : List Int) (k : Nat) : Int := ldet n (repL a k b) * pw (ldet n a) 10005 % 10007
def solX (n : Nat) (a : List (List Int)) (b : List Int) : List Int := if ldet n a = 0 then [] else tb (sysF n a b) n
def solR (n : Nat) (a : List (List Int)) (b : List Int) : AV := .tup [.own 2 (solX n a b).length (avs (solX n a b)), .bool (decide (ldet n a ≠ 0))]
theorem repL_row {a : List (List Int)} {k i : Nat} {b : List Int} (hi : i < a.length) : (repL a k b)[i]?.getD [] = (a[i]?.getD []).set k (b[i]?.getD 0) := by simp [repL, hi]
set_option maxRecDepth 100000 in
theorem l01Solve_c {n : Nat} (a : List (List Int)) (b : List Int) (hl : a.length = n) (hn : n ≤ 100) (hr : Rws n a) (hb : Ns b) (hbl : n ≤ b.length) :
    Con Try.prog 101 [.sl a.length (mat a), .sl b.length (avs b)] (solR n a b) := by
  have cD := l01Det_c n a hl hn hr
  have dN := ldet_isN n a hl hr
  unfold solR solX
  by_cases h0 : ldet n a = 0
  · rw [if_pos h0]
    simp only [h0, ne_eq, not_true_eq_false, decide_false]
    refine Con.n1 _ ?_
    rw [h0] at cD
    refine con_of_vc Try.mixed ⟨11, [], [], []⟩ Try.func101 (by decide) rfl (by simp) (by decide) (by simp [freshOK, freshL, go_sem]) ?_
    rw [Try.ntmps101]
    simp [go_sem]
    refine CallVC.of (cD) (by decide) ?_
    simp [go_sem]
  · rw [if_neg h0]
    simp only [h0, ne_eq, not_false_eq_true, decide_true, tb_len]
    have sF : ∀ k, sysF n a b k = ldet n (repL a k b) * pw (ldet n a) 10005 % 10007 := fun k => rfl
    generalize ldet n a = d at *
    refine con_of_vc Try.mixed ⟨11, [], [], []⟩ Try.func101 (by decide) rfl (by simp) (by decide) (by simp [freshOK, freshL, go_sem]) ?_
    rw [Try.ntmps101]
    simp [go_sem]
    refine CallVC.of (cD) (by decide) ?_
    simp [go_sem]
    simp [go_sem, h0]
    refine loop_inv ([7, 8, 9, 10] ++ List.range' 16 32) (fun k : Nat => [(7, .own 2 k (avs (tb (sysF n a b) k))), (8, .int k)]) (fun k => k ≤ n) (fun k => n - k) 0 (by simp) (by simp [go_sem]) (by simp [go_sem]) ?_
    intro k hk
    by_cases hkn : k < n
    · have hki : (k : Int) < a.length := by omega
      have rl : ∀ r ∈ a, r.length ≤ 1048576 := fun r h => by have := (hr r h).1; omega
      have cO := l01Own2_c a (by omega) rl
      have ro := repL_ok (b := b) hl hr hb k
      have rw' : ∀ i, i < a.length → (repL a k b)[i]?.getD [] = (a[i]?.getD []).set k (b[i]?.getD 0) := fun i hi => repL_row hi
      have cR := l01Det_c n (repL a k b) ro.1 hn ro.2
      have cR : Con Try.prog 161 [.sl a.length (mat (repL a k b))] (.int (ldet n (repL a k b))) := by rw [ro.1] at cR; rw [hl]; exact cR
      have rN := ldet_isN n (repL a k b) ro.1 ro.2
      have hsf := sF k
      generalize repL a k b = B at *
      simp [go_sem, hki]
      refine CallVC.of (cO) (by decide) ?_
      simp [go_sem]
      refine loop_inv ([10] ++ List.range' 24 16 ++ [9]) (fun i : Nat => [(9, .own 27 a.length (omat (mxR a B i))), (10, .int i)]) (fun i => i ≤ n) (fun i => n - i) 0 (by simp) (by simp [go_sem, mxR_zero]) (by simp [go_sem, omat_kl]) ?_
      intro i hi
      by_cases hin : i < n
      · have hii : (i : Int) < a.length := by omega
        have hia : i < a.length := by omega
        have Ml := mxR_len (A := a) (C := B) (by omega) (show i ≤ a.length by omega)
        have hg := omat_get (A := mxR a B i) (k := i) (by omega)
        have hgi : (mxR a B i)[i]?.getD [] = a[i]?.getD [] := by rw [mxR_get (by omega) (by omega), if_neg (by omega)]
        rw [hgi] at hg
        have hset := omat_set (mxR a B i) i (B[i]?.getD [])
        rw [mxR_set (by omega) hia] at hset
        have hnew := rw' i hia
        have ri := hr.at hia
        have hkr : k < (a[i]?.getD []).length := by omega
        have hib : i < b.length := by omega
        generalize mxR a B i = M at *
        generalize B[i]?.getD [] = new at *
        generalize a[i]?.getD [] = old at *
        have bne : ¬ b = [] := by rintro rfl; simp at hib
        simp [go_sem, hii, hg, avs_drop hib]
        refine ⟨by kernel_rfl, ⟨hib, bne⟩, hkr, ?_⟩
        refine ⟨by kernel_rfl, ?_⟩
        simp [go_sem]
        exact ⟨by omega, i + 1, by omega, by omega, Off_reset _ _ _ (by simp), by rw [← hset, hnew, List.length_set, avs_set], by omega⟩
      · have e : i = n := by omega
        subst e
        have hii : ¬ (i : Int) < a.length := by omega
        have hall := mxR_all (A := a) (C := B) (by omega)
        rw [hl] at hall
        rw [hall]
        have ts := tb_succ (sysF i a b) k
        have f1 : fits (ldet i B * pw d 10005) := mul_fits rN (isN_mod _)
        simp [go_sem, hii]
        refine CallVC.of (cR) (by decide) ?_
        simp [go_sem]
        refine CallVC.of (l01Inv_c _ dN) (by decide) ?_
        simp [go_sem]
        refine CallVC.of (l01Mul_c _ _ f1) (by decide) ?_
        simp [go_sem]
        rw [← hsf]
        exact ⟨by omega, by omega, k + 1, by omega, by omega, (Off.reset (by intro x hx; simp at hx ⊢; omega) (by simp) (by simp [go_sem, Off_reset])), by rw [ts, avs_snoc]; exact ⟨rfl, rfl⟩, by omega⟩
    · have e : k = n := by omega
      subst e
      have hki : ¬ (k : Int) < a.length := by omega
      simp [go_sem, hki]
theorem leadL_c (a : List Int) (hl : a.length ≤ 1048576) : Con Try.prog 168 [.sl a.length (avs a)] (.int (leadL a)) := by
  refine con_of_vc Try.mixed ⟨4, [], [], []⟩ Try.func168 (by decide) rfl (by simp) (by decide) (by simp [freshOK, freshL, go_sem]) ?_
  rw [Try.ntmps168]
  simp [go_sem]
  refine loop_inv (3 :: List.range' 4 13) (fun i : Nat => [(3, .int i)]) (fun i => i ≤ a.length ∧ ldF a (a.length - i) i = leadL a) (fun i => a.length - i) 0 ⟨by omega, by simp [leadL]⟩ (by simp [go_sem]) (by simp [go_sem]) ?_
  rintro i ⟨hi, he⟩
  by_cases h : i < a.length
  · have hf : ldF a (a.length - i) i = if a[i]?.getD 0 = 0 then ldF a (a.length - (i + 1)) (i + 1) else i := by
      rw [show a.length - i = (a.length - (i + 1)) + 1 by omega, ldF]
    have ne : ¬ a = [] := by rintro rfl; simp at h
    have hii : (i : Int) < a.length := by omega
    by_cases hz : a[i]?.getD 0 = 0
    · rw [if_pos hz] at hf
      simp [go_sem, hii, avs_drop h, hz]
      exact ⟨ne, by omega, i + 1, ⟨by omega, by rw [← he, hf]⟩, by omega, Off_reset _ _ _ (by simp), by omega⟩
    · rw [if_neg hz, he] at hf
      simp [go_sem, hii, avs_drop h, hz]
      exact ⟨ne, by omega⟩
  · have e : i = a.length := by omega
    subst e
    rw [Nat.sub_self, ldF] at he
    simp [go_sem]
    omega
end Go.Proofs.Ytmojbncbbnjblaa


namespace Go.Proofs.Ytmojbncbbnjblaa
open Go.Abs
set_option linter.unusedVariables false
set_option linter.unusedSimpArgs false
set_option maxHeartbeats 1000000
theorem Nul.unswp {n w : Nat} {m : List (List Int)} {x : Nat → Int} {i d : Nat} (h : Nul n w (Go.Proofs.Ytmojbncbbnjblaa.swp m i d) x) (hl : m.length = n) (hi : i < n) (hd : d < n) : Nul n w m x := by
  have e : ∀ r, mx (Go.Proofs.Ytmojbncbbnjblaa.swp m i d) r = updR (updR (mx m) i (mx m d)) d (mx m i) r := fun r => by rw [swp_mx (by omega) (by omega)]
  intro r hr
  by_cases e1 : r = i
  · subst e1
    have := h d hd
    rw [e d, updR_at] at this
    exact this
  · by_cases e2 : r = d
    · subst e2
      have := h i hi
      rw [e i, updR_ne _ _ (fun k => e1 k.symm), updR_at] at this
      exact this
    · have := h r hr
      rw [e r, updR_ne _ _ e2, updR_ne _ _ e1] at this
      exact this
theorem Nul.unscl {n w : Nat} {m : List (List Int)} {x : Nat → Int} {d k : Nat} (h : Nul n w (Go.Proofs.Ytmojbncbbnjblaa.scl m d k) x) (hl : m.length = n) (hr : Rws w m) (hd : d < n) (hN : isN (mx m d k)) (h0 : mx m d k ≠ 0) : Nul n w m x := by
  intro r hrn
  have hh := h r hrn
  by_cases e : r = d
  · subst e
    have e1 : dsum (fun c => mx (Go.Proofs.Ytmojbncbbnjblaa.scl m r k) r c * x c) w % 10007 = dsum (fun c => (pw (mx m r k) 10005 % 10007) * (mx m r c * x c)) w % 10007 := dsum_cong fun c hc => by
      rw [scl_at hr (by omega) hc, if_pos rfl, mul_mod_l]
      congr 1
      rw [Int.mul_comm (mx m r c), Int.mul_assoc]
    rw [e1, ← dsum_mul] at hh
    have hi := inv_ok hN h0
    generalize dsum (fun c => mx m r c * x c) w = s at *
    generalize mx m r k = p at *
    have e2 : s % 10007 = p * (pw p 10005 % 10007 * s) % 10007 := by
      rw [← Int.mul_assoc, ← mul_mod_l (p * (pw p 10005 % 10007)), mul_mod_r, hi, Int.one_mul]
    rw [e2, ← mul_mod_r, hh]; simp
  · have e1 : dsum (fun c => mx (Go.Proofs.Ytmojbncbbnjblaa.scl m d k) r c * x c) w % 10007 = dsum (fun c => mx m r c * x c) w % 10007 := dsum_cong fun c hc => by
      rw [scl_at hr (by omega) hc, if_neg e]
    rw [e1] at hh; exact hh
theorem Nul.unelD {n w : Nat} {m : List (List Int)} {x : Nat → Int} {d k : Nat} (h : Nul n w (Go.Proofs.Ytmojbncbbnjblaa.elD m d k) x) (hl : m.length = n) (hr : Rws w m) (hd : d < n) : Nul n w m x := by
  have hdd : dsum (fun c => mx m d c * x c) w % 10007 = 0 := by
    have hh := h d hd
    have e1 : dsum (fun c => mx (Go.Proofs.Ytmojbncbbnjblaa.elD m d k) d c * x c) w % 10007 = dsum (fun c => mx m d c * x c) w % 10007 := dsum_cong fun c hc => by
      rw [elD_at hr (by omega) hc, if_pos rfl]
    rw [e1] at hh; exact hh
  intro r hrn
  by_cases e : r = d
  · subst e; exact hdd
  · have hh := h r hrn
    have e1 : dsum (fun c => mx (Go.Proofs.Ytmojbncbbnjblaa.elD m d k) r c * x c) w % 10007 = dsum (fun c => mx m r c * x c + ((- mx m r k) % 10007) * (mx m d c * x c)) w % 10007 := dsum_cong fun c hc => by
      rw [elD_at hr (by omega) hc, if_neg e, mul_mod_l, Int.add_mul, Int.mul_assoc]
    rw [e1, dsum_lin, Int.add_emod, ← mul_mod_r (- mx m r k % 10007), hdd] at hh
    simpa using hh
theorem stepR_unNul {n w : Nat} {W0 : Mx} {m : List (List Int)} {d : Int} {done k : Nat} {x : Nat → Int} (g : GI n w W0 m done k) (hk : k < w) (hd : done < n) (h : Nul n w (stepR m d done k).1 x) : Nul n w m x := by
  have hl := g.len
  have fl := fndR_le m k (m.length - done) done
  unfold stepR at h
  by_cases e : fndR m k (m.length - done) done = m.length
  · rw [if_pos e] at h; exact h
  · rw [if_neg e] at h
    have s1 := swp_ok g.rws (i := fndR m k (m.length - done) done) (d := done) (by omega) (by omega)
    have l1 := swp_len m (fndR m k (m.length - done) done) done
    have t1 := scl_ok s1 (d := done) (k := k) (by omega)
    have fne := fndR_ne m k (m.length - done) done (by omega)
    have hp : mx (swp m (fndR m k (m.length - done) done) done) done k = mx m (fndR m k (m.length - done) done) k := by
      rw [swp_mx (by omega) (by omega), updR_at]
    have h2 := Nul.unelD h (by rw [scl_len, l1]; exact hl) t1 hd
    have h3 := Nul.unscl h2 (by omega) s1 hd (mx_N s1 (by omega) k) (by rw [hp]; exact fne)
    exact Nul.unswp h3 hl (by omega) hd
theorem redR_unNul {n w : Nat} {W0 : Mx} {x : Nat → Int} : ∀ (f k : Nat) (st : List (List Int) × Int × Nat), k + f = w → GI n w W0 st.1 st.2.2 k → Nul n w (redR f k st).1 x → Nul n w st.1 x
  | 0, k, st, hk, g, h => h
  | f + 1, k, st, hk, g, h => by
    rw [redR] at h
    have hl := g.len
    split at h
    · rename_i hlt
      exact stepR_unNul g (by omega) (by omega) (redR_unNul f (k + 1) _ (by omega) (stepR_GI g (by omega) (by omega)) h)
    · exact h
end Go.Proofs.Ytmojbncbbnjblaa


namespace Go.Proofs.Ytmojbncbbnjblaa
open Go.Abs
set_option linter.unusedVariables false
set_option linter.unusedSimpArgs false
set_option maxHeartbeats 1000000
def chL (n : Nat) (a : List (List Int)) : List Int := tb (fun k => chS n (mx a) k % 10007) (n + 1)
@[simp] theorem chL_len (n : Nat) (a : List (List Int)) : (chL n a).length = n + 1 := by simp [chL]
theorem chL_N (n : Nat) (a : List (List Int)) : Ns (chL n a) := tb_N fun k _ => isN_mod _
def unlR (n : Nat) (a : List (List Int)) (z i : Nat) : List Int := tb (fun c => ((if c = i then 1 else 0) + (a[i]?.getD [])[c]?.getD 0 * ((0 - (z : Int)) % 10007) % 10007) % 10007) n
def unlL (n : Nat) (a : List (List Int)) (z : Nat) : List (List Int) := (List.range n).map (unlR n a z)
theorem unlL_ok (n : Nat) (a : List (List Int)) (z : Nat) : (unlL n a z).length = n ∧ Rws n (unlL n a z) := by
  refine ⟨by simp [unlL], fun x hx => ?_⟩
  obtain ⟨i, _, rfl⟩ := List.mem_map.1 hx
  exact ⟨by simp [unlR], tb_N fun c _ => isN_mod _⟩
theorem unlL_mx {n : Nat} {a : List (List Int)} {z r c : Nat} (hr : r < n) (hc : c < n) : mx (unlL n a z) r c % 10007 = (idM r c + - mx a r c * (z : Int)) % 10007 := by
  have e : (unlL n a z)[r]?.getD [] = unlR n a z r := by simp [unlL, hr]
  have e2 : mx (unlL n a z) r c = ((if c = r then 1 else 0) + (a[r]?.getD [])[c]?.getD 0 * ((0 - (z : Int)) % 10007) % 10007) % 10007 := by
    show ((unlL n a z)[r]?.getD [])[c]?.getD 0 = _
    rw [e]
    exact tb_get (fun c => ((if c = r then 1 else 0) + (a[r]?.getD [])[c]?.getD 0 * ((0 - (z : Int)) % 10007) % 10007) % 10007) hc
  have e3 : (a[r]?.getD [])[c]?.getD 0 = mx a r c := rfl
  have e4 : idM r c = if c = r then 1 else 0 := by unfold idM; by_cases h : r = c <;> simp [h]; intro h2; exact (h h2.symm).elim
  have e5 : mx a r c * (0 - (z : Int)) = - mx a r c * (z : Int) := by rw [Int.zero_sub, Int.mul_neg, Int.neg_mul]
  rw [e2, e3, e4, mul_mod_r, Int.emod_emod_of_dvd _ (Int.dvd_refl _), e5]
  generalize - mx a r c * (z : Int) = y
  omega
def valL (n : Nat) (a : List (List Int)) : List Int := tb (fun z => ldet n (unlL n a z)) (n + 1)
theorem ldet_N (n : Nat) (a : List (List Int)) (hl : a.length = n) (hr : Rws n a) : isN (ldet n a) := by rw [ldet_is n a hl hr]; exact isN_mod _
theorem valL_N (n : Nat) (a : List (List Int)) : Ns (valL n a) := tb_N fun z _ => ldet_N _ _ (unlL_ok n a z).1 (unlL_ok n a z).2
theorem val_is (n : Nat) (a : List (List Int)) (z : Nat) : ldet n (unlL n a z) = dsum (fun k => chS n (mx a) k * (z : Int) ^ k) (n + 1) % 10007 := by
  have o := unlL_ok n a z
  rw [ldet_is n _ o.1 o.2, ch_val]
  exact det_cong fun r c hr hc => unlL_mx hr hc
theorem interp_is {n : Nat} (h8 : n ≤ 8) (a : List (List Int)) (k : Nat) (hk : k < n + 1) : ldet (n + 1) (repL (vanL n) k (valL n a)) * pw (ldet (n + 1) (vanL n)) 10005 % 10007 = (chL n a)[k]?.getD 0 := by
  have e0 : (chL n a)[k]?.getD 0 = chS n (mx a) k % 10007 := tb_get (fun k => chS n (mx a) k % 10007) hk
  rw [e0]
  refine solve_uniq (by omega) (vanL_len n) (vanL_ok n) (valL_N n a) (van_ne h8) (fun r hr => ?_) k hk
  have e1 : (valL n a)[r]?.getD 0 = ldet n (unlL n a r) := tb_get (fun z => ldet n (unlL n a z)) hr
  rw [e1, val_is, Int.emod_emod_of_dvd _ (Int.dvd_refl _)]
  refine dsum_cong fun c hc => ?_
  rw [vanL_mx hr hc]
  show ((r : Int) ^ (c : Int).toNat % 10007) * _ % 10007 = _
  rw [mul_mod_l, Int.toNat_natCast, Int.mul_comm]
end Go.Proofs.Ytmojbncbbnjblaa


namespace Go.Proofs.Ytmojbncbbnjblaa
open Go.Abs
set_option linter.unusedVariables false
set_option linter.unusedSimpArgs false
set_option maxHeartbeats 1000000
theorem dotI_dsum : ∀ (xs ys : List Int) (n : Nat), xs.length = n → ys.length = n → dotI xs ys = dsum (fun c => xs[c]?.getD 0 * ys[c]?.getD 0) n
  | [], ys, n, h, h2 => by simp at h; subst h; rfl
  | x :: xs, [], n, h, h2 => by simp at h h2; omega
  | x :: xs, y :: ys, n, h, h2 => by
    obtain ⟨m, rfl⟩ : ∃ m, n = m + 1 := ⟨n - 1, by simp at h; omega⟩
    rw [dsum_shift, dotI, dotI_dsum xs ys m (by simpa using h) (by simpa using h2)]
    rfl
def tmM (a b : List (List Int)) : List (List Int) := (List.range a.length).map fun i => tb (fun k => dotI (a[i]?.getD []) (colS b k) % 10007) (b[0]?.getD []).length
@[simp] theorem tmM_len (a b : List (List Int)) : (tmM a b).length = a.length := by simp [tmM]
theorem tmM_ok (a b : List (List Int)) : Rws (b[0]?.getD []).length (tmM a b) := fun x hx => by
  obtain ⟨i, _, rfl⟩ := List.mem_map.1 hx
  exact ⟨by simp, tb_N fun k _ => isN_mod _⟩
theorem tmM_mx {n : Nat} {a b : List (List Int)} (hl : a.length = n) (hr : Rws n a) (hl2 : b.length = n) (hr2 : Rws n b) {r c : Nat} (h1 : r < n) (h2 : c < n) :
    mx (tmM a b) r c = dsum (fun k => mx a r k * mx b k c) n % 10007 := by
  have q0 := hr2.at (show 0 < b.length by omega)
  have e : (tmM a b)[r]?.getD [] = tb (fun k => dotI (a[r]?.getD []) (colS b k) % 10007) n := by simp [tmM, hl, h1, q0.1]
  show ((tmM a b)[r]?.getD [])[c]?.getD 0 = _
  rw [e, tb_get _ h2, dotI_dsum _ _ n ((hr.at (by omega)).1) (by simp [hl2])]
  congr 1
  refine dsum_congr fun k hk => ?_
  congr 1
  exact tb_get (fun i => (b[i]?.getD [])[c]?.getD 0) (by omega)
def adU (a : List (List Int)) (k : Int) : List (List Int) := (List.range a.length).map fun i => (a[i]?.getD []).set i (((a[i]?.getD [])[i]?.getD 0 + k) % 10007)
@[simp] theorem adU_len (a : List (List Int)) (k : Int) : (adU a k).length = a.length := by simp [adU]
theorem adU_row {a : List (List Int)} {k : Int} {i : Nat} (h : i < a.length) : (adU a k)[i]?.getD [] = (a[i]?.getD []).set i (((a[i]?.getD [])[i]?.getD 0 + k) % 10007) := by simp [adU, h]
theorem adU_ok {n : Nat} {a : List (List Int)} (hr : Rws n a) (k : Int) : Rws n (adU a k) := fun x hx => by
  obtain ⟨i, h, rfl⟩ := List.mem_map.1 hx
  have q := hr.at (show i < a.length by simpa using h)
  refine ⟨by rw [List.length_set]; exact q.1, fun y hy => ?_⟩
  rcases List.mem_or_eq_of_mem_set hy with h | h
  · exact q.2 y h
  · subst h; exact isN_mod _
theorem adU_mx {n : Nat} {a : List (List Int)} (hl : a.length = n) (hr : Rws n a) (k : Int) {r c : Nat} (h1 : r < n) (h2 : c < n) : mx (adU a k) r c = if r = c then (mx a r c + k) % 10007 else mx a r c := by
  have q := (hr.at (i := r) (by omega)).1
  show ((adU a k)[r]?.getD [])[c]?.getD 0 = _
  rw [adU_row (by omega)]
  by_cases h : r = c
  · subst h; rw [if_pos rfl, List.getElem?_set_self (by omega)]; rfl
  · rw [if_neg h, List.getElem?_set_ne h]; rfl
def zeM (n : Nat) : List (List Int) := (List.range n).map fun _ => List.replicate n 0
theorem zeM_ok (n : Nat) : (zeM n).length = n ∧ Rws n (zeM n) := by
  refine ⟨by simp [zeM], fun x hx => ?_⟩
  obtain ⟨i, _, rfl⟩ := List.mem_map.1 hx
  refine ⟨by simp, fun y hy => ?_⟩
  rw [List.eq_of_mem_replicate hy]
  exact ⟨by omega, by omega⟩
theorem zeM_mx (n r c : Nat) : mx (zeM n) r c = 0 := by
  unfold mx zeM
  by_cases hr : r < n
  · simp [hr]
    by_cases hc : c < n <;> simp [hc]
  · simp [hr]
theorem rows_ext {n : Nat} {a b : List (List Int)} (ha : a.length = n) (hb : b.length = n) (hra : Rws n a) (hrb : Rws n b) (h : ∀ r c, r < n → c < n → mx a r c = mx b r c) : a = b := by
  refine List.ext_getElem? fun r => ?_
  by_cases hr : r < n
  · have h1 := (hra.at (i := r) (by omega)).1
    have h2 := (hrb.at (i := r) (by omega)).1
    have e : a[r]?.getD [] = b[r]?.getD [] := by
      refine List.ext_getElem? fun c => ?_
      by_cases hc : c < n
      · have := h r c hr hc
        unfold mx at this
        generalize a[r]?.getD [] = x at *
        generalize b[r]?.getD [] = y at *
        rw [List.getElem?_eq_getElem (show c < x.length by omega), List.getElem?_eq_getElem (show c < y.length by omega)] at this ⊢
        simpa using this
      · rw [List.getElem?_eq_none (by omega), List.getElem?_eq_none (by omega)]
    rw [List.getElem?_eq_getElem (by omega), List.getElem?_eq_getElem (by omega)] at e ⊢
    simpa using e
  · rw [List.getElem?_eq_none (by omega), List.getElem?_eq_none (by omega)]
def adM (n : Nat) (M : Mx) (k : Nat) : List (List Int) := (List.range n).map fun j => tb (fun i => adS n M j i k % 10007) n
theorem adM_ok (n : Nat) (M : Mx) (k : Nat) : (adM n M k).length = n ∧ Rws n (adM n M k) := by
  refine ⟨by simp [adM], fun x hx => ?_⟩
  obtain ⟨i, _, rfl⟩ := List.mem_map.1 hx
  exact ⟨by simp, tb_N fun k _ => isN_mod _⟩
theorem adM_mx {n : Nat} (M : Mx) (k : Nat) {r c : Nat} (h1 : r < n) (h2 : c < n) : mx (adM n M k) r c = adS n M r c k % 10007 := by
  have e : (adM n M k)[r]?.getD [] = tb (fun i => adS n M r i k % 10007) n := by simp [adM, h1]
  show ((adM n M k)[r]?.getD [])[c]?.getD 0 = _
  rw [e]; exact tb_get _ h2
theorem fl_start (n : Nat) (M : Mx) : adU (zeM n) 1 = adM n M 0 := by
  have z := zeM_ok n
  refine rows_ext (by rw [adU_len]; exact z.1) (adM_ok n M 0).1 (adU_ok z.2 1) (adM_ok n M 0).2 fun r c h1 h2 => ?_
  rw [adU_mx z.1 z.2 1 h1 h2, adM_mx M 0 h1 h2, ad_0 n M h1 h2, zeM_mx]
  unfold idM
  split <;> rfl
theorem fl_times {n : Nat} {a : List (List Int)} (hl : a.length = n) (hr : Rws n a) (k : Nat) {r c : Nat} (h1 : r < n) (h2 : c < n) :
    mx (tmM a (adM n (mx a) k)) r c = dsum (fun j => mx a r j * adS n (mx a) j c k) n % 10007 := by
  have o := adM_ok n (mx a) k
  rw [tmM_mx hl hr o.1 o.2 h1 h2]
  refine dsum_cong fun j hj => ?_
  rw [adM_mx (mx a) k hj h2, mul_mod_r]
theorem fl_next {n : Nat} {a : List (List Int)} (h0 : 0 < n) (hl : a.length = n) (hr : Rws n a) (k : Nat) : adU (tmM a (adM n (mx a) k)) (chS n (mx a) (k + 1) % 10007) = adM n (mx a) (k + 1) := by
  have o := adM_ok n (mx a) k
  have q0 := o.2.at (show 0 < (adM n (mx a) k).length by omega)
  have tr := tmM_ok a (adM n (mx a) k)
  rw [q0.1] at tr
  have tl : (tmM a (adM n (mx a) k)).length = n := by rw [tmM_len]; exact hl
  refine rows_ext (by rw [adU_len]; exact tl) (adM_ok n _ _).1 (adU_ok tr _) (adM_ok n _ _).2 fun r c h1 h2 => ?_
  rw [adU_mx tl tr _ h1 h2, adM_mx _ _ h1 h2, ad_step n (mx a) h1 h2, fl_times hl hr k h1 h2]
  generalize dsum (fun j => mx a r j * adS n (mx a) j c k) n = z
  by_cases h : r = c
  · rw [if_pos h, if_pos h.symm]; omega
  · rw [if_neg h, if_neg (fun e => h e.symm), Int.add_zero]
def trS (m : List (List Int)) : Nat → Int
  | 0 => 0
  | i + 1 => trS m i + mx m i i
theorem trS_is (m : List (List Int)) : ∀ n, trS m n = dsum (fun i => mx m i i) n
  | 0 => rfl
  | n + 1 => by rw [trS, trS_is m n]; rfl
theorem trS_bound {n : Nat} {m : List (List Int)} (hl : m.length = n) (hr : Rws n m) : ∀ i : Nat, i ≤ n → 0 ≤ trS m i ∧ trS m i ≤ i * 10006
  | 0, _ => by simp [trS]
  | i + 1, h => by
    have h1 := trS_bound hl hr i (by omega)
    have h2 := mx_N hr (show i < m.length by omega) i
    obtain ⟨h3, h4⟩ := h2
    rw [trS]; omega
theorem fl_coef {n : Nat} {a : List (List Int)} (h8 : n ≤ 8) (hl : a.length = n) (hr : Rws n a) (k : Nat) (hk : k < n) :
    -(trS (tmM a (adM n (mx a) k)) n % 10007) * pw ((k : Int) + 1) 10005 % 10007 = chS n (mx a) (k + 1) % 10007 := by
  have iv := inv_ok (a := (k : Int) + 1) ⟨by omega, by omega⟩ (by omega)
  have st := ch_step n (mx a) k
  have e1 : trS (tmM a (adM n (mx a) k)) n % 10007 = dsum (fun i => dsum (fun c => mx a i c * adS n (mx a) c i k) n) n % 10007 := by
    rw [trS_is]
    refine dsum_cong fun i hi => ?_
    rw [fl_times hl hr k hi hi, Int.emod_emod_of_dvd _ (Int.dvd_refl _)]
  rw [e1]
  generalize dsum (fun i => dsum (fun c => mx a i c * adS n (mx a) c i k) n) n = T at *
  generalize pw ((k : Int) + 1) 10005 = q at *
  generalize chS n (mx a) (k + 1) = e at *
  have e2 : -(T % 10007) * q % 10007 = (((k : Int) + 1) * e) * q % 10007 := by
    rw [st, Int.neg_mul, Int.neg_mul]
    have h1 : T % 10007 * q % 10007 = T * q % 10007 := mul_mod_l T q
    omega
  rw [e2, show ((k : Int) + 1) * e * q = e * (((k : Int) + 1) * q) by ac_rfl, ← mul_mod_r, iv, Int.mul_one]
end Go.Proofs.Ytmojbncbbnjblaa


namespace Go.Proofs.Ytmojbncbbnjblaa
open Go.Abs
set_option linter.unusedVariables false
set_option linter.unusedSimpArgs false
set_option maxHeartbeats 4000000
theorem colS_is {n : Nat} {b : List (List Int)} (hr : Rws n b) (k : Nat) : Ns (colS b k) := tb_N fun i hi => (hr.at hi).2.get k
set_option maxRecDepth 100000 in
theorem timesMatrix_c {n : Nat} (a b : List (List Int)) (ha : a.length ≤ 64) (hn : n ≤ 64) (hr : Rws n a) (h0 : 0 < b.length) (hb : b.length = n) {w : Nat} (hw : w ≤ 64) (hrb : Rws w b) :
    Con Try.prog 107 [.sl a.length (mat a), .sl b.length (mat b)] (.own 27 a.length (omat (tmM a b))) := by
  have q0 := (hrb.at h0).1
  have m0 := mat_drop (xss := b) (k := 0) h0
  simp only [List.drop_zero] at m0
  have m1 : AV.sl (b[0]?.getD []).length (avs (b[0]?.getD [])) :: mat b.tail = mat b := by cases b with | nil => simp at h0 | cons x l => simp [mat]
  have hd : tmM a b = (List.range a.length).map fun i => tb (fun k => dotI (a[i]?.getD []) (colS b k) % 10007) w := by unfold tmM; rw [q0]
  have bne : ¬ b = [] := by rintro rfl; simp at h0
  rw [hd]
  refine con_of_vc Try.mixed ⟨10, [], [], []⟩ Try.func107 (by decide) rfl (by simp) (by decide) (by simp [freshOK, freshL, go_sem]) ?_
  rw [Try.ntmps107]
  simp [go_sem]
  refine loop_inv ([5, 7, 8, 9] ++ List.range' 13 26) (fun i : Nat => [(5, .own 27 i (omat ((List.range i).map fun i => tb (fun k => dotI (a[i]?.getD []) (colS b k) % 10007) w))), (13, .int i)]) (fun i => i ≤ a.length) (fun i => a.length - i) 0 (by simp) (by simp [go_sem, omat]) (by simp [go_sem]) ?_
  intro i hi
  by_cases hin : i < a.length
  · have hii : (i : Int) < a.length := by omega
    have ri := hr.at hin
    have os := omat_range_succ (fun i => tb (fun k => dotI (a[i]?.getD []) (colS b k) % 10007) w) i
    have ane : ¬ a = [] := by rintro rfl; simp at hin
    rw [tb_len] at os
    generalize hrow : a[i]?.getD [] = row at *
    simp [go_sem, hii, mat_drop hin, hrow, m0]
    simp only [m1]
    refine ⟨ane, h0, ?_⟩
    have ex : ∀ k, tb (fun k => dotI row (colS b k) % 10007) (k + 1) = tb (fun k => dotI row (colS b k) % 10007) k ++ [dotI row (colS b k) % 10007] := fun k => tb_succ _ k
    refine loop_inv ([8, 9] ++ List.range' 22 12) (fun k : Nat => [(8, .own 2 k (avs (tb (fun k => dotI row (colS b k) % 10007) k))), (22, .int k)]) (fun k => k ≤ w) (fun k => w - k) 0 (by simp) (by simp [go_sem]) (by simp [go_sem]) ?_
    intro k hk
    by_cases hkw : k < w
    · have hki : (k : Int) < (b[0]?.getD []).length := by omega
      have cC := column_c b k (by omega) (fun r h => by have := (hrb r h).1; omega) (by omega)
      have cD := dot_c row (colS b k) (by rw [colS_len]; omega) (by omega) ri.2 (colS_is hrb k)
      rw [colS_len] at cD
      simp [go_sem, hki]
      refine CallVC.of (cC) (by decide) ?_
      simp [go_sem]
      refine CallVC.of (cD) (by decide) ?_
      simp [go_sem]
      exact ⟨⟨by omega, by omega⟩, by omega, k + 1, by omega, by omega, Off_reset _ _ _ (by simp), by rw [ex, avs_snoc]; exact ⟨rfl, rfl⟩, by omega⟩
    · have e : k = w := by omega
      subst e
      have hki : ¬ (k : Int) < (b[0]?.getD []).length := by omega
      simp [go_sem, hki]
      exact ⟨⟨by omega, by omega⟩, by omega, i + 1, by omega, by omega, (Off.reset (by intro x hx; simp at hx ⊢; omega) (by simp) (by simp [go_sem, Off_reset])), by rw [os]; exact ⟨rfl, rfl⟩, by omega⟩
  · have e : i = a.length := by omega
    subst e
    simp [go_sem]
theorem zeroMatrix_c (n : Nat) (hn : n ≤ 64) : Con Try.prog 170 [.int n] (.own 27 n (omat (zeM n))) := by
  have hd : zeM n = (List.range n).map fun _ => List.replicate n 0 := rfl
  rw [hd]
  refine con_of_vc Try.mixed ⟨4, [], [], []⟩ Try.func170 (by decide) rfl (by simp) (by decide) (by simp [freshOK, freshL, go_sem]) ?_
  rw [Try.ntmps170]
  simp [go_sem]
  refine loop_inv ([3] ++ List.range' 6 8) (fun i : Nat => [(3, .own 27 i (omat ((List.range i).map fun _ => List.replicate n 0))), (6, .int i)]) (fun i => i ≤ n) (fun i => n - i) 0 (by simp) (by simp [go_sem, omat]) (by simp [go_sem]) ?_
  intro i hi
  by_cases hin : i < n
  · have hii : (i : Int) < n := by omega
    have os := omat_range_succ (fun _ => List.replicate n 0) i
    have rp := avs_repl n 0
    rw [List.length_replicate] at os
    simp [go_sem, hii, hin]
    exact ⟨⟨by omega, by omega⟩, ⟨by omega, by omega⟩, ⟨by omega, by omega⟩, i + 1, by omega, by omega, Off_reset _ _ _ (by simp), by rw [os, rp]; exact ⟨rfl, rfl⟩, by omega⟩
  · have e : i = n := by omega
    subst e
    simp [go_sem]
set_option maxRecDepth 100000 in
theorem addUnit_c {n : Nat} (a : List (List Int)) (k : Int) (hl : a.length = n) (hn : n ≤ 64) (hr : Rws n a) (hk : isN k) : Con Try.prog 171 [.sl a.length (mat a), .int k] (.own 27 a.length (omat (adU a k))) := by
  have cC := cloneRows_c a (by omega) (fun r h => by have := (hr r h).1; omega)
  have al := adU_len a k
  refine con_of_vc Try.mixed ⟨7, [], [], []⟩ Try.func171 (by decide) rfl (by simp) (by decide) (by simp [freshOK, freshL, go_sem]) ?_
  rw [Try.ntmps171]
  simp [go_sem]
  refine CallVC.of (cC) (by decide) ?_
  simp [go_sem]
  refine loop_inv ([5, 6] ++ List.range' 11 20) (fun i : Nat => [(5, .own 27 a.length (omat (mxR a (adU a k) i))), (11, .int i)]) (fun i => i ≤ a.length) (fun i => a.length - i) 0 (by simp) (by simp [go_sem, mxR_zero]) (by simp [go_sem, omat_kl]) ?_
  intro i hi
  by_cases hin : i < a.length
  · have hii : (i : Int) < a.length := by omega
    have hg := omat_get (A := mxR a (adU a k) i) (k := i) (by rw [mxR_len al hi]; exact hin)
    have hgi : (mxR a (adU a k) i)[i]?.getD [] = a[i]?.getD [] := by rw [mxR_get al hi, if_neg (by omega)]
    rw [hgi] at hg
    have hset := omat_set (mxR a (adU a k) i) i ((adU a k)[i]?.getD [])
    rw [mxR_set al hin] at hset
    have hnew := adU_row (k := k) hin
    have ri := hr.at hin
    have hkr : i < (a[i]?.getD []).length := by omega
    have nN := ri.2.get i
    have f1 := add_fits nN hk
    generalize mxR a (adU a k) i = M at *
    generalize (adU a k)[i]?.getD [] = new at *
    generalize a[i]?.getD [] = old at *
    simp [go_sem, hii, hg, avs_at hkr, avs_drop hkr]
    refine ⟨by kernel_rfl, hkr, f1, ?_⟩
    refine CallD.of (num_c _ f1.1 f1.2) (by simp [roots, rootsL]) (by decide) ?_
    simp [go_sem]
    simp [go_sem, hg]
    refine ⟨hkr, ?_⟩
    refine ⟨by kernel_rfl, ?_⟩
    simp [go_sem]
    exact ⟨by omega, i + 1, by omega, by omega, Off_reset _ _ _ (by simp), by rw [← hset, hnew, List.length_set, avs_set], by omega⟩
  · have e : i = a.length := by omega
    subst e
    rw [mxR_all al]
    simp [go_sem]
theorem lengthM_c (n : Nat) (cs : List AV) (hn : n ≤ 9223372036854775807) : Con Try.prog 163 [.sl n cs] (.int n) := by
  refine con_of_vc Try.mixed ⟨3, [], [], []⟩ Try.func163 (by decide) rfl (by simp) (by decide) (by simp [freshOK, freshL, go_sem]) ?_
  rw [Try.ntmps163]
  simp [go_sem]
set_option maxRecDepth 100000 in
theorem unitLess_c {n : Nat} (a : List (List Int)) (h0 : 0 < n) (h8 : n ≤ 8) (hl : a.length = n) (hr : Rws n a) : Con Try.prog 142 [.sl a.length (mat a)] (.own 2 (n + 1) (avs (chL n a))) := by
  have cZ := zeroMatrix_c n (by omega)
  have z := zeM_ok n
  have cU := addUnit_c (n := n) (zeM n) 1 z.1 (by omega) z.2 ⟨by omega, by omega⟩
  rw [z.1, fl_start n (mx a)] at cU
  have ad := adM_ok n (mx a)
  have cd : chL n a = tb (fun k => chS n (mx a) k % 10007) (n + 1) := rfl
  have c0 : tb (fun k => chS n (mx a) k % 10007) (0 + 1) = [1] := by rw [tb_succ]; simp [ch_0]
  have tl : ∀ k, (tmM a (adM n (mx a) k)).length = n := fun k => by rw [tmM_len]; exact hl
  have tr : ∀ k, Rws n (tmM a (adM n (mx a) k)) := fun k => by
    have := tmM_ok a (adM n (mx a) k)
    rwa [((ad k).2.at (show 0 < (adM n (mx a) k).length by rw [(ad k).1]; exact h0)).1] at this
  rw [cd]
  refine con_of_vc Try.mixed ⟨9, [], [], []⟩ Try.func142 (by decide) rfl (by simp) (by decide) (by simp [freshOK, freshL, go_sem]) ?_
  rw [Try.ntmps142]
  simp [go_sem]
  simp [go_sem, hl]
  refine CallVC.of (cZ) (by decide) ?_
  simp [go_sem]
  refine CallVC.of (cU) (by decide) ?_
  simp [go_sem]
  refine loop_inv ([3, 4, 5, 6, 7, 8] ++ List.range' 14 38) (fun k : Nat => [(3, .own 2 (k + 1) (avs (tb (fun k => chS n (mx a) k % 10007) (k + 1)))), (4, .own 27 n (omat (adM n (mx a) k))), (5, .int (k + 1))]) (fun k => k ≤ n) (fun k => n - k) 0 (by simp) (by simp [go_sem, c0]; rfl) (by simp [go_sem, omat_kl]) ?_
  intro k hk
  have cL := lengthM_c a.length (mat a) (by omega)
  simp [go_sem, hl]
  rw [hl] at cL
  refine CallVC.of (cL) (by decide) ?_
  simp [go_sem]
  by_cases hkn : k < n
  · have hki : (k : Int) + 1 ≤ n := by omega
    have cT := timesMatrix_c a (adM n (mx a) k) (by omega) (show n ≤ 64 by omega) hr (by rw [(ad k).1]; exact h0) (ad k).1 (show n ≤ 64 by omega) (ad k).2
    rw [(ad k).1, hl] at cT
    have tb' := trS_bound (tl k) (tr k) n (Nat.le_refl _)
    have fc := fl_coef h8 hl hr k hkn
    have fn := fl_next h0 hl hr k
    have cA := addUnit_c (n := n) (tmM a (adM n (mx a) k)) (chS n (mx a) (k + 1) % 10007) (tl k) (by omega) (tr k) (isN_mod _)
    rw [fn, tl k] at cA
    have ts := tb_succ (fun k => chS n (mx a) k % 10007) (k + 1)
    have trN := fun i hi => trS_bound (tl k) (tr k) i hi
    have mN := fun i (hi : i < n) => mx_N (tr k) (show i < (tmM a (adM n (mx a) k)).length by rw [tl k]; exact hi) i
    have tlk := tl k
    have trk := tr k
    generalize tmM a (adM n (mx a) k) = T at *
    have cI := inv_c ((k : Int) + 1) ⟨by omega, by omega⟩
    simp [go_sem, hki]
    refine CallVC.of (cT) (by decide) ?_
    simp [go_sem]
    refine loop_inv ([6, 7] ++ List.range' 25 13) (fun i : Nat => [(6, .int (trS T i)), (25, .int i)]) (fun i => i ≤ n) (fun i => n - i) 0 (by simp) (by simp [go_sem, trS]) (by simp [go_sem]) ?_
    intro i hi
    by_cases hin : i < n
    · have hii : (i : Int) < n := by omega
      have ri := trk.at (show i < T.length by omega)
      have hkr : i < (T[i]?.getD []).length := by omega
      have hg := omat_get (A := T) (k := i) (by omega)
      have mm : (T[i]?.getD [])[i]?.getD 0 = mx T i i := rfl
      have b1 := trN i hi
      have b2 := mN i hin
      obtain ⟨b3, b4⟩ := b2
      have ps : trS T (i + 1) = trS T i + mx T i i := rfl
      simp [go_sem, hii, hg, avs_at hkr, avs_drop hkr, mm]
      exact ⟨hkr, ⟨by omega, by omega⟩, ⟨by omega, by omega⟩, i + 1, by omega, by omega, Off_reset _ _ _ (by simp), by rw [ps], by omega⟩
    · have e : i = n := by omega
      subst e
      have hii : ¬ (i : Int) < i := by omega
      have hb := mul_bound (isN_mod (trS T i)) (show isN (pw ((k : Int) + 1) 10005) from isN_mod _)
      have f1 : fits (-(trS T i % 10007) * pw ((k : Int) + 1) 10005) := by
        rw [Int.neg_mul]
        exact ⟨by omega, by omega⟩
      have tn := isN_mod (trS T i)
      simp [go_sem, hii]
      refine CallVC.of (num_c _ (by omega) (by omega)) (by decide) ?_
      simp [go_sem]
      refine ⟨⟨by have := tn.2; omega, by have := tn.1; omega⟩, ?_⟩
      refine CallVC.of (cI) (by decide) ?_
      simp [go_sem]
      refine ⟨f1, ?_⟩
      refine CallVC.of (num_c _ f1.1 f1.2) (by decide) ?_
      simp [go_sem]
      rw [fc]
      refine ⟨⟨by omega, by omega⟩, ?_⟩
      refine CallVC.of (cA) (by decide) ?_
      simp [go_sem]
      exact ⟨⟨by omega, by omega⟩, k + 1, by omega, by omega, (Off.reset (by intro x hx; simp at hx ⊢; omega) (by simp) (by simp [go_sem, Off_reset])), by rw [ts, avs_snoc]; exact ⟨rfl, rfl⟩, rfl, by omega⟩
  · have e : k = n := by omega
    subst e
    have hki : ¬ (k : Int) + 1 ≤ k := by omega
    simp [go_sem, hki]
end Go.Proofs.Ytmojbncbbnjblaa


namespace Go.Proofs.Ytmojbncbbnjblaa
open Go.Abs
set_option linter.unusedVariables false
set_option linter.unusedSimpArgs false
set_option maxHeartbeats 4000000
def unR (n i : Nat) : List Int := tb (fun c => if c = i then 1 else 0) n
def unM (n : Nat) : List (List Int) := (List.range n).map (unR n)
theorem unR_set {n i : Nat} (h : i < n) : (List.replicate n (0 : Int)).set i 1 = unR n i := by
  refine List.ext_getElem (by simp [unR]) fun c h1 h2 => ?_
  rw [List.getElem_set]
  simp only [unR, tb, List.getElem_map, List.getElem_range]
  by_cases e : i = c
  · subst e; simp
  · rw [if_neg e, if_neg (fun x => e x.symm)]; simp
theorem unM_ok (n : Nat) : (unM n).length = n ∧ Rws n (unM n) := by
  refine ⟨by simp [unM], fun x hx => ?_⟩
  obtain ⟨i, _, rfl⟩ := List.mem_map.1 hx
  exact ⟨by simp [unR], tb_N fun k _ => by split <;> exact ⟨by omega, by omega⟩⟩
theorem unM_row {n i : Nat} (h : i < n) : (unM n)[i]?.getD [] = unR n i := by simp [unM, h]
theorem l19Unit_c (n : Nat) (hn : n ≤ 64) : Con Try.prog 99 [.int n] (.own 27 n (omat (unM n))) := by
  have hd : unM n = (List.range n).map (unR n) := rfl
  rw [hd]
  refine con_of_vc Try.mixed ⟨6, [], [], []⟩ Try.func99 (by decide) rfl (by simp) (by decide) (by simp [freshOK, freshL, go_sem]) ?_
  rw [Try.ntmps99]
  simp [go_sem]
  refine loop_inv ([3, 4, 5] ++ List.range' 7 14) (fun i : Nat => [(3, .own 27 i (omat ((List.range i).map (unR n)))), (4, .int i)]) (fun i => i ≤ n) (fun i => n - i) 0 (by simp) (by simp [go_sem, omat]) (by simp [go_sem]) ?_
  intro i hi
  by_cases hin : i < n
  · have hii : (i : Int) < n := by omega
    have os := omat_range_succ (unR n) i
    have rp := avs_repl n 0
    have rs := unR_set hin
    have ul : (unR n i).length = n := by simp [unR]
    rw [ul] at os
    simp [go_sem, hii, hin, rp]
    exact ⟨⟨by omega, by omega⟩, ⟨by omega, by omega⟩, ⟨by omega, by omega⟩, i + 1, by omega, by omega, Off_reset _ _ _ (by simp), by rw [os, avs_set, rs]; exact ⟨rfl, rfl⟩, by omega⟩
  · have e : i = n := by omega
    subst e
    simp [go_sem]
theorem unlR_is {n : Nat} {a : List (List Int)} {i : Nat} (ha : (a[i]?.getD []).length = n) (z : Nat) :
    tb (fun c => ((unR n i)[c]?.getD 0 + (tb (fun c => (a[i]?.getD [])[c]?.getD 0 * ((0 - (z : Int)) % 10007) % 10007) n)[c]?.getD 0) % 10007) n = unlR n a z i := by
  unfold unlR tb
  refine List.map_congr_left fun c hc => ?_
  have hc : c < n := by simpa using hc
  have e1 : (unR n i)[c]?.getD 0 = if c = i then 1 else 0 := tb_get (fun c => if c = i then 1 else 0) hc
  have e2 := tb_get (fun c => (a[i]?.getD [])[c]?.getD 0 * ((0 - (z : Int)) % 10007) % 10007) hc
  unfold tb at e2
  rw [e1, e2]
theorem unlL_row {n : Nat} {a : List (List Int)} {z i : Nat} (h : i < n) : (unlL n a z)[i]?.getD [] = unlR n a z i := by simp [unlL, h]
theorem interp_X {n : Nat} (h8 : n ≤ 8) (a : List (List Int)) : solX (n + 1) (vanL n) (valL n a) = chL n a := by
  unfold solX
  rw [if_neg (van_ne h8)]
  refine List.ext_getElem (by simp) fun k h1 h2 => ?_
  have hk : k < n + 1 := by simpa using h2
  have e := interp_is h8 a k hk
  simp only [tb, List.getElem_map, List.getElem_range]
  show sysF (n + 1) (vanL n) (valL n a) k = _
  unfold sysF
  rw [e, List.getElem?_eq_getElem h2]; rfl
set_option maxRecDepth 100000 in
theorem l19Det_c {n : Nat} (a : List (List Int)) (h8 : n ≤ 8) (hl : a.length = n) (hr : Rws n a) : Con Try.prog 155 [.sl a.length (mat a)] (.own 2 (n + 1) (avs (chL n a))) := by
  have cU := l19Unit_c n (by omega)
  have cS := l01Solve_c (n := n + 1) (vanL n) (valL n a) (vanL_len n) (by omega) (vanL_ok n) (valL_N n a) (by simp [valL])
  have vl : (valL n a).length = n + 1 := by simp [valL]
  have ie := interp_X h8 a
  unfold solR at cS
  rw [ie, vanL_len, vl, chL_len] at cS
  have hv : vanL n = (List.range (n + 1)).map fun (z : Nat) => tb (fun k => pw (z : Int) (k : Int)) (n + 1) := rfl
  have hw : valL n a = tb (fun z => ldet n (unlL n a z)) (n + 1) := rfl
  refine con_of_vc Try.mixed ⟨13, [], [], []⟩ Try.func155 (by decide) rfl (by simp) (by decide) (by simp [freshOK, freshL, go_sem]) ?_
  rw [Try.ntmps155]
  simp [go_sem]
  simp [go_sem, hl]
  refine loop_inv ([4, 5, 6, 7, 8, 9, 10] ++ List.range' 17 48) (fun z : Nat => [(4, .own 27 z (omat ((List.range z).map fun (z : Nat) => tb (fun k => pw (z : Int) (k : Int)) (n + 1)))), (5, .own 2 z (avs (tb (fun z => ldet n (unlL n a z)) z))), (6, .int z)]) (fun z => z ≤ n + 1) (fun z => n + 1 - z) 0 (by simp) (by simp [go_sem, omat]) (by simp [go_sem]) ?_
  intro z hz
  by_cases hzn : z ≤ n
  · have hzi : (z : Int) ≤ n := by omega
    have uo := unlL_ok n a z
    have cD := l01Det_c n (unlL n a z) uo.1 (by omega) uo.2
    rw [uo.1] at cD
    have dN := ldet_isN n (unlL n a z) uo.1 uo.2
    have ts := tb_succ (fun z => ldet n (unlL n a z)) z
    have os := omat_range_succ (fun (z : Nat) => tb (fun k => pw (z : Int) (k : Int)) (n + 1)) z
    rw [tb_len] at os
    have uM := unM_ok n
    have ur := fun i (h : i < n) => unlL_row (a := a) (z := z) h
    generalize hU : unlL n a z = U at *
    simp [go_sem, hzi, hzn]
    refine CallVC.of (cU) (by decide) ?_
    simp [go_sem]
    refine loop_inv ([8] ++ List.range' 24 20 ++ [7]) (fun i : Nat => [(7, .own 27 n (omat (mxR (unM n) U i))), (8, .int i)]) (fun i => i ≤ n) (fun i => n - i) 0 (by simp) (by simp [go_sem, mxR_zero]) (by simp [go_sem, omat_kl]) ?_
    intro i hi
    by_cases hin : i < n
    · have hii : (i : Int) < n := by omega
      have hia : i < a.length := by omega
      have ane : ¬ a = [] := by rintro rfl; simp at hia
      have hg := omat_get (A := mxR (unM n) U i) (k := i) (by rw [mxR_len (by omega) (by omega)]; omega)
      have Ml := mxR_len (A := unM n) (C := U) (by omega) (show i ≤ (unM n).length by omega)
      have hgi : (mxR (unM n) U i)[i]?.getD [] = unR n i := by rw [mxR_get (by omega) (by omega), if_neg (by omega), unM_row hin]
      rw [hgi] at hg
      have hset := omat_set (mxR (unM n) U i) i (U[i]?.getD [])
      rw [mxR_set (by omega) (by omega), ur i hin] at hset
      have ul : (unR n i).length = n := by simp [unR]
      have rl : (unlR n a z i).length = n := by simp [unlR]
      have ri := hr.at hia
      have uN : Ns (unR n i) := by rw [← unM_row hin]; exact (uM.2.at (by omega)).2
      have hRi := unlR_is ri.1 z
      have cT := l02Times_c (a[i]?.getD []) ((0 - (z : Int)) % 10007) ri.2 (isN_mod _) (by omega)
      have cA := l02Add_c (unR n i) (tb (fun c => (a[i]?.getD [])[c]?.getD 0 * ((0 - (z : Int)) % 10007) % 10007) n) uN (tb_N fun k _ => isN_mod _) (by omega) (by rw [ul, tb_len]; omega)
      rw [ri.1] at cT
      rw [ul, tb_len, hRi] at cA
      rw [rl] at hset
      generalize tb (fun c => (a[i]?.getD [])[c]?.getD 0 * ((0 - (z : Int)) % 10007) % 10007) n = tt at *
      generalize mxR (unM n) U i = M at *
      generalize unlR n a z i = new at *
      generalize unR n i = old at *
      have f1 := sub_fits (show isN 0 from ⟨by omega, by omega⟩) (show isN (z : Int) from ⟨by omega, by omega⟩)
      rw [ul] at hg
      rw [Int.zero_sub] at cT
      rw [← ri.1] at cT
      simp [go_sem, hii, hg, mat_drop hia]
      refine ⟨by kernel_rfl, ane, ?_⟩
      have cA2 : Con Try.prog 126 [.sl n (avs old), .sl (a[i]?.getD []).length (avs tt)] (.own 2 n (avs new)) := by rw [ri.1]; exact cA
      refine CallD.of (l01Sub_c _ _ f1) (by simp [roots, rootsL]) (by decide) ?_
      simp [go_sem]
      refine CallD.of (cT) (by simp [roots, rootsL]) (by decide) ?_
      simp [go_sem]
      simp [go_sem, hg]
      refine CallD.of (cA2) (by simp [roots, rootsL]) (by decide) ?_
      simp [go_sem]
      refine ⟨by omega, by omega, ?_⟩
      refine ⟨by kernel_rfl, ?_⟩
      simp [go_sem]
      exact ⟨by omega, i + 1, by omega, by omega, Off_reset _ _ _ (by simp), by rw [← hset], by omega⟩
    · have e : n = i := by omega
      subst e
      have hii : ¬ (n : Int) < n := by omega
      have hall := mxR_all (A := unM n) (C := U) (by omega)
      rw [uM.1] at hall
      rw [hall]
      simp [go_sem, hii]
      refine CallVC.of (cD) (by decide) ?_
      simp [go_sem]
      refine ⟨⟨by omega, by omega⟩, ?_⟩
      have zN : isN (z : Int) := ⟨by omega, by omega⟩
      refine loop_inv ([9, 10] ++ List.range' 50 11) (fun k : Nat => [(9, .own 2 k (avs (tb (fun k => pw (z : Int) (k : Int)) k))), (10, .int k)]) (fun k => k ≤ n + 1) (fun k => n + 1 - k) 0 (by simp) (by simp [go_sem]) (by simp [go_sem]) ?_
      intro k hk
      by_cases hkn : k ≤ n
      · have hki : (k : Int) ≤ n := by omega
        have ps := tb_succ (fun k => pw (z : Int) (k : Int)) k
        simp [go_sem, hki, hkn]
        refine CallVC.of (l01Pow_c _ _ zN (by omega) (by omega)) (by decide) ?_
        simp [go_sem]
        exact ⟨⟨by omega, by omega⟩, ⟨by omega, by omega⟩, k + 1, by omega, by omega, Off_reset _ _ _ (by simp), by rw [ps, avs_snoc]; exact ⟨rfl, rfl⟩, by omega⟩
      · have e : k = n + 1 := by omega
        subst e
        have hki : ¬ ((n : Int) + 1) ≤ n := by omega
        simp [go_sem, hki]
        exact ⟨⟨by omega, by omega⟩, ⟨by omega, by omega⟩, z + 1, by omega, by omega, (by repeat (first | exact Off_reset _ _ _ (by simp) | (refine Off.reset (by intro x hx; simp at hx ⊢; omega) (by simp) ?_; simp -failIfUnchanged [go_sem, Off_reset]))), by rw [os]; exact ⟨rfl, rfl⟩, by rw [ts, avs_snoc]; exact ⟨rfl, rfl⟩, by omega⟩
  · have e : z = n + 1 := by omega
    subst e
    have hzi : ¬ ((n : Int) + 1) ≤ n := by omega
    rw [← hv, ← hw]
    simp [go_sem, hzi]
    refine CallVC.of (cS) (by decide) ?_
    simp [go_sem]
end Go.Proofs.Ytmojbncbbnjblaa


namespace Go.Proofs.Ytmojbncbbnjblaa
open Go.Abs
set_option linter.unusedVariables false
set_option linter.unusedSimpArgs false
set_option maxHeartbeats 1000000
theorem dsum_split (f : Nat → Int) (n : Nat) : ∀ m, dsum f (n + m) = dsum f n + dsum (fun j => f (n + j)) m
  | 0 => by simp [dsum]
  | m + 1 => by
    have : n + (m + 1) = (n + m) + 1 := rfl
    rw [this, dsum, dsum_split f n m, dsum]; omega
def catL (n : Nat) (a : List (List Int)) : List (List Int) := (List.range n).map fun i => a[i]?.getD [] ++ unR n i
theorem unR_get {n i c : Nat} (h : c < n) : (unR n i)[c]?.getD 0 = if c = i then 1 else 0 := tb_get _ h
theorem unR_len (n i : Nat) : (unR n i).length = n := by simp [unR]
theorem unR_N (n i : Nat) : Ns (unR n i) := tb_N fun k _ => by split <;> exact ⟨by omega, by omega⟩
theorem catL_row {n : Nat} {a : List (List Int)} {i : Nat} (h : i < n) : (catL n a)[i]?.getD [] = a[i]?.getD [] ++ unR n i := by simp [catL, h]
theorem catL_ok {n : Nat} {a : List (List Int)} (hl : a.length = n) (hr : Rws n a) : (catL n a).length = n ∧ Rws (n + n) (catL n a) := by
  refine ⟨by simp [catL], fun x hx => ?_⟩
  obtain ⟨i, h, rfl⟩ := List.mem_map.1 hx
  have q := hr.at (show i < a.length by have : i < n := by simpa using h
                                        omega)
  refine ⟨by rw [List.length_append, q.1, unR_len], fun y hy => ?_⟩
  rcases List.mem_append.1 hy with h | h
  · exact q.2 y h
  · exact unR_N n i y h
theorem catL_mx {n : Nat} {a : List (List Int)} (hl : a.length = n) (hr : Rws n a) {r : Nat} (h : r < n) : (∀ c, c < n → mx (catL n a) r c = mx a r c) ∧ ∀ c, c < n → mx (catL n a) r (n + c) = idM r c := by
  have q := (hr.at (i := r) (by omega)).1
  have e := catL_row (a := a) h
  refine ⟨fun c hc => ?_, fun c hc => ?_⟩
  · show ((catL n a)[r]?.getD [])[c]?.getD 0 = (a[r]?.getD [])[c]?.getD 0
    rw [e, List.getElem?_append_left (by omega)]
  · show ((catL n a)[r]?.getD [])[n + c]?.getD 0 = _
    rw [e, List.getElem?_append_right (by omega), q, Nat.add_sub_cancel_left, unR_get hc]
    unfold idM
    by_cases e : c = r
    · subst e; simp
    · rw [if_neg e, if_neg (fun x => e x.symm)]
theorem cat_full {n : Nat} {a : List (List Int)} (hn : 0 < n) (hl : a.length = n) (hr : Rws n a) : (redR (n + n) 0 (catL n a, 1, 0)).2.2 = n := by
  have wo := catL_ok hl hr
  have wm := fun r h => catL_mx hl hr (r := r) h
  obtain ⟨k', h1, h2, h3⟩ := redR_GI (n + n) 0 (catL n a, 1, 0) (by omega) (GI.start wo.1 wo.2)
  rcases h2 with h2 | h2
  · subst h2
    have hd := h3.dle
    rcases Nat.lt_or_ge (redR (n + n) 0 (catL n a, 1, 0)).2.2 n with hlt | hge
    · exfalso
      have low := h3.low (n - 1) (by omega) (by omega)
      obtain ⟨s, t, k1, k2⟩ := h3.eqv
      have k3 := k2 (fun c => n + c) (fun c hc => by show n + c < n + n; omega)
      have e1 : det n (sel (mx (catL n a)) (fun c => n + c)) = 1 :=
        (det_congr (M := sel (mx (catL n a)) (fun c => n + c)) (N := idM) (fun r c hr hc => (wm r hr).2 c hc)).trans (det_one n)
      have e2 : det n (sel (mx (redR (n + n) 0 (catL n a, 1, 0)).1) (fun c => n + c)) = 0 := by
        rw [det_congr (N := updR (sel (mx (redR (n + n) 0 (catL n a, 1, 0)).1) (fun c => n + c)) (n - 1) (fun _ => 0)) (fun r c hr hc => by
          unfold updR
          by_cases e : r = n - 1
          · subst e; rw [if_pos rfl]; exact low (n + c) (by omega)
          · rw [if_neg e])]
        exact det_nil _ (show n - 1 < n by omega) (fun c => by rw [updR_at])
      rw [e1, e2, Int.one_mul] at k3
      rw [← mul_mod_l, k3] at k1
      simp at k1
    · omega
  · exact h2
def bkL (n : Nat) (R : List (List Int)) : List (List Int) := R.map fun r => r.drop n
theorem bkL_row (n : Nat) (R : List (List Int)) (i : Nat) : (bkL n R)[i]?.getD [] = (R[i]?.getD []).drop n := by
  simp only [bkL, List.getElem?_map]
  cases R[i]? <;> simp
theorem bkL_mx (n : Nat) (R : List (List Int)) (r c : Nat) : mx (bkL n R) r c = mx R r (n + c) := by
  show ((bkL n R)[r]?.getD [])[c]?.getD 0 = (R[r]?.getD [])[n + c]?.getD 0
  rw [bkL_row, List.getElem?_drop]
theorem bkL_ok {n : Nat} {R : List (List Int)} (hl : R.length = n) (hr : Rws (n + n) R) : (bkL n R).length = n ∧ Rws n (bkL n R) := by
  refine ⟨by simp [bkL, hl], fun x hx => ?_⟩
  obtain ⟨r, h, rfl⟩ := List.mem_map.1 hx
  have q := hr r h
  exact ⟨by simp [q.1], fun y hy => q.2 y (List.mem_of_mem_drop hy)⟩
theorem cat_none {n : Nat} {a : List (List Int)} (hn : 0 < n) (hl : a.length = n) (hr : Rws n a) {j : Nat} (hj : j < n) (hld : n ≤ leadL ((redR (n + n) 0 (catL n a, 1, 0)).1[j]?.getD [])) : ldet n a = 0 := by
  have wo := catL_ok hl hr
  have wm := fun r h => catL_mx hl hr (r := r) h
  obtain ⟨k', h1, h2, h3⟩ := redR_GI (n + n) 0 (catL n a, 1, 0) (by omega) (GI.start wo.1 wo.2)
  have := h3.eqv.sing (by omega) hj (fun c hc => by
    have : mx (redR (n + n) 0 (catL n a, 1, 0)).1 j c = 0 := ldF_zero _ _ 0 c (Nat.zero_le _) (Nat.lt_of_lt_of_le hc hld)
    rw [this]; rfl)
  rw [ldet_is n a hl hr, ← this]
  exact congrArg (· % 10007) (det_congr fun r c h1 h2 => ((wm r h1).1 c h2).symm)
theorem GI.oneW {n w : Nat} {W0 : Mx} {m : List (List Int)} {k : Nat} (h : GI n w W0 m n k) (hn : 0 < n) (hw : n ≤ w) (hl : leadL (m[n - 1]?.getD []) < n) : ∀ r c, r < n → c < n → mx m r c = idM r c := by
  obtain ⟨p, p1, p2, p3⟩ := h.piv
  have rl := (h.rws.at (i := n - 1) (by rw [h.len]; omega)).1
  have hl2 : ldF (m[n - 1]?.getD []) (m[n - 1]?.getD []).length 0 < n := hl
  have hl3 : n ≤ (m[n - 1]?.getD []).length := by rw [rl]; exact hw
  have hne := ldF_ne (m[n - 1]?.getD []) (m[n - 1]?.getD []).length 0 (by rw [Nat.zero_add]; exact Nat.lt_of_lt_of_le hl2 hl3)
  have hp : p (n - 1) ≤ n - 1 := by
    rcases Nat.lt_or_ge (leadL (m[n - 1]?.getD [])) (p (n - 1)) with hlt | hge
    · exact (hne (p3 (n - 1) (by omega) _ hlt)).elim
    · omega
  intro r c hr hc
  have g1 := piv_ge p2 c hc
  have g2 := piv_le p2 (n - 1 - c) c (by omega)
  have e : p c = c := by omega
  have := (p1 c hc).2 r hr
  rw [e] at this
  exact this
theorem cat_some {n : Nat} {a : List (List Int)} (hn : 0 < n) (hl : a.length = n) (hr : Rws n a) (hld : leadL ((redR (n + n) 0 (catL n a, 1, 0)).1[n - 1]?.getD []) < n) :
    ldet n a ≠ 0 ∧ ∀ v : Nat → Int, ∀ r, r < n → dsum (fun c => mx a r c * dsum (fun k => mx (bkL n (redR (n + n) 0 (catL n a, 1, 0)).1) c k * v k) n) n % 10007 = v r % 10007 := by
  have wo := catL_ok hl hr
  have wm := fun r h => catL_mx hl hr (r := r) h
  have cf := cat_full hn hl hr
  obtain ⟨k', h1, h2, h3⟩ := redR_GI (n + n) 0 (catL n a, 1, 0) (by omega) (GI.start wo.1 wo.2)
  have h3' := h3
  rw [cf] at h3'
  have hid := h3'.oneW hn (by omega) hld
  have wid := fun x => redR_unNul (x := x) (n + n) 0 (catL n a, 1, 0) (by omega) (GI.start wo.1 wo.2)
  generalize (redR (n + n) 0 (catL n a, 1, 0)).1 = R at *
  refine ⟨fun h0 => ?_, fun v r hrn => ?_⟩
  · obtain ⟨s, t, k1, k2⟩ := h3'.eqv
    have k3 := k2 id (fun c hc => by show c < n + n; omega)
    have e : ∀ X : Mx, sel X id = X := fun X => rfl
    rw [e, e, det_congr (N := mx a) (fun r c h1 h2 => (wm r h1).1 c h2), det_congr (N := idM) hid, det_one, ← mul_mod_l, ← ldet_is n a hl hr, h0] at k3
    simp at k3
  · have nr : Nul n (n + n) R (fun c => if c < n then dsum (fun k => mx (bkL n R) c k * v k) n else - v (c - n)) := fun k hk => by
      rw [dsum_split]
      have e1 : dsum (fun c => mx R k c * (if c < n then dsum (fun k => mx (bkL n R) c k * v k) n else - v (c - n))) n = dsum (fun j => mx (bkL n R) k j * v j) n := by
        rw [dsum_congr (g := fun c => idM k c * dsum (fun j => mx (bkL n R) c j * v j) n) (fun c hc => by rw [if_pos hc, hid k c hk hc]), dsum_id hk]
      have e2 : dsum (fun j => mx R k (n + j) * (if n + j < n then dsum (fun k => mx (bkL n R) (n + j) k * v k) n else - v (n + j - n))) n = (-1) * dsum (fun j => mx (bkL n R) k j * v j) n := by
        rw [dsum_mul]
        exact dsum_congr fun j hj => by
          rw [if_neg (by omega), Nat.add_sub_cancel_left, bkL_mx, Int.mul_neg]; omega
      rw [e1, e2]
      generalize dsum (fun j => mx (bkL n R) k j * v j) n = z
      have : z + -1 * z = 0 := by omega
      rw [this]; rfl
    have nu := wid _ nr r hrn
    rw [dsum_split] at nu
    have e1 : dsum (fun c => mx (catL n a) r c * (if c < n then dsum (fun k => mx (bkL n R) c k * v k) n else - v (c - n))) n = dsum (fun c => mx a r c * dsum (fun k => mx (bkL n R) c k * v k) n) n :=
      dsum_congr fun c hc => by rw [if_pos hc, (wm r hrn).1 c hc]
    have e2 : dsum (fun j => mx (catL n a) r (n + j) * (if n + j < n then dsum (fun k => mx (bkL n R) (n + j) k * v k) n else - v (n + j - n))) n = - v r := by
      rw [dsum_congr (g := fun j => idM r j * - v j) (fun j hj => by rw [if_neg (by omega), Nat.add_sub_cancel_left, (wm r hrn).2 j hj]), dsum_id hrn]
    rw [e1, e2] at nu
    generalize dsum (fun c => mx a r c * dsum (fun k => mx (bkL n R) c k * v k) n) n = z at *
    omega
end Go.Proofs.Ytmojbncbbnjblaa


namespace Go.Proofs.Ytmojbncbbnjblaa
open Go.RowKit Go.Shelf Go.Abs
set_option linter.unusedVariables false
set_option linter.unusedSimpArgs false
attribute [local go_sem] Oper.semAt_some
def upto {α : Type} (f : Nat → α) (k : Nat) : List α := (List.range k).map f
theorem upto_succ {α : Type} (f : Nat → α) (k : Nat) : upto f (k + 1) = upto f k ++ [f k] := by simp [upto, List.range_succ]
theorem upto_length {α : Type} (f : Nat → α) (k : Nat) : (upto f k).length = k := by simp [upto]
abbrev BkT := Int × { a : Int // isN a }
def bkF {zs : List Int} (hN : Ns zs) (len : Nat) (j : Nat) : BkT := ((len : Int) - 1 - j, ⟨zs[len - 1 - j]?.getD 0, hN.get _⟩)
def KpC (Bs b : Nat) (A B : World) : Prop := (∀ v, A.cell? ⟨Bs, 0, none⟩ = some v → B.cell? ⟨Bs, 0, none⟩ = some v) ∧ ∀ j v, A.cell? ⟨b, j, none⟩ = some v → B.cell? ⟨b, j, none⟩ = some v
theorem KpC.trans {Bs b : Nat} {A B C : World} (h : KpC Bs b A B) (k : KpC Bs b B C) : KpC Bs b A C := ⟨fun v hv => k.1 v (h.1 v hv), fun j v hv => k.2 j v (h.2 j v hv)⟩
theorem KpC.book {Bs b : Nat} (W : World) (l : Nat) (o o' : Obj) (hl : W.heap[l]? = some o) (ho : o.isCells = false) : KpC Bs b W (W.putObj l o') :=
  ⟨fun v hv => cell_kept hv (grownBy_putObj' W l o') (fun r e => by cases e; exact ⟨o, hl, ho⟩), fun j v hv => cell_kept hv (grownBy_putObj' W l o') (fun r e => by cases e; exact ⟨o, hl, ho⟩)⟩
theorem KpC.refl (Bs b : Nat) (W : World) : KpC Bs b W W := ⟨fun _ h => h, fun _ _ h => h⟩
set_option maxRecDepth 100000 in
set_option maxHeartbeats 2000000 in
theorem back1_in (F : Fence) (n : Nat) (h7 : F.fn 189) (hro : F.round = none) (hn : 1 ≤ n) (l Bs b off len cap : Nat) (zs : List Int) (hN : Ns zs) (hreach : len * 8 ≤ 140737488351232) (J Jx : List BkT → World → Prop)
    (hY : ∀ pre x W, J pre W → pre.length < len → YieldAt F (n - 1) Try.prog l #[.int .i64 x.1, .int .i64 x.2.1] W fun e W' =>
      (e = .returned (.bool true) ∧ J (pre ++ [x]) W' ∧ KpC Bs b W W') ∨ (e = .returned (.bool false) ∧ Jx (pre ++ [x]) W'))
    (W : World) (hBs : W.cell? ⟨Bs, 0, none⟩ = some (.slice (some ⟨b, off, none⟩) len cap)) (hc : ∀ j, j < len → W.cell? ⟨b, off + j, none⟩ = some (.int .i64 (zs[j]?.getD 0))) (h0 : J [] W) :
    CallsIn F n Try.prog 189 #[.func (.yield l) #[] #[], .pointer (some ⟨Bs, 0, none⟩)] W fun e W' => (∃ v, e = .returned v) ∧
      ((∃ ys, ys = upto (bkF hN len) len ∧ J ys W') ∨ (∃ pre, (∃ k, k ≤ len ∧ pre = upto (bkF hN len) k) ∧ Jx pre W')) := by
  refine callsIn_of_wp Try.func189 rfl h7 ?_ hro
  simp only [Try.ntmps189, List.size_toArray, List.length_cons, List.length_nil, Nat.reduceAdd, Nat.reduceSub, Array.replicate_succ, Array.replicate_zero, List.push_toArray, List.append_toArray, List.nil_append, List.cons_append]
  gi_wp2
  gi_loopw [3] (fun i wr => ∃ k : Nat, k ≤ len ∧ i = .int .i64 ((len : Int) - 1 - k) ∧ J (upto (bkF hN len) k) wr ∧ KpC Bs b W wr)
    (fun i _ => (intOf i + 1).toNat)
  case atStart =>
    exact ⟨0, Nat.zero_le _, by simp, h0, KpC.refl _ _ _⟩
  case round =>
    obtain ⟨k, hk, rfl, hJs, hnx⟩ := hrel
    have hBx : wr.cell? ⟨Bs, 0, none⟩ = some (.slice (some ⟨b, off, none⟩) len cap) := hnx.1 _ hBs
    by_cases hlt : k < len
    · have hcx : wr.cell? ⟨b, off + (len - 1 - k), none⟩ = some (.int .i64 (zs[len - 1 - k]?.getD 0)) := hnx.2 _ _ (hc _ (by omega))
      obtain ⟨fn, tmps, assign, body, hy, hR⟩ := hY _ (bkF hN len k) wr hJs (by rw [upto_length]; exact hlt)
      dsimp only [bkF] at hy
      have ek : (len : Int) - 1 - k = ((len - 1 - k : Nat) : Int) := by omega
      have hlt2 : len - 1 - k < len := by omega
      rw [ek] at hy
      gi_wp2
      refine hR.mono ?_
      rintro e W3 (⟨rfl, hJ3, hk3⟩ | ⟨rfl, hJx3⟩)
      · gi_wp2
        go_roundw
        case rel => exact ⟨k + 1, by omega, by simp; omega, by rw [upto_succ]; exact hJ3, hnx.trans hk3⟩
        case measure => simp [intOf]; omega
      · gi_wp2
        refine bodyPost_ret (results_none rfl _ _ _) rfl ?_
        exact ⟨⟨_, rfl⟩, .inr ⟨_, ⟨k + 1, by omega, (upto_succ _ _).symm⟩, hJx3⟩⟩
    · obtain rfl : k = len := by omega
      gi_wp2
      go_end0
      exact ⟨⟨_, rfl⟩, .inl ⟨_, rfl, hJs⟩⟩
set_option maxHeartbeats 1000000 in
theorem back_in (F : Fence) (n : Nat) (h5 : F.fn 160) (hro : F.round = none) (a : Option Addr) (len cap : Nat) (w : World) :
    CallsIn F n Try.prog 160 #[.slice a len cap] w fun e w' => e = .returned (.func (.func 189) #[] #[.pointer (some ⟨w.heap.size, 0, none⟩)]) ∧ w' = w.alloc (.cells #[.slice a len cap] 27) := by
  refine callsIn_of_wp Try.func160 rfl h5 ?_ hro
  simp only [Try.ntmps160, List.size_toArray, List.length_cons, List.length_nil, Nat.reduceAdd, Nat.reduceSub, Array.replicate_succ, Array.replicate_zero, List.push_toArray, List.append_toArray, List.nil_append, List.cons_append]
  gi_wp2
  go_ret
  exact ⟨rfl, rfl⟩
theorem back_stops (F : Fence) (n : Nat) (h7 : F.fn 189) (hro : F.round = none) (hn : 1 ≤ n) (Bs b off cap : Nat) (zs : List Int) (hN : Ns zs) (hreach : zs.length * 8 ≤ 140737488351232) (w : World) (hBs : Bs < w.heap.size) (hb : b < w.heap.size)
    (hc : w.cell? ⟨Bs, 0, none⟩ = some (.slice (some ⟨b, off, none⟩) zs.length cap)) (hz : ∀ j, j < zs.length → w.cell? ⟨b, off + j, none⟩ = some (.int .i64 (zs[j]?.getD 0))) :
    SeqStopsK F n Try.prog 189 #[.pointer (some ⟨Bs, 0, none⟩)] (fun x : BkT => #[Value.int .i64 x.1, Value.int .i64 x.2.1]) (KpC Bs b) (fun ys => ys = upto (bkF hN zs.length) zs.length)
      (fun pre => ∃ k, k ≤ zs.length ∧ pre = upto (bkF hN zs.length) k) zs.length w := fun l J Jx W hW _ _ hY h0 =>
  back1_in F n h7 hro hn l Bs b off zs.length cap zs hN hreach J Jx hY W ((hW.cell (p := ⟨Bs, 0, none⟩) hBs).trans hc) (fun j hj => (hW.cell (p := ⟨b, off + j, none⟩) hb).trans (hz j hj)) h0
end Go.Proofs.Ytmojbncbbnjblaa


namespace Go.Proofs.Ytmojbncbbnjblaa
open Go.RowKit Go.Shelf Go.Abs
set_option linter.unusedVariables false
set_option linter.unusedSimpArgs false
attribute [local go_sem] Oper.semAt_some
end Go.Proofs.Ytmojbncbbnjblaa


namespace Go.Proofs.Ytmojbncbbnjblaa
open Go.Abs
set_option linter.unusedVariables false
set_option linter.unusedSimpArgs false
set_option maxHeartbeats 4000000
def lesM (A : List (List Int)) (B : List Int) : List (List Int) := (List.range A.length).map fun i => plusS (A[i]?.getD []) B (-1)
theorem Tab.rws {A : List (List Int)} {B : List Int} (h : Tab A B) : Rws B.length A := h.a
theorem lesM_ok {A : List (List Int)} {B : List Int} (h : Tab A B) : (lesM A B).length = B.length ∧ Rws B.length (lesM A B) := by
  refine ⟨by simp [lesM, h.len], fun x hx => ?_⟩
  obtain ⟨i, hi, rfl⟩ := List.mem_map.1 hx
  exact ⟨by rw [plusS_len]; exact (h.rws.at (show i < A.length by simpa using hi)).1, plusS_N _ _ _⟩
theorem les_row {a b : List Int} (hl : a.length = b.length) : tb (fun i => (a[i]?.getD 0 + (tb (fun i => b[i]?.getD 0 * 10006 % 10007) b.length)[i]?.getD 0) % 10007) a.length = plusS a b (-1) := by
  unfold plusS
  rw [show (-1 : Int) % 10007 = 10006 by decide]
  have : ∀ i, i < a.length → (a[i]?.getD 0 + (tb (fun i => b[i]?.getD 0 * 10006 % 10007) b.length)[i]?.getD 0) % 10007 = (a[i]?.getD 0 + 10006 * b[i]?.getD 0) % 10007 := fun i hi => by
    rw [tb_get _ (show i < b.length by omega), Int.mul_comm 10006]
    omega
  unfold tb at this ⊢
  exact List.map_congr_left fun i hi => this i (by simpa using hi)
set_option maxRecDepth 100000 in
theorem fraction_c (A : List (List Int)) (B : List Int) (h : Tab A B) : Con Try.prog 78 [.agg [.sl A.length (mat A), .sl B.length (avs B)]]
    (.tup [.own 2 (B.length + 1) (avs (chL B.length (lesM A B))), .own 2 (B.length + 1) (avs (chL B.length A))]) := by
  have b1 := h.pos
  have b8 := h.le
  have ab := h.len
  have rw1 := h.rws
  have lo := lesM_ok h
  have c1 := unitLess_c (n := B.length) (lesM A B) (by omega) b8 lo.1 lo.2
  have c2 := unitLess_c (n := B.length) A (by omega) b8 ab rw1
  have c1 : Con Try.prog 142 [.sl A.length (mat (lesM A B))] (.own 2 (B.length + 1) (avs (chL B.length (lesM A B)))) := by rw [lo.1] at c1; rw [ab]; exact c1
  have hd : lesM A B = (List.range A.length).map fun i => plusS (A[i]?.getD []) B (-1) := rfl
  have bN := h.b
  refine con_of_vc Try.mixed ⟨7, [], [], []⟩ Try.func78 (by decide) rfl (by simp) (by decide) (by simp [freshOK, freshL, go_sem]) ?_
  rw [Try.ntmps78]
  simp [go_sem]
  refine loop_inv ([4, 6] ++ List.range' 11 12) (fun i : Nat => [(4, .own 27 i (omat ((List.range i).map fun i => plusS (A[i]?.getD []) B (-1)))), (11, .int i)]) (fun i => i ≤ A.length) (fun i => A.length - i) 0 (by simp) (by simp [go_sem, omat]) (by simp [go_sem]) ?_
  intro i hi
  by_cases hin : i < A.length
  · have hii : (i : Int) < A.length := by omega
    have ri := rw1.at hin
    have ane : ¬ A = [] := by rintro rfl; simp at hin
    have cP := plus_c (A[i]?.getD []) B (-1) ri.2 bN ⟨by omega, by omega⟩ (by omega) (by omega)
    have os := omat_range_succ (fun i => plusS (A[i]?.getD []) B (-1)) i
    rw [plusS_len] at os
    simp [go_sem, hii, mat_drop hin]
    refine ⟨ane, ?_⟩
    refine CallVC.of (cP) (by decide) ?_
    simp [go_sem]
    exact ⟨⟨by omega, by omega⟩, by omega, i + 1, by omega, by omega, Off_reset _ _ _ (by simp), by rw [os]; exact ⟨rfl, rfl⟩, by omega⟩
  · have e : i = A.length := by omega
    subst e
    rw [← hd]
    simp [go_sem]
    refine ⟨by kernel_rfl, ?_⟩
    refine CallD.of (c1) (by simp [roots, rootsL]) (by decide) ?_
    simp [go_sem]
    refine CallD.of (c2) (by simp [roots, rootsL]) (by decide) ?_
    simp [go_sem]
    refine ⟨by kernel_rfl, ?_⟩
    simp [go_sem]
set_option maxRecDepth 100000 in
theorem l10Inverse_c (A : List (List Int)) (B : List Int) (h : Tab A B) : Con Try.prog 156 [.agg [.sl A.length (mat A), .sl B.length (avs B)]]
    (.agg [.own 27 B.length (omat (lesM A B)), .own 2 B.length (avs (tb (fun i => B[i]?.getD 0 * 10006 % 10007) B.length))]) := by
  have b1 := h.pos
  have b8 := h.le
  have ab := h.len
  have rw1 := h.rws
  have hd : lesM A B = (List.range A.length).map fun i => plusS (A[i]?.getD []) B (-1) := rfl
  have bN := h.b
  have cT := l02Times_c B 10006 bN ⟨by omega, by omega⟩ (by omega)
  have les := fun (a : List Int) (hl : a.length = B.length) => les_row (a := a) (b := B) hl
  have zN : Ns (tb (fun i => B[i]?.getD 0 * 10006 % 10007) B.length) := tb_N fun k _ => isN_mod _
  have zl : (tb (fun i => B[i]?.getD 0 * 10006 % 10007) B.length).length = B.length := by simp
  generalize tb (fun i => B[i]?.getD 0 * 10006 % 10007) B.length = Z at *
  refine con_of_vc Try.mixed ⟨5, [], [], []⟩ Try.func156 (by decide) rfl (by simp) (by decide) (by simp [freshOK, freshL, go_sem]) ?_
  rw [Try.ntmps156]
  simp [go_sem]
  refine CallVC.of (cT) (by decide) ?_
  simp [go_sem]
  refine loop_inv ([3, 4] ++ List.range' 9 20) (fun i : Nat => [(3, .box 45 [if i = 0 then .val (.slice none 0 0) else .own 27 i (omat ((List.range i).map fun i => plusS (A[i]?.getD []) B (-1))), .own 2 B.length (avs Z)]), (4, .int i)]) (fun i => i ≤ A.length) (fun i => A.length - i) 0 (by simp) (by simp [go_sem]) (by simp [go_sem]) ?_
  intro i hi
  by_cases hin : i < A.length
  · have hii : (i : Int) < A.length := by omega
    have ri := rw1.at hin
    have ane : ¬ A = [] := by rintro rfl; simp at hin
    have cA := l02Add_c (A[i]?.getD []) Z ri.2 zN (by omega) (by omega)
    rw [les _ ri.1, zl] at cA
    have os := omat_range_succ (fun i => plusS (A[i]?.getD []) B (-1)) i
    rw [plusS_len] at os
    by_cases h0 : i = 0
    · have ox : omat ((List.range (i + 1)).map fun i => plusS (A[i]?.getD []) B (-1)) = [.own 2 (A[i]?.getD []).length (avs (plusS (A[i]?.getD []) B (-1)))] := by rw [os, h0]; simp [omat]
      rw [if_pos h0]
      simp [go_sem, hii, mat_drop hin]
      refine ⟨by kernel_rfl, ane, ?_⟩
      refine CallD.of (cA) (by simp [roots, rootsL]) (by decide) ?_
      simp [go_sem]
      refine ⟨by kernel_rfl, ?_⟩
      simp [go_sem]
      exact ⟨by omega, i + 1, by omega, by omega, Off_reset _ _ _ (by simp), by rw [if_neg (by omega), ox, h0], by omega⟩
    · rw [if_neg h0]
      simp [go_sem, hii, mat_drop hin]
      refine ⟨by kernel_rfl, ane, ?_⟩
      refine CallD.of (cA) (by simp [roots, rootsL]) (by decide) ?_
      simp [go_sem]
      refine ⟨⟨by omega, by omega⟩, ?_⟩
      refine ⟨by kernel_rfl, ?_⟩
      simp [go_sem]
      exact ⟨by omega, i + 1, by omega, by omega, Off_reset _ _ _ (by simp), by rw [if_neg (by omega), os], by omega⟩
  · have e : i = A.length := by omega
    subst e
    rw [← hd, if_neg (show ¬ A.length = 0 by omega)]
    simp [go_sem]
    exact ab
set_option maxRecDepth 100000 in
theorem l19Fraction_c (A : List (List Int)) (B : List Int) (h : Tab A B) : Con Try.prog 90 [.agg [.sl A.length (mat A), .sl B.length (avs B)]]
    (.tup [.own 2 (B.length + 1) (avs (chL B.length (lesM A B))), .own 2 (B.length + 1) (avs (chL B.length A))]) := by
  have lo := lesM_ok h
  have c0 := l10Inverse_c A B h
  have c1 := l19Det_c (n := B.length) (lesM A B) h.le lo.1 lo.2
  have c2 := l19Det_c (n := B.length) A h.le h.len h.rws
  rw [lo.1] at c1
  generalize tb (fun i => B[i]?.getD 0 * 10006 % 10007) B.length = Z at *
  refine con_of_vc Try.mixed ⟨4, [], [], []⟩ Try.func90 (by decide) rfl (by simp) (by decide) (by simp [freshOK, freshL, go_sem]) ?_
  rw [Try.ntmps90]
  simp [go_sem]
  refine ⟨by kernel_rfl, ?_⟩
  refine CallD.of (c0) (by simp [roots, rootsL]) (by decide) ?_
  simp [go_sem]
  refine CallD.of (c1) (by simp [roots, rootsL]) (by decide) ?_
  simp [go_sem]
  refine CallD.of (c2) (by simp [roots, rootsL]) (by decide) ?_
  simp [go_sem]
  refine ⟨by kernel_rfl, ?_⟩
  simp [go_sem]
end Go.Proofs.Ytmojbncbbnjblaa


namespace Go.Proofs.Ytmojbncbbnjblaa
open Go.Abs
set_option linter.unusedVariables false
set_option linter.unusedSimpArgs false
set_option maxHeartbeats 4000000
theorem RepL_avs {P : Program} {w : World} {F : Nat → Prop} : ∀ {zs : List Int} {vs : List Value} {os : List Nat}, RepL P w F (avs zs) vs os → ∀ j, j < zs.length → vs[j]? = some (.int .i64 (zs[j]?.getD 0))
  | [], _, _, _, j, hj => by simp at hj
  | z :: zs, vs, os, h, j, hj => by
    have e : avs (z :: zs) = .val (.int .i64 z) :: avs zs := rfl
    rw [e] at h
    cases h with
    | cons c v o cs vs os' h t =>
      cases h with
      | val _ _ =>
        cases j with
        | zero => rfl
        | succ j => exact RepL_avs t j (by simpa using hj)
theorem back_list {zs : List Int} (hN : Ns zs) : (upto (bkF hN zs.length) zs.length).map (·.2.1) = zs.reverse := by
  refine List.ext_getElem (by simp [upto]) fun k h1 h2 => ?_
  have hk : k < zs.length := by simpa using h2
  have h3 : zs.length - 1 - k < zs.length := by omega
  simp [upto, bkF, h3]
end Go.Proofs.Ytmojbncbbnjblaa


namespace Go.Proofs.Ytmojbncbbnjblaa
open Go.RowKit Go.Shelf Go.Abs
set_option linter.unusedVariables false
set_option linter.unusedSimpArgs false
attribute [local go_sem] Oper.semAt_some
theorem avs_os {P : Program} {w : World} {F : Nat → Prop} {r : List Int} {vs : List Value} {os : List Nat} (h : RepL P w F (avs r) vs os) : os = [] := by
  induction r generalizing vs os with
  | nil => cases h; rfl
  | cons a r ih =>
    have e : avs (a :: r) = .val (.int .i64 a) :: avs r := rfl
    rw [e] at h
    cases h with
    | cons c v o cs vs os' h t =>
      cases h with
      | val _ _ => rw [ih t]; rfl
theorem omat_cells {P : Program} {w : World} {F : Nat → Prop} : ∀ {M : List (List Int)} {vs : List Value} {os : List Nat}, RepL P w F (omat M) vs os → ∀ b ∈ os, ∃ o, w.heap[b]? = some o ∧ o.isCells = true
  | [], vs, os, h => by cases h; intro b hb; simp at hb
  | r :: M, vs, os, h => by
    have e : omat (r :: M) = .own 2 r.length (avs r) :: omat M := rfl
    rw [e] at h
    cases h with
    | cons c v o cs vs os' h t =>
      intro b hb
      rcases List.mem_append.1 hb with hb | hb
      · generalize hc : avs r = ac at h
        generalize hl : r.length = n at h
        cases h with
        | own0 _ => simp at hb
        | own bb _ _ cap c _ os2 hbb hn hcc hll =>
          subst hc
          rw [avs_os hll] at hb
          have : b = bb := by simpa using hb
          subst this
          exact ⟨_, hbb, rfl⟩
      · exact omat_cells t b hb
theorem own_cells {P : Program} {w : World} {F : Nat → Prop} {e : TypeId} {n : Nat} {M : List (List Int)} {v : Value} {os : List Nat} (h : RepC P w F (.own e n (omat M)) v os) : ∀ b ∈ os, ∃ o, w.heap[b]? = some o ∧ o.isCells = true := by
  generalize hc : omat M = ac at h
  cases h with
  | own0 _ => intro b hb; simp at hb
  | own bb _ _ cap c _ os2 hbb hn hcc hll =>
    subst hc
    intro b hb
    rcases List.mem_cons.1 hb with rfl | hb
    · exact ⟨_, hbb, rfl⟩
    · exact omat_cells hll b hb
theorem Con.ownC {f : FuncId} {args : List AV} {e : TypeId} {n : Nat} {M : List (List Int)} (h0 : 0 < n) (h : Con Try.prog f args (.own e n (omat M))) (w : World) (vs : List Value) (hl : args.length = vs.length)
    (ha : ∀ tm oss, RepTL Try.prog w (fun b => b < w.heap.size) tm oss args vs []) :
    Calls Try.prog f vs.toArray w fun x w' => ∃ bb cap os, x = .returned (.slice (some ⟨bb, 0, none⟩) n cap) ∧ Below w.heap.size w w' ∧ RepC Try.prog w' (fun _ => False) (.own e n (omat M)) (.slice (some ⟨bb, 0, none⟩) n cap) os ∧ os.Nodup ∧ ∀ b ∈ os, w.heap.size ≤ b ∧ b < w'.heap.size := by
  refine (h.2 w vs hl ha).mono ?_
  rintro x w' ⟨v, os, rfl, hx, hr, hn, ho⟩
  have := (hr (fun _ => undef) (fun _ => [])).fresh (F' := fun _ => False) (by simp [freshOK])
  generalize hc : AV.own e n (omat M) = c at this
  cases this with
  | cell _ _ _ k =>
    subst hc
    generalize hc : omat M = ac at k
    cases k with
    | own0 _ => omega
    | own bb _ _ cap c _ os2 hbb hn2 hcc hll => subst hc; exact ⟨bb, cap, _, rfl, hx.below, .own bb e n cap c _ os2 hbb hn2 hcc hll, hn, ho⟩
  | any v => simp at hc
  | agg => simp at hc
  | tup => simp at hc
  | fn => simp at hc
  | bor => simp at hc
  | ptr => simp at hc
  | slp => simp at hc
def horM (m : List (List Int)) (l : List Int) : List (List Int) := l.foldl (fun M a => adU (tmM M m) a) (zeM m.length)
theorem horM_snoc (m : List (List Int)) (l : List Int) (a : Int) : horM m (l ++ [a]) = adU (tmM (horM m l) m) a := by simp [horM]
theorem horM_ok {n : Nat} {m : List (List Int)} (h0 : 0 < n) (hl : m.length = n) (hr : Rws n m) (l : List Int) : (horM m l).length = n ∧ Rws n (horM m l) := by
  have gen : ∀ (l : List Int) (M : List (List Int)), M.length = n ∧ Rws n M → (l.foldl (fun M a => adU (tmM M m) a) M).length = n ∧ Rws n (l.foldl (fun M a => adU (tmM M m) a) M) := by
    intro l
    induction l with
    | nil => intro M h; exact h
    | cons a l ih =>
      intro M h
      refine ih _ ⟨by rw [adU_len, tmM_len]; exact h.1, ?_⟩
      have t := tmM_ok M m
      rw [(hr.at (show 0 < m.length by omega)).1] at t
      exact adU_ok t a
  exact gen l _ (by rw [hl]; exact zeM_ok n)
def stA (B0 B1 : Nat) (vm : Value) (n0 n : Nat) (M : List (List Int)) (W : World) : Prop :=
  ∃ bb cap os, W.cell? ⟨B1, 0, none⟩ = some (.slice (some ⟨bb, 0, none⟩) n cap) ∧ W.frozen? ⟨B1, 0, none⟩ = false ∧ W.cell? ⟨B0, 0, none⟩ = some vm ∧ RepC Try.prog W (fun _ => False) (.own 27 n (omat M)) (.slice (some ⟨bb, 0, none⟩) n cap) os ∧ os.Nodup ∧ ∀ b ∈ os, n0 ≤ b
theorem stA_own (B0 B1 : Nat) (vm : Value) (n0 n : Nat) {α : Type} (g : α → List (List Int)) : Own (fun (x : α) W => stA B0 B1 vm n0 n (g x) W) := by
  rintro s A B row ⟨bb, cap, os, h1, h2, h3, h4, h5, h6⟩ hg hr
  refine ⟨bb, cap, os, cell_kept h1 hg hr, (frozen_kept h1 hg hr).trans h2, cell_kept h3 hg hr, h4.mono (fun _ h => h) (fun b hb => ?_), h5, h6⟩
  rcases hb with hb | hb
  · exact hb.elim
  · obtain ⟨o, ho, hc⟩ := own_cells h4 b hb
    exact grownBy_keeps_cells hg hr ho hc
theorem own_lt {W : World} {F : Nat → Prop} {e : TypeId} {n : Nat} {M : List (List Int)} {v : Value} {os : List Nat} (h : RepC Try.prog W F (.own e n (omat M)) v os) : ∀ b ∈ os, b < W.heap.size := fun b hb => by
  obtain ⟨o, ho, _⟩ := own_cells h b hb
  exact (Array.getElem?_eq_some_iff.1 ho).1
theorem own_sl {W : World} {e : TypeId} {n : Nat} {M : List (List Int)} {v : Value} {os : List Nat} (h : RepC Try.prog W (fun _ => False) (.own e n (omat M)) v os) : RepC Try.prog W (fun b => b < W.heap.size) (.sl n (mat M)) v [] := by
  have := h.frz (F' := fun b => b < W.heap.size) (fun _ h => h.elim) (own_lt h)
  rwa [frz, omat_frz] at this
set_option maxRecDepth 100000 in
set_option maxHeartbeats 4000000 in
theorem atMatrix_calls {n : Nat} (zs : List Int) (m : List (List Int)) (b off cap bm offm capm : Nat) (w : World) (hreach : zs.length * 8 ≤ 140737488351232) (hb : b < w.heap.size) (hc : ∀ j, j < zs.length → w.cell? ⟨b, off + j, none⟩ = some (.int .i64 (zs[j]?.getD 0))) (hN : Ns zs)
    (h0 : 0 < n) (hn : n ≤ 64) (hml : m.length = n) (hmr : Rws n m) (hm : RepC Try.prog w (fun b => b < w.heap.size) (.sl m.length (mat m)) (.slice (some ⟨bm, offm, none⟩) m.length capm) []) :
    Calls Try.prog 106 #[.slice (some ⟨b, off, none⟩) zs.length cap, .slice (some ⟨bm, offm, none⟩) m.length capm] w fun e W' => ∃ v os, e = .returned v ∧ Below w.heap.size w W' ∧
      RepC Try.prog W' (fun _ => False) (.own 27 m.length (omat (horM m ((upto (bkF hN zs.length) zs.length).map (·.2.1))))) v os ∧ os.Nodup ∧ ∀ b ∈ os, w.heap.size ≤ b ∧ b < W'.heap.size := by
  have cZ := zeroMatrix_c n hn
  refine (callsIn_wide (n := 9)).1 ?_
  refine callsIn_of_wp_marks Try.func106 rfl trivial ?_ rfl
  simp only [Try.ntmps106, List.size_toArray, List.length_cons, List.length_nil, Nat.reduceAdd, Nat.reduceSub, Array.replicate_succ, Array.replicate_zero, List.push_toArray, List.append_toArray, List.nil_append, List.cons_append]
  subst hml
  have bM := Boxed.new w 30 (.slice (some ⟨bm, offm, none⟩) m.length capm)
  gi_wp2_with (refine ⟨trivial, ?_⟩; gi_at_call 170; refine (callsIn_wide.2 (Con.ownC h0 cZ _ [.int .i64 m.length] rfl (fun tm oss => .cons _ _ [] _ _ [] (.cell _ _ _ (.val _ rfl)) (.nil _)))).mono ?_; rintro e w1 ⟨b0, cap0, os0, rfl, hb1, hr0, hn0, ho0⟩)
  gi_wp2_with (refine ⟨trivial, ?_⟩; gi_at_call 160; refine (back_in Fence.wide _ trivial rfl _ _ _ _).mono ?_; rintro e w' ⟨rfl, rfl⟩)
  have l1 : w.heap.size < w1.heap.size := by have := hb1.size; simp at this; omega
  have bS := Boxed.new w1 30 (.slice (some ⟨b0, 0, none⟩) m.length cap0)
  have bN := Boxed.new (w1.alloc (.cells #[.slice (some ⟨b0, 0, none⟩) m.length cap0] 30)) 27 (.slice (some ⟨b, off, none⟩) zs.length cap)
  simp only [World.size_alloc] at bN
  have hB1 : Below w.heap.size w w1 := ((Below.refl _ w).alloc (Nat.le_refl _) _).trans (hb1.mono (by simp))
  have hB0 : Below w.heap.size w ((w1.alloc (.cells #[.slice (some ⟨b0, 0, none⟩) m.length cap0] 30)).alloc (.cells #[.slice (some ⟨b, off, none⟩) zs.length cap] 27)) := (hB1.alloc (by omega) _).alloc (by simp; omega) _
  have hA1 : Below w1.heap.size w1 ((w1.alloc (.cells #[.slice (some ⟨b0, 0, none⟩) m.length cap0] 30)).alloc (.cells #[.slice (some ⟨b, off, none⟩) zs.length cap] 27)) := ((Below.refl _ w1).alloc (Nat.le_refl _) _).alloc (by simp) _
  have bS2 := bS.alloc (.cells #[.slice (some ⟨b, off, none⟩) zs.length cap] 27)
  have cM := (hA1.cell (p := ⟨w.heap.size, 0, none⟩) l1).trans ((hb1.cell (p := ⟨w.heap.size, 0, none⟩) (by simp)).trans bM.cell)
  refine wpIn_rangeFunc_ownG (F := Fence.wide) rfl (show 1 ≤ 9 by omega) (gf := 189) (lb := #[.pointer (some ⟨w1.heap.size + 1, 0, none⟩)]) rfl trivial (enters_of Try.func189 (by kernel_rfl) rfl)
    (back_stops Fence.wide 8 trivial rfl (by omega) (w1.heap.size + 1) b off cap zs hN hreach _ (by simp) (by simp; omega) bN.cell (fun j hj => (hB0.cell (p := ⟨b, off + j, none⟩) hb).trans (hc j hj)))
    (fun h k => h.trans k) (fun W l o o' _ hl ho _ => KpC.book W l o o' hl ho) (Below.refl _ _) (fun _ => rfl)
    (fun pre W => stA w.heap.size w1.heap.size (.slice (some ⟨bm, offm, none⟩) m.length capm) w.heap.size m.length (horM m (pre.map (·.2.1))) W ∧ Below w.heap.size w W)
    (fun _ _ _ => False)
    (OwnFrom.and (Own.from (stA_own _ _ _ _ _ _) _) (ownFrom_below (Nat.le_refl _) (by simp; omega)))
    (fun _ _ _ _ _ hs _ _ => hs)
    ⟨⟨b0, cap0, os0, bS2.cell, bS2.frozen, cM, hr0.mono (fun _ h => h) (fun b hb => by rcases hb with hb | hb; exact hb.elim; exact hA1.block b (ho0 b hb).2), hn0, fun b hb => by have := (ho0 b hb).1; simp at this; omega⟩, hB0⟩
    (fun x => { tmps := #[.slice (some ⟨b, off, none⟩) zs.length cap, .slice (some ⟨bm, offm, none⟩) m.length capm, undef, .pointer (some ⟨w.heap.size, 0, none⟩), .slice none 0 0, .pointer (some ⟨w1.heap.size, 0, none⟩), undef, .int .i64 x.2.1, .slice (some ⟨bm, offm, none⟩) m.length capm,
      .int .i64 m.length, .slice (some ⟨b0, 0, none⟩) m.length cap0, .slice (some ⟨b, off, none⟩) zs.length cap,
      .func (.func 189) #[] #[.pointer (some ⟨w1.heap.size + 1, 0, none⟩)], .int .i64 x.1, .int .i64 x.2.1, undef, undef, undef, undef, undef, undef], defers := [] }) ?assign ?body ?done ?stop
  case assign =>
    intro l x W K hK
    gi_wp2
    exact hK
  case body =>
    rintro l pre ⟨xi, xa, hxa⟩ W ⟨⟨bb, cp, os, hcS, hfS, hcM, hR, hnd, hos⟩, hB⟩ _
    have hsn := horM_snoc m (pre.map (·.2.1)) xa
    have hok := horM_ok h0 rfl hmr (pre.map (·.2.1))
    have hmap : (pre ++ [((xi, ⟨xa, hxa⟩) : BkT)]).map (·.2.1) = pre.map (·.2.1) ++ [xa] := by simp
    rw [← hmap] at hsn
    generalize hs : horM m (pre.map (·.2.1)) = M at *
    have cT := timesMatrix_c M m (by rw [hok.1]; omega) hn hok.2 h0 rfl hn hmr
    have tl : (tmM M m).length = m.length := by rw [tmM_len]; exact hok.1
    have tr := tmM_ok M m
    rw [(hmr.at h0).1] at tr
    have cA := addUnit_c (n := m.length) (tmM M m) xa tl hn tr hxa
    rw [← hsn, tl] at cA
    rw [hok.1] at cT
    have hF := own_sl hR
    have hmW : RepC Try.prog W (fun b => b < W.heap.size) (.sl m.length (mat m)) (.slice (some ⟨bm, offm, none⟩) m.length capm) [] := hm.mono (fun b h => Nat.lt_of_lt_of_le h hB.size) (fun b hb => hB.block b (by simpa using hb))
    have hlt : w1.heap.size < W.heap.size := by
      obtain ⟨o, ho, _⟩ := cells_of_cell hcS
      exact (Array.getElem?_eq_some_iff.1 ho).1
    gi_wp2_with (refine ⟨trivial, ?_⟩; gi_at_call 107; refine (CallsIn.inRound l (callsIn_wide.2 (Con.ownC h0 cT _ [_, _] rfl (fun tm oss => .cons _ _ [] _ _ [] (.cell _ _ _ hF) (.cons _ _ [] _ _ [] (.cell _ _ _ hmW) (.nil _)))))).mono ?_; rintro e W1 ⟨b1, cap1, os1, rfl, hbA, hr1, hn1, ho1⟩)
    have hF1 := own_sl hr1
    gi_wp2_with (refine ⟨trivial, ?_⟩; gi_at_call 171; refine (CallsIn.inRound l (callsIn_wide.2 (Con.ownC h0 cA _ [_, .int .i64 xa] rfl (fun tm oss => .cons _ _ [] _ _ [] (.cell _ _ _ hF1) (.cons _ _ [] _ _ [] (.cell _ _ _ (.val _ rfl)) (.nil _)))))).mono ?_; rintro e W2 ⟨b2, cap2, os2, rfl, hbC, hr2, hn2, ho2⟩; have hbB := hbA.trans (hbC.mono hbA.size); have c3 := (hbB.cell (p := ⟨w1.heap.size, 0, none⟩) hlt).trans hcS; have f3 := (hbB.frozen (p := ⟨w1.heap.size, 0, none⟩) hlt).trans hfS)
    have old : ∀ (p : Addr) (v : Value), p ≠ ⟨w1.heap.size, 0, none⟩ → W.cell? p = some v → (W2.setCell ⟨w1.heap.size, 0, none⟩ (.slice (some ⟨b2, 0, none⟩) m.length cap2)).cell? p = some v := fun p v hp hv => by
      obtain ⟨o, ho, _⟩ := cells_of_cell hv
      rw [World.cell?_setCell_other (h := Ne.symm hp)]
      exact (hbB.cell (Array.getElem?_eq_some_iff.1 ho).1).trans hv
    have ko : KeepsOthers W W2 := ⟨hbB.size, fun k o hk _ => (hbB.block k (Array.getElem?_eq_some_iff.1 hk).1).trans hk⟩
    refine ⟨(ko.trans (KeepsOthers.setCell _ _ _)).from _, ⟨fun v hv => old _ v (fun e => by injection e with e; omega) hv, fun j v hv => old _ v (fun e => by injection e with e; omega) hv⟩, ⟨b2, cap2, os2, ?_, by rw [World.frozen?_setCell]; exact f3, old _ _ (fun e => by injection e with e; omega) hcM, ?_, hn2, fun b hb => ?_⟩, ?_⟩
    · exact World.cell?_setCell_same' _ _ _ (by rw [c3]; rfl)
    · refine hr2.mono (fun _ h => h) (fun b hb => ?_)
      rcases hb with hb | hb
      · exact hb.elim
      · have := (ho2 b hb).1
        have := hbA.size
        exact Below.heap_setCell _ _ _ _ (by show b ≠ w1.heap.size; omega)
    · have := (ho2 b hb).1
      have := hbA.size
      omega
    · exact (hB.trans (hbB.mono (by omega))).setCell (p := ⟨w1.heap.size, 0, none⟩) (by show w.heap.size ≤ w1.heap.size; omega) _
  case done =>
    rintro D ys W hD rfl ⟨⟨bb, cp, os, hcS, hfS, hcM, hR, hnd, hos⟩, hB⟩ hK
    gi_wp2
    refine ⟨by simp, .inl ⟨_, _, rfl, run_takeDeferred hK, ?_⟩⟩
    refine ⟨_, results_tmp rfl _ _ _, ⟨_, os, rfl, hB.trans (belowK_b (w := w) (Nat.le_refl _) W D _ _ (by simp at hD; omega) hK rfl rfl), ?_, hnd, ?_⟩⟩
    · show RepC Try.prog (W.putObj D (Obj.deferred none)) (fun _ => False) _ (.slice (some ⟨bb, 0, none⟩) m.length cp) os
      refine hR.mono (fun _ h => h) (fun b hb => ?_)
      rcases hb with hb | hb
      · exact hb.elim
      · obtain ⟨o, ho, hc⟩ := own_cells hR b hb
        exact grownBy_keeps_cells (grownBy_putObj' W D _) (fun r e => by cases e; exact ⟨_, hK, rfl⟩) ho hc
    · intro b hb
      have := own_lt hR b hb
      exact ⟨hos b hb, by simpa using this⟩
  case stop =>
    rintro D c pre W _ _ h _
    exact h.elim
set_option maxRecDepth 100000 in
theorem atMatrix_c {n : Nat} (zs : List Int) (m : List (List Int)) (h1 : 1 ≤ zs.length) (h2 : zs.length ≤ 1000) (hN : Ns zs) (h0 : 0 < n) (hn : n ≤ 64) (hml : m.length = n) (hmr : Rws n m) :
    Con Try.prog 106 [.sl zs.length (avs zs), .sl m.length (mat m)] (.own 27 m.length (omat (horM m zs.reverse))) := by
  refine ⟨⟨_, Try.func106, by decide, rfl⟩, fun w vs hl ha => ?_⟩
  have k := ha (fun _ => undef) (fun _ => [])
  generalize hoz : ([] : List Nat) = oz at k
  cases k with
  | cons c v o cs vs os hc ht =>
    cases ht with
    | cons c2 v2 o2 cs2 vs2 os2 hc2 ht2 =>
      have e2 : vs2 = [] := by simpa using hl
      subst e2
      have hm : RepC Try.prog w (fun b => b < w.heap.size) (.sl m.length (mat m)) v2 [] := by
        have : o2 = [] := by
          have := congrArg List.length hoz
          simp at this
          exact List.length_eq_zero_iff.1 (by omega)
        subst this
        cases hc2 with
        | cell _ _ _ h => exact h
      have hm' := hm
      generalize hmn : m.length = mn at hm
      generalize hmm : mat m = mm at hm
      cases hm with
      | sl0 base cap => omega
      | sl bm offm _ capm ccm em frm csm hFm hbm hlrm hnm =>
        subst hmn; subst hmm
        generalize hn' : zs.length = l at hc
        generalize hcs : avs zs = ac at hc
        cases hc with
        | cell _ _ _ hc =>
          cases hc with
          | sl0 base cap => omega
          | sl b off _ cap cc e fr cs hF hb hlr hn2 =>
            subst hn'; subst hcs
            have cells : ∀ j, j < zs.length → w.cell? ⟨b, off + j, none⟩ = some (.int .i64 (zs[j]?.getD 0)) := fun j hj => by
              have := RepL_avs hlr j hj
              rw [List.getElem?_drop, Array.getElem?_toList] at this
              simp [World.cell?, hb, this]
            refine (atMatrix_calls (n := n) zs m b off cap bm offm capm w (by omega) hF cells hN h0 hn hml hmr hm').mono ?_
            rintro e w' ⟨v, os, rfl, hB, hr, hnd, ho⟩
            rw [back_list] at hr
            exact ⟨_, os, rfl, ⟨hB.os, hB.tape, hB.output, hB.size, hB.block, by unfold dK; omega⟩, fun tm oss => .cell _ _ _ (hr.mono (fun _ h => h.elim) (fun _ _ => rfl)), hnd, ho⟩
end Go.Proofs.Ytmojbncbbnjblaa


namespace Go.Proofs.Ytmojbncbbnjblaa
open Go.Abs
set_option linter.unusedVariables false
set_option linter.unusedSimpArgs false
set_option maxHeartbeats 1000000
def act (n : Nat) (M : List (List Int)) (v : Nat → Int) (r : Nat) : Int := dsum (fun c => mx M r c * v c) n
theorem act_cong {n : Nat} (M : List (List Int)) {v v' : Nat → Int} (h : ∀ c, c < n → v c % 10007 = v' c % 10007) (r : Nat) : act n M v r % 10007 = act n M v' r % 10007 :=
  dsum_cong fun c hc => by rw [← mul_mod_r, h c hc, mul_mod_r]
def apF (n : Nat) (m : List (List Int)) : List Int → (Nat → Int) → Nat → Int
  | [], _, _ => 0
  | a :: l, v, r => a * v r + apF n m l (act n m v) r
theorem apF_cong {n : Nat} (m : List (List Int)) : ∀ (l : List Int) {v v' : Nat → Int}, (∀ c, c < n → v c % 10007 = v' c % 10007) → ∀ r, r < n → apF n m l v r % 10007 = apF n m l v' r % 10007
  | [], v, v', h, r, hr => rfl
  | a :: l, v, v', h, r, hr => by
    have ih := apF_cong m l (v := act n m v) (v' := act n m v') (fun c hc => act_cong m h c) r hr
    rw [apF, apF, Int.add_emod, ih, ← mul_mod_r, h r hr, mul_mod_r, ← Int.add_emod]
theorem act_tm {n : Nat} {H m : List (List Int)} (h1 : H.length = n) (h2 : Rws n H) (h3 : m.length = n) (h4 : Rws n m) (v : Nat → Int) {r : Nat} (hr : r < n) : act n (tmM H m) v r % 10007 = act n H (act n m v) r % 10007 := by
  have e1 : act n (tmM H m) v r % 10007 = dsum (fun c => dsum (fun k => mx H r k * mx m k c) n * v c) n % 10007 := dsum_cong fun c hc => by
    rw [tmM_mx h1 h2 h3 h4 hr hc, mul_mod_l]
  rw [e1]
  congr 1
  have e2 : dsum (fun c => dsum (fun k => mx H r k * mx m k c) n * v c) n = dsum (fun c => dsum (fun k => mx H r k * (mx m k c * v c)) n) n := dsum_congr fun c hc => by
    rw [Int.mul_comm, dsum_mul]
    exact dsum_congr fun k hk => by ac_rfl
  rw [e2, dsum_swap (fun c k => mx H r k * (mx m k c * v c))]
  exact dsum_congr fun k hk => by
    show dsum (fun c => mx H r k * (mx m k c * v c)) n = mx H r k * act n m v k
    rw [act, dsum_mul]
theorem act_ad {n : Nat} {T : List (List Int)} (h1 : T.length = n) (h2 : Rws n T) (a : Int) (v : Nat → Int) {r : Nat} (hr : r < n) : act n (adU T a) v r % 10007 = (act n T v r + a * v r) % 10007 := by
  have e1 : act n (adU T a) v r % 10007 = dsum (fun c => mx T r c * v c + idM r c * (a * v c)) n % 10007 := dsum_cong fun c hc => by
    rw [adU_mx h1 h2 a hr hc]
    unfold idM
    by_cases e : r = c
    · subst e; rw [if_pos rfl, if_pos rfl, mul_mod_l, Int.add_mul, Int.one_mul]
    · rw [if_neg e, if_neg e]; simp
  rw [e1, dsum_plus, dsum_id hr]
  rfl
theorem hor_act {n : Nat} {m : List (List Int)} (h0 : 0 < n) (hl : m.length = n) (hr : Rws n m) : ∀ (l : List Int) (v : Nat → Int) (r : Nat), r < n → act n (horM m l.reverse) v r % 10007 = apF n m l v r % 10007
  | [], v, r, h => by
    have : act n (horM m [].reverse) v r = 0 := dsum_zero fun c hc => by
      show mx (zeM m.length) r c * v c = 0
      rw [zeM_mx, Int.zero_mul]
    rw [this]; rfl
  | a :: l, v, r, h => by
    have ho := horM_ok h0 hl hr l.reverse
    have ih := hor_act h0 hl hr l (act n m v) r h
    have tl : (tmM (horM m l.reverse) m).length = n := by rw [tmM_len]; exact ho.1
    have tr := tmM_ok (horM m l.reverse) m
    rw [(hr.at (show 0 < m.length by omega)).1] at tr
    rw [List.reverse_cons, horM_snoc, act_ad tl tr a v h, Int.add_emod, act_tm ho.1 ho.2 hl hr v h, ih, ← Int.add_emod, apF, Int.add_comm]
def powK (m : List (List Int)) (y : List Int) : Nat → List Int
  | 0 => y
  | k + 1 => tim m (powK m y k)
def vmulS (a : List Int) (k : Int) : List Int := tb (fun i => a[i]?.getD 0 * k % 10007) a.length
def vaddS (a b : List Int) : List Int := tb (fun i => (a[i]?.getD 0 + b[i]?.getD 0) % 10007) a.length
def sumK (p : List Int) (m : List (List Int)) (y : List Int) : Nat → List Int
  | 0 => List.replicate y.length 0
  | k + 1 => vaddS (sumK p m y k) (vmulS (powK m y k) (p[k]?.getD 0))
def apL (p : List Int) (m : List (List Int)) (y : List Int) : List Int := sumK p m y p.length
theorem powK_ok {n : Nat} {m : List (List Int)} (hl : m.length = n) {y : List Int} (hy : y.length = n) (hN : Ns y) : ∀ k, (powK m y k).length = n ∧ Ns (powK m y k)
  | 0 => ⟨hy, hN⟩
  | k + 1 => ⟨by rw [powK, tim_len]; exact hl, tim_N _ _⟩
theorem sumK_ok {n : Nat} (p : List Int) (m : List (List Int)) {y : List Int} (hy : y.length = n) : ∀ k, (sumK p m y k).length = n ∧ Ns (sumK p m y k)
  | 0 => ⟨by simp [sumK, hy], fun x hx => by rw [List.eq_of_mem_replicate hx]; exact ⟨by omega, by omega⟩⟩
  | k + 1 => ⟨by rw [sumK, vaddS, tb_len]; exact (sumK_ok p m hy k).1, tb_N fun i _ => isN_mod _⟩
theorem tim_get {m : List (List Int)} (v : List Int) {r : Nat} (h : r < m.length) : (tim m v)[r]?.getD 0 = dotI (m[r]?.getD []) v % 10007 := by
  simp [tim, h]
theorem tim_act {n : Nat} {m : List (List Int)} (hl : m.length = n) (hr : Rws n m) {v : List Int} (hv : v.length = n) {r : Nat} (h : r < n) : (tim m v)[r]?.getD 0 = act n m (fun c => v[c]?.getD 0) r % 10007 := by
  rw [tim_get v (by omega), dotI_dsum _ _ n (hr.at (by omega)).1 hv]
  rfl
theorem sum_step {n : Nat} {p : List Int} {m : List (List Int)} (hl : m.length = n) (hr : Rws n m) {y : List Int} (hy : y.length = n) (hN : Ns y) : ∀ k, k ≤ p.length → ∀ r, r < n →
    ((sumK p m y k)[r]?.getD 0 + apF n m (p.drop k) (fun c => (powK m y k)[c]?.getD 0) r) % 10007 = apF n m p (fun c => y[c]?.getD 0) r % 10007
  | 0, _, r, h => by
    have : (sumK p m y 0)[r]?.getD 0 = 0 := by simp [sumK, hy, h]
    rw [this, Int.zero_add]; rfl
  | k + 1, hk, r, h => by
    rw [← sum_step hl hr hy hN k (by omega) r h]
    have pk := powK_ok hl hy hN k
    have sk := sumK_ok p m hy k
    have e0 : p.drop k = p[k]?.getD 0 :: p.drop (k + 1) := by
      rw [List.getElem?_eq_getElem (show k < p.length by omega), Option.getD_some]
      exact List.drop_eq_getElem_cons (by omega)
    have e1 : (sumK p m y (k + 1))[r]?.getD 0 = ((sumK p m y k)[r]?.getD 0 + (powK m y k)[r]?.getD 0 * p[k]?.getD 0 % 10007) % 10007 := by
      rw [sumK, vaddS, tb_get _ (by rw [sk.1]; exact h), vmulS, tb_get _ (by rw [pk.1]; exact h)]
    have e2 := apF_cong m (p.drop (k + 1)) (v := fun c => (powK m y (k + 1))[c]?.getD 0) (v' := act n m (fun c => (powK m y k)[c]?.getD 0)) (fun c hc => by
      show (tim m (powK m y k))[c]?.getD 0 % 10007 = _
      rw [tim_act hl hr pk.1 hc, Int.emod_emod_of_dvd _ (Int.dvd_refl _)]) r h
    rw [e0, apF, e1]
    generalize apF n m (p.drop (k + 1)) (fun c => (powK m y (k + 1))[c]?.getD 0) r = A at *
    generalize apF n m (p.drop (k + 1)) (act n m (fun c => (powK m y k)[c]?.getD 0)) r = B at *
    rw [Int.mul_comm (p[k]?.getD 0)]
    generalize (powK m y k)[r]?.getD 0 * p[k]?.getD 0 = z at *
    omega
theorem apL_get {n : Nat} {p : List Int} {m : List (List Int)} (hl : m.length = n) (hr : Rws n m) {y : List Int} (hy : y.length = n) (hN : Ns y) {r : Nat} (h : r < n) : (apL p m y)[r]?.getD 0 = apF n m p (fun c => y[c]?.getD 0) r % 10007 := by
  have := sum_step (p := p) hl hr hy hN p.length (Nat.le_refl _) r h
  rw [List.drop_length, apF, Int.add_zero] at this
  have q := (sumK_ok p m hy p.length).2.get r
  rw [← this]
  exact (Int.emod_eq_of_lt q.1 (by have := q.2; omega)).symm
def colsL (n : Nat) (q : List Int) (m : List (List Int)) : List (List Int) := (List.range n).map fun k => apL q m (unR n k)
theorem cols_turn {n : Nat} {q : List Int} {m : List (List Int)} (h0 : 0 < n) (hl : m.length = n) (hr : Rws n m) : turnS (colsL n q m) = horM m q.reverse := by
  have ho := horM_ok h0 hl hr q.reverse
  have cr : ∀ k, k < n → (colsL n q m)[k]?.getD [] = apL q m (unR n k) := fun k hk => by simp [colsL, hk]
  have cl : (colsL n q m).length = n := by simp [colsL]
  have ap : ∀ k, (apL q m (unR n k)).length = n := fun k => (sumK_ok q m (unR_len n k) _).1
  have tl : (turnS (colsL n q m)).length = n := by rw [turnS_len, cr 0 h0, ap]
  refine List.ext_getElem (by rw [tl, ho.1]) fun i h1 h2 => ?_
  have hi : i < n := by omega
  have e1 : (turnS (colsL n q m))[i] = colS (colsL n q m) i := by simp [turnS]
  have rw1 := ho.2.at h2
  rw [List.getElem?_eq_getElem h2, Option.getD_some] at rw1
  rw [e1]
  refine List.ext_getElem (by rw [colS_len, cl, rw1.1]) fun k h3 h4 => ?_
  have hk : k < n := by rw [colS_len, cl] at h3; exact h3
  have e2 : (colS (colsL n q m) i)[k] = (apL q m (unR n k))[i]?.getD 0 := by
    have : (colS (colsL n q m) i)[k] = ((colsL n q m)[k]?.getD [])[i]?.getD 0 := by simp [colS, tb]
    rw [this, cr k hk]
  have e3 : ((horM m q.reverse)[i])[k] = mx (horM m q.reverse) i k := by
    show _ = ((horM m q.reverse)[i]?.getD [])[k]?.getD 0
    rw [List.getElem?_eq_getElem h2, Option.getD_some, List.getElem?_eq_getElem h4, Option.getD_some]
  have hN := mx_N ho.2 (r := i) (by omega) k
  rw [e2, e3, apL_get hl hr (unR_len n k) (unR_N n k) hi, ← hor_act h0 hl hr q _ i hi]
  have e4 : act n (horM m q.reverse) (fun c => (unR n k)[c]?.getD 0) i = mx (horM m q.reverse) i k := by
    rw [act, dsum_congr (g := fun c => idM k c * mx (horM m q.reverse) i c) (fun c hc => by
      rw [unR_get hc, Int.mul_comm]
      unfold idM
      by_cases e : c = k
      · subst e; rfl
      · rw [if_neg e, if_neg (fun x => e x.symm)]), dsum_id hk]
  rw [e4]
  exact Int.emod_eq_of_lt hN.1 (by have := hN.2; omega)
theorem lin_law {n : Nat} {p q : List Int} {m : List (List Int)} {y : List Int} (h0 : 0 < n) (hl : m.length = n) (hr : Rws n m) (hy : y.length = n) (hN : Ns y)
    (hld : leadL ((redR (n + n) 0 (catL n (horM m q.reverse), 1, 0)).1[n - 1]?.getD []) < n) :
    ldet n (horM m q.reverse) ≠ 0 ∧ tim (tmM (bkL n (redR (n + n) 0 (catL n (horM m q.reverse), 1, 0)).1) (horM m p.reverse)) y = tb (sysF n (horM m q.reverse) (apL p m y)) n := by
  have ho := horM_ok h0 hl hr q.reverse
  have hp := horM_ok h0 hl hr p.reverse
  have wo := catL_ok ho.1 ho.2
  obtain ⟨k', g1, g2, g3⟩ := redR_GI (n + n) 0 (catL n (horM m q.reverse), 1, 0) (by omega) (GI.start wo.1 wo.2)
  have bk := bkL_ok g3.len g3.rws
  obtain ⟨c1, c2⟩ := cat_some h0 ho.1 ho.2 hld
  generalize bkL n (redR (n + n) 0 (catL n (horM m q.reverse), 1, 0)).1 = B at *
  refine ⟨c1, ?_⟩
  have apN : Ns (apL p m y) := (sumK_ok p m hy p.length).2
  have tl : (tmM B (horM m p.reverse)).length = n := by rw [tmM_len]; exact bk.1
  have tr := tmM_ok B (horM m p.reverse)
  rw [(hp.2.at (show 0 < (horM m p.reverse).length by rw [hp.1]; exact h0)).1] at tr
  have su := solve_uniq (e := act n B (act n (horM m p.reverse) (fun c => y[c]?.getD 0))) h0 ho.1 ho.2 apN c1 (fun r hrn => by
    have := c2 (act n (horM m p.reverse) (fun c => y[c]?.getD 0)) r hrn
    have e1 : dsum (fun c => mx (horM m q.reverse) r c * act n B (act n (horM m p.reverse) (fun c => y[c]?.getD 0)) c) n % 10007 = act n (horM m p.reverse) (fun c => y[c]?.getD 0) r % 10007 := this
    rw [e1, hor_act h0 hl hr p _ r hrn, apL_get hl hr hy hN hrn, Int.emod_emod_of_dvd _ (Int.dvd_refl _)])
  refine List.ext_getElem (by rw [tim_len, tb_len, tl]) fun k h1 h2 => ?_
  have hk : k < n := by rw [tb_len] at h2; exact h2
  have e1 : (tim (tmM B (horM m p.reverse)) y)[k] = (tim (tmM B (horM m p.reverse)) y)[k]?.getD 0 := by rw [List.getElem?_eq_getElem h1, Option.getD_some]
  have e2 : (tb (sysF n (horM m q.reverse) (apL p m y)) n)[k] = sysF n (horM m q.reverse) (apL p m y) k := by simp [tb]
  rw [e1, e2, tim_act tl tr hy hk, act_tm bk.1 bk.2 hp.1 hp.2 _ hk]
  exact (su k hk).symm
end Go.Proofs.Ytmojbncbbnjblaa


namespace Go.Proofs.Ytmojbncbbnjblaa
open Go.Abs
set_option linter.unusedVariables false
set_option linter.unusedSimpArgs false
set_option maxHeartbeats 4000000
theorem Mat_of {n : Nat} {A : List (List Int)} (h : Rws n A) : Mat n A := h
set_option maxRecDepth 100000 in
theorem l19Apply_c {n : Nat} (p : List Int) (m : List (List Int)) (y : List Int) (hp : p.length ≤ 1000) (hpN : Ns p) (h0 : 0 < n) (hn : n ≤ 64) (hl : m.length = n) (hr : Rws n m) (hy : y.length = n) (hN : Ns y) :
    Con Try.prog 100 [.sl p.length (avs p), .sl m.length (mat m), .sl y.length (avs y)] (.own 2 n (avs (apL p m y))) := by
  have cO := l01Own_c y (by omega)
  have s0 : sumK p m y 0 = List.replicate n 0 := by rw [sumK, hy]
  have rp := avs_repl n 0
  have hpw := powK_ok hl hy hN
  have hsm := fun k => sumK_ok p m hy k
  rw [apL]
  refine con_of_vc Try.mixed ⟨10, [], [], []⟩ Try.func100 (by decide) rfl (by simp) (by decide) (by simp [freshOK, freshL, go_sem]) ?_
  rw [Try.ntmps100]
  simp [go_sem]
  simp [go_sem, hy]
  rw [hy] at cO
  refine ⟨by kernel_rfl, ⟨by omega, by omega⟩, ?_⟩
  refine CallD.of (cO) (by simp [roots, rootsL]) (by decide) ?_
  simp [go_sem]
  refine ⟨by kernel_rfl, ?_⟩
  simp [go_sem]
  refine loop_inv ([7, 8, 9] ++ List.range' 15 17) (fun k : Nat => [(7, .own 2 n (avs (sumK p m y k))), (8, .own 2 n (avs (powK m y k))), (9, .int k)]) (fun k => k ≤ p.length) (fun k => p.length - k) 0 (by simp) (by simp [go_sem, s0, rp, powK]) (by simp [go_sem]) ?_
  intro k hk
  by_cases hkp : k < p.length
  · have hki : (k : Int) < p.length := by omega
    have ne : ¬ p = [] := by rintro rfl; simp at hkp
    have np := hpN.get k
    have pk := hpw k
    have sk := hsm k
    have cT := l02Times_c (powK m y k) (p[k]?.getD 0) pk.2 np (by omega)
    have tN : Ns (vmulS (powK m y k) (p[k]?.getD 0)) := tb_N fun i _ => isN_mod _
    have tL : (vmulS (powK m y k) (p[k]?.getD 0)).length = n := by rw [vmulS, tb_len]; exact pk.1
    have cA := l02Add_c (sumK p m y k) (vmulS (powK m y k) (p[k]?.getD 0)) sk.2 tN (by omega) (by omega)
    have cM := l09Times_c m (powK m y k) (by rw [pk.1]; exact Mat_of hr) (by omega) (by omega) pk.2
    have e1 : sumK p m y (k + 1) = tb (fun i => ((sumK p m y k)[i]?.getD 0 + (vmulS (powK m y k) (p[k]?.getD 0))[i]?.getD 0) % 10007) (sumK p m y k).length := rfl
    have e2 : vmulS (powK m y k) (p[k]?.getD 0) = tb (fun i => (powK m y k)[i]?.getD 0 * p[k]?.getD 0 % 10007) (powK m y k).length := rfl
    have e3 : powK m y (k + 1) = tim m (powK m y k) := rfl
    rw [← e2, pk.1] at cT
    rw [← e1, sk.1, tL] at cA
    rw [← e3, pk.1] at cM
    have cM2 := cM
    rw [hl] at cM2
    generalize hs' : sumK p m y (k + 1) = s' at *
    generalize hw' : powK m y (k + 1) = w' at *
    simp [go_sem, hki, avs_drop hkp]
    refine ⟨ne, ?_⟩
    refine CallVC.of (cT) (by decide) ?_
    simp [go_sem]
    refine CallVC.of (cA) (by decide) ?_
    simp [go_sem]
    simp [go_sem, hl]
    refine CallVC.of (cM2) (by decide) ?_
    simp [go_sem]
    exact ⟨by omega, k + 1, by omega, by omega, Off_reset _ _ _ (by simp), hs'.symm, hw'.symm, by omega⟩
  · have e : k = p.length := by omega
    subst e
    have hki : ¬ (p.length : Int) < p.length := by omega
    simp [go_sem, hki]
theorem flL_two (a b : List Int) : flL [a, b] 2 = a ++ b := by simp [flL]
theorem omat_cat_succ (n : Nat) (a : List (List Int)) (i : Nat) (h : (a[i]?.getD []).length = n) : omat ((List.range (i + 1)).map fun i => a[i]?.getD [] ++ unR n i) = omat ((List.range i).map fun i => a[i]?.getD [] ++ unR n i) ++ [.own 2 (n + n) (avs (a[i]?.getD [] ++ unR n i))] := by
  have := omat_range_succ (fun i => a[i]?.getD [] ++ unR n i) i
  rw [List.length_append, h, unR_len] at this
  exact this
set_option maxRecDepth 100000 in
theorem inverse_w {n : Nat} (a : List (List Int)) (h0 : 0 < n) (hl : a.length = n) (hn : n ≤ 100) (hr : Rws n a) {R : List (List Int)} {dt : Int} (x : AV)
    (hst : redR (n + n) 0 (catL n a, 1, 0) = (R, dt, n)) (gl : R.length = n) (gr : Rws (n + n) R) (hf : freshOK x = true)
    (hA : leadL (R[n - 1]?.getD []) < n → x = .tup [.own 27 n (omat (bkL n R)), .bool true])
    (hB : ∀ j, j < n → n ≤ leadL (R[j]?.getD []) → x = .tup [.val (.slice none 0 0), .bool false]) :
    Con Try.prog 105 [.sl a.length (mat a)] x := by
  have wo := catL_ok (n := n) (a := a) hl hr
  have cR := reduce_c (w := n + n) (catL n a) (by omega) (by omega) (by omega) wo.2
  have hw : catL n a = (List.range n).map fun i => a[i]?.getD [] ++ unR n i := rfl
  have ne : ¬ a = [] := by rintro rfl; simp at hl; omega
  rw [wo.1, hst] at cR
  simp only at cR
  have ht : R.take n = R := List.take_of_length_le (by omega)
  rw [ht] at cR
  have rp := avs_repl n 0
  refine con_of_vc Try.mixed ⟨13, [36], [1000000 + 167], []⟩ Try.func105 (by decide) rfl (by simp) (by decide) hf ?_
  rw [Try.ntmps105]
  simp [go_sem]
  refine loop_inv ([4, 5, 6, 7] ++ List.range' 16 19) (fun i : Nat => [(4, .own 27 i (omat ((List.range i).map fun i => a[i]?.getD [] ++ unR n i))), (16, .int i)]) (fun i => i ≤ n) (fun i => n - i) 0 (by simp) (by simp [go_sem, omat]) (by simp [go_sem]) ?_
  intro i hi
  by_cases hin : i < n
  · have hii : (i : Int) < a.length := by omega
    have hia : i < a.length := by omega
    have ri := (hr.at hia).1
    have cC := Concat_c [a[i]?.getD [], unR n i] (by show 0 < (flL [_, _] 2).length; rw [flL_two, List.length_append, unR_len]; omega) (by show (flL [_, _] 2).length ≤ _; rw [flL_two, List.length_append, unR_len]; omega) (by simp)
    have cl2 : [a[i]?.getD [], unR n i].length = 2 := rfl
    rw [cl2, flL_two, List.length_append, unR_len, ri] at cC
    have ho := omat_cat_succ n a i ri
    have rs := unR_set hin
    have mm : mat [a[i]?.getD [], unR n i] = [.sl n (avs (a[i]?.getD [])), .sl n (avs (unR n i))] := by simp [mat, ri, unR_len]
    rw [mm] at cC
    have hrw : a[i]'hia = a[i]?.getD [] := by simp [hia]
    generalize hrow : a[i]?.getD [] = row at *
    simp [go_sem, hii, mat_drop hia, hrow, hrw, hl, ri, hin, rp, avs_set, rs]
    refine ⟨ne, ⟨by omega, by omega⟩, ?_⟩
    refine CallVC.of (cC) (by decide) ?_
    simp [go_sem]
    exact ⟨⟨by omega, by omega⟩, ⟨by omega, by omega⟩, i + 1, by omega, by omega, Off_reset _ _ _ (by simp), by rw [ho]; exact ⟨rfl, rfl⟩, by omega⟩
  · have e : i = n := by omega
    subst e
    have hii : ¬ (i : Int) < a.length := by omega
    rw [← hw]
    simp [go_sem, hii]
    refine ⟨_, _, cR, ?_⟩
    simp [go_sem]
    refine loop_inv ([2, 3, 10, 12] ++ List.range' 43 18) (fun j : Nat => [(10, .own 27 j (omat (bkL i (R.take j)))), (43, .int j)]) (fun j => j ≤ i ∧ ∀ t, t < j → leadL (R[t]?.getD []) < i) (fun j => i - j) 0 ⟨by omega, fun t ht => by omega⟩ (by simp [go_sem, bkL, omat]) (by simp [go_sem]) ?_
    rintro j ⟨hj, hp⟩
    by_cases hjn : j < i
    · have hji : (j : Int) < i := by omega
      have hR1 := rmat_get (A := R) (k := j) (by omega)
      have rr := gr.at (show j < R.length by omega)
      have hL := leadL_c (R[j]?.getD []) (by omega)
      have hne : ¬ R = [] := by rintro rfl; simp at gl; omega
      have hj2 : j < R.length := by omega
      have ha0 : a.length = i := hl
      have dc : Con Try.prog 169 [.sl ((R[j]?.getD []).drop i).length (avs ((R[j]?.getD []).drop i))] (.own 2 ((R[j]?.getD []).drop i).length (avs ((R[j]?.getD []).drop i))) := Clone_c _ (by rw [List.length_drop]; omega)
      have dl : ((R[j]?.getD []).drop i).length = i := by rw [List.length_drop, rr.1]; omega
      rw [dl] at dc
      by_cases hld : leadL (R[j]?.getD []) < i
      · have hld2 : ¬ i ≤ leadL (R[j]?.getD []) := by omega
        generalize hrow : R[j]?.getD [] = row at *
        have dl2 : row.length - i = i := by omega
        have dl3 : i ≤ row.length := by omega
        have hsl : List.take i (List.drop i (avs row)) = avs (row.drop i) := by
          rw [List.take_of_length_le (by simp [avs]; omega)]
          simp [avs, List.map_drop]
        have bt : bkL i (R.take (j + 1)) = bkL i (R.take j) ++ [row.drop i] := by
          unfold bkL
          rw [List.take_add_one, List.map_append, List.getElem?_eq_getElem hj2]
          rw [List.getElem?_eq_getElem hj2] at hrow
          simp at hrow
          simp [hrow]
        have ob : omat (bkL i (R.take (j + 1))) = omat (bkL i (R.take j)) ++ [.own 2 i (avs (row.drop i))] := by
          rw [bt]
          unfold omat
          rw [List.map_append]
          simp [dl2]
        simp [go_sem, hji, hR1]
        refine CallVC.of (hL) (by decide) ?_
        simp [go_sem]
        have bl : (bkL i (R.take j)).length = j := by simp [bkL, gl]; omega
        simp [go_sem, ha0, hld2, dl2, hsl]
        refine ⟨dl3, ?_⟩
        refine CallVC.of (dc) (by decide) ?_
        simp [go_sem]
        exact ⟨⟨by omega, by omega⟩, ⟨by omega, by omega⟩, j + 1, ⟨by omega, fun t ht => by rcases Nat.lt_or_ge t j with h | h; exact hp t h; obtain rfl : t = j := (by omega); rw [hrow]; exact hld⟩, by omega, Off_reset _ _ _ (by simp), by rw [ob]; exact ⟨rfl, rfl⟩, by omega⟩
      · have hx := hB j hjn (by omega)
        have hld2 : i ≤ leadL (R[j]?.getD []) := by omega
        subst hx
        generalize hrow : R[j]?.getD [] = row at *
        simp [go_sem, hji, hR1]
        refine CallVC.of (hL) (by decide) ?_
        simp [go_sem]
        simp [go_sem, ha0, hld2]
    · have e : j = i := by omega
      subst e
      have hji : ¬ (j : Int) < j := by omega
      have hx := hA (hp (j - 1) (by omega))
      have htk : R.take j = R := List.take_of_length_le (by omega)
      have ha0 : a.length = j := hl
      subst hx
      simp [go_sem, hji, htk, ha0]
def invL (n : Nat) (a : List (List Int)) : List (List Int) := bkL n (redR (n + n) 0 (catL n a, 1, 0)).1
def invB (n : Nat) (a : List (List Int)) : Bool := decide (leadL ((redR (n + n) 0 (catL n a, 1, 0)).1[n - 1]?.getD []) < n)
theorem invB_is {n : Nat} {a : List (List Int)} (h0 : 0 < n) (hl : a.length = n) (hr : Rws n a) : invB n a = decide (ldet n a ≠ 0) := by
  unfold invB
  by_cases h : leadL ((redR (n + n) 0 (catL n a, 1, 0)).1[n - 1]?.getD []) < n
  · have := (cat_some h0 hl hr h).1
    simp [h, this]
  · have := cat_none h0 hl hr (j := n - 1) (by omega) (by omega)
    simp [h, this]
theorem inverseOf_c {n : Nat} (a : List (List Int)) (h0 : 0 < n) (hl : a.length = n) (hn : n ≤ 100) (hr : Rws n a) :
    Con Try.prog 105 [.sl a.length (mat a)] (if invB n a = true then .tup [.own 27 n (omat (invL n a)), .bool true] else .tup [.val (.slice none 0 0), .bool false]) := by
  have wo := catL_ok (n := n) (a := a) hl hr
  have cf := cat_full h0 hl hr
  have cN : ∀ j, j < n → n ≤ leadL ((redR (n + n) 0 (catL n a, 1, 0)).1[j]?.getD []) → ldet n a = 0 := fun j hj => cat_none h0 hl hr hj
  have iB := invB_is h0 hl hr
  obtain ⟨k', g1, g2, g3⟩ := redR_GI (n + n) 0 (catL n a, 1, 0) (by omega) (GI.start wo.1 wo.2)
  have gl := g3.len
  have gr := g3.rws
  clear g3 g1 g2
  unfold invL
  have iB2 : invB n a = decide (leadL ((redR (n + n) 0 (catL n a, 1, 0)).1[n - 1]?.getD []) < n) := rfl
  generalize hst : redR (n + n) 0 (catL n a, 1, 0) = st at *
  obtain ⟨R, dt, dn⟩ := st
  simp only at cf cN gl gr iB2
  subst cf
  refine inverse_w a h0 hl hn hr _ hst gl gr (by split <;> simp [freshOK, freshL]) (fun h => ?_) (fun j hj h => ?_)
  · rw [iB2, decide_eq_true h]; rfl
  · rw [iB, if_neg (by simp [cN j hj h])]
end Go.Proofs.Ytmojbncbbnjblaa


namespace Go.Proofs.Ytmojbncbbnjblaa
open Go.Abs
set_option linter.unusedVariables false
set_option linter.unusedSimpArgs false
set_option maxHeartbeats 1000000
end Go.Proofs.Ytmojbncbbnjblaa


namespace Go.Proofs.Ytmojbncbbnjblaa
open Go.Abs
set_option linter.unusedVariables false
set_option linter.unusedSimpArgs false
set_option maxHeartbeats 1000000
def rowOk (A : List (List Int)) (r : List Int) : Bool := decide (r.length = (A[0]?.getD []).length) && numsB r
def matB (A : List (List Int)) : Bool := decide (1 ≤ A.length ∧ A.length ≤ 8) && (decide (1 ≤ (A[0]?.getD []).length ∧ (A[0]?.getD []).length ≤ 8) && A.all (rowOk A))
theorem matB_iff {A : List (List Int)} : matB A = true ↔ (1 ≤ A.length ∧ A.length ≤ 8) ∧ (1 ≤ (A[0]?.getD []).length ∧ (A[0]?.getD []).length ≤ 8) ∧ ∀ r ∈ A, r.length = (A[0]?.getD []).length ∧ Ns r := by
  unfold matB rowOk
  simp only [Bool.and_eq_true, decide_eq_true_eq, List.all_eq_true, numsB_N]
theorem lengthR_c (n : Nat) (cs : List AV) (hn : n ≤ 9223372036854775807) : Con Try.prog 163 [.sl n cs] (.int n) := by
  refine con_of_vc Try.mixed ⟨3, [], [], []⟩ Try.func163 (by decide) rfl (by simp) (by decide) (by simp [freshOK, freshL, go_sem]) ?_
  rw [Try.ntmps163]
  simp [go_sem]
  try omega
theorem at0 {A : List (List Int)} (h : 0 < A.length) : mat A = .sl (A[0]?.getD []).length (avs (A[0]?.getD [])) :: mat A.tail := by cases A with | nil => simp at h | cons x l => simp [mat]
set_option maxRecDepth 100000 in
theorem isMatrix_c (A : List (List Int)) (hl : A.length ≤ 9223372036854775807) (hr : ∀ r ∈ A, r.length ≤ 9223372036854775807) :
    Con Try.prog 103 [.sl A.length (mat A)] (.bool (matB A)) := by
  have cL := lengthR_c A.length (mat A) hl
  have cI := inRange_c (A.length : Int) 1 8
  by_cases h1 : 1 ≤ A.length ∧ A.length ≤ 8
  · have e1 : (decide ((1 : Int) ≤ A.length) && decide ((A.length : Int) ≤ 8)) = true := by simp; omega
    rw [e1] at cI
    have m0 := at0 (A := A) (by omega)
    have h0 : (A[0]?.getD []) ∈ A := by simp [show 0 < A.length by omega]
    have r0 := hr _ h0
    have fine : matB A = (decide (1 ≤ (A[0]?.getD []).length ∧ (A[0]?.getD []).length ≤ 8) && A.all (rowOk A)) := by unfold matB; rw [decide_eq_true h1]; rfl
    refine con_of_vc Try.mixed ⟨5, [], [], []⟩ Try.func103 (by decide) rfl (by simp) (by decide) (by simp [freshOK, freshL, go_sem]) ?_
    rw [Try.ntmps103]
    simp [go_sem]
    refine CallVC.of (cL) (by decide) ?_
    simp [go_sem]
    refine CallVC.of (cI) (by decide) ?_
    simp [go_sem]
    refine loop_inv (2 :: 4 :: List.range' 11 23) (fun i : Nat => [(11, .int i)]) (fun i => i ≤ A.length ∧ (∀ r ∈ A.take i, rowOk A r = true) ∧ (0 < i → 1 ≤ (A[0]?.getD []).length ∧ (A[0]?.getD []).length ≤ 8)) (fun i => A.length - i) 0 (by simp) (by simp [go_sem]) (by simp [go_sem]) ?_
    rintro i ⟨hi, hp, hq⟩
    simp [go_sem]
    refine ⟨fun h => ?_, fun h => ?_⟩ <;> simp at h
    · have hif := h
      have hx : A[i]?.getD [] ∈ A := by simp [h]
      have hx2 := hr _ hx
      have cl := length_c (A[i]?.getD []).length (avs (A[i]?.getD [])) hx2
      have ci := inRange_c ((A[i]?.getD []).length : Int) 1 8
      have cn := areNumbers_c (A[i]?.getD []) hx2
      have hno : rowOk A (A[i]?.getD []) = false → matB A = false := fun hh => by
        rw [fine]
        have : A.all (rowOk A) = false := by rw [List.all_eq_false]; exact ⟨_, hx, by simp [hh]⟩
        rw [this]; simp
      simp [go_sem, mat_drop hif]
      refine ⟨⟨hif, by rintro rfl; simp at hif⟩, ?_⟩
      generalize hR : A[i]?.getD [] = R at *
      by_cases c1 : R.length = (A[0]?.getD []).length
      · have c1' : (R.length : Int) = (A[0]?.getD []).length := by omega
        simp [go_sem, m0, c1']
        refine ⟨⟨by omega, by rintro rfl; simp at hif⟩, ?_⟩
        refine CallVC.of (cl) (by decide) ?_
        simp [go_sem]
        by_cases c2 : 1 ≤ R.length ∧ R.length ≤ 8
        · rw [show (decide ((1 : Int) ≤ R.length) && decide ((R.length : Int) ≤ 8)) = true by simp; omega] at ci
          refine CallVC.of (ci) (by decide) ?_
          simp [go_sem]
          cases hn : numsB R with
          | true =>
            rw [hn] at cn
            refine CallVC.of (cn) (by decide) ?_
            simp [go_sem]
            refine ⟨by omega, i + 1, ⟨by omega, take_all hif hp ?_, fun _ => by omega⟩, by omega, Off_reset _ _ _ (by simp), by omega⟩
            have : A[i] = R := by rw [← hR]; simp [hif]
            rw [this]; unfold rowOk; rw [hn, decide_eq_true c1]; rfl
          | false =>
            rw [hn] at cn
            refine CallVC.of (cn) (by decide) ?_
            simp [go_sem]
            exact hno (by unfold rowOk; rw [hn]; simp)
        · rw [show (decide ((1 : Int) ≤ R.length) && decide ((R.length : Int) ≤ 8)) = false by simp; omega] at ci
          refine CallVC.of (ci) (by decide) ?_
          simp [go_sem]
          rw [fine, decide_eq_false (by omega)]; rfl
      · have c1' : ¬ (R.length : Int) = (A[0]?.getD []).length := by omega
        simp [go_sem, m0, c1']
        exact ⟨⟨by omega, by rintro rfl; simp at hif⟩, hno (by unfold rowOk; rw [decide_eq_false c1]; rfl)⟩
    · simp [go_sem]
      rw [List.take_of_length_le h] at hp
      rw [fine, decide_eq_true (hq (by omega)), List.all_eq_true.2 hp]
      rfl
  · have e1 : (decide ((1 : Int) ≤ A.length) && decide ((A.length : Int) ≤ 8)) = false := by simp; omega
    rw [e1] at cI
    refine con_of_vc Try.mixed ⟨5, [], [], []⟩ Try.func103 (by decide) rfl (by simp) (by decide) (by simp [freshOK, freshL, go_sem]) ?_
    rw [Try.ntmps103]
    simp [go_sem]
    refine CallVC.of (cL) (by decide) ?_
    simp [go_sem]
    refine CallVC.of (cI) (by decide) ?_
    simp [go_sem]
    unfold matB
    rw [decide_eq_false h1]; rfl
set_option maxRecDepth 100000 in
theorem l01Matrix_c (A : List (List Int)) (hl : A.length ≤ 9223372036854775807) (hr : ∀ r ∈ A, r.length ≤ 9223372036854775807) :
    Con Try.prog 96 [.sl A.length (mat A)] (.int (if matB A = true then 0 else 1)) := by
  by_cases h1 : 1 ≤ A.length ∧ A.length ≤ 8
  · have m0 := at0 (A := A) (by omega)
    have h0 : (A[0]?.getD []) ∈ A := by simp [show 0 < A.length by omega]
    have r0 := hr _ h0
    have n1 : ¬ (A.length : Int) < 1 := by omega
    have n2 : ¬ (8 : Int) < A.length := by omega
    have n0 : ¬ A = [] := by rintro rfl; simp at h1
    by_cases h2 : 1 ≤ (A[0]?.getD []).length ∧ (A[0]?.getD []).length ≤ 8
    · have n3 : ¬ ((A[0]?.getD []).length : Int) < 1 := by omega
      have n4 : ¬ (8 : Int) < (A[0]?.getD []).length := by omega
      have fine : matB A = A.all (rowOk A) := by unfold matB; rw [decide_eq_true h1, decide_eq_true h2]; rfl
      refine con_of_vc Try.mixed ⟨4, [], [], []⟩ Try.func96 (by decide) rfl (by simp) (by decide) (by simp [freshOK, freshL, go_sem]) ?_
      rw [Try.ntmps96]
      simp [go_sem]
      simp [go_sem, n1, n2, m0, n3, n4]
      simp only [← m0]
      refine ⟨by omega, ?_⟩
      refine loop_inv (2 :: 3 :: List.range' 26 24) (fun i : Nat => [(3, .int i)]) (fun i => i ≤ A.length ∧ (∀ r ∈ A.take i, rowOk A r = true)) (fun i => A.length - i) 0 (by simp) (by simp [go_sem]) (by simp [go_sem]) ?_
      rintro i ⟨hi, hp⟩
      simp [go_sem]
      refine ⟨fun h => ?_, fun h => ?_⟩ <;> simp at h
      · have hif : i < A.length := by omega
        have hx : A[i]?.getD [] ∈ A := by simp [hif]
        have hx2 := hr _ hx
        have cn := l01Numbers_c (A[i]?.getD []) hx2
        have hno : rowOk A (A[i]?.getD []) = false → matB A = false := fun hh => by
          rw [fine, List.all_eq_false]; exact ⟨_, hx, by simp [hh]⟩
        simp [go_sem, mat_drop hif]
        simp [go_sem, m0]
        simp only [← m0]
        generalize hR : A[i]?.getD [] = R at *
        by_cases c1 : R.length = (A[0]?.getD []).length
        · have c1' : (R.length : Int) = (A[0]?.getD []).length := by omega
          simp [go_sem, mat_drop hif, hR, c1']
          refine ⟨by kernel_rfl, ⟨hif, n0⟩, ⟨by omega, n0⟩, ⟨hif, n0⟩, ?_⟩
          cases hn : numsB R with
          | true =>
            rw [hn] at cn
            refine CallD.of (cn) (by simp [roots, rootsL]) (by decide) ?_
            simp [go_sem]
            refine ⟨by kernel_rfl, ?_⟩
            simp [go_sem]
            refine ⟨by omega, i + 1, ⟨by omega, take_all hif hp ?_⟩, by omega, Off_reset _ _ _ (by simp), by omega⟩
            have : A[i] = R := by rw [← hR]; simp [hif]
            rw [this]; unfold rowOk; rw [hn, decide_eq_true c1]; rfl
          | false =>
            rw [hn] at cn
            refine CallD.of (cn) (by simp [roots, rootsL]) (by decide) ?_
            simp [go_sem]
            refine ⟨by kernel_rfl, ?_⟩
            simp [go_sem]
            rw [hno (by unfold rowOk; rw [hn]; simp)]
        · have c1' : ¬ (R.length : Int) = (A[0]?.getD []).length := by omega
          simp [go_sem, c1']
          refine ⟨by kernel_rfl, ⟨hif, n0⟩, ⟨by omega, n0⟩, ?_⟩
          refine ⟨by kernel_rfl, ?_⟩
          simp [go_sem]
          rw [hno (by unfold rowOk; rw [decide_eq_false c1]; rfl)]
      · simp [go_sem]
        rw [List.take_of_length_le (by omega)] at hp
        rw [fine, List.all_eq_true.2 hp]
    · have hm : matB A = false := by unfold matB; rw [decide_eq_true h1, decide_eq_false h2]; rfl
      rw [hm]
      by_cases n3 : ((A[0]?.getD []).length : Int) < 1
      · refine con_of_vc Try.mixed ⟨4, [], [], []⟩ Try.func96 (by decide) rfl (by simp) (by decide) (by simp [freshOK, freshL, go_sem]) ?_
        rw [Try.ntmps96]
        simp [go_sem]
        simp [go_sem, n1, n2, m0, n3]
        omega
      · have n4 : (8 : Int) < (A[0]?.getD []).length := by omega
        refine con_of_vc Try.mixed ⟨4, [], [], []⟩ Try.func96 (by decide) rfl (by simp) (by decide) (by simp [freshOK, freshL, go_sem]) ?_
        rw [Try.ntmps96]
        simp [go_sem]
        simp [go_sem, n1, n2, m0, n3, n4]
        omega
  · have hm : matB A = false := by unfold matB; rw [decide_eq_false h1]; rfl
    rw [hm]
    by_cases n1 : (A.length : Int) < 1
    · refine con_of_vc Try.mixed ⟨4, [], [], []⟩ Try.func96 (by decide) rfl (by simp) (by decide) (by simp [freshOK, freshL, go_sem]) ?_
      rw [Try.ntmps96]
      simp [go_sem]
      simp [go_sem, n1]
    · have n2 : (8 : Int) < A.length := by omega
      refine con_of_vc Try.mixed ⟨4, [], [], []⟩ Try.func96 (by decide) rfl (by simp) (by decide) (by simp [freshOK, freshL, go_sem]) ?_
      rw [Try.ntmps96]
      simp [go_sem]
      simp [go_sem, n1, n2]
end Go.Proofs.Ytmojbncbbnjblaa


namespace Go.Proofs.Ytmojbncbbnjblaa
open Go.Abs
set_option linter.unusedVariables false
set_option linter.unusedSimpArgs false
set_option maxHeartbeats 4000000
def linS (m : List (List Int)) (h : Int) : List (List Int) := (List.range m.length).map fun i => tb (fun k => (m[i]?.getD [])[k]?.getD 0 * h % 10007) (m[i]?.getD []).length
def linQ (A : List (List Int)) (B : List Int) (m : List (List Int)) (h : Int) : List (List Int) := horM (linS m h) (chL B.length A).reverse
def linX (A : List (List Int)) (B : List Int) (m : List (List Int)) (y : List Int) (h : Int) : List Int := tb (sysF m.length (linQ A B m h) (apL (chL B.length (lesM A B)) (linS m h) y)) m.length
def linC (A : List (List Int)) (B : List Int) (m : List (List Int)) (y : List Int) (h : Int) : Int :=
  if tabB A B = true then (if matB m = true then (if m.length = (m[0]?.getD []).length then (if y.length = m.length then (if numsB y = true then (if 0 ≤ h ∧ h ≤ 10006 then (if ldet m.length (linQ A B m h) = 0 then 5 else 0) else 2) else 2) else 2) else 1) else 1) else 1
def linV (A : List (List Int)) (B : List Int) (m : List (List Int)) (y : List Int) (h : Int) : List Int := if linC A B m y h = 0 then linX A B m y h else []
def linR (A : List (List Int)) (B : List Int) (m : List (List Int)) (y : List Int) (h : Int) : AV := .tup [.own 2 (linV A B m y h).length (avs (linV A B m y h)), .int (linC A B m y h)]
theorem linR_bad {A : List (List Int)} {B : List Int} {m : List (List Int)} {y : List Int} {h : Int} (c : Int) (hc : linC A B m y h = c) (h0 : c ≠ 0) : linR A B m y h = .tup [.own 2 0 [], .int c] := by
  have : linV A B m y h = [] := by unfold linV; rw [hc, if_neg h0]
  unfold linR
  rw [this, hc]; rfl
theorem linS_len (m : List (List Int)) (h : Int) : (linS m h).length = m.length := by simp [linS]
theorem linS_ok {n : Nat} {m : List (List Int)} (hr : Rws n m) (h : Int) : Rws n (linS m h) := fun x hx => by
  obtain ⟨i, hi, rfl⟩ := List.mem_map.1 hx
  have q := hr.at (show i < m.length by simpa using hi)
  exact ⟨by rw [tb_len]; exact q.1, tb_N fun k _ => isN_mod _⟩
theorem numsB_Ns {y : List Int} (h : numsB y = true) : Ns y := fun x hx => numsB_N.1 h x hx
theorem tim_take_succ (A : List (List Int)) (v : List Int) {k : Nat} (h : k < A.length) : tim (A.take (k + 1)) v = tim (A.take k) v ++ [dotI (A[k]?.getD []) v % 10007] := tim_take h
set_option maxRecDepth 100000 in
theorem LinearStep_w (A : List (List Int)) (B : List Int) (m : List (List Int)) (y : List Int) (h : Int) (hT : Tab A B) (hM1 : 1 ≤ m.length) (hM8 : m.length ≤ 8) (hr : Rws m.length m) (hE : m.length = (m[0]?.getD []).length)
    (hY : y.length = m.length) (hN : Ns y) (hh : isN h) (cI : Con Try.prog 72 [.agg [.sl A.length (mat A), .sl B.length (avs B)]] (.bool true)) (cM : Con Try.prog 103 [.sl m.length (mat m)] (.bool true))
    (cN : Con Try.prog 104 [.sl y.length (avs y)] (.bool true)) (cH : Con Try.prog 94 [.int h] (.bool true)) :
    Con Try.prog 41 [.agg [.sl A.length (mat A), .sl B.length (avs B)], .sl m.length (mat m), .sl y.length (avs y), .int h]
      (if ldet m.length (linQ A B m h) = 0 then .tup [.own 2 0 [], .int 5] else .tup [.own 2 m.length (avs (linX A B m y h)), .int 0]) := by
  have b8 := hT.le
  have hl := linS_len m h
  have hs := linS_ok hr h
  have cF := fraction_c A B hT
  have cQ := atMatrix_c (chL B.length A) (linS m h) (by simp) (by simp; omega) (chL_N _ _) (show 0 < m.length by omega) (by omega) hl hs
  have cP := atMatrix_c (chL B.length (lesM A B)) (linS m h) (by simp) (by simp; omega) (chL_N _ _) (show 0 < m.length by omega) (by omega) hl hs
  have hq : horM (linS m h) (chL B.length A).reverse = linQ A B m h := rfl
  have oQ := horM_ok (show 0 < m.length by omega) hl hs (chL B.length A).reverse
  have oP := horM_ok (show 0 < m.length by omega) hl hs (chL B.length (lesM A B)).reverse
  rw [hl, chL_len] at cQ cP
  rw [hq] at cQ oQ
  have cV := inverseOf_c (linQ A B m h) (show 0 < m.length by omega) oQ.1 (by omega) oQ.2
  rw [oQ.1] at cV
  have iB := invB_is (show 0 < m.length by omega) oQ.1 oQ.2
  have law := fun hb => lin_law (p := chL B.length (lesM A B)) (q := chL B.length A) (show 0 < m.length by omega) hl hs hY hN hb
  rw [hq] at law
  have wo := catL_ok oQ.1 oQ.2
  obtain ⟨k', g1, g2, g3⟩ := redR_GI (m.length + m.length) 0 (catL m.length (linQ A B m h), 1, 0) (by omega) (GI.start wo.1 wo.2)
  have bk := bkL_ok g3.len g3.rws
  have eI : invL m.length (linQ A B m h) = bkL m.length (redR (m.length + m.length) 0 (catL m.length (linQ A B m h), 1, 0)).1 := rfl
  have eB : invB m.length (linQ A B m h) = decide (leadL ((redR (m.length + m.length) 0 (catL m.length (linQ A B m h), 1, 0)).1[m.length - 1]?.getD []) < m.length) := rfl
  clear g3 g1 g2
  rw [← eI] at bk law
  have law2 : invB m.length (linQ A B m h) = true → tim (tmM (invL m.length (linQ A B m h)) (horM (linS m h) (chL B.length (lesM A B)).reverse)) y = linX A B m y h := fun hb => (law (by rw [eB] at hb; exact of_decide_eq_true hb)).2
  clear law eB eI
  have xl : (linX A B m y h).length = m.length := by simp [linX]
  generalize linQ A B m h = Q at *
  generalize linX A B m y h = X at *
  generalize invL m.length Q = K at *
  generalize horM (linS m h) (chL B.length (lesM A B)).reverse = H at *
  have cT := timesMatrix_c K H (by omega) (show m.length ≤ 64 by omega) bk.2 (by omega) oP.1 (show m.length ≤ 64 by omega) oP.2
  have tl : (tmM K H).length = m.length := by rw [tmM_len]; exact bk.1
  have tr := tmM_ok K H
  rw [(oP.2.at (show 0 < H.length by omega)).1] at tr
  rw [bk.1, oP.1] at cT
  generalize tmM K H = T at *
  have hS : linS m h = (List.range m.length).map fun i => tb (fun k => (m[i]?.getD [])[k]?.getD 0 * h % 10007) (m[i]?.getD []).length := rfl
  have hmod : h % 10007 = h := by have := hh.1; have := hh.2; omega
  have h0 : 0 < m.length := by omega
  have m0 := mat_drop (xss := m) (k := 0) h0
  simp only [List.drop_zero] at m0
  have m1 : AV.sl (m[0]?.getD []).length (avs (m[0]?.getD [])) :: mat m.tail = mat m := by cases m with | nil => simp at h0 | cons x l => simp [mat]
  have ne : ¬ m = [] := by rintro rfl; simp at h0
  have go : ∀ x : AV, freshOK x = true → (invB m.length Q = true → x = .tup [.own 2 m.length (avs X), .int 0]) → (invB m.length Q = false → x = .tup [.val (.slice none 0 0), .int 5]) →
      Con Try.prog 41 [.agg [.sl A.length (mat A), .sl B.length (avs B)], .sl m.length (mat m), .sl y.length (avs y), .int h] x := by
    intro x hf x1 x2
    refine con_of_vc Try.mixed ⟨20, [], [], []⟩ Try.func41 (by decide) rfl (by simp) (by decide) hf ?_
    rw [Try.ntmps41]
    simp [go_sem]
    refine CallVC.of (cI) (by decide) ?_
    simp [go_sem]
    refine CallVC.of (cM) (by decide) ?_
    simp [go_sem]
    simp [go_sem, m0]
    simp only [m1]
    refine ⟨⟨h0, ne⟩, ?_⟩
    simp [go_sem, hE.symm, hY]
    rw [hY] at cN
    refine CallVC.of (cN) (by decide) ?_
    simp [go_sem]
    refine CallVC.of (cH) (by decide) ?_
    simp [go_sem]
    refine loop_inv ([10, 12] ++ List.range' 57 11) (fun i : Nat => [(10, .own 27 i (omat ((List.range i).map fun i => tb (fun k => (m[i]?.getD [])[k]?.getD 0 * h % 10007) (m[i]?.getD []).length))), (57, .int i)]) (fun i => i ≤ m.length) (fun i => m.length - i) 0 (by simp) (by simp [go_sem, omat]) (by simp [go_sem]) ?_
    intro i hi
    by_cases hin : i < m.length
    · have hii : (i : Int) < m.length := by omega
      have ri := hr.at hin
      have cS := scaled_c (m[i]?.getD []) h ri.2 ⟨by have := hh.1; omega, by have := hh.2; omega⟩ (by omega)
      have ho := omat_range_succ (fun i => tb (fun k => (m[i]?.getD [])[k]?.getD 0 * h % 10007) (m[i]?.getD []).length) i
      rw [scalS, hmod] at cS
      rw [tb_len] at ho
      simp [go_sem, hii, mat_drop hin]
      refine ⟨ne, ?_⟩
      refine CallVC.of (cS) (by decide) ?_
      simp [go_sem]
      exact ⟨⟨by omega, by omega⟩, ⟨by omega, by omega⟩, i + 1, by omega, by omega, Off_reset _ _ _ (by simp), by rw [ho]; exact ⟨rfl, rfl⟩, by omega⟩
    · have e : i = m.length := by omega
      subst e
      have hii : ¬ (m.length : Int) < m.length := by omega
      rw [← hS]
      simp [go_sem, hii]
      refine CallVC.of (cF) (by decide) ?_
      simp [go_sem]
      refine CallVC.of (cQ) (by decide) ?_
      simp [go_sem]
      cases hb : invB m.length Q with
      | false =>
        rw [hb] at cV
        have hx := x2 hb
        subst hx
        simp only [Bool.false_eq_true, if_false] at cV
        refine CallVC.of (cV) (by decide) ?_
        simp [go_sem]
      | true =>
        rw [hb] at cV
        have hx := x1 hb
        subst hx
        simp only [if_true] at cV
        refine CallVC.of (cV) (by decide) ?_
        simp [go_sem]
        refine CallVC.of (cP) (by decide) ?_
        simp [go_sem]
        refine CallVC.of (cT) (by decide) ?_
        simp [go_sem]
        have law := law2 hb
        refine loop_inv ([17, 19] ++ List.range' 89 11) (fun i : Nat => [(17, .own 2 i (avs (tim (T.take i) y))), (89, .int i)]) (fun i => i ≤ m.length) (fun i => m.length - i) 0 (by simp) (by simp [go_sem, tim]) (by simp [go_sem, omat_kl]) ?_
        intro i hi
        by_cases hin : i < m.length
        · have hii : (i : Int) < m.length := by omega
          have hiT : i < T.length := by omega
          have ri := tr.at hiT
          have hg := omat_get (A := T) (k := i) hiT
          have ts := tim_take_succ T y hiT
          have cD := dot_c (T[i]?.getD []) y (by omega) (by omega) ri.2 hN
          rw [hY, ri.1] at cD
          rw [ri.1] at hg
          have rl := ri.1
          generalize T[i]?.getD [] = row at *
          simp [go_sem, hii, hg]
          refine CallVC.of (cD) (by decide) ?_
          simp [go_sem]
          exact ⟨⟨by omega, by omega⟩, ⟨by omega, by omega⟩, i + 1, by omega, by omega, Off_reset _ _ _ (by simp), by rw [ts, avs_snoc]; exact ⟨rfl, rfl⟩, by omega⟩
        · have e : i = m.length := by omega
          subst e
          have hii : ¬ (m.length : Int) < m.length := by omega
          have htk : T.take m.length = T := List.take_of_length_le (by omega)
          simp [go_sem, hii, htk, law]
  by_cases hz : ldet m.length Q = 0
  · rw [if_pos hz]
    refine Con.n1 _ (go _ (by simp [freshOK, freshL]) (fun hb => ?_) (fun _ => rfl))
    rw [iB] at hb
    exact (of_decide_eq_true hb hz).elim
  · rw [if_neg hz]
    refine go _ (by simp [freshOK, freshL]) (fun _ => rfl) (fun hb => ?_)
    rw [iB] at hb
    exact (of_decide_eq_false hb hz).elim
set_option maxRecDepth 100000 in
theorem LinearStep_c (A : List (List Int)) (B : List Int) (m : List (List Int)) (y : List Int) (h : Int) (hA : A.length ≤ 1048576) (hrA : ∀ r ∈ A, r.length ≤ 1048576) (hB : B.length ≤ 1048576) (hm : m.length ≤ 1048576) (hrm : ∀ r ∈ m, r.length ≤ 1048576) (hy : y.length ≤ 1048576) :
    Con Try.prog 41 [.agg [.sl A.length (mat A), .sl B.length (avs B)], .sl m.length (mat m), .sl y.length (avs y), .int h] (linR A B m y h) := by
  have cI := IsTableau_c A B (by omega) (by omega) (fun r h => by have := hrA r h; omega)
  have cM := isMatrix_c m (by omega) (fun r h => by have := hrm r h; omega)
  have cN := areNumbers_c y (by omega)
  have cH := IsNumber_c h
  by_cases hT : tabB A B = true
  · rw [hT] at cI
    by_cases hM : matB m = true
    · rw [hM] at cM
      have hM' := matB_iff.1 hM
      have h0 : 0 < m.length := by omega
      have m0 := mat_drop (xss := m) (k := 0) h0
      simp only [List.drop_zero] at m0
      have m1 : AV.sl (m[0]?.getD []).length (avs (m[0]?.getD [])) :: mat m.tail = mat m := by cases m with | nil => simp at h0 | cons x l => simp [mat]
      have ne : ¬ m = [] := by rintro rfl; simp at h0
      by_cases hE : m.length = (m[0]?.getD []).length
      · by_cases hY : y.length = m.length
        · by_cases hN : numsB y = true
          · rw [hN] at cN
            by_cases hh : 0 ≤ h ∧ h ≤ 10006
            · rw [decide_eq_true hh] at cH
              have w := LinearStep_w A B m y h (tabB_iff.1 hT) (by omega) (by omega) (fun r hr => by have := hM'.2.2 r hr; rw [← hE] at this; exact this) hE hY (numsB_Ns hN) ⟨hh.1, by omega⟩ cI cM cN cH
              have e : linC A B m y h = if ldet m.length (linQ A B m h) = 0 then 5 else 0 := by
                unfold linC; rw [if_pos hT, if_pos hM, if_pos hE, if_pos hY, if_pos hN, if_pos hh]
              by_cases hz : ldet m.length (linQ A B m h) = 0
              · rw [if_pos hz] at w e
                rw [linR_bad 5 e (by decide)]; exact w
              · rw [if_neg hz] at w e
                have xl : (linX A B m y h).length = m.length := by simp [linX]
                unfold linR linV
                rw [e, if_pos rfl, xl]; exact w
            · rw [decide_eq_false hh] at cH
              rw [linR_bad 2 (by unfold linC; rw [if_pos hT, if_pos hM, if_pos hE, if_pos hY, if_pos hN, if_neg hh]) (by decide)]
              refine Con.n1 _ ?_
              refine con_of_vc Try.mixed ⟨20, [], [], []⟩ Try.func41 (by decide) rfl (by simp) (by decide) (by simp [freshOK, freshL, go_sem]) ?_
              rw [Try.ntmps41]
              simp [go_sem]
              refine CallVC.of (cI) (by decide) ?_
              simp [go_sem]
              refine CallVC.of (cM) (by decide) ?_
              simp [go_sem]
              simp [go_sem, m0]
              simp only [m1]
              refine ⟨⟨h0, ne⟩, ?_⟩
              simp [go_sem, hE.symm, hY]
              rw [hY] at cN
              refine CallVC.of (cN) (by decide) ?_
              simp [go_sem]
              refine CallVC.of (cH) (by decide) ?_
              simp [go_sem]
          · have hN' : numsB y = false := by simpa using hN
            rw [hN'] at cN
            rw [linR_bad 2 (by unfold linC; rw [if_pos hT, if_pos hM, if_pos hE, if_pos hY, if_neg hN]) (by decide)]
            refine Con.n1 _ ?_
            refine con_of_vc Try.mixed ⟨20, [], [], []⟩ Try.func41 (by decide) rfl (by simp) (by decide) (by simp [freshOK, freshL, go_sem]) ?_
            rw [Try.ntmps41]
            simp [go_sem]
            refine CallVC.of (cI) (by decide) ?_
            simp [go_sem]
            refine CallVC.of (cM) (by decide) ?_
            simp [go_sem]
            simp [go_sem, m0]
            simp only [m1]
            refine ⟨⟨h0, ne⟩, ?_⟩
            simp [go_sem, hE.symm, hY]
            rw [hY] at cN
            refine CallVC.of (cN) (by decide) ?_
            simp [go_sem]
        · rw [linR_bad 2 (by unfold linC; rw [if_pos hT, if_pos hM, if_pos hE, if_neg hY]) (by decide)]
          refine Con.n1 _ ?_
          refine con_of_vc Try.mixed ⟨20, [], [], []⟩ Try.func41 (by decide) rfl (by simp) (by decide) (by simp [freshOK, freshL, go_sem]) ?_
          rw [Try.ntmps41]
          simp [go_sem]
          refine CallVC.of (cI) (by decide) ?_
          simp [go_sem]
          refine CallVC.of (cM) (by decide) ?_
          simp [go_sem]
          simp [go_sem, m0]
          simp only [m1]
          refine ⟨⟨h0, ne⟩, ?_⟩
          have hYi : ¬ (y.length : Int) = m.length := by omega
          simp [go_sem, hE.symm, hYi]
      · rw [linR_bad 1 (by unfold linC; rw [if_pos hT, if_pos hM, if_neg hE]) (by decide)]
        refine Con.n1 _ ?_
        refine con_of_vc Try.mixed ⟨20, [], [], []⟩ Try.func41 (by decide) rfl (by simp) (by decide) (by simp [freshOK, freshL, go_sem]) ?_
        rw [Try.ntmps41]
        simp [go_sem]
        refine CallVC.of (cI) (by decide) ?_
        simp [go_sem]
        refine CallVC.of (cM) (by decide) ?_
        simp [go_sem]
        simp [go_sem, m0]
        simp only [m1]
        refine ⟨⟨h0, ne⟩, ?_⟩
        have hEi : ¬ (m.length : Int) = (m[0]?.getD []).length := by omega
        simp [go_sem, hEi]
    · have hM' : matB m = false := by simpa using hM
      rw [hM'] at cM
      rw [linR_bad 1 (by unfold linC; rw [if_pos hT, if_neg hM]) (by decide)]
      refine Con.n1 _ ?_
      refine con_of_vc Try.mixed ⟨20, [], [], []⟩ Try.func41 (by decide) rfl (by simp) (by decide) (by simp [freshOK, freshL, go_sem]) ?_
      rw [Try.ntmps41]
      simp [go_sem]
      refine CallVC.of (cI) (by decide) ?_
      simp [go_sem]
      refine CallVC.of (cM) (by decide) ?_
      simp [go_sem]
  · have hT' : tabB A B = false := by simpa using hT
    rw [hT'] at cI
    rw [linR_bad 1 (by unfold linC; rw [if_neg hT]) (by decide)]
    refine Con.n1 _ ?_
    refine con_of_vc Try.mixed ⟨20, [], [], []⟩ Try.func41 (by decide) rfl (by simp) (by decide) (by simp [freshOK, freshL, go_sem]) ?_
    rw [Try.ntmps41]
    simp [go_sem]
    refine CallVC.of (cI) (by decide) ?_
    simp [go_sem]
end Go.Proofs.Ytmojbncbbnjblaa


namespace Go.Proofs.Ytmojbncbbnjblaa
open Go.Abs
set_option linter.unusedVariables false
set_option linter.unusedSimpArgs false
set_option maxHeartbeats 4000000
theorem omat_cols_succ (n : Nat) (q : List Int) (m : List (List Int)) (i : Nat) : omat ((List.range (i + 1)).map fun k => apL q m (unR n k)) = omat ((List.range i).map fun k => apL q m (unR n k)) ++ [.own 2 n (avs (apL q m (unR n i)))] := by
  have := omat_range_succ (fun k => apL q m (unR n k)) i
  rw [show (apL q m (unR n i)).length = n from (sumK_ok q m (unR_len n i) _).1] at this
  exact this
set_option maxRecDepth 100000 in
theorem specLinearStep_w (A : List (List Int)) (B : List Int) (m : List (List Int)) (y : List Int) (h : Int) (hT : Tab A B) (hM1 : 1 ≤ m.length) (hM8 : m.length ≤ 8) (hr : Rws m.length m) (hE : m.length = (m[0]?.getD []).length)
    (hY : y.length = m.length) (hN : Ns y) (hh : isN h) (cI : Con Try.prog 75 [.agg [.sl A.length (mat A), .sl B.length (avs B)]] (.bool true)) (cM : Con Try.prog 96 [.sl m.length (mat m)] (.int 0))
    (cN : Con Try.prog 97 [.sl y.length (avs y)] (.bool true)) (cH : Con Try.prog 89 [.int h] (.bool true)) :
    Con Try.prog 38 [.agg [.sl A.length (mat A), .sl B.length (avs B)], .sl m.length (mat m), .sl y.length (avs y), .int h]
      (if ldet m.length (linQ A B m h) = 0 then .tup [.own 2 0 [], .int 5] else .tup [.own 2 m.length (avs (linX A B m y h)), .int 0]) := by
  have b8 := hT.le
  have h0 : 0 < m.length := by omega
  have hl := linS_len m h
  have hs := linS_ok hr h
  have cF := l19Fraction_c A B hT
  have cU := l19Unit_c m.length (by omega)
  have aU := fun k => l19Apply_c (chL B.length A) (linS m h) (unR m.length k) (by simp; omega) (chL_N _ _) h0 (by omega) hl hs (unR_len _ _) (unR_N _ _)
  have cA := l19Apply_c (chL B.length (lesM A B)) (linS m h) y (by simp; omega) (chL_N _ _) h0 (by omega) hl hs hY hN
  rw [hl, chL_len, hY] at cA
  have tu := cols_turn (q := chL B.length A) h0 hl hs
  have hq : horM (linS m h) (chL B.length A).reverse = linQ A B m h := rfl
  have oQ := horM_ok h0 hl hs (chL B.length A).reverse
  rw [hq] at tu oQ
  have oA := sumK_ok (chL B.length (lesM A B)) (linS m h) hY (chL B.length (lesM A B)).length
  have oA1 : (apL (chL B.length (lesM A B)) (linS m h) y).length = m.length := oA.1
  have oA2 : Ns (apL (chL B.length (lesM A B)) (linS m h) y) := oA.2
  have cV := l01Solve_c (linQ A B m h) (apL (chL B.length (lesM A B)) (linS m h) y) oQ.1 (by omega) oQ.2 oA2 (by omega)
  rw [oQ.1, oA1] at cV
  have cl : (colsL m.length (chL B.length A) (linS m h)).length = m.length := by simp [colsL]
  have cr : ∀ k, k < m.length → (colsL m.length (chL B.length A) (linS m h))[k]?.getD [] = apL (chL B.length A) (linS m h) (unR m.length k) := fun k hk => by simp [colsL, hk]
  have rl : ∀ r ∈ colsL m.length (chL B.length A) (linS m h), r.length = m.length := fun r hr => by
    obtain ⟨k, _, rfl⟩ := List.mem_map.1 hr
    exact (sumK_ok _ _ (unR_len _ _) _).1
  have r0 : ((colsL m.length (chL B.length A) (linS m h))[0]?.getD []).length = m.length := by rw [cr 0 h0]; exact (sumK_ok _ _ (unR_len _ _) _).1
  have cT := l14Turn_c (colsL m.length (chL B.length A) (linS m h)) (by omega) (by omega) (fun r hr => by rw [r0]; exact rl r hr) (by omega)
  rw [turnS_len, r0, tu, cl] at cT
  have hC : colsL m.length (chL B.length A) (linS m h) = (List.range m.length).map fun k => apL (chL B.length A) (linS m h) (unR m.length k) := rfl
  have hX : linX A B m y h = tb (sysF m.length (linQ A B m h) (apL (chL B.length (lesM A B)) (linS m h) y)) m.length := rfl
  have sR : solR m.length (linQ A B m h) (apL (chL B.length (lesM A B)) (linS m h) y) = .tup [.own 2 (if ldet m.length (linQ A B m h) = 0 then [] else linX A B m y h).length (avs (if ldet m.length (linQ A B m h) = 0 then [] else linX A B m y h)), .bool (decide (ldet m.length (linQ A B m h) ≠ 0))] := rfl
  rw [sR] at cV
  have xl : (linX A B m y h).length = m.length := by simp [linX]
  have un := unM_ok m.length
  have ur := fun k (hk : k < m.length) => unM_row (n := m.length) hk
  clear hX sR hq
  generalize linQ A B m h = Q at *
  generalize linX A B m y h = X at *
  generalize apL (chL B.length (lesM A B)) (linS m h) y = Z at *
  have hS : linS m h = (List.range m.length).map fun i => tb (fun k => (m[i]?.getD [])[k]?.getD 0 * h % 10007) (m[i]?.getD []).length := rfl
  have m0 := mat_drop (xss := m) (k := 0) h0
  simp only [List.drop_zero] at m0
  have m1 : AV.sl (m[0]?.getD []).length (avs (m[0]?.getD [])) :: mat m.tail = mat m := by cases m with | nil => simp at h0 | cons x l => simp [mat]
  have ne : ¬ m = [] := by rintro rfl; simp at h0
  have go : ∀ x : AV, freshOK x = true → (ldet m.length Q ≠ 0 → x = .tup [.own 2 m.length (avs X), .int 0]) → (ldet m.length Q = 0 → x = .tup [.val (.slice none 0 0), .int 5]) →
      Con Try.prog 38 [.agg [.sl A.length (mat A), .sl B.length (avs B)], .sl m.length (mat m), .sl y.length (avs y), .int h] x := by
    intro x hf x1 x2
    refine con_of_vc Try.mixed ⟨19, [], [], []⟩ Try.func38 (by decide) rfl (by simp) (by decide) hf ?_
    rw [Try.ntmps38]
    simp [go_sem]
    refine CallVC.of (cI) (by decide) ?_
    simp [go_sem]
    refine CallVC.of (cM) (by decide) ?_
    simp [go_sem]
    simp [go_sem, m0]
    simp only [m1]
    refine ⟨⟨h0, ne⟩, ?_⟩
    simp [go_sem, hE.symm, hY]
    rw [hY] at cN
    refine CallVC.of (cN) (by decide) ?_
    simp [go_sem]
    refine CallVC.of (cH) (by decide) ?_
    simp [go_sem]
    refine loop_inv ([10, 11] ++ List.range' 52 15) (fun i : Nat => [(10, .own 27 i (omat ((List.range i).map fun i => tb (fun k => (m[i]?.getD [])[k]?.getD 0 * h % 10007) (m[i]?.getD []).length))), (11, .int i)]) (fun i => i ≤ m.length) (fun i => m.length - i) 0 (by simp) (by simp [go_sem, omat]) (by simp [go_sem]) ?_
    intro i hi
    by_cases hin : i < m.length
    · have hii : (i : Int) < m.length := by omega
      have ri := hr.at hin
      have cS := l02Times_c (m[i]?.getD []) h ri.2 hh (by omega)
      have ho := omat_range_succ (fun i => tb (fun k => (m[i]?.getD [])[k]?.getD 0 * h % 10007) (m[i]?.getD []).length) i
      rw [tb_len] at ho
      simp [go_sem, hii, mat_drop hin]
      refine ⟨ne, ?_⟩
      refine CallVC.of (cS) (by decide) ?_
      simp [go_sem]
      exact ⟨by omega, by omega, i + 1, by omega, by omega, Off_reset _ _ _ (by simp), by rw [ho]; exact ⟨rfl, rfl⟩, by omega⟩
    · have e : i = m.length := by omega
      subst e
      have hii : ¬ (m.length : Int) < m.length := by omega
      rw [← hS]
      simp [go_sem, hii]
      refine CallVC.of (cF) (by decide) ?_
      simp [go_sem]
      refine CallVC.of (cU) (by decide) ?_
      simp [go_sem]
      refine loop_inv ([14, 16] ++ List.range' 76 16) (fun i : Nat => [(14, .own 27 i (omat ((List.range i).map fun k => apL (chL B.length A) (linS m h) (unR m.length k)))), (16, .int i)]) (fun i => i ≤ m.length) (fun i => m.length - i) 0 (by simp) (by simp [go_sem, omat]) (by simp [go_sem, omat_kl]) ?_
      intro i hi
      by_cases hin : i < m.length
      · have hii : (i : Int) < m.length := by omega
        have hiU : i < (unM m.length).length := by omega
        have hg := omat_get (A := unM m.length) (k := i) hiU
        have a := aU i
        have ho := omat_cols_succ m.length (chL B.length A) (linS m h) i
        rw [ur i hin, unR_len] at hg
        rw [chL_len, hl, unR_len] at a
        have une : ¬ unM m.length = [] := by intro hx; rw [hx] at hiU; simp at hiU
        simp [go_sem, hii, hg]
        refine CallVC.of (a) (by decide) ?_
        simp [go_sem]
        exact ⟨by omega, by omega, i + 1, by omega, by omega, Off_reset _ _ _ (by simp), by rw [ho]; exact ⟨rfl, rfl⟩, by omega⟩
      · have e : i = m.length := by omega
        subst e
        have hii : ¬ (m.length : Int) < m.length := by omega
        rw [← hC]
        simp [go_sem, hii]
        refine CallVC.of (cT) (by decide) ?_
        simp [go_sem]
        refine CallVC.of (cA) (by decide) ?_
        simp [go_sem]
        by_cases hz : ldet m.length Q = 0
        · have hx := x2 hz
          subst hx
          simp only [hz, if_true, ne_eq, not_true_eq_false, decide_false] at cV
          refine CallVC.of (cV) (by decide) ?_
          simp [go_sem]
        · have hx := x1 hz
          subst hx
          simp only [hz, if_false, ne_eq, not_false_eq_true, decide_true, xl] at cV
          refine CallVC.of (cV) (by decide) ?_
          simp [go_sem]
  by_cases hz : ldet m.length Q = 0
  · rw [if_pos hz]
    exact Con.n1 _ (go _ (by simp [freshOK, freshL]) (fun hb => (hb hz).elim) (fun _ => rfl))
  · rw [if_neg hz]
    exact go _ (by simp [freshOK, freshL]) (fun _ => rfl) (fun hb => (hz hb).elim)
set_option maxRecDepth 100000 in
theorem specLinearStep_c (A : List (List Int)) (B : List Int) (m : List (List Int)) (y : List Int) (h : Int) (hA : A.length ≤ 1048576) (hrA : ∀ r ∈ A, r.length ≤ 1048576) (hB : B.length ≤ 1048576) (hm : m.length ≤ 1048576) (hrm : ∀ r ∈ m, r.length ≤ 1048576) (hy : y.length ≤ 1048576) :
    Con Try.prog 38 [.agg [.sl A.length (mat A), .sl B.length (avs B)], .sl m.length (mat m), .sl y.length (avs y), .int h] (linR A B m y h) := by
  have cI := l09Is_c A B (by omega) (by omega) (fun r h => by have := hrA r h; omega)
  have cM := l01Matrix_c m (by omega) (fun r h => by have := hrm r h; omega)
  have cN := l01Numbers_c y (by omega)
  have cH := specIsNumber_c h
  by_cases hT : tabB A B = true
  · rw [hT] at cI
    by_cases hM : matB m = true
    · rw [if_pos hM] at cM
      have hM' := matB_iff.1 hM
      have h0 : 0 < m.length := by omega
      have m0 := mat_drop (xss := m) (k := 0) h0
      simp only [List.drop_zero] at m0
      have m1 : AV.sl (m[0]?.getD []).length (avs (m[0]?.getD [])) :: mat m.tail = mat m := by cases m with | nil => simp at h0 | cons x l => simp [mat]
      have ne : ¬ m = [] := by rintro rfl; simp at h0
      by_cases hE : m.length = (m[0]?.getD []).length
      · by_cases hY : y.length = m.length
        · by_cases hN : numsB y = true
          · rw [hN] at cN
            by_cases hh : 0 ≤ h ∧ h ≤ 10006
            · rw [decide_eq_true hh] at cH
              have w := specLinearStep_w A B m y h (tabB_iff.1 hT) (by omega) (by omega) (fun r hr => by have := hM'.2.2 r hr; rw [← hE] at this; exact this) hE hY (numsB_Ns hN) ⟨hh.1, by omega⟩ cI cM cN cH
              have e : linC A B m y h = if ldet m.length (linQ A B m h) = 0 then 5 else 0 := by
                unfold linC; rw [if_pos hT, if_pos hM, if_pos hE, if_pos hY, if_pos hN, if_pos hh]
              by_cases hz : ldet m.length (linQ A B m h) = 0
              · rw [if_pos hz] at w e
                rw [linR_bad 5 e (by decide)]; exact w
              · rw [if_neg hz] at w e
                have xl : (linX A B m y h).length = m.length := by simp [linX]
                unfold linR linV
                rw [e, if_pos rfl, xl]; exact w
            · rw [decide_eq_false hh] at cH
              rw [linR_bad 2 (by unfold linC; rw [if_pos hT, if_pos hM, if_pos hE, if_pos hY, if_pos hN, if_neg hh]) (by decide)]
              refine Con.n1 _ ?_
              refine con_of_vc Try.mixed ⟨19, [], [], []⟩ Try.func38 (by decide) rfl (by simp) (by decide) (by simp [freshOK, freshL, go_sem]) ?_
              rw [Try.ntmps38]
              simp [go_sem]
              refine CallVC.of (cI) (by decide) ?_
              simp [go_sem]
              refine CallVC.of (cM) (by decide) ?_
              simp [go_sem]
              simp [go_sem, m0]
              simp only [m1]
              refine ⟨⟨h0, ne⟩, ?_⟩
              simp [go_sem, hE.symm, hY]
              rw [hY] at cN
              refine CallVC.of (cN) (by decide) ?_
              simp [go_sem]
              refine CallVC.of (cH) (by decide) ?_
              simp [go_sem]
          · have hN' : numsB y = false := by simpa using hN
            rw [hN'] at cN
            rw [linR_bad 2 (by unfold linC; rw [if_pos hT, if_pos hM, if_pos hE, if_pos hY, if_neg hN]) (by decide)]
            refine Con.n1 _ ?_
            refine con_of_vc Try.mixed ⟨19, [], [], []⟩ Try.func38 (by decide) rfl (by simp) (by decide) (by simp [freshOK, freshL, go_sem]) ?_
            rw [Try.ntmps38]
            simp [go_sem]
            refine CallVC.of (cI) (by decide) ?_
            simp [go_sem]
            refine CallVC.of (cM) (by decide) ?_
            simp [go_sem]
            simp [go_sem, m0]
            simp only [m1]
            refine ⟨⟨h0, ne⟩, ?_⟩
            simp [go_sem, hE.symm, hY]
            rw [hY] at cN
            refine CallVC.of (cN) (by decide) ?_
            simp [go_sem]
        · rw [linR_bad 2 (by unfold linC; rw [if_pos hT, if_pos hM, if_pos hE, if_neg hY]) (by decide)]
          refine Con.n1 _ ?_
          refine con_of_vc Try.mixed ⟨19, [], [], []⟩ Try.func38 (by decide) rfl (by simp) (by decide) (by simp [freshOK, freshL, go_sem]) ?_
          rw [Try.ntmps38]
          simp [go_sem]
          refine CallVC.of (cI) (by decide) ?_
          simp [go_sem]
          refine CallVC.of (cM) (by decide) ?_
          simp [go_sem]
          simp [go_sem, m0]
          simp only [m1]
          refine ⟨⟨h0, ne⟩, ?_⟩
          have hYi : ¬ (y.length : Int) = m.length := by omega
          simp [go_sem, hE.symm, hYi]
      · rw [linR_bad 1 (by unfold linC; rw [if_pos hT, if_pos hM, if_neg hE]) (by decide)]
        refine Con.n1 _ ?_
        refine con_of_vc Try.mixed ⟨19, [], [], []⟩ Try.func38 (by decide) rfl (by simp) (by decide) (by simp [freshOK, freshL, go_sem]) ?_
        rw [Try.ntmps38]
        simp [go_sem]
        refine CallVC.of (cI) (by decide) ?_
        simp [go_sem]
        refine CallVC.of (cM) (by decide) ?_
        simp [go_sem]
        simp [go_sem, m0]
        simp only [m1]
        refine ⟨⟨h0, ne⟩, ?_⟩
        have hEi : ¬ (m.length : Int) = (m[0]?.getD []).length := by omega
        simp [go_sem, hEi]
    · rw [if_neg hM] at cM
      rw [linR_bad 1 (by unfold linC; rw [if_pos hT, if_neg hM]) (by decide)]
      refine Con.n1 _ ?_
      refine con_of_vc Try.mixed ⟨19, [], [], []⟩ Try.func38 (by decide) rfl (by simp) (by decide) (by simp [freshOK, freshL, go_sem]) ?_
      rw [Try.ntmps38]
      simp [go_sem]
      refine CallVC.of (cI) (by decide) ?_
      simp [go_sem]
      refine CallVC.of (cM) (by decide) ?_
      simp [go_sem]
  · have hT' : tabB A B = false := by simpa using hT
    rw [hT'] at cI
    rw [linR_bad 1 (by unfold linC; rw [if_neg hT]) (by decide)]
    refine Con.n1 _ ?_
    refine con_of_vc Try.mixed ⟨19, [], [], []⟩ Try.func38 (by decide) rfl (by simp) (by decide) (by simp [freshOK, freshL, go_sem]) ?_
    rw [Try.ntmps38]
    simp [go_sem]
    refine CallVC.of (cI) (by decide) ?_
    simp [go_sem]
theorem linV_len (A : List (List Int)) (B : List Int) (m : List (List Int)) (y : List Int) (h : Int) (hm : m.length ≤ 1048576) : (linV A B m y h).length ≤ 1048576 := by
  unfold linV
  split
  · simp [linX]; omega
  · simp
end Go.Proofs.Ytmojbncbbnjblaa


namespace Go.Proofs.Ytmojbncbbnjblaa
open Go.Abs
set_option linter.unusedVariables false
set_option linter.unusedSimpArgs false
set_option maxHeartbeats 4000000
set_option maxRecDepth 100000 in
theorem law20_c (A0 : List (List Int)) (B0 : List Int) (q1 : List (List Int)) (y2 : List Int) (n3 : Int) (hA0 : A0.length ≤ 9223372036854775807) (hr0 : ∀ r ∈ A0, r.length ≤ 9223372036854775807) (hB0 : B0.length ≤ 9223372036854775807) (hq1 : q1.length ≤ 9223372036854775807) (hr1 : ∀ r ∈ q1, r.length ≤ 9223372036854775807) (hy2 : y2.length ≤ 9223372036854775807) :
    Con Try.prog 7 [.agg [.sl A0.length (mat A0), .sl B0.length (avs B0)], .sl q1.length (mat q1), .sl y2.length (avs y2), .int n3] (.bool true) := by
  refine con_of_vc Try.mixed ⟨22, [], [44, 45, 46], []⟩ Try.func7 (by decide) rfl (by simp) (by decide) (by simp [freshOK, freshL, go_sem]) ?_
  rw [Try.ntmps7]
  simp [go_sem]
  by_cases hl2 : (1048576 : Int) < y2.length
  · have hl22 : 1048576 < y2.length := by omega
    simp [go_sem, hl2, hl22]
  have hk2 : ¬ 1048576 < y2.length := by omega
  simp [go_sem, hl2, hk2]
  have cS0 := szTableau_c A0 B0 (1048576) hA0 hr0 hB0 (by omega) (by omega)
  refine CallVC.of (cS0) (by decide) ?_
  simp [go_sem]
  by_cases hs0 : szT A0 B0 (1048576) < 0
  · simp [go_sem, hs0]
  simp [go_sem, hs0]
  have hc0 := szT_ok (A := A0) (B := B0) (left := 1048576) (by omega) (by omega)
  have hh0 := szT_hi (A := A0) (B := B0) (left := 1048576) (by omega)
  generalize hL0 : szT A0 B0 (1048576) = L0 at *
  have cS1 := szInt64SS_c q1 (L0) hq1 hr1 (by omega) (by omega)
  refine CallVC.of (cS1) (by decide) ?_
  simp [go_sem]
  by_cases hs1 : szM (L0) q1 < 0
  · simp [go_sem, hs1]
  simp [go_sem, hs1]
  have hc1 := szM_ok (A := q1) (left := L0) (by omega) (by omega)
  generalize hL1 : szM (L0) q1 = L1 at *
  have A0l : A0.length ≤ 1048576 := by omega
  have A0r : ∀ r ∈ A0, r.length ≤ 1048576 := fun r hr => by have := hc0.2 r hr; omega
  have B0l : B0.length ≤ 1048576 := by omega
  have cT0 := toTableau_c A0 B0 A0l A0r B0l
  have cQ0 := eqTableau_c A0 A0 B0 B0 hA0 hr0 hB0
  simp at cQ0
  have q1l : q1.length ≤ 1048576 := by omega
  have q1r : ∀ r ∈ q1, r.length ≤ 1048576 := fun r hr => by have := hc1.2.2 r hr; omega
  have cT1 := toInt64SS_c q1 q1l q1r
  have cQ1 := eqInt64SS_c q1 q1 (by omega) hr1
  simp at cQ1
  have y2l : y2.length ≤ 1048576 := by omega
  have cT2 := toInt64S_c y2 y2l
  have cQ2 := eqInt64S_c y2 y2 (by omega)
  simp at cQ2
  have cSp := specLinearStep_c A0 B0 q1 y2 n3 A0l A0r B0l q1l q1r y2l
  have cIm := LinearStep_c A0 B0 q1 y2 n3 A0l A0r B0l q1l q1r y2l
  have xl : (linV A0 B0 q1 y2 n3).length ≤ 1048576 := linV_len A0 B0 q1 y2 n3 q1l
  unfold linR at cSp cIm
  generalize linV A0 B0 q1 y2 n3 = xs at cSp cIm xl
  generalize linC A0 B0 q1 y2 n3 = e at cSp cIm
  have cM0 := markTableau_c A0 B0 (1) A0l A0r (by omega) (by omega)
  have cM1 := markInt64SS_c q1 (1 + sumL A0 + B0.length) q1l q1r (by omega) (by omega)
  have cM2 := markInt64S_c 2 y2 (1 + sumL A0 + B0.length + sumL q1) (by omega) (by omega)
  have p2 : ¬ (1 + (sumL A0 : Int) + (B0.length : Int) + (sumL q1 : Int) + (y2.length : Int) < 0) := by omega
  have cE := eqInt64S_c xs xs (by omega)
  have cN := markInt64S_c 2 xs 1 (by omega) (by omega)
  have cH := heldInt64S_c ((List.range xs.length).map fun (i : Nat) => 1 + (i : Int)) 1 (by omega) (by simp; omega)
  rw [held_mark, List.length_map, List.length_range] at cH
  simp at cE
  have p1 : ¬ (1 + (xs.length : Int) < 0) := by omega
  refine CallVC.of (cT0) (by decide) ?_
  simp [go_sem]
  refine CallVC.of (cT1) (by decide) ?_
  simp [go_sem]
  refine CallVC.of (cT2) (by decide) ?_
  simp [go_sem]
  refine CallVC.of (cSp) (by decide) ?_
  simp [go_sem]
  refine CallVC.of (cT0) (by decide) ?_
  simp [go_sem]
  refine CallVC.of (cT1) (by decide) ?_
  simp [go_sem]
  refine CallVC.of (cT2) (by decide) ?_
  simp [go_sem]
  refine CallVC.of (cIm) (by decide) ?_
  simp [go_sem]
  refine CallVC.of (cE) (by decide) ?_
  simp [go_sem]
  refine ⟨by kernel_rfl, ?_⟩
  refine CallD.of (cT0) (by simp [roots, rootsL]) (by decide) ?_
  simp [go_sem]
  refine CallD.of (cQ0) (by simp [roots, rootsL]) (by decide) ?_
  simp [go_sem]
  refine ⟨by kernel_rfl, ?_⟩
  simp [go_sem]
  refine CallVC.of (cT1) (by decide) ?_
  simp [go_sem]
  refine CallVC.of (cQ1) (by decide) ?_
  simp [go_sem]
  refine CallVC.of (cT2) (by decide) ?_
  simp [go_sem]
  refine CallVC.of (cQ2) (by decide) ?_
  simp [go_sem]
  refine ⟨_, _, cM0, ?_⟩
  simp [go_sem]
  refine ⟨_, _, cM1, ?_⟩
  simp [go_sem]
  refine ⟨_, _, cM2, ?_⟩
  simp [go_sem]
  simp [go_sem, p2]
  refine CallVC.of (cE) (by decide) ?_
  simp [go_sem]
  refine ⟨_, _, cN, ?_⟩
  simp [go_sem]
  refine CallVC.of (cH) (by decide) ?_
  simp [go_sem]
  simp [go_sem, p1]
  refine CallVC.of (cT0) (by decide) ?_
  simp [go_sem]
  refine CallVC.of (cT1) (by decide) ?_
  simp [go_sem]
  refine CallVC.of (cT2) (by decide) ?_
  simp [go_sem]
  refine CallVC.of (cIm) (by decide) ?_
  simp [go_sem]
  refine CallVC.of (cE) (by decide) ?_
  simp [go_sem]
  refine CallVC.of (cH) (by decide) ?_
  simp [go_sem]
  simp [go_sem, p1]
end Go.Proofs.Ytmojbncbbnjblaa

