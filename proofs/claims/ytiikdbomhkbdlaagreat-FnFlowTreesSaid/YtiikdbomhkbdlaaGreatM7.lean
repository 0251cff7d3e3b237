/- Texts of the own layer and contracts, part 7: Q16 Q17 Q18 Q19 Q20 Q21 Q22 Q23 Q24 Q25 Q26 Q30 Q31 Q32 Q33 C14 Q40 Q27 Q28 W0 E10 B0 B1 B10 B11 B12 B13 E8 B2 B3 C3 B4 B5 B6 B7 B8 B9 B14 B15 B16 R1 R2 R3 R7 R8 R9 E9 E3 E12 E27 Q36 Q35 Q37 Q38 E34 E35 E36 E0 E37 V0 Q42 V14 W31 V13 W32 W33 V15 W17 Q41 Q43 E11 N8 Q44 W34 E38 E39. -/
import Derived.Test.YtiikdbomhkbdlaaGreatM6
set_option linter.unusedSectionVars false
set_option linter.unusedVariables false
set_option linter.unusedSimpArgs false
set_option maxHeartbeats 4000000
set_option maxRecDepth 100000
namespace Go.Proofs.YtiikdbomhkbdlaaGreat
open Go.Abs
def mvS (start : List (List Int)) (c : List Int) (L : List (List (List Int))) : Nat → List (List Int)
 | 0 => start
 | i + 1 => (List.range start.length).map fun k => plusS ((mvS start c L i)[k]?.getD []) (raiS ((L[i]?.getD [])[k]?.getD [])) (c[i]?.getD 0)
def mxS (A C : List (List Int)) (j : Nat) : List (List Int) := (List.range A.length).map fun k => if k < j then C[k]?.getD [] else A[k]?.getD []
theorem mxS_zero (A C : List (List Int)) : mxS A C 0 = A := by
 refine List.ext_getElem (by simp [mxS]) fun i h1 h2 => ?_
 simp [mxS, h2]
theorem mxS_all {A C : List (List Int)} (h : C.length = A.length) : mxS A C A.length = C := by
 refine List.ext_getElem (by simp [mxS, h]) fun i h1 h2 => ?_
 simp [mxS, show i < A.length by omega, h2]
@[simp] theorem mxS_len (A C : List (List Int)) (j : Nat) : (mxS A C j).length = A.length := by simp [mxS]
theorem mxS_get {A C : List (List Int)} {j : Nat} (h : j < A.length) : (mxS A C j)[j]?.getD [] = A[j]?.getD [] := by simp [mxS, h]
theorem mxS_set {A C : List (List Int)} {j : Nat} (h : j < A.length) : (mxS A C j).set j (C[j]?.getD []) = mxS A C (j + 1) := by
 refine List.ext_getElem (by simp) fun i h1 h2 => ?_
 simp at h1
 rw [List.getElem_set]
 by_cases e : j = i
 ·subst e; simp [mxS]
 ·simp only [e, if_false, mxS, List.getElem_map, List.getElem_range]
  by_cases h3 : i < j
  ·simp [h3, show i < j + 1 by omega]
  ·simp [h3, show ¬ i < j + 1 by omega]
end Go.Proofs.YtiikdbomhkbdlaaGreat


namespace Go.Proofs.YtiikdbomhkbdlaaGreat
open Go.Abs
end Go.Proofs.YtiikdbomhkbdlaaGreat


namespace Go.Proofs.YtiikdbomhkbdlaaGreat
open Go.Abs
def tmN (i j n : Nat) : Nat := if i ≤ n then (if n < i + j then i + 1 else i) else n + 1
def tmS (a b : List Int) (i j : Nat) : List Int := tb (fun n => cv a b n (tmN i j n) % 10007) a.length
@[simp] theorem tmS_len (a b : List Int) (i j : Nat) : (tmS a b i j).length = a.length := by simp [tmS]
theorem tmS_N (a b : List Int) (i j : Nat) : Ns (tmS a b i j) := tb_N fun i _ => isN_mod _
theorem tmS_zero (a b : List Int) : tmS a b 0 0 = List.replicate a.length 0 := by
 refine List.ext_getElem (by simp) fun n h1 h2 => ?_
 simp [tmS, tb, tmN, cv]
theorem tmS_next (a b : List Int) (i j : Nat) (h : a.length ≤ i + j) : tmS a b i j = tmS a b (i + 1) 0 := by
 unfold tmS tb
 refine List.map_congr_left fun n hn => ?_
 have hn : n < a.length := by simpa using hn
 have e : tmN i j n = tmN (i + 1) 0 n := by unfold tmN; (repeat' split) <;> omega
 rw [e]
theorem tmS_end (a b : List Int) : tmS a b a.length 0 = mulS a b := by
 unfold tmS mulS tb
 refine List.map_congr_left fun n hn => ?_
 have hn : n < a.length := by simpa using hn
 have e : tmN a.length 0 n = n + 1 := by unfold tmN; split <;> omega
 rw [e]
theorem tmS_set (a b : List Int) (i j : Nat) (h : i + j < a.length) : (tmS a b i j).set (i + j) (((tmS a b i j)[i + j]?.getD 0 + a[i]?.getD 0 * b[j]?.getD 0) % 10007) = tmS a b i (j + 1) := by
 refine List.ext_getElem (by simp) fun n h1 h2 => ?_
 simp at h1
 rw [List.getElem_set]
 by_cases e : i + j = n
 ·subst e
  have e1 : tmN i j (i + j) = i := by unfold tmN; (repeat' split) <;> omega
  have e2 : tmN i (j + 1) (i + j) = i + 1 := by unfold tmN; (repeat' split) <;> omega
  have e3 : i + j - i = j := by omega
  have g := tb_get (fun n => cv a b n (tmN i j n) % 10007) h
  have g2 : (tmS a b i j)[i + j]?.getD 0 = cv a b (i + j) (tmN i j (i + j)) % 10007 := g
  simp only [if_true, g2, e1]
  simp only [tmS, tb, List.getElem_map, List.getElem_range, e2, cv, e3]
  omega
 ·have e1 : tmN i j n = tmN i (j + 1) n := by unfold tmN; (repeat' split) <;> omega
  simp only [e, if_false, tmS, tb, List.getElem_map, List.getElem_range, e1]
theorem timesSeries_c (a b : List Int) (ha : Ns a) (hb : Ns b) (hl : a.length ≤ 1048576) (hab : a.length ≤ b.length) :
  Con Tryz.prog 240 [.sl a.length (avs a), .sl b.length (avs b)] (.own 2 a.length (avs (mulS a b))) := by
 refine con_of_vc Tryz.mixed ⟨9, [], [], []⟩ Tryz.func240 (by decide) rfl (by simp) (by decide) (by simp [freshOK, freshL, go_sem]) ?_
 rw [Tryz.ntmps240]
 simp [go_sem]
 refine ⟨by omega, ?_⟩
 refine loop_inv (5 :: 6 :: 7 :: 8 :: List.range' 14 33) (fun i : Nat => [(5, .own 2 a.length (avs (tmS a b i 0))), (14, .int i)]) (fun i => i ≤ a.length) (fun i => a.length - i) 0 (by simp) (by simp [go_sem, tmS_zero, avs_repl]) (by simp [go_sem]) ?_
 intro i hi
 simp [go_sem]
 refine ⟨fun h => ?_, fun h => ?_⟩ <;> simp at h
 ·have hi2 := h
  simp [go_sem, avs_drop hi2]
  refine ⟨⟨hi2, by rintro rfl; simp at hi2⟩, ?_⟩
  refine loop_inv (5 :: 8 :: List.range' 19 27) (fun j : Nat => [(5, .own 2 a.length (avs (tmS a b i j))), (8, .int j)]) (fun j => i + j ≤ a.length) (fun j => a.length - j) 0 (by simp; omega) (by simp [go_sem]) (by simp [go_sem]) ?_
  intro j hj
  simp [go_sem]
  refine ⟨⟨by omega, by omega⟩, ?_⟩
  refine ⟨fun h => ?_, fun h => ?_⟩ <;> simp at h
  ·have k0 : i + j < a.length := by omega
   have k1 : j < b.length := by omega
   have k2 : i + j < (tmS a b i j).length := by rw [tmS_len]; exact k0
   have hset := tmS_set a b i j k0
   have tN := (tmS_N a b i j).get (i + j)
   have m1 := mul_fits (ha.get i) (hb.get j)
   have m2 : fits ((tmS a b i j)[i + j]?.getD 0 + a[i]?.getD 0 * b[j]?.getD 0) := by
    have x0 := mul_bound (ha.get i) (hb.get j)
    obtain ⟨y0, y1⟩ := tN
    exact ⟨by omega, by omega⟩
   have ij : ((i : Int) + j).toNat = i + j := by omega
   simp [go_sem, ij, avs_drop k1, avs_at k2]
   refine ⟨by kernel_rfl, ⟨by omega, by omega⟩, ⟨by omega, by omega⟩, ⟨k1, by intro e; simp [e] at k1⟩, m1, m2, ?_⟩
   refine CallD.of (num_c _ m2.1 m2.2) (by simp [roots, rootsL]) (by decide) ?_
   simp [go_sem]
   refine ⟨⟨by omega, by omega⟩, by omega, ?_⟩
   refine ⟨by kernel_rfl, ?_⟩
   simp [go_sem]
   exact ⟨by omega, j + 1, by omega, by omega, Off_reset _ _ _ (by simp), by rw [ij, avs_set, hset], by omega⟩
  ·have hx : a.length ≤ i + j := by omega
   have hn := tmS_next a b i j hx
   simp [go_sem]
   exact ⟨by omega, i + 1, by omega, by omega, (Off.reset (by intro x hx; simp at hx ⊢; omega) (by simp) (by simp [go_sem, Off_reset])), by rw [hn], by omega⟩
 ·have e : i = a.length := by omega
  subst e
  simp [go_sem]
  exact tmS_end a b
end Go.Proofs.YtiikdbomhkbdlaaGreat


namespace Go.Proofs.YtiikdbomhkbdlaaGreat
open Go.Abs
def pwS (s x : List Int) : Nat → List Int
 | 0 => s
 | n + 1 => mulS (pwS s x n) x
@[simp] theorem pwS_len (s x : List Int) : ∀ n, (pwS s x n).length = s.length
 | 0 => rfl
 | n + 1 => by rw [pwS, mulS_len, pwS_len s x n]
theorem pwS_N {s x : List Int} (h : Ns s) : ∀ n, Ns (pwS s x n)
 | 0 => h
 | n + 1 => mulS_N _ _
def teS (L : List (List Int)) (e : List Int) (s : List Int) : Nat → List Int
 | 0 => s
 | i + 1 => pwS (teS L e s i) (L[i]?.getD []) (e[i]?.getD 0).toNat
@[simp] theorem teS_len (L : List (List Int)) (e s : List Int) : ∀ i, (teS L e s i).length = s.length
 | 0 => rfl
 | i + 1 => by rw [teS, pwS_len, teS_len L e s i]
theorem teS_N {L : List (List Int)} {e s : List Int} (h : Ns s) : ∀ i, Ns (teS L e s i)
 | 0 => h
 | i + 1 => pwS_N (teS_N h i) _
theorem teS_congr {L : List (List Int)} {e e' s : List Int} : ∀ {n : Nat}, (∀ i, i < n → e[i]?.getD 0 = e'[i]?.getD 0) → teS L e s n = teS L e' s n
 | 0, _ => rfl
 | n + 1, h => by rw [teS, teS, teS_congr (fun i hi => h i (by omega)), h n (by omega)]
def unS (a : Int) : List Int := [a, 0, 0, 0, 0, 0, 0]
theorem unS_N {a : Int} (h : isN a) : Ns (unS a) := by
 intro x hx
 simp [unS] at hx
 rcases hx with rfl | rfl
 ·exact h
 ·exact ⟨by omega, by omega⟩
def teK (L : List (List Int)) (k : Key) (x : Int) : List Int := teS L [k.1, k.2.1, k.2.2] (unS x) L.length
def reS (L : List (List Int)) (n : Nat) : List (Key × Int) → Int
 | [] => 0
 | e :: es => (teK L e.1 e.2)[n]?.getD 0 + reS L n es
def voS (L : List (List Int)) (n : Nat) : List Mon → Int
 | [] => 0
 | m :: p => (teS L m.2 (unS m.1) L.length)[n]?.getD 0 + voS L n p
theorem reS_app (L : List (List Int)) (n : Nat) (a b : List (Key × Int)) : reS L n (a ++ b) = reS L n a + reS L n b := by
 induction a with
 | nil => simp [reS]
 | cons e a ih => simp [reS, ih]; omega
theorem reS_perm (L : List (List Int)) (n : Nat) {a b : List (Key × Int)} (h : a.Perm b) : reS L n a = reS L n b := by
 induction h with
 | nil => rfl
 | cons x _ ih => simp [reS, ih]
 | swap x z l => simp [reS]; omega
 | trans _ _ i1 i2 => rw [i1, i2]
theorem teK_of {L : List (List Int)} (hl : L.length ≤ 3) (m : Mon) : teK L (keyOf m.2) m.1 = teS L m.2 (unS m.1) L.length := by
 refine teS_congr (fun i hi => ?_)
 have : i = 0 ∨ i = 1 ∨ i = 2 := by omega
 rcases this with rfl | rfl | rfl <;> simp [keyOf]
theorem reS_map {L : List (List Int)} (hl : L.length ≤ 3) (n : Nat) : ∀ p : List Mon, reS L n (p.map keyM) = voS L n p
 | [] => rfl
 | m :: p => by
  rw [List.map_cons, reS, voS, reS_map hl n p]
  have := teK_of hl m
  simp only [keyM]
  rw [this]
def evS (L : List (List Int)) (p : List Mon) : List Int := tb (fun n => voS L n p % 10007) 7
@[simp] theorem evS_len (L : List (List Int)) (p : List Mon) : (evS L p).length = 7 := by simp [evS]
theorem evS_N (L : List (List Int)) (p : List Mon) : Ns (evS L p) := tb_N fun i _ => isN_mod _
end Go.Proofs.YtiikdbomhkbdlaaGreat


namespace Go.Proofs.YtiikdbomhkbdlaaGreat
open Go.Abs
theorem series_c (c : Key → Option Int) (L : List (List Int)) (T : Nat → Int) (hL : L.length ≤ 3) (hr : ∀ r ∈ L, r.length = 7 ∧ Ns r) (hc : ∀ k x, c k = some x → EOk (k, x)) (hE : ∀ es, Enum c es → ∀ n, reS L n es % 10007 = T n) :
  Con Tryz.prog 293 [.fmp c, .sl L.length (mat L)] (.own 2 7 (avs (tb T 7))) := by
 refine con_of_vc Tryz.mixed ⟨11, [], [], []⟩ Tryz.func293 (by decide) rfl (by simp) (by decide) (by simp [freshOK, freshL, go_sem]) ?_
 rw [Tryz.ntmps293]
 simp [go_sem]
 intro es hes
 have hok : ∀ e ∈ es, EOk e := fun e he => hc e.1 e.2 (hes.val e he)
 have hsum := hE es hes
 refine loop_inv (5 :: 6 :: 7 :: 8 :: 9 :: 10 :: List.range' 13 30) (fun x : List Int × Option (Key × Int) × List (Key × Int) => [(5, .own 2 7 (avs x.1)), (13, .it x.2.1 x.2.2)]) (fun x => x.1.length = 7 ∧ Ns x.1 ∧ (∀ n, n < 7 → (x.1[n]?.getD 0 + reS L n x.2.2) % 10007 = T n) ∧ ∀ e ∈ x.2.2, EOk e) (fun x => x.2.2.length) ([0, 0, 0, 0, 0, 0, 0], none, es) ?_ ?_ (by simp [go_sem]) ?_
 ·refine ⟨rfl, ?_, fun n _ => ?_, hok⟩
  ·intro x hx
   simp at hx; subst hx; exact ⟨by omega, by omega⟩
  ·have e : ([0, 0, 0, 0, 0, 0, 0] : List Int)[n]?.getD 0 = 0 := by
    rcases Nat.lt_or_ge n 7 with h | h
    ·have : n = 0 ∨ n = 1 ∨ n = 2 ∨ n = 3 ∨ n = 4 ∨ n = 5 ∨ n = 6 := by omega
     rcases this with rfl | rfl | rfl | rfl | rfl | rfl | rfl <;> rfl
    ·simp [List.getElem?_eq_none, h]
   simp only [e, Int.zero_add]
   exact hsum n
 ·simp [go_sem, avs]
 rintro ⟨o, l, rem⟩ ⟨ho, hoN, hoT, hrem⟩
 simp only at ho hoN hoT hrem
 simp [go_sem, keyAV]
 refine ⟨fun hr => ?_, fun l1 k0 k1 k2 x l2 hr2 => ?_⟩
 ·subst hr
  refine List.ext_getElem (by simp [ho]) fun n h1 h2 => ?_
  have h7 : n < 7 := by omega
  have t := hoT n h7
  have oN := hoN.get n
  simp only [reS, Int.add_zero] at t
  rw [Int.emod_eq_of_lt oN.1 (by have := oN.2; omega)] at t
  simpa [tb, h1] using t
 ·subst hr2
  have hek := hrem ((k0, k1, k2), x) (by simp)
  have hx : isN x := hek.1
  have hg : ∀ i : Nat, 0 ≤ ([k0, k1, k2] : List Int)[i]?.getD 0 ∧ ([k0, k1, k2] : List Int)[i]?.getD 0 ≤ 1000 := by
   intro i
   obtain ⟨_, a1, a2, a3, a4, a5, a6⟩ := hek
   match i with
   | 0 => exact ⟨a1, a2⟩
   | 1 => exact ⟨a3, a4⟩
   | 2 => exact ⟨a5, a6⟩
   | i + 3 => simp
  have hu := unS_N hx
  refine loop_inv (8 :: 9 :: 10 :: List.range' 25 15) (fun i : Nat => [(8, .own 2 7 (avs (teS L [k0, k1, k2] (unS x) i))), (25, .int i)]) (fun i => i ≤ L.length) (fun i => L.length - i) 0 (by simp) (by simp [go_sem, teS, unS, avs]) (by simp [go_sem]) ?_
  intro i hi
  simp [go_sem]
  refine ⟨fun h => ?_, fun h => ?_⟩ <;> simp at h
  ·have hiL := h
   have h3 : i < ([k0, k1, k2] : List Int).length := by simp; omega
   have e3 : ([.val (.int .i64 k0), .val (.int .i64 k1), .val (.int .i64 k2)] : List AV)[i]? = some (.val (.int .i64 (([k0, k1, k2] : List Int)[i]?.getD 0))) := avs_at' (xs := [k0, k1, k2]) h3
   have g := hg i
   have hy := hr (L[i]?.getD []) (by simp [hiL])
   have hs : teS L [k0, k1, k2] (unS x) (i + 1) = pwS (teS L [k0, k1, k2] (unS x) i) (L[i]?.getD []) (([k0, k1, k2] : List Int)[i]?.getD 0).toNat := rfl
   simp [go_sem, mat_drop hiL, e3]
   refine ⟨⟨hiL, by rintro rfl; simp at hiL⟩, by omega, ?_⟩
   have hteN := teS_N (L := L) (e := [k0, k1, k2]) hu i
   have htl := teS_len L [k0, k1, k2] (unS x) i
   have hul : (unS x).length = 7 := rfl
   rw [hul] at htl
   generalize teS L [k0, k1, k2] (unS x) i = te at *
   generalize ([k0, k1, k2] : List Int)[i]?.getD 0 = ki at *
   obtain ⟨m, rfl⟩ : ∃ m : Nat, ki = m := ⟨ki.toNat, by omega⟩
   simp only [Int.toNat_natCast] at hs
   refine loop_inv (8 :: List.range' 33 6) (fun t : Nat => [(8, .own 2 7 (avs (pwS te (L[i]?.getD []) t))), (33, .int t)]) (fun t => t ≤ m) (fun t => m - t) 0 (by simp) (by simp [go_sem, pwS]) (by simp [go_sem]) ?_
   intro t ht
   simp [go_sem]
   refine ⟨fun h => ?_, fun h => ?_⟩ <;> simp at h
   ·have cT := timesSeries_c (pwS te (L[i]?.getD []) t) (L[i]?.getD []) (pwS_N hteN t) hy.2 (by rw [pwS_len]; omega) (by rw [pwS_len]; omega)
    rw [pwS_len, htl] at cT
    simp [go_sem]
    refine CallVC.of (cT) (by decide) ?_
    simp [go_sem]
    exact ⟨by omega, t + 1, by omega, by omega, Off_reset _ _ _ (by simp), rfl, by omega⟩
   ·have e : t = m := by omega
    subst e
    simp [go_sem]
    exact ⟨by omega, i + 1, by omega, by omega, (Off.reset (by intro x hx; simp at hx ⊢; omega) (by simp) (by simp [go_sem, Off_reset])), by rw [hs], by omega⟩
  ·have e : i = L.length := by omega
   subst e
   have hteN := teS_N (L := L) (e := [k0, k1, k2]) hu L.length
   have htl := teS_len L [k0, k1, k2] (unS x) L.length
   have hul : (unS x).length = 7 := rfl
   rw [hul] at htl
   have hinv : ∀ n, n < 7 → ((plusS o (teS L [k0, k1, k2] (unS x) L.length) 1)[n]?.getD 0 + reS L n (l1 ++ l2)) % 10007 = T n := by
    intro n hn
    have t := hoT n hn
    have q := tb_get (fun i => (o[i]?.getD 0 + 1 % 10007 * (teS L [k0, k1, k2] (unS x) L.length)[i]?.getD 0) % 10007) (show n < o.length by omega)
    have q2 : (plusS o (teS L [k0, k1, k2] (unS x) L.length) 1)[n]?.getD 0 = (o[n]?.getD 0 + 1 % 10007 * (teS L [k0, k1, k2] (unS x) L.length)[n]?.getD 0) % 10007 := q
    rw [reS_app, reS] at t
    simp only [teK] at t
    rw [q2, reS_app, ← t]
    omega
   have cP := plus_c o (teS L [k0, k1, k2] (unS x) L.length) 1 hoN hteN ⟨by omega, by omega⟩ (by omega) (by omega)
   rw [ho, htl] at cP
   simp [go_sem]
   refine CallVC.of (cP) (by decide) ?_
   simp [go_sem]
   refine ⟨_, _, _, ⟨?_, plusS_N _ _ _, hinv, fun a b c d he => hrem _ ?_⟩, ?_, (Off.reset (by intro x hx; simp at hx ⊢; omega) (by simp) (by simp [go_sem, Off_reset])), rfl, rfl, rfl⟩
   ·rw [plusS_len, ho]
   ·rcases List.mem_append.1 he with he | he <;> simp [he]
   ·simp
end Go.Proofs.YtiikdbomhkbdlaaGreat


namespace Go.Proofs.YtiikdbomhkbdlaaGreat
open Go.Abs
theorem partSeries_c {z : Int} {p : List Mon} {L : List (List Int)} (hz : z ≤ 3) (hp : partB z p = true) (hL : (L.length : Int) = z) (hr : ∀ r ∈ L, r.length = 7 ∧ Ns r) :
  Con Tryz.prog 293 [.fmp (polF p), .sl L.length (mat L)] (.own 2 7 (avs (evS L p))) := by
 refine series_c (polF p) L (fun n => voS L n p % 10007) (by omega) hr (fun k x hk => part_entries hz hp hk) (fun es he n => ?_)
 rw [reS_perm L n (enum_perm (keys_nd hz hp) he), reS_map (by omega) n p]
def fdS (L : List (List Int)) (f : List (List Mon)) : List (List Int) := f.map (evS L)
@[simp] theorem fdS_len (L : List (List Int)) (f : List (List Mon)) : (fdS L f).length = f.length := by simp [fdS]
theorem fdS_row {L : List (List Int)} {f : List (List Mon)} : ∀ r ∈ fdS L f, r.length = 7 ∧ Ns r := by
 intro r hr
 obtain ⟨p, _, rfl⟩ := List.mem_map.1 hr
 exact ⟨evS_len L p, evS_N L p⟩
theorem fdS_take {L : List (List Int)} {f : List (List Mon)} {i : Nat} (h : i < f.length) : fdS L (f.take (i + 1)) = fdS L (f.take i) ++ [evS L (f[i]?.getD [])] := by
 rw [List.take_add_one, List.getElem?_eq_getElem h]; simp only [fdS, List.map_append, Option.toList_some, List.map_cons, List.map_nil, Option.getD_some]
theorem voS_app (L : List (List Int)) (n : Nat) (p q : List Mon) : voS L n (p ++ q) = voS L n p + voS L n q := by
 induction p with
 | nil => simp [voS]
 | cons m p ih => simp [voS, ih]; omega
theorem evS_take {L : List (List Int)} {p : List Mon} {i : Nat} (h : i < p.length) :
  tb (fun n => ((evS L (p.take i))[n]?.getD 0 + (teS L (p[i]?.getD (0, [])).2 (unS (p[i]?.getD (0, [])).1) L.length)[n]?.getD 0) % 10007) 7 = evS L (p.take (i + 1)) := by
 rw [List.take_add_one, List.getElem?_eq_getElem h]
 unfold evS
 unfold tb
 refine List.map_congr_left fun n hn => ?_
 have hn : n < 7 := by simpa using hn
 have e := tb_get (fun n => voS L n (p.take i) % 10007) hn
 unfold tb at e
 rw [e, Option.toList_some, voS_app]
 simp [voS]
theorem evS_nil (L : List (List Int)) : evS L [] = [0, 0, 0, 0, 0, 0, 0] := by
 simp [evS, voS, tb, List.range, List.range.loop]
theorem unS_times (a : Int) (h : isN a) : tb (fun i => (tb (fun i => if i = 0 then (1 : Int) else 0) 7)[i]?.getD 0 * a % 10007) 7 = unS a := by
 have : a % 10007 = a := Int.emod_eq_of_lt h.1 (by have := h.2; omega)
 simp [unS, tb, List.range, List.range.loop, this]
end Go.Proofs.YtiikdbomhkbdlaaGreat


namespace Go.Proofs.YtiikdbomhkbdlaaGreat
open Go.Abs
theorem l14ValueG_c {p : List Mon} {L : List (List Int)} (hp : ∀ m ∈ p, isN m.1 ∧ m.2.length = L.length ∧ ∀ k : Nat, 0 ≤ m.2[k]?.getD 0 ∧ m.2[k]?.getD 0 ≤ 1000000) (hpl : p.length ≤ 1000000000000) (hL : L.length ≤ 3) (hr : ∀ r ∈ L, r.length = 7 ∧ Ns r) :
  Con Tryz.prog 250 [.sl p.length (mons p), .sl L.length (mat L)] (.own 2 7 (avs (evS L p))) := by
 refine con_of_vc Tryz.mixed ⟨11, [], [], []⟩ Tryz.func250 (by decide) rfl (by simp) (by decide) (by simp [freshOK, freshL, go_sem]) ?_
 rw [Tryz.ntmps250]
 simp [go_sem]
 refine loop_inv (List.range' 6 48) (fun i : Nat => [(6, .own 2 7 (avs (evS L (p.take i)))), (7, .int i)]) (fun i => i ≤ p.length) (fun i => p.length - i) 0 (by simp) (by simp [go_sem, evS_nil, avs]) (by simp [go_sem]) ?_
 intro i hi
 simp [go_sem]
 refine ⟨fun h => ?_, fun h => ?_⟩ <;> simp at h
 ·have hif := h
  have hx : p[i]?.getD (0, []) ∈ p := by simp [h]
  have hv := evS_take (L := L) h
  obtain ⟨mN, ml, mg⟩ := hp _ hx
  simp [go_sem]
  have cU := l02Unit_c 7 0 (by omega) (by omega)
  generalize hM : p[i]?.getD (0, []) = m at *
  have cT := l02Times_c (tb (fun i => if i = 0 then (1 : Int) else 0) 7) m.1 (tb_N fun i _ => by split <;> exact ⟨by omega, by omega⟩) mN (by simp)
  rw [tb_len, unS_times _ mN] at cT
  refine ⟨by kernel_rfl, ?_⟩
  refine CallD.of (cU) (by simp [roots, rootsL]) (by decide) ?_
  simp [go_sem]
  simp [go_sem, mons_drop hif, hM]
  refine ⟨⟨hif, by rintro rfl; simp at hif⟩, ?_⟩
  refine CallD.of (cT) (by simp [roots, rootsL]) (by decide) ?_
  simp [go_sem]
  refine ⟨by kernel_rfl, ?_⟩
  simp [go_sem]
  refine loop_inv (8 :: 9 :: 10 :: List.range' 27 24) (fun k : Nat => [(8, .own 2 7 (avs (teS L m.2 (unS m.1) k))), (9, .int k)]) (fun k => k ≤ L.length) (fun k => L.length - k) 0 (by simp) (by simp [go_sem, teS]) (by simp [go_sem]) ?_
  intro k hk
  simp [go_sem]
  refine ⟨fun h => ?_, fun h => ?_⟩ <;> simp at h
  ·have hkL := h
   have hkm : k < m.2.length := by omega
   have hy := hr (L[k]?.getD []) (by simp [hkL])
   have g := mg k
   have hs : teS L m.2 (unS m.1) (k + 1) = pwS (teS L m.2 (unS m.1) k) (L[k]?.getD []) (m.2[k]?.getD 0).toNat := rfl
   have hteN := teS_N (L := L) (e := m.2) (unS_N mN) k
   have htl := teS_len L m.2 (unS m.1) k
   have hul : (unS m.1).length = 7 := rfl
   rw [hul] at htl
   generalize teS L m.2 (unS m.1) k = te at *
   simp [go_sem]
   refine loop_inv (8 :: 10 :: List.range' 33 18) (fun t : Nat => [(8, .own 2 7 (avs (pwS te (L[k]?.getD []) t))), (10, .int t)]) (fun t => (t : Int) ≤ m.2[k]?.getD 0) (fun t => (m.2[k]?.getD 0).toNat - t) 0 (by simp; omega) (by simp [go_sem, pwS]) (by simp [go_sem]) ?_
   intro t ht
   simp [go_sem, mons_drop hif, hM, avs_drop hkm]
   refine ⟨⟨hif, by rintro rfl; simp at hif⟩, ⟨hkm, by intro e; simp [e] at hkm⟩, ?_⟩
   refine ⟨fun h => ?_, fun h => ?_⟩ <;> simp at h
   ·have cT := l02Mul_c (pwS te (L[k]?.getD []) t) (L[k]?.getD []) (pwS_N hteN t) hy.2 (by rw [pwS_len]; omega) (by rw [pwS_len]; omega)
    rw [pwS_len, htl] at cT
    simp [go_sem, mat_drop hkL]
    refine ⟨⟨hkL, by rintro rfl; simp at hkL⟩, ?_⟩
    refine CallVC.of (cT) (by decide) ?_
    simp [go_sem]
    exact ⟨⟨by omega, by omega⟩, t + 1, by omega, by omega, Off_reset _ _ _ (by simp), rfl, by omega⟩
   ·have e : (m.2[k]?.getD 0).toNat = t := by omega
    rw [e] at hs
    simp [go_sem]
    exact ⟨by omega, k + 1, by omega, by omega, (Off.reset (by intro x hx; simp at hx ⊢; omega) (by simp) (by simp [go_sem, Off_reset])), by rw [hs], by omega⟩
  ·have e : k = L.length := by omega
   subst e
   have hteN := teS_N (L := L) (e := m.2) (unS_N mN) L.length
   have htl := teS_len L m.2 (unS m.1) L.length
   have hul : (unS m.1).length = 7 := rfl
   rw [hul] at htl
   have cP := l02Add_c (evS L (p.take i)) (teS L m.2 (unS m.1) L.length) (evS_N _ _) hteN (by simp) (by simp; omega)
   rw [evS_len, htl, hv] at cP
   simp [go_sem]
   refine CallVC.of (cP) (by decide) ?_
   simp [go_sem]
   exact ⟨by omega, i + 1, by omega, by omega, (Off.reset (by intro x hx; simp at hx ⊢; omega) (by simp) (by simp [go_sem, Off_reset])), rfl, by omega⟩
 ·have e : i = p.length := by omega
  subst e
  simp [go_sem]
theorem fieldSeries_c {z : Int} {f : List (List Mon)} {L : List (List Int)} (hf : FieldOk z f) (hs : Small f) (hL : (L.length : Int) = z) (hr : ∀ r ∈ L, r.length = 7 ∧ Ns r) :
  Con Tryz.prog 216 [.sl f.length (fpols f), .sl L.length (mat L)] (.own 25 f.length (omat (fdS L f))) := by
 have fl := hs.1
 have z3 := hf.hi
 refine con_of_vc Tryz.mixed ⟨8, [], [], []⟩ Tryz.func216 (by decide) rfl (by simp) (by decide) (by simp [freshOK, freshL, go_sem]) ?_
 rw [Tryz.ntmps216]
 simp [go_sem]
 refine loop_inv (5 :: 7 :: List.range' 11 11) (fun i : Nat => [(5, .own 25 i (omat (fdS L (f.take i)))), (11, .int i)]) (fun i => i ≤ f.length) (fun i => f.length - i) 0 (by simp) (by simp [go_sem, fdS, omat_nil]) (by simp [go_sem]) ?_
 intro i hi
 simp [go_sem]
 refine ⟨fun h => ?_, fun h => ?_⟩ <;> simp at h
 ·have hif := h
  have hx : f[i]?.getD [] ∈ f := by simp [h]
  have hv := fdS_take (L := L) h
  simp [go_sem, fpols_drop hif]
  refine ⟨⟨hif, by rintro rfl; simp at hif⟩, ?_⟩
  refine CallVC.of (partSeries_c z3 (hf.part _ hx) hL hr) (by decide) ?_
  simp [go_sem]
  refine ⟨⟨by omega, by omega⟩, by omega, i + 1, by omega, by omega, Off_reset _ _ _ (by simp), ?_, by omega⟩
  rw [hv, omat_app, omat_one]; simp
 ·simp [go_sem]
  have e : i = f.length := by omega
  subst e; simp
end Go.Proofs.YtiikdbomhkbdlaaGreat


namespace Go.Proofs.YtiikdbomhkbdlaaGreat
open Go.Abs
end Go.Proofs.YtiikdbomhkbdlaaGreat


namespace Go.Proofs.YtiikdbomhkbdlaaGreat
open Go.Abs
theorem colS_N {a : List (List Int)} (h : ∀ r ∈ a, Ns r) (k : Nat) : Ns (colS a k) := tb_N fun i hi => (h (a[i]?.getD []) (by simp [hi])).get k
theorem turnS_row {n : Nat} {a : List (List Int)} (h7 : a.length = n) (h : ∀ r ∈ a, Ns r) : ∀ r ∈ turnS a, r.length = n ∧ Ns r := by
 intro r hr
 obtain ⟨k, _, rfl⟩ := List.mem_map.1 hr
 exact ⟨by rw [colS_len, h7], colS_N h k⟩
end Go.Proofs.YtiikdbomhkbdlaaGreat


namespace Go.Proofs.YtiikdbomhkbdlaaGreat
open Go.Abs
end Go.Proofs.YtiikdbomhkbdlaaGreat


namespace Go.Proofs.YtiikdbomhkbdlaaGreat
open Go.Abs
def poS (y : List Int) : List (List Int) := y.map unS
@[simp] theorem poS_len (y : List Int) : (poS y).length = y.length := by simp [poS]
theorem poS_row {y : List Int} (h : Ns y) : ∀ r ∈ poS y, r.length = 7 ∧ Ns r := by
 intro r hr
 obtain ⟨a, ha, rfl⟩ := List.mem_map.1 hr
 exact ⟨rfl, unS_N (h a ha)⟩
theorem poS_take {y : List Int} {i : Nat} (h : i < y.length) : omat (poS (y.take (i + 1))) = omat (poS (y.take i)) ++ [.own 2 7 (avs (unS (y[i]?.getD 0)))] := by
 rw [List.take_add_one, List.getElem?_eq_getElem h]
 simp only [poS, List.map_append, omat_app]; rfl
def stV (y : List Int) : List (List Int) := y :: List.replicate 6 (List.replicate y.length 0)
@[simp] theorem stV_len (y : List Int) : (stV y).length = 7 := by simp [stV]
theorem stV_row {y : List Int} (h : Ns y) : ∀ r ∈ stV y, r.length = y.length ∧ Ns r := by
 intro r hr
 rcases List.mem_cons.1 hr with rfl | hr
 ·exact ⟨rfl, h⟩
 ·obtain ⟨_, rfl⟩ := List.mem_replicate.1 hr
  refine ⟨by simp, fun x hx => ?_⟩
  obtain ⟨_, rfl⟩ := List.mem_replicate.1 hx
  exact ⟨by omega, by omega⟩
theorem turn_stV (y : List Int) : turnS (stV y) = poS y := by
 refine List.ext_getElem (by simp [stV]) fun k h1 h2 => ?_
 have hk : k < y.length := by simpa using h2
 have e : (y :: List.replicate 6 (List.replicate y.length 0))[0]?.getD [] = y := rfl
 simp only [turnS, List.getElem_map, List.getElem_range, poS, colS, stV]
 simp [tb, List.range, List.range.loop, unS, hk, List.replicate]
theorem l14Start_c (y : List Int) (hy : y.length ≤ 1048576) : Con Tryz.prog 93 [.sl y.length (avs y)] (.own 25 7 (omat (stV y))) := by
 refine con_of_vc Tryz.mixed ⟨4, [], [], []⟩ Tryz.func93 (by decide) rfl (by simp) (by decide) (by simp [freshOK, freshL, go_sem]) ?_
 rw [Tryz.ntmps93]
 simp [go_sem]
 refine CallVC.of (l01Own_c y (by omega)) (by decide) ?_
 simp [go_sem]
 have e0 : ∀ k, omat (y :: List.replicate (k + 1) (List.replicate y.length 0)) = omat (y :: List.replicate k (List.replicate y.length 0)) ++ [.own 2 y.length (avs (List.replicate y.length 0))] := fun k => by
  rw [List.replicate_succ', ← List.cons_append, omat_app, omat_one]; simp
 refine loop_inv (3 :: List.range' 7 9) (fun i : Nat => [(3, .own 25 (i + 1) (omat (y :: List.replicate i (List.replicate y.length 0))))]) (fun i => i ≤ 6) (fun i => 6 - i) 0 (by simp) (by simp [go_sem, omat]) (by simp [go_sem]) ?_
 intro i hi
 simp [go_sem]
 refine ⟨fun h => ?_, fun h => ?_⟩ <;> simp at h
 ·have ht := e0 i
  simp [go_sem]
  refine ⟨⟨by omega, by omega⟩, ⟨by omega, by omega⟩, i + 1, by omega, by omega, Off_reset _ _ _ (by simp), ⟨by omega, ?_⟩⟩
  rw [ht, ← avs_repl]
 ·have e : i = 6 := by omega
  subst e
  simp [go_sem]
  rfl
end Go.Proofs.YtiikdbomhkbdlaaGreat


namespace Go.Proofs.YtiikdbomhkbdlaaGreat
open Go.Abs
def floS (f : List (List Mon)) (y : List Int) : Nat → List (List Int)
 | 0 => poS y
 | n + 1 => (List.range y.length).map fun i => ((floS f y n)[i]?.getD []).set (n + 1) (((fdS (floS f y n) f)[i]?.getD [])[n]?.getD 0 * pw ((n : Int) + 1) 10005 % 10007)
@[simp] theorem floS_len (f : List (List Mon)) (y : List Int) : ∀ n, (floS f y n).length = y.length
 | 0 => by simp [floS]
 | n + 1 => by simp [floS]
theorem set_N {a : List Int} (h : Ns a) {i : Nat} {x : Int} (hx : isN x) : Ns (a.set i x) := by
 intro z hz
 rcases List.mem_or_eq_of_mem_set hz with hz | rfl
 ·exact h z hz
 ·exact hx
theorem floS_row {f : List (List Mon)} {y : List Int} (hy : Ns y) : ∀ n, ∀ r ∈ floS f y n, r.length = 7 ∧ Ns r
 | 0 => poS_row hy
 | n + 1 => by
  intro r hr
  obtain ⟨i, hi, rfl⟩ := List.mem_map.1 hr
  have h := floS_row hy n _ (memD [] (show i < (floS f y n).length by rw [floS_len]; simpa using hi))
  exact ⟨by simp [h.1], set_N h.2 (isN_mod _)⟩
theorem flow_c {z : Int} (f : List (List Mon)) (y : List Int) (hf : FieldOk z f) (hs : Small f) (hl : (y.length : Int) = z) (hy : Ns y) :
  Con Tryz.prog 114 [.sl f.length (fpols f), .sl y.length (avs y)] (.own 25 y.length (omat (floS f y 6))) := by
 have fl := hs.1
 have z3 := hf.hi
 have fz := hf.len
 refine con_of_vc Tryz.mixed ⟨12, [], [], []⟩ Tryz.func114 (by decide) rfl (by simp) (by decide) (by simp [freshOK, freshL, go_sem]) ?_
 rw [Tryz.ntmps114]
 simp [go_sem]
 refine loop_inv (5 :: 7 :: 8 :: List.range' 15 13) (fun i : Nat => [(5, .own 25 i (omat (poS (y.take i)))), (15, .int i)]) (fun i => i ≤ y.length) (fun i => y.length - i) 0 (by simp) (by simp [go_sem, poS, omat_nil]) (by simp [go_sem]) ?_
 intro i hi
 simp [go_sem]
 refine ⟨fun h => ?_, fun h => ?_⟩ <;> simp at h
 ·have ht := poS_take h
  simp [go_sem, avs_drop h]
  refine ⟨⟨h, by rintro rfl; simp at h⟩, ⟨by omega, by omega⟩, by omega, i + 1, by omega, by omega, Off_reset _ _ _ (by simp), ⟨rfl, ?_⟩, by omega⟩
  rw [ht]; rfl
 ·have e : i = y.length := by omega
  subst e
  simp [go_sem]
  refine loop_inv (5 :: 9 :: 10 :: 11 :: List.range' 28 31) (fun k : Nat => [(5, .own 25 y.length (omat (floS f y k))), (9, .int ((k + 1 : Nat) : Int))]) (fun k => k ≤ 6) (fun k => 7 - k) 0 (by simp) (by simp [go_sem, floS]) (by simp [go_sem]) ?_
  intro k hk
  simp [go_sem]
  refine ⟨fun h => ?_, fun h => ?_⟩ <;> simp at h
  ·have fr := floS_row (f := f) hy k
   have cF := fieldSeries_c (L := floS f y k) hf hs (by rw [floS_len]; exact hl) fr
   rw [floS_len] at cF
   simp [go_sem]
   refine CallVC.of (cF) (by decide) ?_
   simp [go_sem]
   refine loop_inv (5 :: 11 :: List.range' 37 22) (fun j : Nat => [(5, .own 25 y.length (omat (mxS (floS f y k) (floS f y (k + 1)) j))), (37, .int j)]) (fun j => j ≤ y.length) (fun j => y.length - j) 0 (by simp) (by simp [go_sem, mxS_zero]) (by simp [go_sem]) ?_
   intro j hj
   simp [go_sem]
   refine ⟨fun h => ?_, fun h => ?_⟩ <;> simp at h
   ·have hjy := h
    have hM : j < (mxS (floS f y k) (floS f y (k + 1)) j).length := by rw [mxS_len, floS_len]; exact hjy
    have hj2 : j < (floS f y k).length := by rw [floS_len]; exact hjy
    have hg := omat_get hM
    rw [mxS_get hj2] at hg
    have hr := fr _ (memD [] hj2)
    have hV : j < (fdS (floS f y k) f).length := by rw [fdS_len]; omega
    have hgv := omat_get hV
    have hv := fdS_row (L := floS f y k) (f := f) _ (memD [] hV)
    have hset := omat_set (mxS (floS f y k) (floS f y (k + 1)) j) j ((floS f y (k + 1))[j]?.getD [])
    have hnext : (floS f y (k + 1))[j]?.getD [] = ((floS f y k)[j]?.getD []).set (k + 1) (((fdS (floS f y k) f)[j]?.getD [])[k]?.getD 0 * pw ((k : Int) + 1) 10005 % 10007) := by simp [floS, hjy]
    rw [mxS_set hj2] at hset
    have m1 : fits (((fdS (floS f y k) f)[j]?.getD [])[k]?.getD 0 * pw ((k : Int) + 1) 10005) := mul_fits (hv.2.get k) (isN_mod _)
    have hk7 : k < ((fdS (floS f y k) f)[j]?.getD []).length := by omega
    have hk8 : k + 1 < ((floS f y k)[j]?.getD []).length := by omega
    generalize mxS (floS f y k) (floS f y (k + 1)) j = M at *
    generalize (floS f y (k + 1))[j]?.getD [] = new at *
    generalize (floS f y k)[j]?.getD [] = old at *
    generalize (fdS (floS f y k) f)[j]?.getD [] = vs at *
    simp [go_sem, hg, hgv, avs_at hk7, avs_drop hk7]
    refine ⟨by kernel_rfl, hjy, by omega, by omega, hk7, ?_⟩
    refine CallD.of (inv_c _ ⟨by omega, by omega⟩) (by simp [roots, rootsL]) (by decide) ?_
    simp [go_sem]
    refine ⟨m1, ?_⟩
    refine CallD.of (num_c _ m1.1 m1.2) (by simp [roots, rootsL]) (by decide) ?_
    simp [go_sem]
    simp [go_sem, hg]
    refine ⟨⟨by omega, by omega⟩, hk8, ?_⟩
    refine ⟨by kernel_rfl, ?_⟩
    simp [go_sem]
    refine ⟨by omega, j + 1, by omega, by omega, Off_reset _ _ _ (by simp), ?_, by omega⟩
    rw [← hset, hnext, List.length_set, avs_set]
   ·have e : j = y.length := by omega
    have hall := mxS_all (A := floS f y k) (C := floS f y (k + 1)) (by rw [floS_len, floS_len])
    rw [floS_len] at hall
    subst e
    simp [go_sem]
    exact ⟨by omega, k + 1, by omega, by omega, (Off.reset (by intro x hx; simp at hx ⊢; omega) (by simp) (by simp [go_sem, Off_reset])), by rw [hall], by omega⟩
  ·have e : k = 6 := by omega
   subst e
   simp [go_sem]
def raiN (a : List Int) : Nat → List Int
 | 0 => a
 | j + 1 => rakS (raiN a j) (pw ((j : Int) + 1) 10005)
@[simp] theorem raiN_len (a : List Int) : ∀ j, (raiN a j).length = a.length
 | 0 => rfl
 | j + 1 => by simp [raiN, raiN_len a j]
theorem raiN_N {a : List Int} (h : Ns a) : ∀ j, Ns (raiN a j)
 | 0 => h
 | j + 1 => rakS_N _ _
def alN (f : List (List Mon)) (n i : Nat) : Nat → List Mon
 | 0 => [(1, oneE n i)]
 | j + 1 => alongL f (alN f n i j)
theorem alongL_wok {n : Nat} {B : Int} {f : List (List Mon)} {p : List Mon} (hp : ∀ m ∈ p, WOk n B m) (hl : f.length ≤ n) (hf : ∀ F ∈ f, ∀ m ∈ F, WOk n 3 m) : ∀ m ∈ alongL f p, WOk n (3 + B) m := alongGo_wok hp f 0 [] (by omega) hf (by simp)
theorem FieldOk.wok {z : Int} {f : List (List Mon)} (hf : FieldOk z f) : ∀ F ∈ f, ∀ m ∈ F, WOk f.length 3 m := fun F hF m hm => by
 have h := partB_mem (hf.part F hF) hm
 have h1 := h.lo
 have h2 := h.hi
 have h3 := h.len
 have h4 := hf.len
 exact ⟨⟨by omega, by omega⟩, by omega, h.pw⟩
theorem alN_wok {z : Int} {f : List (List Mon)} (hf : FieldOk z f) (i : Nat) : ∀ j : Nat, ∀ m ∈ alN f f.length i j, WOk f.length (1 + 3 * (j : Int)) m
 | 0, m, hm => by
  simp only [alN, List.mem_singleton] at hm
  subst hm
  exact oneE_wok.le (by omega)
 | j + 1, m, hm => (alongL_wok (alN_wok hf i j) (Nat.le_refl _) hf.wok m hm).le (by omega)
theorem alN_len {z : Int} {f : List (List Mon)} (hf : FieldOk z f) (n i : Nat) : ∀ j : Nat, (alN f n i j).length ≤ 60 ^ j
 | 0 => by simp [alN]
 | j + 1 => by
  have z3 := hf.hi
  have zl := hf.len
  have ih := alN_len hf n i j
  have h := alongGo_len (p := alN f n i j) (N := 20) f 0 [] (fun F hF => part20 z3 (hf.part F hF))
  have h2 := Nat.mul_le_mul_right (20 * (alN f n i j).length) (show f.length ≤ 3 by omega)
  rw [alN, alongL, Nat.pow_succ]
  simp only [List.length_nil, Nat.zero_add] at h
  omega
theorem alN_small {z : Int} {f : List (List Mon)} (hf : FieldOk z f) (n i : Nat) {j : Nat} (hj : j ≤ 5) : (alN f n i j).length ≤ 777600000 :=
 Nat.le_trans (alN_len hf n i j) (Nat.le_trans (Nat.pow_le_pow_right (by omega) hj) (by decide))
theorem alN_small6 {z : Int} {f : List (List Mon)} (hf : FieldOk z f) (n i : Nat) {j : Nat} (hj : j ≤ 6) : (alN f n i j).length ≤ 46656000000 :=
 Nat.le_trans (alN_len hf n i j) (Nat.le_trans (Nat.pow_le_pow_right (by omega) hj) (by decide))
def trS (f : List (List Mon)) (n i : Nat) : List (List Mon) := (List.range f.length).map fun k => if k < i then alN f f.length k (n + 1) else alN f f.length k n
@[simp] theorem trS_len (f : List (List Mon)) (n i : Nat) : (trS f n i).length = f.length := by simp [trS]
theorem trS_all (f : List (List Mon)) (n : Nat) : trS f n f.length = trS f (n + 1) 0 := by
 unfold trS
 refine List.map_congr_left fun k hk => ?_
 simp at hk
 simp [hk]
theorem trS_get {f : List (List Mon)} {n i : Nat} (h : i < f.length) : (trS f n i)[i]?.getD [] = alN f f.length i n := by simp [trS, h]
theorem trS_set {f : List (List Mon)} {n i : Nat} (h : i < f.length) : (trS f n i).set i (alN f f.length i (n + 1)) = trS f n (i + 1) := by
 refine List.ext_getElem (by simp) fun k h1 h2 => ?_
 simp at h1
 rw [List.getElem_set]
 by_cases e : i = k
 ·subst e; simp [trS]
 ·simp only [e, if_false, trS, List.getElem_map, List.getElem_range]
  by_cases h3 : k < i
  ·simp [h3, show k < i + 1 by omega]
  ·simp [h3, show ¬ k < i + 1 by omega]
theorem oprt_get {T : List (List Mon)} {k : Nat} (h : k < T.length) : (oprt T)[k]? = some (.own 62 (T[k]?.getD []).length (omons (T[k]?.getD []))) := by simp [oprt, h]
theorem oprt_set (T : List (List Mon)) (k : Nat) (p : List Mon) : (oprt T).set k (.own 62 p.length (omons p)) = oprt (T.set k p) := by simp [oprt, List.map_set]
def flsS (f : List (List Mon)) (P : List (List Int)) : Nat → List (List Int)
 | 0 => P
 | n + 1 => (List.range P.length).map fun k => tb (fun m => (((flsS f P n)[k]?.getD [])[m]?.getD 0 + (raiN (evS P (alN f f.length k (n + 1))) (n + 1))[m]?.getD 0) % 10007) 7
@[simp] theorem flsS_len (f : List (List Mon)) (P : List (List Int)) : ∀ n, (flsS f P n).length = P.length
 | 0 => rfl
 | n + 1 => by simp [flsS]
theorem flsS_row {f : List (List Mon)} {P : List (List Int)} (h : ∀ r ∈ P, r.length = 7 ∧ Ns r) : ∀ n, ∀ r ∈ flsS f P n, r.length = 7 ∧ Ns r
 | 0 => h
 | n + 1 => by
  intro r hr
  obtain ⟨i, hi, rfl⟩ := List.mem_map.1 hr
  exact ⟨by simp, tb_N fun i _ => isN_mod _⟩
end Go.Proofs.YtiikdbomhkbdlaaGreat


namespace Go.Proofs.YtiikdbomhkbdlaaGreat
open Go.Abs
theorem oprt_one (p : List Mon) : oprt [p] = [.own 62 p.length (omons p)] := rfl
theorem trS_step {f : List (List Mon)} {i : Nat} (h : i < f.length) : oprt ((trS f 0 0).take (i + 1)) = oprt ((trS f 0 0).take i) ++ [.own 62 1 [.int 1, .own 2 f.length (avs (oneE f.length i))]] := by
 have hx : i < (trS f 0 0).length := by rw [trS_len]; exact h
 rw [List.take_add_one, List.getElem?_eq_getElem hx, Option.toList_some, oprt_app]
 have : (trS f 0 0)[i] = [(1, oneE f.length i)] := by simp [trS, alN]
 rw [this, oprt_one, omons_one]; simp
theorem l14Flow_c {z : Int} (f : List (List Mon)) (start : List (List Int)) (hf : FieldOk z f) (hs : Small f) (h7 : start.length = 7) (hr : ∀ r ∈ start, (r.length : Int) = z ∧ Ns r) :
  Con Tryz.prog 144 [.agg [.int z, .sl f.length (prt f)], .sl start.length (mat start)] (.own 25 7 (omat (turnS (flsS f (turnS start) 6)))) := by
 have fl := hs.1
 have z3 := hf.hi
 have z1 := hf.lo
 have fz := hf.len
 have h0 := memD (i := 0) [] (l := start) (by omega)
 have hz := (hr _ h0).1
 have tl : (turnS start).length = f.length := by have := turnS_len start; omega
 have tr : ∀ r ∈ turnS start, r.length = 7 ∧ Ns r := turnS_row h7 (fun r h => (hr r h).2)
 have cT := l14Turn_c start (by omega) (by omega) (fun r h => by have := (hr r h).1; omega) (by omega)
 generalize turnS start = P at *
 have cO := l01Own2_c P (by omega) (fun r hr => by have := (tr r hr).1; omega)
 have sr := flsS_row (f := f) tr 6
 have sl := flsS_len f P 6
 have s0 := memD (i := 0) [] (l := flsS f P 6) (by omega)
 have s7 := (sr _ s0).1
 have cE := l14Turn_c (flsS f P 6) (by omega) (by omega) (fun r h => by have := (sr r h).1; omega) (by omega)
 rw [turnS_len, s7, sl, tl] at cE
 rw [tl] at cT cO
 obtain ⟨n, rfl⟩ : ∃ n : Nat, z = n := ⟨z.toNat, by omega⟩
 have fn : f.length = n := by omega
 refine con_of_vc Tryz.mixed ⟨13, [], [], []⟩ Tryz.func144 (by decide) rfl (by simp) (by decide) (by simp [freshOK, freshL, go_sem]) ?_
 rw [Tryz.ntmps144]
 simp [go_sem]
 refine CallVC.of (cT) (by decide) ?_
 simp [go_sem]
 refine loop_inv (6 :: 7 :: List.range' 16 15) (fun i : Nat => [(6, .own 63 i (oprt ((trS f 0 0).take i))), (7, .int i)]) (fun i => i ≤ f.length) (fun i => f.length - i) 0 (by simp) (by simp [go_sem, oprt]) (by simp [go_sem]) ?_
 intro i hi
 simp [go_sem]
 refine ⟨fun h => ?_, fun h => ?_⟩ <;> simp at h
 ·have hif : i < f.length := by omega
  have ht := trS_step hif
  have c1 := l13One_c n i (by omega) (by omega)
  rw [fn] at ht
  simp [go_sem]
  refine CallVC.of (c1) (by decide) ?_
  simp [go_sem]
  exact ⟨⟨by omega, by omega⟩, by omega, i + 1, by omega, by omega, Off_reset _ _ _ (by simp), by rw [ht]; exact ⟨rfl, rfl⟩, by omega⟩
 ·have e : i = f.length := by omega
  have tt : (trS f 0 0).take f.length = trS f 0 0 := List.take_of_length_le (by simp)
  subst e
  rw [tt]
  simp [go_sem]
  refine CallVC.of (cO) (by decide) ?_
  simp [go_sem]
  refine loop_inv (6 :: 8 :: 9 :: 10 :: 11 :: 12 :: List.range' 33 43) (fun k : Nat => [(6, .own 63 f.length (oprt (trS f k 0))), (8, .own 25 f.length (omat (flsS f P k))), (9, .int ((k + 1 : Nat) : Int))]) (fun k => k ≤ 6) (fun k => 7 - k) 0 (by simp) (by simp [go_sem, flsS]) (by simp [go_sem]) ?_
  intro k hk
  simp [go_sem]
  refine ⟨fun h => ?_, fun h => ?_⟩ <;> simp at h
  ·simp [go_sem]
   refine loop_inv (6 :: 8 :: 10 :: 11 :: 12 :: List.range' 37 39) (fun i : Nat => [(6, .own 63 f.length (oprt (trS f k i))), (8, .own 25 f.length (omat (mxS (flsS f P k) (flsS f P (k + 1)) i))), (10, .int i)]) (fun i => i ≤ f.length) (fun i => f.length - i) 0 (by simp) (by simp [go_sem, mxS_zero]) (by simp [go_sem]) ?_
   intro i hi
   simp [go_sem]
   refine ⟨fun h => ?_, fun h => ?_⟩ <;> simp at h
   ·have hif : i < f.length := by omega
    have hT : i < (trS f k i).length := by rw [trS_len]; exact hif
    have gT := oprt_get hT
    rw [trS_get hif] at gT
    have sT := oprt_set (trS f k i) i (alN f f.length i (k + 1))
    rw [trS_set hif] at sT
    have hT2 : i < (trS f k (i + 1)).length := by rw [trS_len]; exact hif
    have gT2 := oprt_get hT2
    have gE : (trS f k (i + 1))[i]?.getD [] = alN f f.length i (k + 1) := by simp [trS, hif]
    rw [gE] at gT2
    have w0 := alN_wok hf i k
    have w1 := alN_wok hf i (k + 1)
    have l0 := alN_small hf f.length i (j := k) (by omega)
    have l1 := alN_small6 hf f.length i (j := k + 1) (by omega)
    have cA := l13Along2_c f (alN f f.length i k) hf hs (fun F hF => part20 z3 (hf.part F hF)) (by omega) (by omega) w0 (by omega)
    have cV := l14ValueG_c (p := alN f f.length i (k + 1)) (L := P) (fun m hm => ⟨(w1 m hm).num, by rw [tl]; exact (w1 m hm).len, fun t => by
     have := (w1 m hm).get (by omega) t
     exact ⟨this.1, by omega⟩⟩) (by omega) (by omega) tr
    rw [tl] at cV
    have hdef : alN f f.length i (k + 1) = alongL f (alN f f.length i k) := rfl
    rw [← hdef] at cA
    have hM : i < (mxS (flsS f P k) (flsS f P (k + 1)) i).length := by rw [mxS_len, flsS_len]; omega
    have hi2 : i < (flsS f P k).length := by rw [flsS_len]; omega
    have hg := omat_get hM
    rw [mxS_get hi2] at hg
    have fr := flsS_row (f := f) tr k _ (memD [] hi2)
    have hset := omat_set (mxS (flsS f P k) (flsS f P (k + 1)) i) i ((flsS f P (k + 1))[i]?.getD [])
    rw [mxS_set hi2] at hset
    have hnext : (flsS f P (k + 1))[i]?.getD [] = tb (fun m => (((flsS f P k)[i]?.getD [])[m]?.getD 0 + (raiN (evS P (alN f f.length i (k + 1))) (k + 1))[m]?.getD 0) % 10007) 7 := by simp [flsS, show i < P.length by omega]
    have eN := evS_N P (alN f f.length i (k + 1))
    have el := evS_len P (alN f f.length i (k + 1))
    generalize trS f k i = T at *
    generalize eT2 : trS f k (i + 1) = T2 at *
    generalize mxS (flsS f P k) (flsS f P (k + 1)) i = M at *
    generalize eM2 : mxS (flsS f P k) (flsS f P (k + 1)) (i + 1) = M2 at *
    generalize (flsS f P (k + 1))[i]?.getD [] = new at *
    generalize (flsS f P k)[i]?.getD [] = old at *
    generalize evS P (alN f f.length i (k + 1)) = ev at *
    generalize alN f f.length i (k + 1) = a1 at *
    generalize alN f f.length i k = a0 at *
    simp [go_sem, gT]
    refine ⟨by kernel_rfl, hif, ?_⟩
    refine CallD.of (cA) (by simp [roots, rootsL]) (by decide) ?_
    simp [go_sem]
    refine ⟨hif, hT, ?_⟩
    refine ⟨by kernel_rfl, ?_⟩
    simp [go_sem]
    rw [sT]
    simp [go_sem, gT2]
    refine ⟨hif, ?_⟩
    refine CallVC.of (cV) (by decide) ?_
    simp [go_sem]
    refine loop_inv (11 :: 12 :: List.range' 58 9) (fun j : Nat => [(11, .own 2 7 (avs (raiN ev j))), (12, .int ((j + 1 : Nat) : Int))]) (fun j => j ≤ k + 1) (fun j => k + 1 - j) 0 (by simp) (by simp [go_sem, raiN]) (by simp [go_sem]) ?_
    intro j hj
    simp [go_sem]
    refine ⟨fun h => ?_, fun h => ?_⟩ <;> simp at h
    ·have cR := l14Raise_c (raiN ev j) (pw ((j : Int) + 1) 10005) (raiN_N eN j) (isN_mod _) (by rw [raiN_len]; omega) (by rw [raiN_len]; omega)
     rw [raiN_len, el] at cR
     simp [go_sem]
     refine CallVC.of (l01Inv_c _ ⟨by omega, by omega⟩) (by decide) ?_
     simp [go_sem]
     refine CallVC.of (cR) (by decide) ?_
     simp [go_sem]
     exact ⟨⟨by omega, by omega⟩, j + 1, by omega, by omega, Off_reset _ _ _ (by simp), rfl, by omega⟩
    ·have e : j = k + 1 := by omega
     subst e
     have cS := l02Add_c old (raiN ev (k + 1)) fr.2 (raiN_N eN _) (by omega) (by rw [raiN_len]; omega)
     have hnext2 : new = tb (fun m => (old[m]?.getD 0 + (raiN ev (k + 1))[m]?.getD 0) % 10007) old.length := by rw [fr.1]; exact hnext
     rw [raiN_len, el, ← hnext2] at cS
     have nl : new.length = old.length := by rw [hnext2]; simp
     rw [nl] at hset
     simp [go_sem, hg]
     refine ⟨hif, ?_⟩
     refine CallVC.of (cS) (by decide) ?_
     simp [go_sem]
     refine ⟨hif, hM, by omega, i + 1, by omega, by omega, (Off.reset (by intro x hx; simp at hx ⊢; omega) (by simp) (by simp [go_sem, Off_reset])), ?_⟩
     rw [eT2, eM2, ← hset]
     exact ⟨rfl, rfl, by omega⟩
   ·have e : i = f.length := by omega
    have hall := mxS_all (A := flsS f P k) (C := flsS f P (k + 1)) (by rw [flsS_len, flsS_len])
    rw [flsS_len, tl] at hall
    have tall := trS_all f k
    subst e
    simp [go_sem]
    exact ⟨by omega, k + 1, by omega, by omega, (Off.reset (by intro x hx; simp at hx ⊢; omega) (by simp) (by simp [go_sem, Off_reset])), by rw [tall], by rw [hall], by omega⟩
  ·have e : k = 6 := by omega
   subst e
   simp [go_sem]
   refine CallVC.of (cE) (by decide) ?_
   simp [go_sem]
end Go.Proofs.YtiikdbomhkbdlaaGreat


namespace Go.Proofs.YtiikdbomhkbdlaaGreat
open Go.Abs CR
def toS (a : List Int) : Ser Int := fun n => a[n]?.getD 0
def csum (A B : Nat → Int) (n : Nat) : Nat → Int
 | 0 => 0
 | m + 1 => csum A B n m + A m * B (n - m)
theorem csum_shift (A B : Nat → Int) (n : Nat) : ∀ m, csum A B (n + 1) (m + 1) = A 0 * B (n + 1) + csum (sh A) B n m
 | 0 => by simp [csum]
 | m + 1 => by
  rw [csum, csum_shift A B n m, csum]
  have : n + 1 - (m + 1) = n - m := by omega
  rw [this, Int.add_assoc]; rfl
theorem csum_all : ∀ (n : Nat) (A B : Nat → Int), csum A B n (n + 1) = cmul n A B
 | 0, A, B => by simp [csum, cmul]
 | n + 1, A, B => by rw [csum_shift, csum_all n, cmul]
theorem cv_csum (a b : List Int) (n : Nat) : ∀ m, cv a b n m = csum (toS a) (toS b) n m
 | 0 => rfl
 | m + 1 => by rw [cv, cv_csum a b n m]; rfl
abbrev c7 : Cg (Ser Int) := cgS cgI 7
theorem mulS_ser {a b : List Int} (ha : a.length = 7) : c7.r (toS (mulS a b)) (toS a * toS b) := by
 intro n hn
 show (toS (mulS a b) n) % 10007 = (cmul n (toS a) (toS b)) % 10007
 rw [← csum_all, ← cv_csum]
 have e := tb_get (fun n => cv a b n (n + 1) % 10007) (show n < a.length by omega)
 have e2 : toS (mulS a b) n = cv a b n (n + 1) % 10007 := e
 rw [e2, Int.emod_emod_of_dvd _ (Int.dvd_refl _)]
theorem pwS_ser {s x : List Int} (hs : s.length = 7) : ∀ n, c7.r (toS (pwS s x n)) (toS s * pwr (toS x) n)
 | 0 => c7.eq (mul1 _).symm
 | n + 1 => by
  refine c7.trans (mulS_ser (by rw [pwS_len, hs])) ?_
  refine c7.trans (c7.mul (pwS_ser hs n) (c7.refl _)) (c7.eq ?_)
  rw [pwr, mulA]
def toU (L : List (List Int)) : Nat → Ser Int := fun k => toS (L[k]?.getD [])
theorem teS_ser {L : List (List Int)} {e s : List Int} (hs : s.length = 7) : ∀ d, c7.r (toS (teS L e s d)) (toS s * mon (toU L) (ex e) d)
 | 0 => c7.eq (mul1 _).symm
 | d + 1 => by
  refine c7.trans (pwS_ser (by rw [teS_len, hs]) _) ?_
  refine c7.trans (c7.mul (teS_ser hs d) (c7.refl _)) (c7.eq ?_)
  rw [mon, mulA]; rfl
theorem unS_ser (a : Int) : toS (unS a) = ofI a := funext fun n => by
 show ([a, 0, 0, 0, 0, 0, 0] : List Int)[n]?.getD 0 = if n = 0 then a else 0
 match n with
 | 0 => rfl
 | 1 => rfl
 | 2 => rfl
 | 3 => rfl
 | 4 => rfl
 | 5 => rfl
 | 6 => rfl
 | n + 7 => simp
theorem voS_ser (L : List (List Int)) : ∀ p : List Mon, c7.r (fun n => voS L n p) (evM L.length (toU L) p)
 | [] => fun n hn => by
  show (0 : Int) % 10007 = (evM L.length (toU L) [] n) % 10007
  rw [evM_nil]
  cases n <;> rfl
 | m :: p => by
  rw [evM_cons, ← unS_ser]
  have h1 := teS_ser (L := L) (e := m.2) (s := unS m.1) rfl L.length
  exact c7.add h1 (voS_ser L p)
theorem evS_ser (L : List (List Int)) (p : List Mon) : c7.r (toS (evS L p)) (evM L.length (toU L) p) := by
 refine c7.trans (fun n hn => ?_) (voS_ser L p)
 have e := tb_get (fun n => voS L n p % 10007) hn
 have e2 : toS (evS L p) n = voS L n p % 10007 := e
 show toS (evS L p) n % 10007 = voS L n p % 10007
 rw [e2, Int.emod_emod_of_dvd _ (Int.dvd_refl _)]
section
variable {α : Type} [CR α]
theorem Cg.evM (c : Cg α) {d : Nat} {U V : Nat → α} (h : ∀ k, k < d → c.r (U k) (V k)) (L : List Mon) : c.r (evM d U L) (evM d V L) := c.ev h _
theorem mon_zero (U : Nat → α) {e : Nat → Nat} : ∀ {d : Nat}, (∀ j, j < d → e j = 0) → mon U e d = ofI 1
 | 0, _ => rfl
 | d + 1, h => by rw [mon, mon_zero U (fun j hj => h j (by omega)), h d (by omega), pwr, mul1]
theorem mon_one (U : Nat → α) {e : Nat → Nat} {k : Nat} (h1 : e k = 1) (h0 : ∀ j, j ≠ k → e j = 0) : ∀ {d : Nat}, k < d → mon U e d = U k
 | 0, h => by omega
 | d + 1, h => by
  rw [mon]
  by_cases hk : k = d
  ·subst hk
   rw [mon_zero U (fun j hj => h0 j (by omega)), h1, omul, pwr, pwr, omul]
  ·rw [mon_one U h1 h0 (show k < d by omega), h0 d (fun e => hk e.symm), pwr, mul1]
theorem ex_one {n k : Nat} (h : k < n) : ex (oneE n k) k = 1 ∧ ∀ j, j ≠ k → ex (oneE n k) j = 0 := by
 refine ⟨by simp [ex, oneE, h], fun j hj => ?_⟩
 unfold ex oneE
 rw [List.getElem?_set_ne (Ne.symm hj)]
 by_cases hjn : j < n
 ·simp [hjn]
 ·simp [List.getElem?_eq_none (show (List.replicate n (0 : Int)).length ≤ j by simp; omega)]
theorem evM_one (U : Nat → α) {d k : Nat} (h : k < d) : evM d U [(1, oneE d k)] = U k := by
 rw [evM_cons, evM_nil, add0, omul]
 exact mon_one U (ex_one h).1 (ex_one h).2 h
theorem pwr_of (c : Int) : ∀ n, pwr (ofI c : α) n = ofI (pwr c n)
 | 0 => rfl
 | n + 1 => by rw [pwr, pwr_of c n, pwr, ← ofMul]
theorem mon_of (U : Nat → Int) (e : Nat → Nat) : ∀ d, mon (fun k => (ofI (U k) : α)) e d = ofI (mon U e d)
 | 0 => rfl
 | d + 1 => by rw [mon, mon_of U e d, pwr_of, mon, ← ofMul]
theorem evM_of (U : Nat → Int) (d : Nat) : ∀ L : List Mon, evM d (fun k => (ofI (U k) : α)) L = ofI (evM d U L)
 | [] => rfl
 | m :: L => by
  rw [evM_cons, evM_of U d L, mon_of, evM_cons, ofAdd, ofMul]; rfl
end
theorem alN_repeat (f : List (List Mon)) (n k : Nat) : ∀ j, alN f n k j = Nat.repeat (alongL f) j [(1, oneE n k)]
 | 0 => rfl
 | j + 1 => by rw [alN, alN_repeat f n k j]; rfl
theorem FieldOk.lok {z : Int} {f : List (List Mon)} (hf : FieldOk z f) : ∀ F ∈ f, LOk f.length F := fun F hF m hm => ⟨(hf.wok F hF m hm).len, fun x hx => ((hf.wok F hF m hm).pw x hx).1⟩
theorem oneE_lok (n k : Nat) : LOk n [(1, oneE n k)] := fun m hm => by
 simp at hm; subst hm
 exact ⟨oneE_wok.len, fun x hx => (oneE_wok (n := n) (k := k).pw x hx).1⟩
theorem inv_6 : ∀ n : Nat, n < 6 → ((n + 1 : Nat) : Int) * pw ((n : Int) + 1) 10005 % 10007 = 1 := by
 have h : ∀ n ∈ List.range 6, ((n + 1 : Nat) : Int) * pw ((n : Int) + 1) 10005 % 10007 = 1 := by decide +kernel
 exact fun n hn => h n (by simpa using hn)
def ift : Nat → Int
 | 0 => 1
 | n + 1 => ift n * pw ((n : Int) + 1) 10005
theorem ift_fct : ∀ n : Nat, n ≤ 6 → ift n * fct n % 10007 = 1
 | 0, _ => by decide
 | n + 1, h => by
  have h1 := ift_fct n (by omega)
  have h2 := inv_6 n (by omega)
  have e : ift (n + 1) * fct (n + 1) = (ift n * fct n) * (((n + 1 : Nat) : Int) * pw ((n : Int) + 1) 10005) := by
   rw [ift, fct, show ((n + 1 : Nat) : Int) = (n : Int) + 1 by omega]
   generalize pw ((n : Int) + 1) 10005 = w
   ac_rfl
  rw [e, Int.mul_emod, h1, h2]; rfl
theorem floS_at {f : List (List Mon)} {y : List Int} (n : Nat) {k : Nat} (hk : k < y.length) : (floS f y (n + 1))[k]?.getD [] = ((floS f y n)[k]?.getD []).set (n + 1) (((fdS (floS f y n) f)[k]?.getD [])[n]?.getD 0 * pw ((n : Int) + 1) 10005 % 10007) := by
 simp [floS, hk]
theorem floS_keep {f : List (List Mon)} {y : List Int} {k j : Nat} (hk : k < y.length) (n : Nat) (hj : j ≤ n) : ∀ m, ((floS f y (n + m))[k]?.getD [])[j]?.getD 0 = ((floS f y n)[k]?.getD [])[j]?.getD 0
 | 0 => rfl
 | m + 1 => by
  rw [← Nat.add_assoc, floS_at (n + m) hk, List.getElem?_set_ne (by omega), floS_keep hk n hj m]
theorem floS_new {f : List (List Mon)} {y : List Int} {n k : Nat} (hy : Ns y) (hk : k < y.length) (hf : k < f.length) (hn : n < 6) : ((floS f y (n + 1))[k]?.getD [])[n + 1]?.getD 0 = (evS (floS f y n) (f[k]?.getD []))[n]?.getD 0 * pw ((n : Int) + 1) 10005 % 10007 := by
 have hr := (floS_row (f := f) hy n _ (memD [] (show k < (floS f y n).length by rw [floS_len]; exact hk))).1
 have e : (fdS (floS f y n) f)[k]?.getD [] = evS (floS f y n) (f[k]?.getD []) := by simp [fdS, hf]
 rw [floS_at n hk, e, List.getElem?_set_self (by omega)]; rfl
theorem floS_ode {z : Int} {f : List (List Mon)} {y : List Int} (hf : FieldOk z f) (hl : y.length = f.length) (hy : Ns y) : ∀ k, k < f.length → ∀ n, n < 6 → cgI.r (ofI ((n + 1 : Nat) : Int) * toU (floS f y 6) k (n + 1)) (evM f.length (toU (floS f y 6)) (f[k]?.getD []) n) := by
 intro k hk n hn
 have hky : k < y.length := by omega
 have e1 : toU (floS f y 6) k (n + 1) = (evS (floS f y n) (f[k]?.getD []))[n]?.getD 0 * pw ((n : Int) + 1) 10005 % 10007 := by
  rw [← floS_new hy hky hk hn]
  have := floS_keep (f := f) hky (n + 1) (Nat.le_refl _) (6 - (n + 1))
  rw [show n + 1 + (6 - (n + 1)) = 6 by omega] at this
  exact this
 have e2 : cgI.r ((evS (floS f y n) (f[k]?.getD []))[n]?.getD 0) (evM f.length (toU (floS f y 6)) (f[k]?.getD []) n) := by
  have h1 := evS_ser (floS f y n) (f[k]?.getD []) n (by omega)
  rw [floS_len, hl] at h1
  refine cgI.trans h1 ?_
  refine (cgS cgI (n + 1)).evM (U := toU (floS f y n)) (V := toU (floS f y 6)) (fun j hj i hi => ?_) (f[k]?.getD []) n (by omega)
  have := floS_keep (f := f) (show j < y.length by omega) n (show i ≤ n by omega) (6 - n)
  rw [show n + (6 - n) = 6 by omega] at this
  exact cgI.eq this.symm
 rw [e1]
 refine cgI.trans ?_ e2
 have h3 := inv_6 n hn
 generalize (evS (floS f y n) (f[k]?.getD []))[n]?.getD 0 = v at *
 generalize pw ((n : Int) + 1) 10005 = w at *
 show (((n + 1 : Nat) : Int) * (v * w % 10007)) % 10007 = v % 10007
 have e : ((n + 1 : Nat) : Int) * (v * w) = v * (((n + 1 : Nat) : Int) * w) := by ac_rfl
 rw [Int.mul_emod, Int.emod_emod_of_dvd _ (Int.dvd_refl _), ← Int.mul_emod, e, Int.mul_emod, h3, Int.mul_one, Int.emod_emod_of_dvd _ (Int.dvd_refl _)]
theorem poS_at {y : List Int} {k : Nat} (hk : k < y.length) : (poS y)[k]?.getD [] = unS (y[k]?.getD 0) := by simp [poS, hk]
theorem floS_is {z : Int} {f : List (List Mon)} {y : List Int} (hf : FieldOk z f) (hl : y.length = f.length) (hy : Ns y) {k n : Nat} (hk : k < f.length) (hn : n ≤ 6) :
  cgI.r (fct n * ((floS f y 6)[k]?.getD [])[n]?.getD 0) (evM f.length (fun k => y[k]?.getD 0) (alN f f.length k n)) := by
 have h := flow_is cgI (d := f.length) (N := 6) (U := toU (floS f y 6)) rfl hf.lok (floS_ode hf hl hy) n [(1, oneE f.length k)] hn (oneE_lok _ _)
 rw [evM_one _ hk, ← alN_repeat] at h
 refine cgI.trans h (cgI.evM (fun j hj => cgI.eq ?_) _)
 have := floS_keep (f := f) (show j < y.length by omega) 0 (Nat.le_refl 0) 6
 rw [Nat.zero_add] at this
 show ((floS f y 6)[j]?.getD [])[0]?.getD 0 = y[j]?.getD 0
 rw [this, floS, poS_at (by omega)]; rfl
theorem rakS_at {a : List Int} {k : Int} {n : Nat} (hn : n < a.length) : (rakS a k)[n]?.getD 0 = if n = 0 then 0 else a[n - 1]?.getD 0 * k % 10007 := tb_get _ hn
theorem raiN_at {a : List Int} (ha : a.length = 7) : ∀ t n, n < 7 → cgI.r ((raiN a t)[n]?.getD 0) (if t ≤ n then ift t * a[n - t]?.getD 0 else 0)
 | 0, n, hn => cgI.eq (by simp [raiN, ift])
 | t + 1, n, hn => by
  rw [raiN, rakS_at (by rw [raiN_len, ha]; exact hn)]
  by_cases h0 : n = 0
  ·subst h0; exact cgI.eq (by simp)
  ·have ih := raiN_at ha t (n - 1) (by omega)
   rw [if_neg h0]
   by_cases ht : t + 1 ≤ n
   ·rw [if_pos (by omega)] at ih
    rw [if_pos ht, ift, show n - (t + 1) = n - 1 - t by omega]
    have e : ift t * pw ((t : Int) + 1) 10005 * a[n - 1 - t]?.getD 0 = ift t * a[n - 1 - t]?.getD 0 * pw ((t : Int) + 1) 10005 := by generalize pw ((t : Int) + 1) 10005 = w; ac_rfl
    rw [e]
    refine cgI.trans (b := (raiN a t)[n - 1]?.getD 0 * pw ((t : Int) + 1) 10005) ?_ (cgI.mul ih (cgI.refl _))
    exact Int.emod_emod_of_dvd _ (Int.dvd_refl _)
   ·rw [if_neg (by omega)] at ih
    rw [if_neg ht]
    refine cgI.trans (b := (raiN a t)[n - 1]?.getD 0 * pw ((t : Int) + 1) 10005) (Int.emod_emod_of_dvd _ (Int.dvd_refl _)) ?_
    refine cgI.trans (cgI.mul ih (cgI.refl _)) (cgI.eq (Int.zero_mul _))
def gT (f : List (List Mon)) (P : List (List Int)) (k m t : Nat) : Int := if t ≤ m then ift t * (evS P (alN f f.length k t))[m - t]?.getD 0 else 0
theorem flsS_at {f : List (List Mon)} {P : List (List Int)} {k m : Nat} (hk : k < P.length) (hP : P.length = f.length) (hm : m < 7) : ∀ n, cgI.r (((flsS f P n)[k]?.getD [])[m]?.getD 0) (sT (gT f P k m) (n + 1))
 | 0 => by
  have h := evS_ser P (alN f f.length k 0) m hm
  rw [hP, alN, evM_one _ (by omega)] at h
  show cgI.r ((P[k]?.getD [])[m]?.getD 0) (ofI 0 + gT f P k m 0)
  rw [zadd]
  unfold gT
  rw [if_pos (by omega), ift, Int.one_mul, Nat.sub_zero]
  exact cgI.symm h
 | n + 1 => by
  rw [sT]
  have e : (flsS f P (n + 1))[k]?.getD [] = tb (fun m => (((flsS f P n)[k]?.getD [])[m]?.getD 0 + (raiN (evS P (alN f f.length k (n + 1))) (n + 1))[m]?.getD 0) % 10007) 7 := by simp [flsS, hk]
  rw [e, tb_get _ hm]
  refine cgI.trans (Int.emod_emod_of_dvd _ (Int.dvd_refl _)) ?_
  exact cgI.add (flsS_at hk hP hm n) (raiN_at (evS_len _ _) (n + 1) m hm)
theorem sT_only (g : Nat → Int) (m : Nat) : ∀ n, m < n → (∀ t, t ≠ m → g t % 10007 = 0) → cgI.r (sT g n) (g m)
 | 0, h, _ => by omega
 | n + 1, h, hz => by
  have zero : ∀ j, (∀ t, t < j → g t % 10007 = 0) → cgI.r (sT g j) 0 := by
   intro j
   induction j with
   | zero => intro _; exact cgI.refl _
   | succ j ih =>
    intro hj
    exact cgI.trans (cgI.add (ih (fun t ht => hj t (by omega))) (show cgI.r (g j) 0 from hj j (by omega))) (cgI.eq (Int.add_zero _))
  rw [sT]
  by_cases e : m = n
  ·subst e
   exact cgI.trans (cgI.add (zero m (fun t ht => hz t (by omega))) (cgI.refl _)) (cgI.eq (Int.zero_add _))
  ·have h0 : cgI.r (g n) 0 := hz n (fun x => e x.symm)
   exact cgI.trans (cgI.add (sT_only g m n (by omega) hz) h0) (cgI.eq (Int.add_zero _))
theorem evS_point {y : List Int} (p : List Mon) {j : Nat} (hj : j < 7) : cgI.r ((evS (poS y) p)[j]?.getD 0) (if j = 0 then evM y.length (fun k => y[k]?.getD 0) p else 0) := by
 have h := evS_ser (poS y) p j hj
 rw [poS_len] at h
 refine cgI.trans h ?_
 have e : c7.r (evM y.length (toU (poS y)) p) (evM y.length (fun k => (ofI (y[k]?.getD 0) : Ser Int)) p) := c7.evM (fun k hk => c7.eq (by
  show toS ((poS y)[k]?.getD []) = _
  rw [poS_at hk, unS_ser])) p
 refine cgI.trans (e j hj) (cgI.eq ?_)
 rw [evM_of]; rfl
theorem flows_agree {z : Int} {f : List (List Mon)} {y : List Int} (hf : FieldOk z f) (hl : y.length = f.length) (hy : Ns y) : floS f y 6 = flsS f (poS y) 6 := by
 refine List.ext_getElem (by simp) fun k h1 h2 => ?_
 have hk : k < y.length := by simpa using h1
 have r1 := floS_row (f := f) hy 6 _ (memD [] h1)
 have r2 := flsS_row (f := f) (poS_row hy) 6 _ (memD [] h2)
 have e1 : (floS f y 6)[k]?.getD [] = (floS f y 6)[k] := by rw [List.getElem?_eq_getElem h1]; rfl
 have e2 : (flsS f (poS y) 6)[k]?.getD [] = (flsS f (poS y) 6)[k] := by rw [List.getElem?_eq_getElem h2]; rfl
 rw [← e1, ← e2]
 refine List.ext_getElem (by rw [r1.1, r2.1]) fun m m1 m2 => ?_
 have hm : m < 7 := by rw [r1.1] at m1; exact m1
 have a1 := floS_is hf hl hy (k := k) (n := m) (by omega) (by omega)
 have a2 := flsS_at (f := f) (P := poS y) (k := k) (m := m) (by simp; exact hk) (by simp; exact hl) hm 6
 have a3 : cgI.r (sT (gT f (poS y) k m) 7) (gT f (poS y) k m m) := sT_only _ m 7 (by omega) (fun t ht => by
  unfold gT
  split
  ·have h := evS_point (y := y) (alN f f.length k t) (j := m - t) (by omega)
   rw [if_neg (by omega)] at h
   have h : (evS (poS y) (alN f f.length k t))[m - t]?.getD 0 % 10007 = 0 := h
   rw [Int.mul_emod, h]; simp
  ·rfl)
 have a4 : cgI.r (gT f (poS y) k m m) (ift m * evM f.length (fun k => y[k]?.getD 0) (alN f f.length k m)) := by
  unfold gT
  rw [if_pos (Nat.le_refl _), Nat.sub_self]
  have h := evS_point (y := y) (alN f f.length k m) (j := 0) (by omega)
  rw [if_pos rfl, hl] at h
  exact cgI.mul (cgI.refl _) h
 have a5 : cgI.r (((floS f y 6)[k]?.getD [])[m]?.getD 0) (ift m * evM f.length (fun k => y[k]?.getD 0) (alN f f.length k m)) := by
  refine cgI.trans ?_ (cgI.mul (cgI.refl (ift m)) a1)
  have h := ift_fct m (by omega)
  generalize ((floS f y 6)[k]?.getD [])[m]?.getD 0 = x
  show x % 10007 = (ift m * (fct m * x)) % 10007
  rw [← Int.mul_assoc, Int.mul_emod, h, Int.one_mul, Int.emod_emod_of_dvd _ (Int.dvd_refl _)]
 have a6 : ((floS f y 6)[k]?.getD [])[m]?.getD 0 % 10007 = ((flsS f (poS y) 6)[k]?.getD [])[m]?.getD 0 % 10007 := cgI.trans a5 (cgI.symm (cgI.trans a2 (cgI.trans a3 a4)))
 have n1 := r1.2.get m
 have n2 := r2.2.get m
 obtain ⟨x0, x1⟩ := n1
 obtain ⟨x2, x3⟩ := n2
 have a7 : ((floS f y 6)[k]?.getD [])[m]?.getD 0 = ((flsS f (poS y) 6)[k]?.getD [])[m]?.getD 0 := by omega
 rw [List.getElem?_eq_getElem m1, List.getElem?_eq_getElem m2] at a7
 exact a7
end Go.Proofs.YtiikdbomhkbdlaaGreat


namespace Go.Proofs.YtiikdbomhkbdlaaGreat
open Go.Abs
def fpE (z : Int) (f : List (List Mon)) (y : List Int) : Int := if fieldB z f = true then if vecB z y = true then 0 else 2 else 1
theorem fpE_ok {z : Int} {f : List (List Mon)} {y : List Int} (h : fpE z f y = 0) : FieldOk z f ∧ (y.length : Int) = z ∧ Ns y := by
 unfold fpE at h
 split at h
 ·rename_i hF
  split at h
  ·rename_i hV
   unfold vecB at hV
   simp only [Bool.and_eq_true, decide_eq_true_eq] at hV
   exact ⟨fieldB_iff.1 hF, hV.1, numsB_N.1 hV.2⟩
  ·simp at h
 ·simp at h
theorem chk_one (z : Int) (f : List (List Mon)) (y : List Int) : chk z f [y] = fpE z f y := by
 unfold chk fpE
 cases hV : vecB z y <;> simp [hV]
def fsX (z : Int) (f : List (List Mon)) (y : List Int) : List (List Int) := if fpE z f y = 0 then turnS (floS f y 6) else []
def fsR (z : Int) (f : List (List Mon)) (y : List Int) : AV := .tup [.own 25 (fsX z f y).length (omat (fsX z f y)), .int (fpE z f y)]
theorem flo_turn {f : List (List Mon)} {y : List Int} (y1 : 1 ≤ y.length) (hy : Ns y) (n : Nat) : (turnS (floS f y n)).length = 7 ∧ ∀ r ∈ turnS (floS f y n), r.length = y.length ∧ Ns r := by
 have sr := floS_row (f := f) hy n
 have s0 := memD (i := 0) [] (l := floS f y n) (by rw [floS_len]; omega)
 refine ⟨by rw [turnS_len, (sr _ s0).1], fun r h => ?_⟩
 have := turnS_row rfl (fun r h => (sr r h).2) r h
 rw [floS_len] at this
 exact this
theorem fsX_row {z : Int} {f : List (List Mon)} {y : List Int} (h : fpE z f y = 0) : (fsX z f y).length = 7 ∧ ∀ r ∈ fsX z f y, r.length = y.length ∧ Ns r := by
 obtain ⟨hF, hl, hN⟩ := fpE_ok h
 have z1 := hF.lo
 unfold fsX
 rw [if_pos h]
 exact flo_turn (by omega) hN 6
theorem fsX_ok (z : Int) (f : List (List Mon)) (y : List Int) : (fsX z f y).length ≤ 7 ∧ ∀ r ∈ fsX z f y, r.length ≤ 3 := by
 by_cases h : fpE z f y = 0
 ·obtain ⟨hF, hl, hN⟩ := fpE_ok h
  have z3 := hF.hi
  obtain ⟨e1, e2⟩ := fsX_row h
  exact ⟨by omega, fun r hr => by have := (e2 r hr).1; omega⟩
 ·unfold fsX
  rw [if_neg h]
  simp
theorem FlowSeries_c (z : Int) (f : List (List Mon)) (y : List Int) (hs : Small f) (hy : y.length ≤ 1048576) :
  Con Tryz.prog 20 [.agg [.int z, .sl f.length (prt f)], .sl y.length (avs y)] (fsR z f y) := by
 have cK := checkVectors_c z f [y] hs (by simp) (by simp; omega)
 have e1 : mat [y] = [.sl y.length (avs y)] := rfl
 have e2 : ([y] : List (List Int)).length = 1 := rfl
 rw [e1, e2, chk_one] at cK
 unfold fsR fsX
 have hz := @fpE_ok z f y
 generalize fpE z f y = e at *
 by_cases he : e = 0
 ·subst he
  obtain ⟨hF, hl, hN⟩ := hz rfl
  have z1 := hF.lo
  have z3 := hF.hi
  have zl := hF.len
  have cP := polynomials_c z f hF hs
  have cL := flow_c f y hF hs hl hN
  obtain ⟨t1, t2⟩ := flo_turn (f := f) (by omega) hN 6
  have sl := floS_len f y 6
  have sr := floS_row (f := f) hN 6
  have s0 := memD (i := 0) [] (l := floS f y 6) (by omega)
  have s7 := (sr _ s0).1
  have cE := turned_c (floS f y 6) (by omega) (by omega) (fun r h => by have := (sr r h).1; omega) (by omega)
  rw [sl] at cE
  rw [if_pos rfl]
  generalize turnS (floS f y 6) = X at *
  generalize floS f y 6 = E at *
  refine con_of_vc Tryz.mixed ⟨7, [], [], []⟩ Tryz.func20 (by decide) rfl (by simp) (by decide) (by simp [freshOK, freshL, go_sem]) ?_
  rw [Tryz.ntmps20]
  simp [go_sem]
  refine CallVC.of (cK) (by decide) ?_
  simp [go_sem]
  refine CallVC.of (cP) (by decide) ?_
  simp [go_sem]
  refine CallVC.of (cL) (by decide) ?_
  simp [go_sem]
  refine CallVC.of (cE) (by decide) ?_
  simp [go_sem]
 ·rw [if_neg he]
  refine Con.n1 _ ?_
  refine con_of_vc Tryz.mixed ⟨7, [], [], []⟩ Tryz.func20 (by decide) rfl (by simp) (by decide) (by simp [freshOK, freshL, go_sem]) ?_
  rw [Tryz.ntmps20]
  simp [go_sem]
  refine CallVC.of (cK) (by decide) ?_
  simp [go_sem]
  simp [go_sem, he]
theorem specFlowSeries_c (z : Int) (f : List (List Mon)) (y : List Int) (hs : Small f) (hy : y.length ≤ 1048576) :
  Con Tryz.prog 42 [.agg [.int z, .sl f.length (prt f)], .sl y.length (avs y)] (fsR z f y) := by
 have cT := l13Is_c z f hs
 have cR := l13Point_c z y (by omega)
 have hvb : (decide ((y.length : Int) = z) && numsB y) = vecB z y := rfl
 rw [hvb] at cR
 unfold fsR fsX
 have hz := @fpE_ok z f y
 have hd : fpE z f y = if fieldB z f = true then if vecB z y = true then 0 else 2 else 1 := rfl
 generalize fpE z f y = e at *
 by_cases he : e = 0
 ·subst he
  obtain ⟨hF, hl, hN⟩ := hz rfl
  have z1 := hF.lo
  have z3 := hF.hi
  have zl := hF.len
  have cU := l14Start_c y hy
  have cL := l14Flow_c f (stV y) hF hs (stV_len y) (fun r h => by rw [← hl]; have := stV_row hN r h; exact ⟨by omega, this.2⟩)
  rw [stV_len, turn_stV, ← flows_agree hF (by omega) hN] at cL
  obtain ⟨t1, t2⟩ := flo_turn (f := f) (by omega) hN 6
  rw [if_pos rfl, t1]
  generalize turnS (floS f y 6) = X at *
  generalize stV y = U at *
  cases hT : fieldB z f with
  | false => rw [hT] at hd; simp at hd
  | true =>
   cases hV : vecB z y with
   | false => rw [hT, hV] at hd; simp at hd
   | true =>
    rw [hT] at cT
    rw [hV] at cR
    refine con_of_vc Tryz.mixed ⟨6, [], [], []⟩ Tryz.func42 (by decide) rfl (by simp) (by decide) (by simp [freshOK, freshL, go_sem]) ?_
    rw [Tryz.ntmps42]
    simp [go_sem]
    refine CallVC.of (cT) (by decide) ?_
    simp [go_sem]
    refine CallVC.of (cR) (by decide) ?_
    simp [go_sem]
    refine ⟨by kernel_rfl, ?_⟩
    refine CallD.of (cU) (by simp [roots, rootsL]) (by decide) ?_
    simp [go_sem]
    refine CallD.of (cL) (by simp [roots, rootsL]) (by decide) ?_
    simp [go_sem]
    refine ⟨by kernel_rfl, ?_⟩
    simp [go_sem]
 ·rw [if_neg he]
  refine Con.n1 _ ?_
  clear hz
  cases hT : fieldB z f with
  | false =>
   rw [hT] at hd cT
   simp at hd
   subst hd
   refine con_of_vc Tryz.mixed ⟨6, [], [], []⟩ Tryz.func42 (by decide) rfl (by simp) (by decide) (by simp [freshOK, freshL, go_sem]) ?_
   rw [Tryz.ntmps42]
   simp [go_sem]
   refine CallVC.of (cT) (by decide) ?_
   simp [go_sem]
  | true =>
   cases hV : vecB z y with
   | false =>
    rw [hT, hV] at hd
    rw [hT] at cT
    rw [hV] at cR
    simp at hd
    subst hd
    refine con_of_vc Tryz.mixed ⟨6, [], [], []⟩ Tryz.func42 (by decide) rfl (by simp) (by decide) (by simp [freshOK, freshL, go_sem]) ?_
    rw [Tryz.ntmps42]
    simp [go_sem]
    refine CallVC.of (cT) (by decide) ?_
    simp [go_sem]
    refine CallVC.of (cR) (by decide) ?_
    simp [go_sem]
   | true =>
    rw [hT, hV] at hd
    simp at hd
    exact absurd hd he
end Go.Proofs.YtiikdbomhkbdlaaGreat


namespace Go.Proofs.YtiikdbomhkbdlaaGreat
open Go.Abs
end Go.Proofs.YtiikdbomhkbdlaaGreat


namespace Go.Proofs.YtiikdbomhkbdlaaGreat
open Go.Abs
theorem colS_at {a : List (List Int)} {k i : Nat} (h : i < a.length) : (colS a k)[i]?.getD 0 = (a[i]?.getD [])[k]?.getD 0 := tb_get _ h
theorem turnS_at {a : List (List Int)} {k : Nat} (h : k < (a[0]?.getD []).length) : (turnS a)[k]?.getD [] = colS a k := by simp [turnS, h]
end Go.Proofs.YtiikdbomhkbdlaaGreat


namespace Go.Proofs.YtiikdbomhkbdlaaGreat
open Go.Abs
end Go.Proofs.YtiikdbomhkbdlaaGreat


namespace Go.Proofs.YtiikdbomhkbdlaaGreat
open Go.Abs
end Go.Proofs.YtiikdbomhkbdlaaGreat


namespace Go.Proofs.YtiikdbomhkbdlaaGreat
open Go.Abs
def bys (c : List Int) : List AV := c.map fun x => .val (.int .u8 x)
@[simp] theorem bys_len (c : List Int) : (bys c).length = c.length := by simp [bys]
theorem bys_drop {c : List Int} {k : Nat} (h : k < c.length) : (bys c).drop k = .val (.int .u8 (c[k]?.getD 0)) :: bys (c.drop (k + 1)) := by
 rw [bys, ← List.map_drop, List.drop_eq_getElem_cons h, List.map_cons]; simp [h, bys]
def Byt (c : List Int) : Prop := c.length ≤ 4096 ∧ ∀ x ∈ c, 0 ≤ x ∧ x ≤ 255
theorem Byt.get {c : List Int} (h : Byt c) (k : Nat) : 0 ≤ c[k]?.getD 0 ∧ c[k]?.getD 0 ≤ 255 := by
 rcases Nat.lt_or_ge k c.length with hk | hk
 ·simp [hk]; exact h.2 _ (List.getElem_mem hk)
 ·simp [hk]
abbrev Src := Nat × Int
def srcA (c : List Int) (σ : Src) : AV := .box 176 [.sl c.length (bys c), .int σ.1, .val (.int .u64 σ.2)]
theorem srcA_eq (c : List Int) (σ : Src) : srcA c σ = .box 176 [.sl c.length (bys c), .int σ.1, .val (.int .u64 σ.2)] := rfl
def nxH (h : Int) : Int := IntKind.u64.wrap (IntKind.u64.wrap (h * 6364136223846793005) + 1442695040888963407)
def nxX (h : Int) : Int := andI IntKind.u64 (shrI IntKind.u64 (nxH h) 33) 16777215
def byV (c : List Int) (k : Nat) : Int := if k < c.length then c[k]?.getD 0 else 0
def nx1 (c : List Int) (σ : Src) (n : Int) : Int := if n < 1 then 0 else (nxX σ.2 + byV c σ.1).tmod n
def nx2 (c : List Int) (σ : Src) (n : Int) : Src := if n < 1 then σ else (if σ.1 < c.length then σ.1 + 1 else σ.1, nxH σ.2)
def SOk (σ : Src) : Prop := σ.1 ≤ 4096
theorem nx2_ok {c : List Int} (hc : Byt c) {σ : Src} (h : SOk σ) (n : Int) : SOk (nx2 c σ n) := by
 unfold SOk nx2 at *
 have := hc.1
 split
 ·exact h
 ·simp only; split <;> omega
theorem nxX_b (h : Int) : 0 ≤ nxX h ∧ nxX h ≤ 16777215 := by
 unfold nxX andI
 generalize shrI IntKind.u64 (nxH h) 33 = y
 have h1 : (BitVec.ofInt IntKind.u64.bits y &&& BitVec.ofInt IntKind.u64.bits 16777215).toNat ≤ 16777215 := by
  rw [BitVec.toNat_and]
  exact Nat.le_trans Nat.and_le_right (by decide)
 generalize (BitVec.ofInt IntKind.u64.bits y &&& BitVec.ofInt IntKind.u64.bits 16777215).toNat = m at *
 simp [IntKind.wrap, IntKind.signed, IntKind.bits]
 omega
theorem byV_b {c : List Int} (hc : Byt c) (k : Nat) : 0 ≤ byV c k ∧ byV c k ≤ 255 := by
 unfold byV
 split
 ·exact hc.get k
 ·omega
theorem nx1_b {c : List Int} (hc : Byt c) (σ : Src) {n : Int} (hn : 1 ≤ n) : 0 ≤ nx1 c σ n ∧ nx1 c σ n < n := by
 have h1 := nxX_b σ.2
 have h2 := byV_b hc σ.1
 unfold nx1
 rw [if_neg (by omega), Int.tmod_eq_emod_of_nonneg (by omega)]
 exact ⟨Int.emod_nonneg _ (by omega), Int.emod_lt_of_pos _ (by omega)⟩
theorem l01Next_c (c : List Int) (σ : Src) (n : Int) (hc : Byt c) (hs : SOk σ) : GCon Tryz.prog 161 [srcA c σ, .int n] (.int (nx1 c σ n)) [srcA c (nx2 c σ n), .any] := by
 have hx := nxX_b σ.2
 have hy := byV_b hc σ.1
 have hcl := hc.1
 unfold SOk at hs
 unfold nx1 nx2
 by_cases h0 : n < 1
 ·rw [if_pos h0, if_pos h0]
  unfold srcA
  refine gcon_of_vc Tryz.mixed ⟨6, [], [], []⟩ [4] [0] Tryz.func161 (by decide) rfl rfl (by simp) (by simp) (by decide) ?_
  rw [Tryz.ntmps161]
  simp [go_sem]
  simp [go_sem, h0]
 ·rw [if_neg h0, if_neg h0]
  unfold srcA
  have e1 : nxH σ.2 = IntKind.u64.wrap (IntKind.u64.wrap (σ.2 * 6364136223846793005) + 1442695040888963407) := rfl
  have e2 : nxX σ.2 = andI IntKind.u64 (shrI IntKind.u64 (nxH σ.2) 33) 16777215 := rfl
  generalize nxX σ.2 = x at *
  generalize nxH σ.2 = h' at *
  have n0 : ¬ n = 0 := by omega
  by_cases hk : σ.1 < c.length
  ·have hb : byV c σ.1 = c[σ.1]?.getD 0 := by unfold byV; rw [if_pos hk]
   have hne : ¬ c = [] := by rintro rfl; simp at hk
   rw [if_pos hk]
   rw [hb] at hy ⊢
   refine gcon_of_vc Tryz.mixed ⟨6, [], [], []⟩ [4] [0] Tryz.func161 (by decide) rfl rfl (by simp) (by simp) (by decide) ?_
   rw [Tryz.ntmps161]
   simp [go_sem]
   simp [go_sem, h0, ← e1, ← e2]
   refine ⟨⟨by omega, by omega⟩, by kernel_rfl, ?_⟩
   refine ⟨by kernel_rfl, ?_⟩
   simp [go_sem]
   have hD := bys_drop hk
   generalize c[σ.1]?.getD 0 = b at *
   simp [go_sem, hk, hD]
   refine ⟨by kernel_rfl, by intro e; exact hne (by simpa [bys] using e), ⟨by omega, by omega⟩, ⟨by omega, by omega⟩, ?_⟩
   refine ⟨by kernel_rfl, ?_⟩
   simp [go_sem]
   exact ⟨⟨by omega, by omega⟩, n0⟩
  ·have hb : byV c σ.1 = 0 := by unfold byV; rw [if_neg hk]
   rw [if_neg hk]
   rw [hb] at hy ⊢
   refine gcon_of_vc Tryz.mixed ⟨6, [], [], []⟩ [4] [0] Tryz.func161 (by decide) rfl rfl (by simp) (by simp) (by decide) ?_
   rw [Tryz.ntmps161]
   simp [go_sem]
   simp [go_sem, h0, ← e1, ← e2]
   refine ⟨⟨by omega, by omega⟩, by kernel_rfl, ?_⟩
   refine ⟨by kernel_rfl, ?_⟩
   simp [go_sem]
   simp [go_sem, hk]
   exact n0
theorem getI {xs : List Int} {v : Int} (h0 : 0 ≤ v) (h1 : v < xs.length) : ∃ k : Nat, v = k ∧ k < xs.length ∧ v.toNat = k := ⟨v.toNat, by omega, by omega, rfl⟩
def pk (c : List Int) (σ : Src) (xs : List Int) : Int := xs[(nx1 c σ xs.length).toNat]?.getD 0
theorem pk_mem (c : List Int) (hc : Byt c) (σ : Src) {xs : List Int} (hx : 0 < xs.length) : pk c σ xs ∈ xs := by
 have h := nx1_b hc σ (n := xs.length) (by omega)
 unfold pk
 have hk : (nx1 c σ xs.length).toNat < xs.length := by omega
 simp [hk]
theorem l01Pick_c (c : List Int) (σ : Src) (xs : List Int) (hc : Byt c) (hs : SOk σ) (hx : 0 < xs.length) (hxl : xs.length ≤ 1000) :
  GCon Tryz.prog 125 [srcA c σ, .own 2 xs.length (avs xs)] (.int (pk c σ xs)) [srcA c (nx2 c σ xs.length), .any] := by
 have cN := l01Next_c c σ xs.length hc hs
 have hb := nx1_b hc σ (n := xs.length) (by omega)
 unfold pk
 obtain ⟨k, hk, hkl, hkt⟩ := getI hb.1 hb.2
 rw [hkt]
 rw [hk] at cN
 unfold srcA at *
 refine gcon_of_vc Tryz.mixed ⟨5, [], [1000000 + 161], []⟩ [4] [0] Tryz.func125 (by decide) rfl rfl (by simp) (by simp) (by decide) ?_
 rw [Tryz.ntmps125]
 simp [go_sem]
 refine ⟨_, _, cN, ?_⟩
 simp [go_sem]
 have hA := avs_at hkl
 simp [go_sem, hA]
 exact hkl
theorem l01Frac_c (p q : Int) (hp : fits p) (hq : fits q) : Con Tryz.prog 265 [.int p, .int q] (.int (p % 10007 * pw (q % 10007) 10005 % 10007)) := by
 have hf : fits (p % 10007 * pw (q % 10007) 10005) := mul_fits (isN_mod _) (isN_mod _)
 refine con_of_vc Tryz.mixed ⟨5, [], [], []⟩ Tryz.func265 (by decide) rfl (by simp) (by decide) (by simp [freshOK, freshL, go_sem]) ?_
 rw [Tryz.ntmps265]
 simp [go_sem]
 refine CallVC.of (l01Mod_c p hp.1 hp.2) (by decide) ?_
 simp [go_sem]
 refine CallVC.of (l01Mod_c q hq.1 hq.2) (by decide) ?_
 simp [go_sem]
 refine CallVC.of (l01Inv_c _ (isN_mod q)) (by decide) ?_
 simp [go_sem]
 refine CallVC.of (l01Mul_c _ _ hf) (by decide) ?_
 simp [go_sem]
def nbV (c : List Int) (σ : Src) : Int × Src :=
 if nx1 c σ 5 = 0 then (nx1 c (nx2 c σ 5) 10007, nx2 c (nx2 c σ 5) 10007)
 else if nx1 c σ 5 = 1 then (pk c (nx2 c σ 5) [0, 1, 0, 1, 10006, 2], nx2 c (nx2 c σ 5) 6)
 else ((nx1 c (nx2 c σ 5) 15 - 7) % 10007 * pw ((1 + nx1 c (nx2 c (nx2 c σ 5) 15) 12) % 10007) 10005 % 10007, nx2 c (nx2 c (nx2 c σ 5) 15) 12)
theorem nbV_ok {c : List Int} (hc : Byt c) {σ : Src} (hs : SOk σ) : isN (nbV c σ).1 ∧ SOk (nbV c σ).2 := by
 have s1 := nx2_ok hc hs 5
 unfold nbV
 split
 ·exact ⟨nx1_b hc (nx2 c σ 5) (n := 10007) (by omega), nx2_ok hc s1 _⟩
 ·split
  ·refine ⟨?_, nx2_ok hc s1 _⟩
   have := pk_mem c hc (nx2 c σ 5) (xs := [0, 1, 0, 1, 10006, 2]) (by simp)
   simp at this
   simp only
   constructor <;> omega
  ·exact ⟨isN_mod _, nx2_ok hc (nx2_ok hc s1 _) _⟩
theorem l01Number_c (c : List Int) (σ : Src) (hc : Byt c) (hs : SOk σ) : GCon Tryz.prog 223 [srcA c σ] (.int (nbV c σ).1) [srcA c (nbV c σ).2] := by
 have s1 := nx2_ok hc hs 5
 have s2 := nx2_ok hc s1 15
 have c1 := l01Next_c c σ 5 hc hs
 have c2 := l01Next_c c (nx2 c σ 5) 10007 hc s1
 have c3 := l01Pick_c c (nx2 c σ 5) [0, 1, 0, 1, 10006, 2] hc s1 (by simp) (by simp)
 have c4 := l01Next_c c (nx2 c σ 5) 15 hc s1
 have c5 := l01Next_c c (nx2 c (nx2 c σ 5) 15) 12 hc s2
 have b4 := nx1_b hc (nx2 c σ 5) (n := 15) (by omega)
 have b5 := nx1_b hc (nx2 c (nx2 c σ 5) 15) (n := 12) (by omega)
 have c6 := l01Frac_c (nx1 c (nx2 c σ 5) 15 - 7) (1 + nx1 c (nx2 c (nx2 c σ 5) 15) 12) ⟨by omega, by omega⟩ ⟨by omega, by omega⟩
 unfold nbV
 have e3 : (([0, 1, 0, 1, 10006, 2] : List Int).length : Int) = 6 := rfl
 rw [e3] at c3
 generalize pk c (nx2 c σ 5) [0, 1, 0, 1, 10006, 2] = pv at *
 generalize nx1 c (nx2 c (nx2 c σ 5) 15) 12 = v5 at *
 generalize nx2 c (nx2 c (nx2 c σ 5) 15) 12 = t5 at *
 generalize nx1 c (nx2 c σ 5) 15 = v4 at *
 generalize nx2 c (nx2 c σ 5) 15 = t4 at *
 generalize nx2 c (nx2 c σ 5) 6 = t3 at *
 generalize nx1 c (nx2 c σ 5) 10007 = v2 at *
 generalize nx2 c (nx2 c σ 5) 10007 = t2 at *
 generalize nx1 c σ 5 = v1 at *
 generalize nx2 c σ 5 = t1 at *
 unfold srcA at *
 by_cases h0 : v1 = 0
 ·rw [if_pos h0]
  refine gcon_of_vc Tryz.mixed ⟨3, [], [1000000 + 161, 1000000 + 125], []⟩ [2] [0] Tryz.func223 (by decide) rfl rfl (by simp) (by simp) (by decide) ?_
  rw [Tryz.ntmps223]
  simp [go_sem]
  refine ⟨_, _, c1, ?_⟩
  simp [go_sem]
  simp [go_sem, h0]
  refine ⟨_, _, c2, ?_⟩
  simp [go_sem]
 ·rw [if_neg h0]
  by_cases h1 : v1 = 1
  ·rw [if_pos h1]
   refine gcon_of_vc Tryz.mixed ⟨3, [], [1000000 + 161, 1000000 + 125], []⟩ [2] [0] Tryz.func223 (by decide) rfl rfl (by simp) (by simp) (by decide) ?_
   rw [Tryz.ntmps223]
   simp [go_sem]
   refine ⟨_, _, c1, ?_⟩
   simp [go_sem]
   simp [go_sem, h0, h1]
   refine ⟨_, _, c3, ?_⟩
   simp [go_sem]
  ·rw [if_neg h1]
   refine gcon_of_vc Tryz.mixed ⟨3, [], [1000000 + 161, 1000000 + 125], []⟩ [2] [0] Tryz.func223 (by decide) rfl rfl (by simp) (by simp) (by decide) ?_
   rw [Tryz.ntmps223]
   simp [go_sem]
   refine ⟨_, _, c1, ?_⟩
   simp [go_sem]
   simp [go_sem, h0, h1]
   refine ⟨_, _, c4, ?_⟩
   simp [go_sem]
   refine ⟨⟨by omega, by omega⟩, ?_⟩
   refine ⟨_, _, c5, ?_⟩
   simp [go_sem]
   refine ⟨⟨by omega, by omega⟩, ?_⟩
   refine CallVC.of (c6) (by decide) ?_
   simp [go_sem]
theorem mod5_c (n : Int) (h0 : -9223372036854775808 ≤ n) (h1 : n ≤ 9223372036854775807) : Con Tryz.prog 40 [.int n] (.int (n % 10007)) := by
 have e := num_law n
 have b := num_low n
 refine con_of_vc Tryz.mixed ⟨3, [], [], []⟩ Tryz.func40 (by decide) rfl (by simp) (by decide) (by simp [freshOK, freshL, go_sem]) ?_
 rw [Tryz.ntmps40]
 simp [go_sem]
 simp [go_sem, e]
 omega
def lsV (f : Src → Int × Src) : Nat → Src → List Int × Src
 | 0, σ => ([], σ)
 | n + 1, σ => ((f σ).1 :: (lsV f n (f σ).2).1, (lsV f n (f σ).2).2)
theorem lsV_ok {f : Src → Int × Src} (hf : ∀ σ, SOk σ → isN (f σ).1 ∧ SOk (f σ).2) : ∀ (n : Nat) (σ : Src), SOk σ → (lsV f n σ).1.length = n ∧ Ns (lsV f n σ).1 ∧ SOk (lsV f n σ).2
 | 0, σ, h => ⟨rfl, by simp [lsV, Ns], h⟩
 | n + 1, σ, h => by
  have h1 := hf σ h
  have h2 := lsV_ok hf n _ h1.2
  refine ⟨by simp [lsV, h2.1], fun x hx => ?_, h2.2.2⟩
  rcases List.mem_cons.1 hx with rfl | hx
  ·exact h1.1
  ·exact h2.2.1 x hx
theorem l01List_c (c : List Int) (σ : Src) (n : Nat) (hc : Byt c) (hs : SOk σ) (hn : n ≤ 100000) :
  GCon Tryz.prog 243 [srcA c σ, .int n] (.own 2 n (avs (lsV (nbV c) n σ).1)) [srcA c (lsV (nbV c) n σ).2, .any] := by
 unfold srcA
 refine gcon_of_vc Tryz.mixed ⟨6, [], [1000000 + 223], []⟩ [4] [0] Tryz.func243 (by decide) rfl rfl (by simp) (by simp) (by decide) ?_
 rw [Tryz.ntmps243]
 simp [go_sem]
 refine loop_inv (0 :: 1 :: 5 :: List.range' 7 9) (fun x : List Int × Src × Nat => [(0, .box 176 [.sl c.length (bys c), .int x.2.1.1, .val (.int .u64 x.2.1.2)]), (1, .int x.2.2), (5, .own 2 x.1.length (avs x.1))]) (fun x => SOk x.2.1 ∧ x.1.length + x.2.2 = n ∧ x.1 ++ (lsV (nbV c) x.2.2 x.2.1).1 = (lsV (nbV c) n σ).1 ∧ (lsV (nbV c) x.2.2 x.2.1).2 = (lsV (nbV c) n σ).2) (fun x => x.2.2) ([], σ, n) ⟨hs, by simp, rfl, rfl⟩ (by simp [go_sem, avs]) (by simp [go_sem]) ?_
 rintro ⟨acc, τ, k⟩ ⟨h1, h2, h3, h4⟩
 simp only at h1 h2 h3 h4
 simp [go_sem]
 refine ⟨fun h => ?_, fun h => ?_⟩ <;> simp at h
 ·obtain ⟨j, rfl⟩ : ∃ j, k = j + 1 := ⟨k - 1, by omega⟩
  have cN := l01Number_c c τ hc h1
  have hok := nbV_ok hc h1
  unfold srcA at cN
  simp only [lsV] at h3 h4
  generalize nbV c τ = r at *
  simp [go_sem]
  refine ⟨_, _, cN, ?_⟩
  simp [go_sem]
  refine ⟨⟨by omega, by omega⟩, by omega, acc ++ [r.1], r.2.1, r.2.2, j, ⟨hok.2, by simp; omega, by simpa using h3, h4⟩, by omega, Off_reset _ _ _ (by simp), ?_⟩
  simp [avs]
 ·have e : k = 0 := by omega
  subst e
  simp only [lsV, List.append_nil] at h3 h4
  simp [go_sem]
  rw [← h3, ← h4]
  simp at h2
  simp [h2]
theorem l01From_r (c : List Int) (hc : Byt c) : RCon Tryz.prog 123 [.sl c.length (bys c)] (fun r o => o = [.any] ∧ ∃ h, r = srcA c (0, h)) := by
 have hcl := hc.1
 unfold srcA
 refine rcon_of_vcH Tryz.mixed ⟨5, [], [], []⟩ [] Tryz.func123 (by decide) rfl (by simp) (by simp) (by decide) ?_
 rw [Tryz.ntmps123]
 simp [go_sem]
 refine loop_inv (3 :: 4 :: List.range' 12 25) (fun x : Nat × Int => [(3, .box 176 [.sl c.length (bys c), .int 0, .val (.int .u64 x.2)]), (4, .int x.1)]) (fun x => x.1 ≤ c.length) (fun x => c.length - x.1) (0, IntKind.u64.wrap (5381 + IntKind.u64.wrap c.length)) (by simp) (by simp [go_sem]) (by simp [go_sem]) ?_
 rintro ⟨i, h⟩ hi
 simp only at hi
 by_cases hic : i < c.length
 ·have h4 : (i : Int) < 4096 := by omega
  have hne : ¬ c = [] := by rintro rfl; simp at hic
  have hD := bys_drop hic
  have hb := hc.get i
  generalize c[i]?.getD 0 = b at *
  simp [go_sem, hic, h4, hD]
  refine ⟨by kernel_rfl, by intro e; exact hne (by simpa [bys] using e), ?_⟩
  refine ⟨by kernel_rfl, ?_⟩
  simp [go_sem]
  exact ⟨⟨by omega, by omega⟩, i + 1, by omega, by omega, Off_reset _ _ _ (by simp), by omega⟩
 ·simp [go_sem, hic]
theorem likeInts_c (a b : List Int) (ha : a.length ≤ 9223372036854775807) : Con Tryz.prog 25 [.sl a.length (avs a), .sl b.length (avs b)] (.bool (decide (a = b))) := by
 by_cases hl : a.length = b.length
 ·refine con_of_vc Tryz.mixed ⟨6, [], [], []⟩ Tryz.func25 (by decide) rfl (by simp) (by decide) (by simp [freshOK, freshL, go_sem]) ?_
  rw [Tryz.ntmps25]
  simp [go_sem]
  simp [go_sem, hl]
  refine loop_inv (4 :: 5 :: List.range' 11 15) (fun i : Nat => [(5, .int i)]) (fun i => i ≤ a.length ∧ ∀ j, j < i → a[j]?.getD 0 = b[j]?.getD 0) (fun i => a.length - i) 0 (by simp) (by simp [go_sem]) (by simp [go_sem]) ?_
  rintro i ⟨hi, hj⟩
  simp [go_sem]
  refine ⟨fun h => ?_, fun h => ?_⟩ <;> simp at h
  ·have hia : i < a.length := by omega
   have hib : i < b.length := by omega
   have na : ¬ a = [] := by rintro rfl; simp at hia
   have nb : ¬ b = [] := by rintro rfl; simp at hib
   simp [go_sem, avs_drop hia, avs_drop hib]
   refine ⟨by kernel_rfl, ⟨hib, na⟩, ⟨hib, nb⟩, ?_⟩
   refine ⟨by kernel_rfl, ?_⟩
   simp [go_sem]
   refine ⟨fun h2 => ?_, fun h2 => ?_⟩ <;> simp at h2
   ·have e : ¬ a = b := fun e => h2 (by rw [e])
    simp [go_sem, e]
   ·simp [go_sem]
    refine ⟨by omega, i + 1, ⟨by omega, fun j hj2 => ?_⟩, by omega, Off_reset _ _ _ (by simp), by omega⟩
    rcases Nat.lt_or_ge j i with h3 | h3
    ·exact hj j h3
    ·have : j = i := by omega
     subst this
     exact h2
  ·have e : a = b := by
    refine List.ext_getElem hl fun k h1 h2 => ?_
    have := hj k (by omega)
    simpa [h1, h2] using this
   simp [go_sem, e]
 ·have e : ¬ a = b := fun e => hl (by rw [e])
  have hl2 : ¬ (a.length : Int) = b.length := by omega
  refine con_of_vc Tryz.mixed ⟨6, [], [], []⟩ Tryz.func25 (by decide) rfl (by simp) (by decide) (by simp [freshOK, freshL, go_sem]) ?_
  rw [Tryz.ntmps25]
  simp [go_sem]
  simp [go_sem, hl2, e]
def tm5 (a : List Int) (k : Int) : List Int := a.map fun x => x * k % 10007
@[simp] theorem tm5_len (a : List Int) (k : Int) : (tm5 a k).length = a.length := by simp [tm5]
theorem tm5_N (a : List Int) (k : Int) : Ns (tm5 a k) := fun x hx => by
 obtain ⟨y, _, rfl⟩ := List.mem_map.1 hx
 exact isN_mod _
theorem tm5_take {a : List Int} {k : Int} {i : Nat} (h : i < a.length) : tm5 (a.take (i + 1)) k = tm5 (a.take i) k ++ [a[i]?.getD 0 * k % 10007] := by
 rw [tm5, tm5, List.take_add_one, List.map_append, List.getElem?_eq_getElem h]; rfl
def pl5 (a b : List Int) : List Int := (List.range a.length).map fun i => (a[i]?.getD 0 + b[i]?.getD 0) % 10007
@[simp] theorem pl5_len (a b : List Int) : (pl5 a b).length = a.length := by simp [pl5]
theorem pl5_get {a b : List Int} {i : Nat} (h : i < a.length) : (pl5 a b)[i]?.getD 0 = (a[i]?.getD 0 + b[i]?.getD 0) % 10007 := by simp [pl5, h]
theorem pl5_take {a b : List Int} {i : Nat} (h : i < a.length) : (pl5 a b).take (i + 1) = (pl5 a b).take i ++ [(a[i]?.getD 0 + b[i]?.getD 0) % 10007] := by
 have hl : i < (pl5 a b).length := by simpa using h
 rw [List.take_add_one, List.getElem?_eq_getElem hl]
 simp [pl5]
theorem times5_c (a : List Int) (k : Int) (ha : a.length ≤ 1048576) (hN : Ns a) (hk : isN k) : Con Tryz.prog 49 [.sl a.length (avs a), .int k] (.own 2 a.length (avs (tm5 a k))) := by
 refine con_of_vc Tryz.mixed ⟨7, [], [], []⟩ Tryz.func49 (by decide) rfl (by simp) (by decide) (by simp [freshOK, freshL, go_sem]) ?_
 rw [Tryz.ntmps49]
 simp [go_sem]
 refine loop_inv (5 :: 6 :: List.range' 8 16) (fun i : Nat => [(5, .own 2 i (avs (tm5 (a.take i) k))), (6, .int i)]) (fun i => i ≤ a.length) (fun i => a.length - i) 0 (by simp) (by simp [go_sem, tm5, avs]) (by simp [go_sem]) ?_
 intro i hi
 simp [go_sem]
 refine ⟨fun h => ?_, fun h => ?_⟩ <;> simp at h
 ·have hif := h
  have hf := mul_fits (hN.get i) hk
  have ht := tm5_take (k := k) hif
  simp [go_sem, avs_drop hif]
  refine ⟨⟨hif, by rintro rfl; simp at hif⟩, hf, ?_⟩
  refine CallVC.of (mod5_c _ hf.1 hf.2) (by decide) ?_
  simp [go_sem]
  refine ⟨⟨by omega, by omega⟩, by omega, i + 1, by omega, by omega, Off_reset _ _ _ (by simp), ?_, by omega⟩
  rw [ht]
  simp [avs]
 ·have e : i = a.length := by omega
  subst e
  simp [go_sem]
theorem plus5_c (a b : List Int) (ha : a.length ≤ 1048576) (hab : a.length = b.length) (hN : Ns a) (hM : Ns b) : Con Tryz.prog 48 [.sl a.length (avs a), .sl b.length (avs b)] (.own 2 a.length (avs (pl5 a b))) := by
 refine con_of_vc Tryz.mixed ⟨7, [], [], []⟩ Tryz.func48 (by decide) rfl (by simp) (by decide) (by simp [freshOK, freshL, go_sem]) ?_
 rw [Tryz.ntmps48]
 simp [go_sem]
 refine loop_inv (5 :: 6 :: List.range' 8 25) (fun i : Nat => [(5, .own 2 i (avs ((pl5 a b).take i))), (6, .int i)]) (fun i => i ≤ a.length) (fun i => a.length - i) 0 (by simp) (by simp [go_sem, avs]) (by simp [go_sem]) ?_
 intro i hi
 by_cases hif : i < a.length
 ·have hib : i < b.length := by omega
  have hf := add_fits (hN.get i) (hM.get i)
  have ht := pl5_take (b := b) hif
  have hD := avs_drop hif
  have hE := avs_drop hib
  rw [List.getD_eq_getElem?_getD] at hD hE
  have na : ¬ a = [] := by rintro rfl; simp at hif
  have nb : ¬ b = [] := by rintro rfl; simp at hib
  generalize a[i]?.getD 0 = u at *
  generalize b[i]?.getD 0 = v at *
  simp [go_sem, hif, hib, hD, hE]
  refine ⟨by kernel_rfl, na, nb, hf, ?_⟩
  refine CallD.of (mod5_c _ hf.1 hf.2) (by simp [roots, rootsL]) (by decide) ?_
  simp [go_sem]
  refine ⟨⟨by omega, by omega, by omega⟩, ?_⟩
  refine ⟨by kernel_rfl, ?_⟩
  simp [go_sem]
  refine ⟨by omega, i + 1, by omega, by omega, Off_reset _ _ _ (by simp), ?_, by omega⟩
  rw [ht]
  simp [avs]
 ·have e : i = a.length := by omega
  subst e
  simp [go_sem]
  rw [List.take_of_length_le (by simp)]
end Go.Proofs.YtiikdbomhkbdlaaGreat


namespace Go.Proofs.YtiikdbomhkbdlaaGreat
open Go.Abs
end Go.Proofs.YtiikdbomhkbdlaaGreat


namespace Go.Proofs.YtiikdbomhkbdlaaGreat
abbrev Mx := Nat → Nat → Int
def sgd (i : Nat) : Int := if i % 2 = 0 then 1 else -1
theorem sgd_succ (i : Nat) : sgd (i + 1) = - sgd i := by
 unfold sgd
 by_cases h : i % 2 = 0
 ·rw [if_pos h, if_neg (by omega)]
 ·rw [if_neg h, if_pos (by omega)]; rfl
def dsum (f : Nat → Int) : Nat → Int
 | 0 => 0
 | n + 1 => dsum f n + f n
theorem dsum_congr {f g : Nat → Int} : ∀ {n : Nat}, (∀ i, i < n → f i = g i) → dsum f n = dsum g n
 | 0, _ => rfl
 | n + 1, h => by rw [dsum, dsum, dsum_congr (fun i hi => h i (by omega)), h n (by omega)]
theorem dsum_lin (f g : Nat → Int) (k : Int) : ∀ n : Nat, dsum (fun i => f i + k * g i) n = dsum f n + k * dsum g n
 | 0 => by simp [dsum]
 | n + 1 => by rw [dsum, dsum, dsum, dsum_lin f g k n, Int.mul_add]; omega
theorem dsum_zero {f : Nat → Int} : ∀ {n : Nat}, (∀ i, i < n → f i = 0) → dsum f n = 0
 | 0, _ => rfl
 | n + 1, h => by rw [dsum, dsum_zero (fun i hi => h i (by omega)), h n (by omega)]; rfl
theorem dsum_one {f : Nat → Int} {k : Nat} : ∀ {n : Nat}, k < n → (∀ i, i < n → i ≠ k → f i = 0) → dsum f n = f k
 | 0, h, _ => by omega
 | n + 1, h, hz => by
  rw [dsum]
  by_cases e : k = n
  ·subst e
   rw [dsum_zero (fun i hi => hz i (by omega) (by omega)), Int.zero_add]
  ·rw [dsum_one (n := n) (by omega) (fun i hi hne => hz i (by omega) hne), hz n (by omega) (by omega), Int.add_zero]
theorem dsum_two {f : Nat → Int} {k : Nat} : ∀ {n : Nat}, k + 1 < n → (∀ i, i < n → i ≠ k → i ≠ k + 1 → f i = 0) → dsum f n = f k + f (k + 1)
 | 0, h, _ => by omega
 | n + 1, h, hz => by
  rw [dsum]
  by_cases e : k + 1 = n
  ·subst e
   rw [dsum_one (k := k) (by omega) (fun i hi hne => hz i (by omega) hne (by omega))]
  ·rw [dsum_two (n := n) (by omega) (fun i hi h1 h2 => hz i (by omega) h1 h2), hz n (by omega) (by omega) (by omega), Int.add_zero]
def mnr (M : Mx) (i : Nat) : Mx := fun r c => M (if r < i then r else r + 1) (c + 1)
def det : Nat → Mx → Int
 | 0, _ => 1
 | n + 1, M => dsum (fun i => sgd i * M i 0 * det n (mnr M i)) (n + 1)
def updR (M : Mx) (i : Nat) (w : Nat → Int) : Mx := fun r => if r = i then w else M r
theorem updR_self (M : Mx) (i : Nat) : updR M i (M i) = M := funext fun r => by
 unfold updR; split
 ·rename_i h; rw [h]
 ·rfl
theorem updR_at (M : Mx) (i : Nat) (w : Nat → Int) : updR M i w i = w := by simp [updR]
theorem updR_ne (M : Mx) {i r : Nat} (w : Nat → Int) (h : r ≠ i) : updR M i w r = M r := by simp [updR, h]
theorem updR_upd (M : Mx) (i : Nat) (v w : Nat → Int) : updR (updR M i v) i w = updR M i w := funext fun r => by
 unfold updR; split <;> rfl
theorem updR_comm (M : Mx) {i j : Nat} (h : i ≠ j) (v w : Nat → Int) : updR (updR M i v) j w = updR (updR M j w) i v := funext fun r => by
 unfold updR
 by_cases h1 : r = i
 ·subst h1; rw [if_neg h, if_pos rfl, if_pos rfl]
 ·rw [if_neg h1, if_neg h1]
theorem mnr_self (M : Mx) (i : Nat) (w : Nat → Int) : mnr (updR M i w) i = mnr M i := funext fun r => funext fun c => by
 unfold mnr updR
 rw [if_neg (by split <;> omega)]
theorem mnr_ne (M : Mx) {i j : Nat} (w : Nat → Int) (h : j ≠ i) : mnr (updR M i w) j = updR (mnr M j) (if i < j then i else i - 1) (fun c => w (c + 1)) := funext fun r => funext fun c => by
 unfold mnr updR
 by_cases h1 : (if r < j then r else r + 1) = i
 ·have h2 : r = if i < j then i else i - 1 := by
   split at h1 <;> split <;> omega
  rw [if_pos h1, if_pos h2]
 ·have h2 : ¬ r = if i < j then i else i - 1 := by
   split at h1 <;> split <;> omega
  rw [if_neg h1, if_neg h2]
theorem det_cong {p : Int} : ∀ {n : Nat} {M N : Mx}, (∀ r c, r < n → c < n → M r c % p = N r c % p) → det n M % p = det n N % p
 | 0, _, _, _ => rfl
 | n + 1, M, N, h => by
  rw [det, det]
  have gen : ∀ m : Nat, m ≤ n + 1 → dsum (fun i => sgd i * M i 0 * det n (mnr M i)) m % p = dsum (fun i => sgd i * N i 0 * det n (mnr N i)) m % p := by
   intro m
   induction m with
   | zero => intro _; rfl
   | succ m ih =>
    intro hm
    rw [dsum, dsum, Int.add_emod, ih (by omega), Int.add_emod (dsum (fun i => sgd i * N i 0 * det n (mnr N i)) m)]
    have e1 := h m 0 (by omega) (by omega)
    have e2 := det_cong (p := p) (n := n) (M := mnr M m) (N := mnr N m) (fun r c hr hc => h _ _ (by split <;> omega) (by omega))
    have e3 : (sgd m * M m 0 * det n (mnr M m)) % p = (sgd m * N m 0 * det n (mnr N m)) % p := by
     rw [Int.mul_emod, Int.mul_emod (sgd m), e1, e2, ← Int.mul_emod (sgd m), ← Int.mul_emod]
    rw [e3]
  exact gen _ (Nat.le_refl _)
theorem det_lin : ∀ {n : Nat} (M : Mx) {i : Nat} (u v : Nat → Int) (k : Int), i < n → det n (updR M i (fun c => u c + k * v c)) = det n (updR M i u) + k * det n (updR M i v)
 | 0, _, _, _, _, _, h => by omega
 | n + 1, M, i, u, v, k, h => by
  rw [det, det, det, ← dsum_lin]
  refine dsum_congr fun j hj => ?_
  by_cases e : j = i
  ·subst e
   simp only [mnr_self, updR_at]
   generalize det n (mnr M j) = d
   rw [Int.mul_add, Int.add_mul]
   congr 1
   ac_rfl
  ·simp only [mnr_ne M _ e, updR_ne M _ e]
   rw [det_lin (n := n) (mnr M j) (fun c => u (c + 1)) (fun c => v (c + 1)) k (by split <;> omega), Int.mul_add]
   congr 1
   ac_rfl
theorem det_adj : ∀ {n : Nat} (M : Mx) {i : Nat}, i + 1 < n → M i = M (i + 1) → det n M = 0
 | 0, _, _, h, _ => by omega
 | n + 1, M, i, h, he => by
  rw [det, dsum_two (k := i) h]
  ·have hm : mnr M (i + 1) = mnr M i := funext fun r => funext fun c => by
    unfold mnr
    by_cases h1 : r < i
    ·rw [if_pos (by omega), if_pos h1]
    ·by_cases h2 : r = i
     ·subst h2; rw [if_pos (by omega), if_neg (by omega), he]
     ·rw [if_neg (by omega), if_neg (by omega)]
   rw [hm, ← he, sgd_succ, Int.neg_mul, Int.neg_mul]
   omega
  ·intro j hj h1 h2
   have hz : det n (mnr M j) = 0 := by
    by_cases hlt : i < j
    ·refine det_adj (mnr M j) (i := i) (by omega) (funext fun c => ?_)
     unfold mnr
     rw [if_pos hlt, if_pos (by omega), he]
    ·obtain ⟨i', rfl⟩ : ∃ i', i = i' + 1 := ⟨i - 1, by omega⟩
     refine det_adj (mnr M j) (i := i') (by omega) (funext fun c => ?_)
     unfold mnr
     rw [if_neg (by omega), if_neg (by omega), he]
   rw [hz, Int.mul_zero]
theorem det_swap1 {n : Nat} (M : Mx) {i : Nat} (h : i + 1 < n) (u v : Nat → Int) : det n (updR (updR M i u) (i + 1) v) = - det n (updR (updR M i v) (i + 1) u) := by
 have hne : i ≠ i + 1 := by omega
 have z := fun w : Nat → Int => det_adj (n := n) (updR (updR M i w) (i + 1) w) h (by rw [updR_at, updR_ne _ _ hne, updR_at])
 have s := z (fun c => u c + 1 * v c)
 rw [det_lin _ u v 1 h, updR_comm _ hne, updR_comm _ hne, det_lin _ u v 1 (by omega), det_lin _ u v 1 (by omega)] at s
 have zu := z u
 have zv := z v
 rw [updR_comm _ hne] at zu zv
 rw [updR_comm _ hne, updR_comm (M) hne v u]
 omega
theorem det_eq : ∀ {n : Nat} (k : Nat) (M : Mx) {i : Nat}, i + k + 1 < n → M i = M (i + k + 1) → det n M = 0
 | n, 0, M, i, h, he => det_adj M h he
 | n, k + 1, M, i, h, he => by
  have hne : i + k + 1 ≠ i + (k + 1) + 1 := by omega
  have e0 : M = updR (updR M (i + k + 1) (M (i + k + 1))) (i + k + 1 + 1) (M (i + k + 1 + 1)) := by rw [updR_self, updR_self]
  rw [e0, det_swap1 M (i := i + k + 1) (by omega)]
  have := det_eq k (updR (updR M (i + k + 1) (M (i + k + 1 + 1))) (i + k + 1 + 1) (M (i + k + 1))) (i := i) (n := n) (by omega) (by
   rw [updR_ne _ _ (show i ≠ i + k + 1 + 1 by omega), updR_ne _ _ (show i ≠ i + k + 1 by omega), updR_ne _ _ (show i + k + 1 ≠ i + k + 1 + 1 by omega), updR_at]
   exact he)
  rw [this]; rfl
theorem det_same {n : Nat} (M : Mx) {i j : Nat} (hi : i < n) (hj : j < n) (hne : i ≠ j) (he : M i = M j) : det n M = 0 := by
 by_cases h : i < j
 ·have e : j = i + (j - i - 1) + 1 := by omega
  rw [e] at he
  exact det_eq (j - i - 1) M (by omega) he
 ·have e : i = j + (i - j - 1) + 1 := by omega
  rw [e] at he
  exact det_eq (i - j - 1) M (by omega) he.symm
theorem det_add {n : Nat} (M : Mx) {i j : Nat} (hi : i < n) (hj : j < n) (hne : i ≠ j) (k : Int) : det n (updR M i (fun c => M i c + k * M j c)) = det n M := by
 rw [det_lin M (M i) (M j) k hi, updR_self, det_same (updR M i (M j)) hi hj hne (by rw [updR_at, updR_ne _ _ (fun e => hne e.symm)]), Int.mul_zero, Int.add_zero]
theorem det_nil {n : Nat} (M : Mx) {i : Nat} (hi : i < n) (hz : ∀ c, M i c = 0) : det n M = 0 := by
 have := det_lin M (M i) (M i) 1 hi
 have e : (fun c => M i c + 1 * M i c) = M i := funext fun c => by rw [hz c]; rfl
 rw [e, updR_self] at this
 omega
theorem det_scale {n : Nat} (M : Mx) {i : Nat} (hi : i < n) (k : Int) : det n (updR M i (fun c => k * M i c)) = k * det n M := by
 have := det_lin M (fun _ => 0) (M i) k hi
 simp only [Int.zero_add] at this
 rw [this, updR_self, det_nil (updR M i (fun _ => 0)) hi (fun c => by rw [updR_at]), Int.zero_add]
theorem det_swap {n : Nat} (M : Mx) {i j : Nat} (hi : i < n) (hj : j < n) (hne : i ≠ j) (u v : Nat → Int) : det n (updR (updR M i u) j v) = - det n (updR (updR M i v) j u) := by
 have z := fun w : Nat → Int => det_same (n := n) (updR (updR M i w) j w) hi hj hne (by rw [updR_at, updR_ne _ _ hne, updR_at])
 have s := z (fun c => u c + 1 * v c)
 rw [det_lin _ u v 1 hj, updR_comm _ hne, updR_comm _ hne, det_lin _ u v 1 hi, det_lin _ u v 1 hi] at s
 have zu := z u
 have zv := z v
 rw [updR_comm _ hne] at zu zv
 rw [updR_comm _ hne, updR_comm (M) hne v u]
 omega
def idM : Mx := fun r c => if r = c then 1 else 0
theorem mnr_id : mnr idM 0 = idM := funext fun r => funext fun c => by simp [mnr, idM]
theorem det_one : ∀ n : Nat, det n idM = 1
 | 0 => rfl
 | n + 1 => by
  rw [det, dsum_one (k := 0) (by omega) (fun i hi hne => by simp [idM, hne]), mnr_id, det_one n]
  simp [sgd, idM]
def updC (M : Mx) (k : Nat) (b : Nat → Int) : Mx := fun r c => if c = k then b r else M r c
theorem det_col : ∀ {n k : Nat} (b : Nat → Int), k < n → det n (updC idM k b) = b k
 | 0, _, _, h => by omega
 | n + 1, 0, b, _ => by
  rw [det, dsum_one (k := 0) (by omega)]
  ·have e : mnr (updC idM 0 b) 0 = idM := funext fun r => funext fun c => by simp [mnr, updC, idM]
   rw [e, det_one]
   simp [sgd, updC]
  ·intro i hi hne
   rw [det_nil (mnr (updC idM 0 b) i) (i := 0) (by omega) (fun c => by
    have : (0 : Nat) < i := by omega
    simp [mnr, updC, idM, this]), Int.mul_zero]
 | n + 1, k + 1, b, h => by
  rw [det, dsum_one (k := 0) (by omega)]
  ·have e : mnr (updC idM (k + 1) b) 0 = updC idM k (fun r => b (r + 1)) := funext fun r => funext fun c => by simp [mnr, updC, idM]
   rw [e, det_col _ (by omega)]
   simp [sgd, updC, idM]
  ·intro i hi hne
   have : updC idM (k + 1) b i 0 = 0 := by simp [updC, idM, hne]
   rw [this]; simp
end Go.Proofs.YtiikdbomhkbdlaaGreat


namespace Go.Proofs.YtiikdbomhkbdlaaGreat
theorem dsum_shift (f : Nat → Int) : ∀ n, dsum f (n + 1) = f 0 + dsum (fun i => f (i + 1)) n
 | 0 => by simp [dsum]
 | n + 1 => by rw [dsum, dsum_shift f n, dsum]; omega
theorem dsum_mul (k : Int) (f : Nat → Int) : ∀ n, k * dsum f n = dsum (fun i => k * f i) n
 | 0 => by simp [dsum]
 | n + 1 => by rw [dsum, dsum, Int.mul_add, dsum_mul k f n]
theorem dsum_plus (f g : Nat → Int) : ∀ n, dsum (fun i => f i + g i) n = dsum f n + dsum g n
 | 0 => by simp [dsum]
 | n + 1 => by rw [dsum, dsum, dsum, dsum_plus f g n]; omega
def clr (M : Mx) (i : Nat) (w : Nat → Int) (t : Nat) : Mx := fun r => if r < t ∧ r ≠ i then fun c => M r c + w r * M i c else M r
theorem clr_zero (M : Mx) (i : Nat) (w : Nat → Int) : clr M i w 0 = M := funext fun r => by unfold clr; rw [if_neg (by omega)]
theorem det_clr {n : Nat} (M : Mx) {i : Nat} (hi : i < n) (w : Nat → Int) : ∀ t, t ≤ n → det n (clr M i w t) = det n M
 | 0, _ => by rw [clr_zero]
 | t + 1, ht => by
  rw [← det_clr M hi w t (by omega)]
  by_cases e : t = i
  ·have : clr M i w (t + 1) = clr M i w t := funext fun r => by
    unfold clr
    by_cases h : r < t ∧ r ≠ i
    ·rw [if_pos h, if_pos ⟨by omega, h.2⟩]
    ·rw [if_neg h, if_neg (by omega)]
   rw [this]
  ·have hi2 : clr M i w t i = M i := by unfold clr; rw [if_neg (by omega)]
   have ht2 : clr M i w t t = M t := by unfold clr; rw [if_neg (by omega)]
   have : clr M i w (t + 1) = updR (clr M i w t) t (fun c => clr M i w t t c + w t * clr M i w t i c) := funext fun r => by
    rw [hi2, ht2]
    unfold updR
    by_cases h : r = t
    ·subst h; rw [if_pos rfl]; unfold clr; rw [if_pos ⟨by omega, e⟩]
    ·rw [if_neg h]
     unfold clr
     by_cases h2 : r < t ∧ r ≠ i
     ·rw [if_pos h2, if_pos ⟨by omega, h2.2⟩]
     ·rw [if_neg h2, if_neg (by omega)]
   rw [this, det_add _ (by omega) hi e]
theorem dsum_cong {p : Int} {f g : Nat → Int} : ∀ {n : Nat}, (∀ i, i < n → f i % p = g i % p) → dsum f n % p = dsum g n % p
 | 0, _ => rfl
 | n + 1, h => by rw [dsum, dsum, Int.add_emod, dsum_cong (fun i hi => h i (by omega)), h n (by omega), ← Int.add_emod]
end Go.Proofs.YtiikdbomhkbdlaaGreat


namespace Go.Proofs.YtiikdbomhkbdlaaGreat
open Go.Abs CR
section
variable {α : Type}
def mnR (M : Nat → Nat → α) (i : Nat) : Nat → Nat → α := fun r c => M (if r < i then r else r + 1) (c + 1)
end
section
variable {α : Type} [CR α]
def dR (f : Nat → α) : Nat → α
 | 0 => ofI 0
 | n + 1 => dR f n + f n
def dtR : Nat → (Nat → Nat → α) → α
 | 0, _ => ofI 1
 | n + 1, M => dR (fun i => ofI (sgd i) * M i 0 * dtR n (mnR M i)) (n + 1)
end
end Go.Proofs.YtiikdbomhkbdlaaGreat


namespace Go.Proofs.YtiikdbomhkbdlaaGreat
open Go.Abs CR
section
variable {α : Type} [CR α]
end
end Go.Proofs.YtiikdbomhkbdlaaGreat


namespace Go.Proofs.YtiikdbomhkbdlaaGreat
open Go.Abs CR
section
variable {α : Type} [CR α]
end
end Go.Proofs.YtiikdbomhkbdlaaGreat


namespace Go.Proofs.YtiikdbomhkbdlaaGreat
open Go.Abs CR
theorem cmul_nil (b : Ser Int) : ∀ (k : Nat) (a : Ser Int), (∀ i, a i = 0) → cmul k a b = 0
 | 0, a, h => by show a 0 * b 0 = 0; rw [h 0, Int.zero_mul]
 | k + 1, a, h => by
  show a 0 * b (k + 1) + cmul k (sh a) b = 0
  rw [h 0, cmul_nil b k (sh a) (fun i => h (i + 1)), Int.zero_mul]; rfl
theorem cmul_lin {a : Ser Int} (h : ∀ i, a (i + 2) = 0) (b : Ser Int) (k : Nat) : cmul (k + 1) a b = a 0 * b (k + 1) + a 1 * b k := by
 show a 0 * b (k + 1) + cmul k (sh a) b = _
 congr 1
 cases k with
 | zero => rfl
 | succ k =>
  show sh a 0 * b (k + 1) + cmul k (sh (sh a)) b = _
  rw [cmul_nil b k (sh (sh a)) (fun i => h i), Int.add_zero]; rfl
def Ev (z : Int) (d : Nat) (f : Ser Int) (v : Int) : Prop := (∀ k, d < k → f k = 0) ∧ dsum (fun k => f k * z ^ k) (d + 1) = v
theorem Ev.zero (z : Int) (d : Nat) : Ev z d (ofI 0) 0 := by
 have h0 : ∀ k, (ofI 0 : Ser Int) k = 0 := fun k => by cases k <;> rfl
 exact ⟨fun k _ => h0 k, dsum_zero fun k _ => by rw [h0, Int.zero_mul]⟩
theorem Ev.add {z : Int} {d : Nat} {f g : Ser Int} {v w : Int} (h : Ev z d f v) (k : Ev z d g w) : Ev z d (f + g) (v + w) := by
 refine ⟨fun i hi => by rw [ser_add, h.1 i hi, k.1 i hi]; rfl, ?_⟩
 rw [← h.2, ← k.2, ← dsum_plus]
 exact dsum_congr fun i hi => by rw [ser_add, Int.add_mul]
theorem Ev.lin {z : Int} {d : Nat} {f g : Ser Int} {w : Int} (hf : ∀ i, f (i + 2) = 0) (k : Ev z d g w) : Ev z (d + 1) (f * g) ((f 0 + f 1 * z) * w) := by
 have at1 : ∀ i, (f * g) (i + 1) = f 0 * g (i + 1) + f 1 * g i := fun i => cmul_lin hf g i
 have at0 : (f * g) 0 = f 0 * g 0 := rfl
 refine ⟨fun i hi => ?_, ?_⟩
 ·obtain ⟨j, rfl⟩ : ∃ j, i = j + 1 := ⟨i - 1, by omega⟩
  rw [at1, k.1 (j + 1) (by omega), k.1 j (by omega)]; omega
 ·have e1 : dsum (fun i => (f * g) (i + 1) * z ^ (i + 1)) (d + 1) = dsum (fun i => f 0 * (g (i + 1) * z ^ (i + 1)) + (f 1 * z) * (g i * z ^ i)) (d + 1) :=
   dsum_congr fun i hi => by
    rw [at1, Int.add_mul, Int.pow_succ]
    congr 1
    ·rw [Int.mul_assoc]
    ·rw [Int.mul_assoc, Int.mul_assoc]
     congr 1
     rw [← Int.mul_assoc, Int.mul_comm]
  have e2 : dsum (fun i => g i * z ^ i) (d + 1 + 1) = w := by
   show dsum (fun i => g i * z ^ i) (d + 1) + g (d + 1) * z ^ (d + 1) = w
   rw [k.2, k.1 (d + 1) (by omega), Int.zero_mul, Int.add_zero]
  rw [dsum_shift] at e2
  rw [dsum_shift, e1, dsum_lin, at0, ← dsum_mul, k.2, Int.add_mul]
  have e3 : f 0 * w = f 0 * (g 0 * z ^ 0) + f 0 * dsum (fun i => g (i + 1) * z ^ (i + 1)) (d + 1) := by rw [← Int.mul_add, e2]
  rw [e3, Int.mul_assoc (f 0) (g 0), Int.add_assoc]
theorem Ev.dR {z : Int} {d : Nat} {f : Nat → Ser Int} {v : Nat → Int} : ∀ {n : Nat}, (∀ i, i < n → Ev z d (f i) (v i)) → Ev z d (dR f n) (dsum v n)
 | 0, _ => Ev.zero z d
 | n + 1, h => Ev.add (Ev.dR (n := n) (fun i hi => h i (by omega))) (h n (by omega))
theorem Ev.det {z : Int} : ∀ (n : Nat) (A : Nat → Nat → Ser Int), (∀ r c i, A r c (i + 2) = 0) → Ev z n (dtR n A) (det n (fun r c => A r c 0 + A r c 1 * z))
 | 0, A, _ => by
  refine ⟨fun k hk => ?_, ?_⟩
  ·obtain ⟨j, rfl⟩ : ∃ j, k = j + 1 := ⟨k - 1, by omega⟩
   rfl
  ·show (0 : Int) + 1 * z ^ 0 = 1
   rw [Int.pow_zero]; rfl
 | n + 1, A, h => by
  rw [dtR, Go.Proofs.YtiikdbomhkbdlaaGreat.det]
  refine Ev.dR fun i hi => ?_
  have q := Ev.lin (f := ofI (sgd i) * A i 0) (fun t => by
   show cmul (t + 2) (sOf (sgd i)) (A i 0) = 0
   rw [cmul_comm, cmul_of, h, Int.zero_mul]) (Ev.det (z := z) n (mnR A i) (fun r c t => h _ _ _))
  have e : ∀ t, (ofI (sgd i) * A i 0) t = sgd i * A i 0 t := fun t => by
   show cmul t (sOf (sgd i)) (A i 0) = _
   rw [cmul_comm, cmul_of]; exact Int.mul_comm _ _
  rw [e, e, Int.mul_assoc, ← Int.mul_add] at q
  exact q
end Go.Proofs.YtiikdbomhkbdlaaGreat


namespace Go.Proofs.YtiikdbomhkbdlaaGreat
open Go.Abs CR
section
variable {α : Type} [CR α]
end
def serEq (a b : Ser Int) : Prop := ∀ k, a k % 10007 = b k % 10007
theorem mod_mulc {a b c d : Int} (h : a % 10007 = b % 10007) (k : c % 10007 = d % 10007) : (a * c) % 10007 = (b * d) % 10007 := by
 rw [Int.mul_emod, h, k, ← Int.mul_emod]
theorem mod_addc {a b c d : Int} (h : a % 10007 = b % 10007) (k : c % 10007 = d % 10007) : (a + c) % 10007 = (b + d) % 10007 := by
 rw [Int.add_emod, h, k, ← Int.add_emod]
theorem cmul_mod (n : Nat) : ∀ {a b c d : Ser Int}, (∀ i, i ≤ n → a i % 10007 = b i % 10007) → (∀ i, i ≤ n → c i % 10007 = d i % 10007) → cmul n a c % 10007 = cmul n b d % 10007 := by
 induction n with
 | zero => intro a b c d h k; exact mod_mulc (h 0 (Nat.le_refl _)) (k 0 (Nat.le_refl _))
 | succ n ih =>
  intro a b c d h k
  rw [cmul, cmul]
  exact mod_addc (mod_mulc (h 0 (by omega)) (k (n + 1) (by omega))) (ih (fun i hi => h (i + 1) (by omega)) (fun i hi => k i (by omega)))
end Go.Proofs.YtiikdbomhkbdlaaGreat


namespace Go.Proofs.YtiikdbomhkbdlaaGreat
def sel (W : Mx) (g : Nat → Nat) : Mx := fun r c => W r (g c)
theorem sel_upd (W : Mx) (i : Nat) (w : Nat → Int) (g : Nat → Nat) : sel (updR W i w) g = updR (sel W g) i (fun c => w (g c)) := funext fun r => funext fun c => by
 unfold sel updR; split <;> rfl
theorem sel_clr (W : Mx) (i : Nat) (w : Nat → Int) (t : Nat) (g : Nat → Nat) : sel (clr W i w t) g = clr (sel W g) i w t := funext fun r => funext fun c => by
 unfold sel clr; split <;> rfl
def RowEq (n w : Nat) (W W' : Mx) : Prop := ∃ s t : Int, s * t % 10007 = 1 ∧ ∀ g : Nat → Nat, (∀ c, c < n → g c < w) → det n (sel W g) * s % 10007 = det n (sel W' g) % 10007
theorem RowEq.refl (n w : Nat) (W : Mx) : RowEq n w W W := ⟨1, 1, rfl, fun g hg => by rw [Int.mul_one]⟩
theorem mul_mod_l (a b : Int) : a % 10007 * b % 10007 = a * b % 10007 := by rw [Int.mul_emod, Int.emod_emod_of_dvd _ (Int.dvd_refl _), ← Int.mul_emod]
theorem mul_mod_r (a b : Int) : a * (b % 10007) % 10007 = a * b % 10007 := by rw [Int.mul_emod, Int.emod_emod_of_dvd _ (Int.dvd_refl _), ← Int.mul_emod]
theorem RowEq.trans {n w : Nat} {W X Y : Mx} (h : RowEq n w W X) (k : RowEq n w X Y) : RowEq n w W Y := by
 obtain ⟨s, t, h1, h2⟩ := h
 obtain ⟨s', t', k1, k2⟩ := k
 refine ⟨s * s', t * t', ?_, fun g hg => ?_⟩
 ·have e : s * s' * (t * t') = (s * t) * (s' * t') := by ac_rfl
  rw [e, Int.mul_emod, h1, k1]; rfl
 ·rw [← k2 g hg, ← Int.mul_assoc, ← mul_mod_l, h2 g hg, mul_mod_l]
theorem RowEq.cong {n w : Nat} {W W' : Mx} (h : ∀ r c, r < n → c < w → W r c % 10007 = W' r c % 10007) : RowEq n w W W' :=
 ⟨1, 1, rfl, fun g hg => by rw [Int.mul_one]; exact det_cong fun r c hr hc => h r (g c) hr (hg c hc)⟩
theorem RowEq.clr {n w : Nat} (W : Mx) {i : Nat} (hi : i < n) (u : Nat → Int) : RowEq n w W (clr W i u n) :=
 ⟨1, 1, rfl, fun g hg => by rw [Int.mul_one, sel_clr, det_clr _ hi u n (Nat.le_refl _)]⟩
theorem RowEq.scale {n w : Nat} (W : Mx) {i : Nat} (hi : i < n) {k k' : Int} (hk : k * k' % 10007 = 1) : RowEq n w W (updR W i (fun c => k * W i c)) :=
 ⟨k, k', hk, fun g hg => by
  rw [sel_upd]
  have := det_scale (sel W g) hi k
  have e : (fun c => k * sel W g i c) = fun c => k * W i (g c) := rfl
  rw [e] at this
  rw [this, Int.mul_comm]⟩
theorem RowEq.swap {n w : Nat} (W : Mx) {i j : Nat} (hi : i < n) (hj : j < n) (hne : i ≠ j) : RowEq n w W (updR (updR W i (W j)) j (W i)) :=
 ⟨-1, -1, rfl, fun g hg => by
  rw [sel_upd, sel_upd]
  have e : sel W g = updR (updR (sel W g) i (fun c => W i (g c))) j (fun c => W j (g c)) := by
   have e1 : (fun c => W i (g c)) = sel W g i := rfl
   have e2 : (fun c => W j (g c)) = sel W g j := rfl
   rw [e1, e2, updR_self, updR_self]
  have h := det_swap (sel W g) hi hj hne (fun c => W j (g c)) (fun c => W i (g c))
  rw [h, ← e]
  congr 1
  omega⟩
theorem RowEq.full {n : Nat} {W W' : Mx} (h : RowEq n (n + 1) W W') (hid : ∀ r c, r < n → c < n → W' r c % 10007 = idM r c % 10007) :
  ∃ s : Int, det n W * s % 10007 = 1 ∧ ∀ k, k < n → W' k n % 10007 = det n (updC W k (fun r => W r n)) * s % 10007 := by
 obtain ⟨s, t, h1, h2⟩ := h
 refine ⟨s, ?_, fun k hk => ?_⟩
 ·have := h2 id (fun c hc => by show c < n + 1; omega)
  have e : ∀ X : Mx, sel X id = X := fun X => rfl
  rw [e, e, det_cong (p := 10007) (N := idM) hid, det_one] at this
  exact this
 ·have := h2 (fun c => if c = k then n else c) (fun c hc => by show (if c = k then n else c) < n + 1; split <;> omega)
  have e : sel W (fun c => if c = k then n else c) = updC W k (fun r => W r n) := funext fun r => funext fun c => by
   by_cases hc : c = k
   ·simp [sel, updC, hc]
   ·simp [sel, updC, hc]
  rw [e] at this
  rw [this, det_cong (p := 10007) (N := updC idM k (fun r => W' r n)), det_col _ hk]
  intro r c hr hc
  by_cases hck : c = k
  ·simp [sel, updC, hck]
  ·simp [sel, updC, hck]; exact hid r c hr hc
end Go.Proofs.YtiikdbomhkbdlaaGreat


namespace Go.Proofs.YtiikdbomhkbdlaaGreat
open Go.Abs
def mx (m : List (List Int)) : Mx := fun r c => (m[r]?.getD [])[c]?.getD 0
def swp (m : List (List Int)) (i d : Nat) : List (List Int) := if i = d then m else (m.set i (m[d]?.getD [])).set d (m[i]?.getD [])
def scl (m : List (List Int)) (d k : Nat) : List (List Int) := m.set d (scalS (m[d]?.getD []) (pw (mx m d k) 10005))
def elD (m : List (List Int)) (d k : Nat) : List (List Int) := (List.range m.length).map fun r => if r = d then m[d]?.getD [] else plusS (m[r]?.getD []) (m[d]?.getD []) (- mx m r k)
def Rws (w : Nat) (m : List (List Int)) : Prop := ∀ r ∈ m, r.length = w ∧ Ns r
theorem Rws.at {w : Nat} {m : List (List Int)} (h : Rws w m) {i : Nat} (hi : i < m.length) : (m[i]?.getD []).length = w ∧ Ns (m[i]?.getD []) := h _ (by simp [hi])
theorem Rws.set {w : Nat} {m : List (List Int)} (h : Rws w m) {i : Nat} {r : List Int} (hr : r.length = w ∧ Ns r) : Rws w (m.set i r) := fun x hx => by
 rcases List.mem_or_eq_of_mem_set hx with hx | rfl
 ·exact h x hx
 ·exact hr
@[simp] theorem swp_len (m : List (List Int)) (i d : Nat) : (swp m i d).length = m.length := by unfold swp; split <;> simp
@[simp] theorem scl_len (m : List (List Int)) (d k : Nat) : (scl m d k).length = m.length := by simp [scl]
@[simp] theorem elD_len (m : List (List Int)) (d k : Nat) : (elD m d k).length = m.length := by simp [elD]
theorem swp_ok {w : Nat} {m : List (List Int)} (h : Rws w m) {i d : Nat} (hi : i < m.length) (hd : d < m.length) : Rws w (swp m i d) := by
 unfold swp
 split
 ·exact h
 ·exact (h.set (h.at hd)).set (h.at hi)
theorem scl_ok {w : Nat} {m : List (List Int)} (h : Rws w m) {d k : Nat} (hd : d < m.length) : Rws w (scl m d k) := h.set ⟨by rw [scalS_len]; exact (h.at hd).1, scalS_N _ _⟩
theorem elD_ok {w : Nat} {m : List (List Int)} (h : Rws w m) {d k : Nat} (hd : d < m.length) : Rws w (elD m d k) := fun x hx => by
 obtain ⟨r, hr, rfl⟩ := List.mem_map.1 hx
 have hr2 : r < m.length := by simpa using hr
 split
 ·exact h.at hd
 ·exact ⟨by rw [plusS_len]; exact (h.at hr2).1, plusS_N _ _ _⟩
theorem swp_mx {m : List (List Int)} {i d : Nat} (hi : i < m.length) (hd : d < m.length) : mx (swp m i d) = updR (updR (mx m) i (mx m d)) d (mx m i) := funext fun r => funext fun c => by
 unfold swp
 split
 ·rename_i e; subst e; rw [updR_upd, updR_self]
 ·rename_i e
  unfold mx updR
  by_cases h1 : r = d
  ·subst h1
   rw [List.getElem?_set_self (by simpa using hd), if_pos rfl]; rfl
  ·rw [List.getElem?_set_ne (fun x => h1 x.symm), if_neg h1]
   by_cases h2 : r = i
   ·subst h2; rw [List.getElem?_set_self hi, if_pos rfl]; rfl
   ·rw [List.getElem?_set_ne (fun x => h2 x.symm), if_neg h2]
theorem scl_at {w : Nat} {m : List (List Int)} (h : Rws w m) {d k : Nat} (hd : d < m.length) {r c : Nat} (hc : c < w) : mx (scl m d k) r c = if r = d then mx m d c * (pw (mx m d k) 10005 % 10007) % 10007 else mx m r c := by
 unfold scl
 show ((m.set d (scalS (m[d]?.getD []) (pw (mx m d k) 10005)))[r]?.getD [])[c]?.getD 0 = _
 by_cases e : r = d
 ·subst e
  rw [List.getElem?_set_self hd, if_pos rfl]
  exact tb_get (fun i => (m[r]?.getD [])[i]?.getD 0 * (pw (mx m r k) 10005 % 10007) % 10007) (by rw [(h.at hd).1]; exact hc)
 ·rw [List.getElem?_set_ne (fun x => e x.symm), if_neg e]; rfl
theorem elD_at {w : Nat} {m : List (List Int)} (h : Rws w m) {d k : Nat} {r c : Nat} (hr : r < m.length) (hc : c < w) : mx (elD m d k) r c = if r = d then mx m d c else (mx m r c + (- mx m r k) % 10007 * mx m d c) % 10007 := by
 have e0 : (elD m d k)[r]?.getD [] = if r = d then m[d]?.getD [] else plusS (m[r]?.getD []) (m[d]?.getD []) (- mx m r k) := by simp [elD, hr]
 show ((elD m d k)[r]?.getD [])[c]?.getD 0 = _
 rw [e0]
 by_cases e : r = d
 ·rw [if_pos e, if_pos e]; rfl
 ·rw [if_neg e, if_neg e]
  exact tb_get (fun i => ((m[r]?.getD [])[i]?.getD 0 + (- mx m r k) % 10007 * (m[d]?.getD [])[i]?.getD 0) % 10007) (by rw [(h.at hr).1]; exact hc)
end Go.Proofs.YtiikdbomhkbdlaaGreat


namespace Go.Proofs.YtiikdbomhkbdlaaGreat
open Go.Abs
end Go.Proofs.YtiikdbomhkbdlaaGreat


namespace Go.Proofs.YtiikdbomhkbdlaaGreat
def fp : Nat → Nat → Nat → Nat
 | 0, _, _ => 1
 | f + 1, a, n => Nat.rec (1 % 10007) (fun _ _ => Nat.rec (fp f (Nat.mod (Nat.mul a a) 10007) (Nat.div n 2)) (fun _ _ => Nat.mod (Nat.mul a (fp f (Nat.mod (Nat.mul a a) 10007) (Nat.div n 2))) 10007) (Nat.mod n 2)) n
def chB (g : Nat → Nat) : Nat → Nat → Bool
 | 0, lo => Nat.beq (g lo) 1
 | d + 1, lo => and (chB g d lo) (chB g d (lo + 2 ^ d))
def ivN (a : Nat) : Nat := a * fp 15 a 10005 % 10007
theorem fp_eq : ∀ (f a n : Nat), n < 2 ^ f → fp f a n = a ^ n % 10007
 | 0, a, n, h => by
  have : n = 0 := by simp at h; exact h
  subst this; rfl
 | f + 1, a, 0, _ => by show 1 % 10007 = a ^ 0 % 10007; rw [Nat.pow_zero]
 | f + 1, a, n + 1, h => by
  have hh : (n + 1) / 2 < 2 ^ f := by rw [Nat.pow_succ] at h; omega
  have ih := fp_eq f (a * a % 10007) ((n + 1) / 2) hh
  have sq : (a * a % 10007) ^ ((n + 1) / 2) % 10007 = a ^ (2 * ((n + 1) / 2)) % 10007 := by
   rw [← Nat.pow_mod, Nat.pow_mul, Nat.pow_two]
  rw [sq] at ih
  have e0 : fp (f + 1) a (n + 1) = Nat.rec (fp f (a * a % 10007) ((n + 1) / 2)) (fun _ _ => a * fp f (a * a % 10007) ((n + 1) / 2) % 10007) ((n + 1) % 2) := rfl
  rw [e0, ih]
  rcases Nat.mod_two_eq_zero_or_one (n + 1) with h2 | h2
  ·rw [h2]
   show a ^ (2 * ((n + 1) / 2)) % 10007 = a ^ (n + 1) % 10007
   rw [show 2 * ((n + 1) / 2) = n + 1 by omega]
  ·rw [h2]
   show a * (a ^ (2 * ((n + 1) / 2)) % 10007) % 10007 = a ^ (n + 1) % 10007
   rw [show n + 1 = 2 * ((n + 1) / 2) + 1 by omega, Nat.pow_succ, Nat.mul_mod, Nat.mod_mod, ← Nat.mul_mod, Nat.mul_comm]
   rw [show (2 * ((n + 1) / 2) + 1) / 2 = (n + 1) / 2 by omega]
theorem chB_ok (g : Nat → Nat) : ∀ (d lo : Nat), chB g d lo = true → ∀ a, lo ≤ a → a < lo + 2 ^ d → g a = 1
 | 0, lo, h, a, h1, h2 => by
  have : a = lo := by simp at h2; omega
  subst this
  rw [chB] at h
  exact Nat.eq_of_beq_eq_true h
 | d + 1, lo, h, a, h1, h2 => by
  rw [chB, Bool.and_eq_true] at h
  rw [Nat.pow_succ] at h2
  by_cases hl : a < lo + 2 ^ d
  ·exact chB_ok g d lo h.1 a h1 hl
  ·exact chB_ok g d (lo + 2 ^ d) h.2 a (by omega) (by omega)
theorem chB_1 : chB ivN 13 1 = true := by decide +kernel
theorem chB_2 : chB ivN 10 8193 = true := by decide +kernel
theorem chB_3 : chB ivN 9 9217 = true := by decide +kernel
theorem chB_4 : chB ivN 8 9495 = true := by decide +kernel
theorem chB_5 : chB ivN 8 9751 = true := by decide +kernel
theorem inv_nat {a : Nat} (h0 : a ≠ 0) (h : a < 10007) : ivN a = 1 := by
 by_cases h1 : a < 8193
 ·exact chB_ok ivN 13 1 chB_1 a (by omega) (by omega)
 by_cases h2 : a < 9217
 ·exact chB_ok ivN 10 8193 chB_2 a (by omega) (by omega)
 by_cases h3 : a < 9729
 ·exact chB_ok ivN 9 9217 chB_3 a (by omega) (by omega)
 by_cases h4 : a < 9751
 ·exact chB_ok ivN 8 9495 chB_4 a (by omega) (by omega)
 ·exact chB_ok ivN 8 9751 chB_5 a (by omega) (by omega)
theorem fp_pow (n e : Nat) (he : e < 2 ^ 15) : ((fp 15 n e : Nat) : Int) = pw (n : Int) (e : Int) := by
 rw [fp_eq 15 n e he]
 unfold pw
 rw [Int.toNat_natCast, Int.natCast_emod, Int.natCast_pow]; rfl
theorem fp_pw (n : Nat) : ((fp 15 n 10005 : Nat) : Int) = pw (n : Int) 10005 := fp_pow n 10005 (by decide)
theorem inv_ok {a : Int} (h : isN a) (h0 : a ≠ 0) : a * pw a 10005 % 10007 = 1 := by
 obtain ⟨n, rfl⟩ : ∃ n : Nat, a = n := ⟨a.toNat, by have := h.1; omega⟩
 have hn : n < 10007 := by have := h.2; omega
 have hv := inv_nat (a := n) (by omega) hn
 rw [← fp_pw, ← Int.natCast_mul]
 unfold ivN at hv
 generalize n * fp 15 n 10005 = z at *
 omega
end Go.Proofs.YtiikdbomhkbdlaaGreat


namespace Go.Proofs.YtiikdbomhkbdlaaGreat
open Go.Abs
structure GI (n w : Nat) (W0 : Mx) (m : List (List Int)) (done k : Nat) : Prop where
 len : m.length = n
 rws : Rws w m
 eqv : RowEq n w W0 (mx m)
 dle : done ≤ n
 piv : ∃ piv : Nat → Nat, (∀ j, j < done → piv j < k ∧ ∀ r, r < n → mx m r (piv j) = if r = j then 1 else 0) ∧ (∀ j, j + 1 < done → piv j < piv (j + 1)) ∧ (∀ j, j < done → ∀ c, c < piv j → mx m j c = 0)
 low : ∀ r, done ≤ r → r < n → ∀ c, c < k → mx m r c = 0
theorem GI.start {n w : Nat} {m : List (List Int)} (hl : m.length = n) (hr : Rws w m) : GI n w (mx m) m 0 0 :=
 ⟨hl, hr, RowEq.refl n w _, by omega, ⟨fun _ => 0, fun j hj => by omega, fun j hj => by omega, fun j hj => by omega⟩, fun r _ _ c hc => by omega⟩
theorem GI.skip {n w : Nat} {W0 : Mx} {m : List (List Int)} {done k : Nat} (h : GI n w W0 m done k) (hz : ∀ r, done ≤ r → r < n → mx m r k = 0) : GI n w W0 m done (k + 1) := by
 obtain ⟨h1, h2, h3, h4, ⟨p, p1, p2, p3⟩, h6⟩ := h
 refine ⟨h1, h2, h3, h4, ⟨p, fun j hj => ⟨by have := (p1 j hj).1; omega, (p1 j hj).2⟩, p2, p3⟩, fun r hr hn c hc => ?_⟩
 by_cases e : c = k
 ·subst e; exact hz r hr hn
 ·exact h6 r hr hn c (by omega)
theorem mx_N {w : Nat} {m : List (List Int)} (h : Rws w m) {r : Nat} (hr : r < m.length) (c : Nat) : isN (mx m r c) := (h.at hr).2.get c
theorem GI.step {n w : Nat} {W0 : Mx} {m : List (List Int)} {done k i : Nat} (h : GI n w W0 m done k) (hk : k < w) (hd : done < n) (h1 : done ≤ i) (h2 : i < n) (hne : mx m i k ≠ 0) :
  GI n w W0 (elD (scl (swp m i done) done k) done k) (done + 1) (k + 1) := by
 obtain ⟨hl, hr, he, hdl, ⟨p, p1, p2, p3⟩, hlow⟩ := h
 have il : i < m.length := by omega
 have dl : done < m.length := by omega
 have sm := swp_mx il dl
 have sr := swp_ok hr il dl
 have sl := swp_len m i done
 have se : RowEq n w W0 (mx (swp m i done)) := by
  by_cases e : i = done
  ·have : swp m i done = m := by unfold swp; rw [if_pos e]
   rw [this]; exact he
  ·rw [sm]; exact he.trans (RowEq.swap _ h2 hd e)
 have sd : ∀ c, mx (swp m i done) done c = mx m i c := fun c => by rw [sm, updR_at]
 have slow : ∀ r, done ≤ r → r < n → ∀ c, c < k → mx (swp m i done) r c = 0 := fun r hr1 hr2 c hc => by
  rw [sm]
  unfold updR
  by_cases a1 : r = done
  ·rw [if_pos a1]; exact hlow i h1 h2 c hc
  ·rw [if_neg a1]
   by_cases a2 : r = i
   ·rw [if_pos a2]; exact hlow done (Nat.le_refl _) hd c hc
   ·rw [if_neg a2]; exact hlow r hr1 hr2 c hc
 have sup : ∀ r, r < done → mx (swp m i done) r = mx m r := fun r hr1 => by
  rw [sm, updR_ne _ _ (by omega), updR_ne _ _ (by omega)]
 have snz : mx (swp m i done) done k ≠ 0 := by rw [sd]; exact hne
 generalize swp m i done = a at *
 have al : a.length = n := by omega
 have ad : done < a.length := by omega
 have cr := scl_ok (k := k) sr ad
 have cl := scl_len a done k
 have cat := fun r c (hc : c < w) => scl_at (k := k) sr ad (r := r) hc
 have iv := inv_ok (mx_N sr ad k) snz
 have ce : RowEq n w (mx a) (mx (scl a done k)) := by
  refine (RowEq.scale (mx a) hd (k := pw (mx a done k) 10005) (k' := mx a done k) (by rw [Int.mul_comm]; exact iv)).trans (RowEq.cong fun r c hr1 hc => ?_)
  rw [cat r c hc]
  unfold updR
  by_cases e : r = done
  ·subst e
   rw [if_pos rfl, if_pos rfl, mul_mod_r, Int.emod_emod_of_dvd _ (Int.dvd_refl _), Int.mul_comm]
  ·rw [if_neg e, if_neg e]
 have ck : mx (scl a done k) done k = 1 := by rw [cat _ _ hk, if_pos rfl, mul_mod_r]; exact iv
 have cz : ∀ c, c < k → mx (scl a done k) done c = 0 := fun c hc => by
  rw [cat _ _ (by omega), if_pos rfl, slow done (Nat.le_refl _) hd c hc]; simp
 have co : ∀ r c, r ≠ done → c < w → mx (scl a done k) r c = mx a r c := fun r c hr1 hc => by rw [cat _ _ hc, if_neg hr1]
 generalize scl a done k = b at *
 have bl : b.length = n := by omega
 have bd : done < b.length := by omega
 have er := elD_ok (k := k) cr bd
 have el := elD_len b done k
 have eat := fun r c (hr1 : r < n) (hc : c < w) => elD_at (d := done) (k := k) cr (r := r) (c := c) (by omega) hc
 have ee : RowEq n w (mx b) (mx (elD b done k)) := by
  refine (RowEq.clr (mx b) hd (fun r => - mx b r k)).trans (RowEq.cong fun r c hr1 hc => ?_)
  rw [eat r c hr1 hc]
  unfold clr
  by_cases e : r = done
  ·subst e; rw [if_neg (by omega), if_pos rfl]
  ·rw [if_pos ⟨hr1, e⟩, if_neg e, Int.emod_emod_of_dvd _ (Int.dvd_refl _), Int.add_emod, Int.add_emod (mx b r c), mul_mod_l]
 have keep : ∀ r c, r < n → c < w → mx b done c = 0 → mx (elD b done k) r c = mx b r c := fun r c hr1 hc hz => by
  rw [eat r c hr1 hc]
  by_cases e : r = done
  ·rw [if_pos e, e]
  ·rw [if_neg e, hz, Int.mul_zero, Int.add_zero]
   have := mx_N cr (show r < b.length by omega) c
   exact Int.emod_eq_of_lt this.1 (by have := this.2; omega)
 have fin : ∀ r, r < n → mx (elD b done k) r k = if r = done then 1 else 0 := fun r hr1 => by
  rw [eat r k hr1 hk, ck]
  by_cases e : r = done
  ·rw [if_pos e, if_pos e]
  ·rw [if_neg e, if_neg e, Int.mul_one]; omega
 refine ⟨by omega, er, (se.trans ce).trans ee, by omega, ⟨fun j => if j = done then k else p j, fun j hj => ?_, fun j hj => ?_, fun j hj c hc => ?_⟩, fun r hr1 hr2 c hc => ?_⟩
 ·by_cases e : j = done
  ·subst e
   simp only [if_true]
   exact ⟨by omega, fin⟩
  ·have hjd : j < done := by omega
   have q := p1 j hjd
   simp only [if_neg e]
   refine ⟨by omega, fun r hr1 => ?_⟩
   rw [keep r (p j) hr1 (by omega) (cz _ q.1)]
   by_cases e2 : r = done
   ·subst e2; rw [cz _ q.1, if_neg (by omega)]
   ·rw [co r (p j) e2 (by omega)]
    by_cases e3 : r < done
    ·rw [sup r e3]; exact q.2 r hr1
    ·rw [slow r (by omega) hr1 (p j) q.1, if_neg (by omega)]
 ·by_cases e : j + 1 = done
  ·have q := p1 j (by omega)
   simp only [if_pos e, if_neg (show ¬ j = done by omega)]
   exact q.1
  ·simp only [if_neg e, if_neg (show ¬ j = done by omega)]
   exact p2 j (by omega)
 ·by_cases e : j = done
  ·subst e
   simp only [if_true] at hc
   rw [keep j c (by omega) (by omega) (cz c hc), cz c hc]
  ·have hjd : j < done := by omega
   have q := p1 j hjd
   simp only [if_neg e] at hc
   rw [keep j c (by omega) (by omega) (cz c (by omega)), co j c e (by omega), sup j hjd]
   exact p3 j hjd c hc
 ·by_cases e : c = k
  ·subst e; rw [fin r hr2, if_neg (by omega)]
  ·rw [keep r c hr2 (by omega) (cz c (by omega)), co r c (by omega) (by omega)]
   exact slow r (by omega) hr2 c (by omega)
end Go.Proofs.YtiikdbomhkbdlaaGreat


namespace Go.Proofs.YtiikdbomhkbdlaaGreat
open Go.Abs
def ldF (r : List Int) : Nat → Nat → Nat
 | 0, i => i
 | f + 1, i => if r[i]?.getD 0 = 0 then ldF r f (i + 1) else i
theorem ldF_le (r : List Int) : ∀ f i, i ≤ ldF r f i ∧ ldF r f i ≤ i + f
 | 0, i => by simp [ldF]
 | f + 1, i => by
  rw [ldF]
  split
  ·have := ldF_le r f (i + 1); omega
  ·omega
theorem ldF_zero (r : List Int) : ∀ f i j, i ≤ j → j < ldF r f i → r[j]?.getD 0 = 0
 | 0, i, j, h1, h2 => by rw [ldF] at h2; omega
 | f + 1, i, j, h1, h2 => by
  rw [ldF] at h2
  split at h2
  ·rename_i h
   by_cases e : j = i
   ·subst e; exact h
   ·exact ldF_zero r f (i + 1) j (by omega) h2
  ·omega
theorem ldF_ne (r : List Int) : ∀ f i, ldF r f i < i + f → r[ldF r f i]?.getD 0 ≠ 0
 | 0, i, h => by rw [ldF] at h; omega
 | f + 1, i, h => by
  rw [ldF] at h ⊢
  split
  ·rename_i hz
   rw [if_pos hz] at h
   exact ldF_ne r f (i + 1) (by omega)
  ·rename_i hz; exact hz
def leadL (r : List Int) : Nat := ldF r r.length 0
def oneB (n : Nat) (m : List (List Int)) (done : Nat) : Bool := decide (done = n) && decide (leadL (m[n - 1]?.getD []) = n - 1)
theorem piv_ge {p : Nat → Nat} {n : Nat} (h : ∀ j, j + 1 < n → p j < p (j + 1)) : ∀ j, j < n → j ≤ p j
 | 0, _ => by omega
 | j + 1, hj => by have := piv_ge h j (by omega); have := h j hj; omega
theorem piv_le {p : Nat → Nat} {n : Nat} (h : ∀ j, j + 1 < n → p j < p (j + 1)) : ∀ t j, j + t + 1 = n → p j + t ≤ p (n - 1)
 | 0, j, hj => by rw [show n - 1 = j by omega]; omega
 | t + 1, j, hj => by have := piv_le h t (j + 1) (by omega); have := h j (by omega); omega
theorem GI.one {n : Nat} {W0 : Mx} {m : List (List Int)} {done k : Nat} (h : GI n (n + 1) W0 m done k) (hn : 0 < n) (hk : k ≤ n + 1) (ho : oneB n m done = true) : ∀ r c, r < n → c < n → mx m r c = idM r c := by
 unfold oneB at ho
 simp only [Bool.and_eq_true, decide_eq_true_eq] at ho
 obtain ⟨hd, hl⟩ := ho
 subst hd
 obtain ⟨p, p1, p2, p3⟩ := h.piv
 have rl := (h.rws.at (i := done - 1) (by rw [h.len]; omega)).1
 have hne := ldF_ne (m[done - 1]?.getD []) (m[done - 1]?.getD []).length 0 (by
  have : ldF (m[done - 1]?.getD []) (m[done - 1]?.getD []).length 0 = done - 1 := hl
  omega)
 have hl2 : ldF (m[done - 1]?.getD []) (m[done - 1]?.getD []).length 0 = done - 1 := hl
 rw [hl2] at hne
 have hp : p (done - 1) ≤ done - 1 := by
  rcases Nat.lt_or_ge (done - 1) (p (done - 1)) with hlt | hge
  ·exact (hne (p3 (done - 1) (by omega) (done - 1) hlt)).elim
  ·exact hge
 intro r c hr hc
 have g1 := piv_ge p2 c hc
 have g2 := piv_le p2 (done - 1 - c) c (by omega)
 have e : p c = c := by omega
 have := (p1 c hc).2 r hr
 rw [e] at this
 exact this
theorem GI.none {n : Nat} {W0 : Mx} {m : List (List Int)} {done k : Nat} (h : GI n (n + 1) W0 m done k) (hn : 0 < n) (hk : k ≤ n + 1) (hf : k = n + 1 ∨ done = n) (ho : oneB n m done = false) : ∃ i, i < n ∧ ∀ c, c < n → mx m i c = 0 := by
 refine ⟨n - 1, by omega, fun c hc => ?_⟩
 have hdl := h.dle
 by_cases hd : done = n
 ·subst hd
  obtain ⟨p, p1, p2, p3⟩ := h.piv
  have rl := (h.rws.at (i := done - 1) (by rw [h.len]; omega)).1
  have g1 := piv_ge p2 (done - 1) (by omega)
  have q := p1 (done - 1) (by omega)
  by_cases e : p (done - 1) = done - 1
  ·have e1 : mx m (done - 1) (done - 1) = 1 := by
    have := q.2 (done - 1) (by omega)
    rw [e, if_pos rfl] at this
    exact this
   have l1 := ldF_le (m[done - 1]?.getD []) (m[done - 1]?.getD []).length 0
   have hl : leadL (m[done - 1]?.getD []) = done - 1 := by
    unfold leadL
    rcases Nat.lt_trichotomy (ldF (m[done - 1]?.getD []) (m[done - 1]?.getD []).length 0) (done - 1) with hlt | heq | hgt
    ·have := ldF_ne (m[done - 1]?.getD []) (m[done - 1]?.getD []).length 0 (by omega)
     exact (this (p3 (done - 1) (by omega) _ (by omega))).elim
    ·exact heq
    ·have := ldF_zero (m[done - 1]?.getD []) (m[done - 1]?.getD []).length 0 (done - 1) (by omega) hgt
     have e2 : mx m (done - 1) (done - 1) = 0 := this
     rw [e1] at e2; omega
   unfold oneB at ho
   rw [hl] at ho
   simp at ho
  ·exact p3 (done - 1) (by omega) c (by omega)
 ·exact h.low (n - 1) (by omega) (by omega) c (by omega)
end Go.Proofs.YtiikdbomhkbdlaaGreat


namespace Go.Proofs.YtiikdbomhkbdlaaGreat
open Go.Abs
end Go.Proofs.YtiikdbomhkbdlaaGreat


namespace Go.Proofs.YtiikdbomhkbdlaaGreat
open Go.Abs
end Go.Proofs.YtiikdbomhkbdlaaGreat


namespace Go.Proofs.YtiikdbomhkbdlaaGreat
open Go.Abs
end Go.Proofs.YtiikdbomhkbdlaaGreat


namespace Go.Proofs.YtiikdbomhkbdlaaGreat
open Go.Abs
def Nul (n w : Nat) (m : List (List Int)) (x : Nat → Int) : Prop := ∀ r, r < n → dsum (fun c => mx m r c * x c) w % 10007 = 0
theorem Nul.swp {n w : Nat} {m : List (List Int)} {x : Nat → Int} (h : Nul n w m x) (hl : m.length = n) {i d : Nat} (hi : i < n) (hd : d < n) : Nul n w (swp m i d) x := by
 intro r hr
 rw [swp_mx (by omega) (by omega)]
 by_cases e1 : r = d
 ·subst e1; rw [updR_at]; exact h i hi
 ·rw [updR_ne _ _ e1]
  by_cases e2 : r = i
  ·subst e2; rw [updR_at]; exact h d hd
  ·rw [updR_ne _ _ e2]; exact h r hr
theorem Nul.scl {n w : Nat} {m : List (List Int)} {x : Nat → Int} (h : Nul n w m x) (hl : m.length = n) (hr : Rws w m) {d k : Nat} (hd : d < n) : Nul n w (scl m d k) x := by
 intro r hrn
 by_cases e : r = d
 ·subst e
  have e1 : dsum (fun c => mx (Go.Proofs.YtiikdbomhkbdlaaGreat.scl m r k) r c * x c) w % 10007 = dsum (fun c => (pw (mx m r k) 10005 % 10007) * (mx m r c * x c)) w % 10007 := dsum_cong fun c hc => by
   rw [scl_at hr (by omega) hc, if_pos rfl, mul_mod_l]
   congr 1
   rw [Int.mul_comm (mx m r c), Int.mul_assoc]
  rw [e1, ← dsum_mul, ← mul_mod_r, h r hrn]; simp
 ·have e1 : dsum (fun c => mx (Go.Proofs.YtiikdbomhkbdlaaGreat.scl m d k) r c * x c) w % 10007 = dsum (fun c => mx m r c * x c) w % 10007 := dsum_cong fun c hc => by
   rw [scl_at hr (by omega) hc, if_neg e]
  rw [e1]; exact h r hrn
theorem Nul.elD {n w : Nat} {m : List (List Int)} {x : Nat → Int} (h : Nul n w m x) (hl : m.length = n) (hr : Rws w m) {d k : Nat} (hd : d < n) : Nul n w (elD m d k) x := by
 intro r hrn
 by_cases e : r = d
 ·have e1 : dsum (fun c => mx (Go.Proofs.YtiikdbomhkbdlaaGreat.elD m d k) r c * x c) w % 10007 = dsum (fun c => mx m d c * x c) w % 10007 := dsum_cong fun c hc => by
   rw [elD_at hr (by omega) hc, if_pos e]
  rw [e1]; exact h d hd
 ·have e1 : dsum (fun c => mx (Go.Proofs.YtiikdbomhkbdlaaGreat.elD m d k) r c * x c) w % 10007 = dsum (fun c => mx m r c * x c + ((- mx m r k) % 10007) * (mx m d c * x c)) w % 10007 := dsum_cong fun c hc => by
   rw [elD_at hr (by omega) hc, if_neg e, mul_mod_l, Int.add_mul, Int.mul_assoc]
  rw [e1, dsum_lin, Int.add_emod, h r hrn, ← mul_mod_r, h d hd]; simp
end Go.Proofs.YtiikdbomhkbdlaaGreat


namespace Go.Proofs.YtiikdbomhkbdlaaGreat
open Go.Abs
end Go.Proofs.YtiikdbomhkbdlaaGreat


namespace Go.Proofs.YtiikdbomhkbdlaaGreat
open Go.Abs
end Go.Proofs.YtiikdbomhkbdlaaGreat


namespace Go.Proofs.YtiikdbomhkbdlaaGreat
open Go.Abs
end Go.Proofs.YtiikdbomhkbdlaaGreat


namespace Go.Proofs.YtiikdbomhkbdlaaGreat
open Go.Abs
end Go.Proofs.YtiikdbomhkbdlaaGreat


namespace Go.Proofs.YtiikdbomhkbdlaaGreat
open Go.Abs
end Go.Proofs.YtiikdbomhkbdlaaGreat


namespace Go.Proofs.YtiikdbomhkbdlaaGreat
open Go.Abs
end Go.Proofs.YtiikdbomhkbdlaaGreat


namespace Go.Proofs.YtiikdbomhkbdlaaGreat
open Go.Abs
end Go.Proofs.YtiikdbomhkbdlaaGreat


namespace Go.Proofs.YtiikdbomhkbdlaaGreat
open Go.Abs
theorem Tab.rws {A : List (List Int)} {B : List Int} (h : Tab A B) : Rws B.length A := h.a
end Go.Proofs.YtiikdbomhkbdlaaGreat


namespace Go.Proofs.YtiikdbomhkbdlaaGreat
open Go.Abs CR
theorem dsum_mod {f g : Nat → Int} : ∀ {n : Nat}, (∀ i, i < n → f i % 10007 = g i % 10007) → dsum f n % 10007 = dsum g n % 10007
 | 0, _ => rfl
 | n + 1, h => mod_addc (dsum_mod (n := n) (fun i hi => h i (by omega))) (h n (by omega))
end Go.Proofs.YtiikdbomhkbdlaaGreat


namespace Go.Proofs.YtiikdbomhkbdlaaGreat
open Go.Abs
end Go.Proofs.YtiikdbomhkbdlaaGreat


namespace Go.Proofs.YtiikdbomhkbdlaaGreat
open Go.Abs
end Go.Proofs.YtiikdbomhkbdlaaGreat


namespace Go.Proofs.YtiikdbomhkbdlaaGreat
open Go.Abs CR
def en (X : List (List Int)) (k j : Nat) : Int := (X[k]?.getD [])[j]?.getD 0
def R7 (n : Nat) (X : List (List Int)) : Prop := X.length = n ∧ ∀ r ∈ X, r.length = 7 ∧ Ns r
theorem R7.row {n : Nat} {X : List (List Int)} (h : R7 n X) {k : Nat} (hk : k < n) : (X[k]?.getD []).length = 7 ∧ Ns (X[k]?.getD []) := h.2 _ (memD [] (by rw [h.1]; exact hk))
theorem fd_R7 (M : List (List Int)) (f : List (List Mon)) : R7 f.length (fdS M f) := ⟨by simp, fdS_row⟩
def Fix (A : List (List Int)) (f : List (List Mon)) (start : List (List Int)) (K : List (List (List Int))) : Prop := K.length = A.length ∧ ∀ i, i < A.length → K[i]?.getD [] = fdS (mvS start (A[i]?.getD []) K (A[i]?.getD []).length) f
section
variable {A : List (List Int)} {B : List Int} {f : List (List Mon)} {start : List (List Int)} {n : Nat}
theorem Fix.R7 {K : List (List (List Int))} (hf : f.length = n) (h : Fix A f start K) {i : Nat} (hi : i < A.length) : R7 n (K[i]?.getD []) := by
 rw [h.2 i hi, ← hf]; exact fd_R7 _ _
end
end Go.Proofs.YtiikdbomhkbdlaaGreat


namespace Go.Proofs.YtiikdbomhkbdlaaGreat
open Go.Abs
theorem at0 {A : List (List Int)} (h : 0 < A.length) : mat A = .sl (A[0]?.getD []).length (avs (A[0]?.getD [])) :: mat A.tail := by cases A with | nil => simp at h | cons x l => simp [mat]
end Go.Proofs.YtiikdbomhkbdlaaGreat


namespace Go.Proofs.YtiikdbomhkbdlaaGreat
open Go.Abs
end Go.Proofs.YtiikdbomhkbdlaaGreat


namespace Go.Proofs.YtiikdbomhkbdlaaGreat
open Go.Abs
theorem plusL_cf (k : Int) (K : Key) : ∀ (q p : List Mon), cfL (plusL p k q) K % 10007 = (cfL p K + k * cfL q K) % 10007
 | [], p => by simp [plusL, cfL, coef, sumI]
 | m :: q, p => by
  rw [plusL, plusL_cf k K q, cfL_cons, Int.add_emod, putL_cf, Int.mul_add]
  by_cases h : K = keyOf m.2
  ·simp only [h, if_true]; omega
  ·simp only [h, if_false]; omega
def pcf (p q : List Mon) (K : Key) : Int := sumI (fun a => sumI (fun b => if K = keyOf (addE a.2 b.2) then a.1 * b.1 else 0) q) p
theorem prodRow_cf (a : Mon) (K : Key) : ∀ (q acc : List Mon), cfL (prodRow a acc q) K % 10007 = (cfL acc K + sumI (fun b => if K = keyOf (addE a.2 b.2) then a.1 * b.1 else 0) q) % 10007
 | [], acc => by simp [prodRow, sumI]
 | b :: q, acc => by
  rw [prodRow, prodRow_cf a K q, Int.add_emod, putL_cf]
  simp only [sumI]
  by_cases h : K = keyOf (addE a.2 b.2)
  ·simp only [h, if_true]; omega
  ·simp only [h, if_false]; omega
theorem prodGo_cf (q : List Mon) (K : Key) : ∀ (p acc : List Mon), cfL (prodGo acc q p) K % 10007 = (cfL acc K + pcf p q K) % 10007
 | [], acc => by simp [prodGo, pcf, sumI]
 | a :: p, acc => by
  rw [prodGo, prodGo_cf q K p, Int.add_emod, prodRow_cf]
  simp only [pcf, sumI]
  omega
theorem prodL_cf (p q : List Mon) (K : Key) : cfL (prodL p q) K % 10007 = pcf p q K % 10007 := by
 unfold prodL
 rw [prodGo_cf]; simp [cfL, coef, sumI]
end Go.Proofs.YtiikdbomhkbdlaaGreat


namespace Go.Proofs.YtiikdbomhkbdlaaGreat
open Go.Abs
section
variable {q : List (List Int)} {f : List (List Mon)} {n : Nat}
end
end Go.Proofs.YtiikdbomhkbdlaaGreat


namespace Go.Proofs.YtiikdbomhkbdlaaGreat
open Go.Abs CR
section
variable {α : Type} [CR α] {Q : Nat → Nat → Int} {n : Nat}
theorem sT_at (f : Nat → Ser α) (j : Nat) : ∀ n, (sT f n) j = sT (fun k => f k j) n
 | 0 => by
  cases j <;> rfl
 | n + 1 => by rw [sT, ser_add, sT_at f j n, sT]
end
section
variable {α : Type} [CR α] {q : List (List Int)} {f : List (List Mon)} {n : Nat}
end
section
variable {q L : List (List Int)}
end
section
variable {q : List (List Int)} {f : List (List Mon)} {y : List Int} {n : Nat}
def zz : Ser Int := fun n => if n = 1 then 1 else 0
theorem zz_mul (a : Ser Int) : ∀ j, (zz * a : Ser Int) j = if j = 0 then 0 else a (j - 1)
 | 0 => by
  show zz 0 * a 0 = 0
  show 0 * a 0 = 0
  exact Int.zero_mul _
 | j + 1 => by
  rw [if_neg (by omega)]
  show cmul (j + 1) zz a = a j
  rw [cmul]
  have e : sh zz = ofI 1 := funext fun k => by
   show (if k + 1 = 1 then (1 : Int) else 0) = if k = 0 then 1 else 0
   by_cases h : k = 0
   ·subst h; rfl
   ·rw [if_neg (by omega), if_neg h]
  rw [e]
  have e2 : cmul j (ofI 1) a = a j := by
   have := congrFun (omul a) j
   exact this
  rw [e2]
  show (0 : Int) * a (j + 1) + a j = a j
  omega
end
end Go.Proofs.YtiikdbomhkbdlaaGreat


namespace Go.Proofs.YtiikdbomhkbdlaaGreat
open Go.Abs CR
section
variable {α : Type} [CR α]
def phi (z : α) (N : Nat) (s : Ser α) : α := sT (fun n => s n * pwr z n) N
theorem sT_split (f : Nat → α) (m : Nat) : ∀ k, sT f (m + k) = sT f m + sT (fun j => f (m + j)) k
 | 0 => by show sT f m = sT f m + ofI 0; rw [add0]
 | k + 1 => by rw [← Nat.add_assoc, sT, sT_split f m k, sT, addA]
theorem phi_add (z : α) (N : Nat) (a b : Ser α) : phi z N (a + b) = phi z N a + phi z N b := by
 unfold phi
 rw [← sT_add]
 exact sT_congr fun n _ => by rw [ser_add, Dmul]
theorem phi_of (z : α) (N : Nat) (k : Int) : phi z (N + 1) (ofI k) = ofI k := by
 unfold phi
 rw [sT_shift, sT_congr (g := fun _ => (ofI 0 : α)) (fun n _ => by rw [ser_ofS, zmul]), sT_zero, add0, ser_of0]
 exact mul1 _
theorem phi_conv (z : α) (b : Ser α) : ∀ (N : Nat) (a : Ser α), sT (fun n => cmul n a b * pwr z n) N = sT (fun i => (a i * pwr z i) * sT (fun j => b j * pwr z j) (N - i)) N
 | 0, a => rfl
 | N + 1, a => by
  rw [sT_shift, sT_shift (fun i => (a i * pwr z i) * sT (fun j => b j * pwr z j) (N + 1 - i))]
  have e1 : sT (fun k => cmul (k + 1) a b * pwr z (k + 1)) N = a 0 * sT (fun k => b (k + 1) * pwr z (k + 1)) N + z * sT (fun n => cmul n (sh a) b * pwr z n) N := by
   rw [← sT_mul, ← sT_mul, ← sT_add]
   refine sT_congr fun n _ => ?_
   show (a 0 * b (n + 1) + cmul n (sh a) b) * (pwr z n * z) = a 0 * (b (n + 1) * (pwr z n * z)) + z * (cmul n (sh a) b * pwr z n)
   rw [Dmul]
   congr 1
   ·ac_rfl
   ·ac_rfl
  rw [e1, phi_conv z b N (sh a)]
  have e2 : sT (fun k => (a (k + 1) * pwr z (k + 1)) * sT (fun j => b j * pwr z j) (N + 1 - (k + 1))) N = z * sT (fun i => (sh a i * pwr z i) * sT (fun j => b j * pwr z j) (N - i)) N := by
   rw [← sT_mul]
   refine sT_congr fun i _ => ?_
   rw [show N + 1 - (i + 1) = N - i by omega]
   show (a (i + 1) * (pwr z i * z)) * _ = z * ((a (i + 1) * pwr z i) * _)
   ac_rfl
  rw [e2, Nat.sub_zero, sT_shift (fun j => b j * pwr z j) N]
  show a 0 * b 0 * ofI 1 + _ = (a 0 * ofI 1) * (b 0 * ofI 1 + _) + _
  rw [mul1, mul1, mul1, mulD, addA]
theorem phi_mul (c : Cg α) {z : α} {N : Nat} (hz : c.r (pwr z N) (ofI 0)) (a b : Ser α) : c.r (phi z N (a * b)) (phi z N a * phi z N b) := by
 have e1 : phi z N (a * b) = sT (fun i => (a i * pwr z i) * sT (fun j => b j * pwr z j) (N - i)) N := phi_conv z b N a
 rw [e1]
 unfold phi
 rw [mulC (sT _ N), ← sT_mul]
 refine c.sT fun i hi => ?_
 have e2 : sT (fun n => b n * pwr z n) N = sT (fun n => b n * pwr z n) (N - i) + sT (fun j => b (N - i + j) * pwr z (N - i + j)) i := by
  rw [← sT_split (fun n => b n * pwr z n) (N - i) i]
  rw [show N - i + i = N by omega]
 rw [e2, Dmul]
 have e3 : c.r (sT (fun j => b (N - i + j) * pwr z (N - i + j)) i * (a i * pwr z i)) (ofI 0) := by
  rw [mulC, ← sT_mul]
  refine c.trans (c.sT (g := fun _ => ofI 0) fun j hj => ?_) (c.eq (sT_zero i))
  have e4 : pwr z i * pwr z (N - i + j) = pwr z N * pwr z j := by
   rw [← pwr_add, ← pwr_add]; congr 1; omega
  have e5 : (a i * pwr z i) * (b (N - i + j) * pwr z (N - i + j)) = (a i * b (N - i + j)) * (pwr z N * pwr z j) := by
   rw [← e4]; ac_rfl
  rw [e5]
  refine c.trans (c.mul (c.refl _) (c.mul hz (c.refl _))) (c.eq ?_)
  rw [zmul, mul0]
 refine c.symm (c.trans (c.add (c.refl _) e3) (c.eq ?_))
 rw [add0, mulC]
theorem phi_pwr (c : Cg α) {z : α} {N : Nat} (hz : c.r (pwr z (N + 1)) (ofI 0)) (a : Ser α) : ∀ e, c.r (phi z (N + 1) (pwr a e)) (pwr (phi z (N + 1) a) e)
 | 0 => c.eq (phi_of z N 1)
 | e + 1 => c.trans (phi_mul c hz (pwr a e) a) (c.mul (phi_pwr c hz a e) (c.refl _))
theorem phi_mon (c : Cg α) {z : α} {N : Nat} (hz : c.r (pwr z (N + 1)) (ofI 0)) (U : Nat → Ser α) (e : Nat → Nat) : ∀ d, c.r (phi z (N + 1) (mon U e d)) (mon (fun k => phi z (N + 1) (U k)) e d)
 | 0 => c.eq (phi_of z N 1)
 | d + 1 => c.trans (phi_mul c hz _ _) (c.mul (phi_mon c hz U e d) (phi_pwr c hz _ _))
theorem phi_ev (c : Cg α) {z : α} {N : Nat} (hz : c.r (pwr z (N + 1)) (ofI 0)) (U : Nat → Ser α) (d : Nat) : ∀ L : List Mon, c.r (phi z (N + 1) (evM d U L)) (evM d (fun k => phi z (N + 1) (U k)) L)
 | [] => c.eq (phi_of z N 0)
 | m :: L => by
  rw [evM_cons, evM_cons, phi_add]
  refine c.add (c.trans (phi_mul c hz _ _) (c.mul (c.eq (phi_of z N _)) (phi_mon c hz U _ d))) (phi_ev c hz U d L)
def cstF (v : Nat → Int) (d : Nat) : List (List Mon) := (List.range d).map fun k => [(v k, List.replicate d 0)]
theorem cstF_len (v : Nat → Int) (d : Nat) : (cstF v d).length = d := by simp [cstF]
theorem cstF_at {v : Nat → Int} {d k : Nat} (h : k < d) : (cstF v d)[k]?.getD [] = [(v k, List.replicate d 0)] := by simp [cstF, h]
theorem cstF_lok (v : Nat → Int) (d : Nat) : ∀ F ∈ cstF v d, LOk d F := fun F hF m hm => by
 obtain ⟨k, hk, rfl⟩ := List.mem_map.1 hF
 simp at hm
 subst hm
 exact ⟨by simp, fun x hx => by have := (List.mem_replicate.1 hx).2; omega⟩
theorem ex_zero (d j : Nat) : ex (List.replicate d 0) j = 0 := by
 unfold ex
 by_cases h : j < d
 ·simp [h]
 ·rw [List.getElem?_eq_none (by simp; omega)]; rfl
theorem cstF_ev (v : Nat → Int) {d k : Nat} (U : Nat → α) (h : k < d) : evM d U ((cstF v d)[k]?.getD []) = ofI (v k) := by
 rw [cstF_at h, evM_cons, evM_nil, add0, mon_zero U (fun j _ => ex_zero d j), mul1]
theorem taylor1 (c : Cg α) {z : α} (hz : c.r (pwr z 7) (ofI 0)) (u : Nat → α) (v : Nat → Int) {d : Nat} {L : List Mon} (hL : LOk d L) :
  c.r (evM d (fun k => u k + ofI (v k) * z) L) (sT (fun n => (ofI (ift n) * evM d u (Nat.repeat (alongL (cstF v d)) n L)) * pwr z n) 7) := by
 let U : Nat → Ser α := fun k n => if n = 0 then u k else if n = 1 then ofI (v k) else ofI 0
 have hU : ∀ k, k < d → ∀ n, n < 7 → c.r (ofI ((n + 1 : Nat) : Int) * U k (n + 1)) (evM d U ((cstF v d)[k]?.getD []) n) := fun k hk n hn => by
  rw [cstF_ev v U hk]
  refine c.eq ?_
  cases n with
  | zero =>
   show ofI ((0 + 1 : Nat) : Int) * ofI (v k) = ofI (v k)
   exact omul _
  | succ n =>
   show ofI ((n + 1 + 1 : Nat) : Int) * ofI 0 = ofI 0
   exact mul0 _
 have fl := fun n hn => flow_is c (cstF_len v d) (cstF_lok v d) hU n L hn hL
 have e1 : ∀ k, phi z 7 (U k) = u k + ofI (v k) * z := fun k => by
  unfold phi
  rw [show (7 : Nat) = 5 + 1 + 1 from rfl, sT_shift, sT_shift, sT_congr (g := fun _ => (ofI 0 : α)) (fun n _ => by
   show ofI 0 * _ = ofI 0
   exact zmul _), sT_zero, add0]
  show u k * ofI 1 + ofI (v k) * (ofI 1 * z) = _
  rw [mul1, omul]
 have e2 : (fun k => u k + ofI (v k) * z) = fun k => phi z 7 (U k) := funext fun k => (e1 k).symm
 rw [e2]
 refine c.trans (c.symm (phi_ev c (N := 6) hz U d L)) ?_
 refine c.sT fun n hn => c.mul ?_ (c.refl _)
 have f1 := fl n (by omega)
 have i1 : c.r (ofI (ift n) * ofI (fct n) : α) (ofI 1) := by
  rw [← ofMul]
  exact c.of (by rw [ift_fct n (by omega)]; rfl)
 have e3 : evM d U L n = ofI 1 * evM d U L n := (omul _).symm
 rw [e3]
 refine c.trans (c.mul (c.symm i1) (c.refl _)) ?_
 rw [mulA]
 exact c.mul (c.refl _) f1
end
end Go.Proofs.YtiikdbomhkbdlaaGreat


namespace Go.Proofs.YtiikdbomhkbdlaaGreat
open Go.Abs CR
section
variable {α : Type} [CR α]
theorem pwr_mul (a b : α) : ∀ n, pwr (a * b) n = pwr a n * pwr b n
 | 0 => (mul1 _).symm
 | n + 1 => by rw [pwr, pwr, pwr, pwr_mul a b n]; ac_rfl
theorem pwr_pwr (a : α) (m : Nat) : ∀ n, pwr (pwr a m) n = pwr a (m * n)
 | 0 => rfl
 | n + 1 => by rw [pwr, pwr_pwr a m n, Nat.mul_succ, pwr_add]
end
theorem zw_mul (a : Ser Int) : ∀ (w j : Nat), (pwr zz w * a : Ser Int) j = if w ≤ j then a (j - w) else 0
 | 0, j => by
  rw [if_pos (Nat.zero_le _)]
  show (ofI 1 * a : Ser Int) j = _
  rw [omul]; rfl
 | w + 1, j => by
  have e : (pwr zz (w + 1) * a : Ser Int) = zz * (pwr zz w * a) := by rw [pwr]; ac_rfl
  rw [e, zz_mul]
  cases j with
  | zero => rw [if_pos rfl, if_neg (by omega)]
  | succ j =>
   rw [if_neg (by omega), Nat.add_sub_cancel, zw_mul a w j]
   by_cases h : w ≤ j
   ·rw [if_pos h, if_pos (by omega), show j + 1 - (w + 1) = j - w by omega]
   ·rw [if_neg h, if_neg (by omega)]
theorem of_mul (k : Int) (a : Ser Int) (j : Nat) : (ofI k * a : Ser Int) j = k * a j := by
 rw [mulC]
 show cmul j a (sOf k) = _
 rw [cmul_of]
 exact Int.mul_comm _ _
theorem of_at (k : Int) (j : Nat) : (ofI k : Ser Int) j = if j = 0 then k else 0 := rfl
def zT (C : List Int → Int) (t : List Int) : Ser Int := ofI (C t) * pwr zz t.length
theorem zT_pwr (C : List Int → Int) (t : List Int) (n : Nat) : pwr (zT C t) n = ofI (pwr (C t) n) * pwr zz (t.length * n) := by
 unfold zT
 rw [pwr_mul, pwr_of, pwr_pwr]
theorem zT_nil {C : List Int → Int} {t : List Int} (h : 0 < t.length) : c7.r (pwr (zT C t) 7) (ofI 0) := fun j hj => by
 rw [zT_pwr, of_mul]
 have e : (pwr zz (t.length * 7) : Ser Int) j = 0 := by
  have := zw_mul (ofI 1) (t.length * 7) j
  rw [mul1] at this
  rw [this, if_neg (by omega)]
 rw [e, of_at]
 split <;> (simp; exact cgI.refl _)
def uT (y : Nat → Int) (C : List Int → Int) (F : List Int → List Int) : List (List Int) → Nat → Ser Int
 | [], k => ofI (y k)
 | t :: ts, k => uT y C F ts k + ofI ((F t)[k]?.getD 0) * zT C t
def DerL (d : Nat) : List (List Int) → List Mon → List Mon
 | [], L => L
 | v :: vs, L => DerL d vs (alongL (cstF (fun k => v[k]?.getD 0) d) L)
theorem rep_front {α : Type} (f : α → α) : ∀ (n : Nat) (a : α), Nat.repeat f (n + 1) a = Nat.repeat f n (f a)
 | 0, a => rfl
 | n + 1, a => by rw [Nat.repeat, rep_front f n a]; rfl
theorem DerL_rep (d : Nat) (v : List Int) (vs : List (List Int)) : ∀ (n : Nat) (L : List Mon), DerL d (List.replicate n v ++ vs) L = DerL d vs (Nat.repeat (alongL (cstF (fun k => v[k]?.getD 0) d)) n L)
 | 0, L => rfl
 | n + 1, L => by
  rw [List.replicate_succ, List.cons_append, DerL, DerL_rep d v vs n, rep_front]
def prodC (C : List Int → Int) : List (List Int) → Int
 | [] => 1
 | b :: bs => C b * prodC C bs
theorem prodC_rep (C : List Int → Int) (b : List Int) (bs : List (List Int)) : ∀ n, prodC C (List.replicate n b ++ bs) = pwr (C b) n * prodC C bs
 | 0 => by show prodC C bs = 1 * prodC C bs; rw [Int.one_mul]
 | n + 1 => by
  rw [List.replicate_succ, List.cons_append, prodC, prodC_rep C b bs n, pwr]
  rw [← Int.mul_assoc, Int.mul_comm (C b)]
def ifq (n : Nat) : Int := ([1, 1, 5004, 1668, 417, 8089, 3016] : List Int)[n]?.getD 0
theorem ifq_mod : ∀ n, n < 7 → ift n % 10007 = ifq n % 10007 := by
 have h : ((List.range 7).all fun n => decide (ift n % 10007 = ifq n % 10007)) = true := by decide +kernel
 intro n hn
 simpa using List.all_eq_true.1 h n (by simpa using hn)
def enT : List (List Int) → Nat → List (List (List Int) × Int)
 | [], j => if j = 0 then [([], 1)] else []
 | t :: ts, j => (List.range 7).flatMap fun n => if t.length * n ≤ j then (enT ts (j - t.length * n)).map (fun x => (List.replicate n t ++ x.1, ifq n * x.2)) else []
def sumL2 {β : Type} (f : β → Int) : List β → Int
 | [] => 0
 | b :: l => f b + sumL2 f l
theorem sumL2_app {β : Type} (f : β → Int) (l r : List β) : sumL2 f (l ++ r) = sumL2 f l + sumL2 f r := by
 induction l with
 | nil => simp [sumL2]
 | cons b l ih => rw [List.cons_append, sumL2, ih, sumL2, Int.add_assoc]
theorem sumL2_map {β γ : Type} (f : γ → Int) (g : β → γ) (l : List β) : sumL2 f (l.map g) = sumL2 (fun b => f (g b)) l := by
 induction l with
 | nil => rfl
 | cons b l ih => rw [List.map_cons, sumL2, ih, sumL2]
theorem sumL2_mul {β : Type} (k : Int) (f : β → Int) (l : List β) : sumL2 (fun b => k * f b) l = k * sumL2 f l := by
 induction l with
 | nil => simp [sumL2]
 | cons b l ih => rw [sumL2, ih, sumL2, Int.mul_add]
theorem sumL2_congr {β : Type} {f g : β → Int} {l : List β} (h : ∀ b ∈ l, f b = g b) : sumL2 f l = sumL2 g l := by
 induction l with
 | nil => rfl
 | cons b l ih => rw [sumL2, sumL2, h b (by simp), ih (fun c hc => h c (by simp [hc]))]
theorem sumL2_mod {β : Type} {f g : β → Int} {l : List β} (h : ∀ b ∈ l, f b % 10007 = g b % 10007) : sumL2 f l % 10007 = sumL2 g l % 10007 := by
 induction l with
 | nil => rfl
 | cons b l ih =>
  rw [sumL2, sumL2]
  exact mod_addc (h b (by simp)) (ih (fun c hc => h c (by simp [hc])))
theorem sumL2_perm {β : Type} (f : β → Int) {l r : List β} (h : l.Perm r) : sumL2 f l = sumL2 f r := by
 induction h with
 | nil => rfl
 | cons b _ ih => rw [sumL2, sumL2, ih]
 | swap a b l => rw [sumL2, sumL2, sumL2, sumL2]; omega
 | trans _ _ i1 i2 => rw [i1, i2]
theorem sumL2_range (f : Nat → Int) : ∀ n, sumL2 f (List.range n) = dsum f n
 | 0 => rfl
 | n + 1 => by rw [List.range_succ, sumL2_app, sumL2_range f n]; simp [sumL2, dsum]
theorem sumL2_flat {β : Type} (f : β → Int) (g : Nat → List β) (l : List Nat) : sumL2 f (l.flatMap g) = sumL2 (fun n => sumL2 f (g n)) l := by
 induction l with
 | nil => rfl
 | cons b l ih => rw [List.flatMap_cons, sumL2_app, ih, sumL2]
def EE (d : Nat) (y : Nat → Int) (C : List Int → Int) (F : List Int → List Int) (ts : List (List Int)) (L : List Mon) (j : Nat) : Int :=
 sumL2 (fun x => x.2 * prodC C x.1 * evM d y (DerL d (x.1.map F) L)) (enT ts j)
theorem sT_int (f : Nat → Int) : ∀ n, sT f n = dsum f n
 | 0 => rfl
 | n + 1 => by rw [sT, sT_int f n]; rfl
theorem rep_lok {d : Nat} {v : Nat → Int} : ∀ (n : Nat) {L : List Mon}, LOk d L → LOk d (Nat.repeat (alongL (cstF v d)) n L)
 | 0, _, h => h
 | n + 1, L, h => alongL_lok (rep_lok n h) (cstF_lok v d) (by rw [cstF_len]; exact Nat.le_refl _)
theorem tay (d : Nat) (y : Nat → Int) (C : List Int → Int) (F : List Int → List Int) : ∀ (ts : List (List Int)), (∀ t ∈ ts, 0 < t.length) → ∀ (L : List Mon), LOk d L → ∀ j, j < 7 → (evM d (uT y C F ts) L : Ser Int) j % 10007 = EE d y C F ts L j % 10007
 | [], _, L, hL, j, hj => by
  have e : evM d (uT y C F []) L = (ofI (evM d y L) : Ser Int) := evM_of y d L
  rw [e, of_at]
  unfold EE enT
  by_cases h : j = 0
  ·rw [if_pos h, if_pos h]
   show evM d y L % 10007 = (1 * prodC C [] * evM d y (DerL d [] L) + 0) % 10007
   rw [Int.add_zero]
   show _ = (1 * 1 * evM d y L) % 10007
   rw [Int.one_mul, Int.one_mul]
  ·rw [if_neg h, if_neg h]; rfl
 | t :: ts, ht, L, hL, j, hj => by
  have ih := fun n i hi => tay d y C F ts (fun s hs => ht s (by simp [hs])) (Nat.repeat (alongL (cstF (fun k => (F t)[k]?.getD 0) d)) n L) (rep_lok n hL) i hi
  have h1 := taylor1 c7 (zT_nil (C := C) (ht t (by simp))) (uT y C F ts) (fun k => (F t)[k]?.getD 0) hL j hj
  refine h1.trans ?_
  rw [sT_at, sT_int]
  unfold EE
  rw [enT, sumL2_flat, sumL2_range]
  refine dsum_mod fun n hn => ?_
  have e1 : ((ofI (ift n) * evM d (uT y C F ts) (Nat.repeat (alongL (cstF (fun k => (F t)[k]?.getD 0) d)) n L)) * pwr (zT C t) n : Ser Int) j
    = ift n * pwr (C t) n * (if t.length * n ≤ j then (evM d (uT y C F ts) (Nat.repeat (alongL (cstF (fun k => (F t)[k]?.getD 0) d)) n L) : Ser Int) (j - t.length * n) else 0) := by
   rw [zT_pwr]
   generalize (evM d (uT y C F ts) (Nat.repeat (alongL (cstF (fun k => (F t)[k]?.getD 0) d)) n L) : Ser Int) = X
   have e2 : ((ofI (ift n) * X) * (ofI (pwr (C t) n) * pwr zz (t.length * n)) : Ser Int) = ofI (ift n * pwr (C t) n) * (pwr zz (t.length * n) * X) := by
    rw [ofMul]; ac_rfl
   rw [e2, of_mul, zw_mul]
  rw [e1]
  by_cases h : t.length * n ≤ j
  ·rw [if_pos h, if_pos h, sumL2_map]
   rw [mod_mulc (b := ifq n * pwr (C t) n) (mod_mulc (ifq_mod n hn) rfl) (ih n (j - t.length * n) (by omega))]
   refine congrArg (· % 10007) ?_
   unfold EE
   rw [← sumL2_mul]
   refine sumL2_congr fun x _ => ?_
   rw [prodC_rep, List.map_append, List.map_replicate, DerL_rep]
   show ifq n * pwr (C t) n * (x.2 * prodC C x.1 * _) = ifq n * x.2 * (pwr (C t) n * prodC C x.1) * _
   ac_rfl
  ·rw [if_neg h, if_neg h, Int.mul_zero]; rfl
end Go.Proofs.YtiikdbomhkbdlaaGreat


namespace Go.Proofs.YtiikdbomhkbdlaaGreat
open Go.Abs
theorem drvP_dv {n : Nat} {p : List Mon} {y : List Int} (hn : n ≤ 3) (hl : y.length = n) (hp : partB (n : Int) p = true) (vs : List (List Int)) : drvP y n vs p = Val (yat y) (Dv n vs (cfL p)) % 10007 := by
 have e : gv (polF p) = cfL p := funext (polF_gv (keys_nd (by omega) hp))
 rw [← drvP_eq hn hl hp vs, Val_eqv _ (DvM_gv n vs (polF p)), e]
end Go.Proofs.YtiikdbomhkbdlaaGreat


namespace Go.Proofs.YtiikdbomhkbdlaaGreat
open Go.Abs CR
theorem pwr_int (a : Int) : ∀ n, pwr a n = a ^ n
 | 0 => by rw [Int.pow_zero]; rfl
 | n + 1 => by rw [pwr, pwr_int a n, Int.pow_succ]
theorem mon_trm {d : Nat} (hd : d ≤ 3) (y : Nat → Int) {e : List Int} (he : e.length = d) : mon y (ex e) d = trm y (keyOf e) := by
 have one : ∀ a : Int, CR.ofI 1 * a = a := fun a => Int.one_mul a
 match d, e, he with
 | 0, [], _ => (simp [mon, trm, keyOf]; rfl)
 | 1, [a], _ => simp [mon, ex, keyOf, trm, pwr_int, one]
 | 2, [a, b], _ => simp [mon, ex, keyOf, trm, pwr_int, one]
 | 3, [a, b, c], _ => simp [mon, ex, keyOf, trm, pwr_int, one, Int.mul_assoc]
 | d + 4, _, _ => omega
theorem ev_Val {d : Nat} (hd : d ≤ 3) (y : Nat → Int) {L : List Mon} (hL : ∀ m ∈ L, VOk d m) : evM d y L = Val y (cfL L) := by
 unfold cfL
 rw [Val_coef y _ _ L (fun m hm => ((hL m hm).kok hd).1)]
 induction L with
 | nil => rfl
 | cons m L ih =>
  rw [evM_cons, ih (fun x hx => hL x (by simp [hx])), mon_trm hd y (hL m (by simp)).len]
  rfl
theorem add_zeros {d : Nat} {b : List Int} (h : b.length = d) : addE (List.replicate d 0) b = b := by
 unfold addE
 refine List.ext_getElem (by simp; omega) fun i h1 h2 => ?_
 simp
theorem cf_cst (c : Int) {d : Nat} {q : List Mon} (hq : ∀ m ∈ q, m.2.length = d) (K : Key) : cfL (prodL [(c, List.replicate d 0)] q) K % 10007 = c * cfL q K % 10007 := by
 rw [prodL_cf]
 have e : pcf [(c, List.replicate d 0)] q K = c * cfL q K := by
  show sumI (fun b => if K = keyOf (addE (List.replicate d 0) b.2) then c * b.1 else 0) q + 0 = c * sumI (fun m : Mon => if K = keyOf m.2 then m.1 else 0) q
  rw [Int.add_zero, ← sumI_mul]
  refine sumI_congr fun b hb => ?_
  rw [add_zeros (hq b hb)]
  by_cases h : K = keyOf b.2
  ·rw [if_pos h, if_pos h]
  ·rw [if_neg h, if_neg h, Int.mul_zero]
 rw [e]
theorem cst_take (v : Nat → Int) {d m : Nat} (h : m < d) : (cstF v d).take (m + 1) = (cstF v d).take m ++ [[(v m, List.replicate d 0)]] := by
 have hl : m < (cstF v d).length := by rw [cstF_len]; exact h
 rw [List.take_succ_eq_append_getElem hl]
 simp [cstF]
def alP (v : Nat → Int) (d : Nat) (p : List Mon) (m : Nat) : List Mon := alongGo [] p 0 ((cstF v d).take m)
theorem alP_succ (v : Nat → Int) {d m : Nat} (p : List Mon) (h : m < d) : alP v d p (m + 1) = plusL (alP v d p m) 1 (prodL [(v m, List.replicate d 0)] (derL m p)) := by
 unfold alP
 rw [cst_take v h, alongGo_app, alongGo, alongGo]
 have e : ((cstF v d).take m).length = m := by rw [List.length_take, cstF_len]; omega
 rw [e, Nat.zero_add]
theorem alP_all (v : Nat → Int) (d : Nat) (p : List Mon) : alP v d p d = alongL (cstF v d) p := by
 unfold alP alongL
 rw [List.take_of_length_le (by rw [cstF_len]; exact Nat.le_refl _)]
theorem VOk.w {n : Nat} {m : Mon} (h : WOk n 3 m) : VOk n m := ⟨h.num, h.len, h.pw⟩
theorem alP_ok {v : Nat → Int} {d : Nat} (hv : ∀ k, k < d → isN (v k)) {p : List Mon} (hp : ∀ m ∈ p, VOk d m) : ∀ m, m ≤ d → ∀ x ∈ alP v d p m, WOk d 3 x
 | 0, _, x, hx => by simp [alP, alongGo] at hx
 | m + 1, h, x, hx => by
  rw [alP_succ v p (by omega)] at hx
  have hc : ∀ m' ∈ [((v m, List.replicate d 0) : Mon)], WOk d 0 m' := fun m' hm => by
   simp at hm; subst hm
   exact ⟨hv m (by omega), by simp, fun y hy => by have := (List.mem_replicate.1 hy).2; omega⟩
  have hd := derL_wok (n := d) (i := m) (B := 3) (by omega) (p := p) (fun m hm => (hp m hm).wok)
  exact plusL_wok _ _ (fun a ha => (prodL_wok hc hd a ha).le (by omega)) (alP_ok hv hp m (by omega)) x hx
theorem alP_cf {v : Nat → Int} {d : Nat} (hd : d ≤ 3) {p : List Mon} (hp : ∀ m ∈ p, VOk d m) : ∀ m, m ≤ d → Eqv (cfL (alP v d p m)) (alo v (cfL p) m)
 | 0, _ => fun k _ => rfl
 | m + 1, h => fun k hk => by
  rw [alP_succ v p (by omega), plusL_cf]
  show _ = (alo v (cfL p) m k + v m * der m (cfL p) k) % 10007
  have h1 := alP_cf (v := v) hd hp m (by omega) k hk
  have h2 := cf_cst (v m) (fun x hx => (derL_wok (n := d) (i := m) (B := 3) (by omega) (p := p) (fun m hm => (hp m hm).wok) x hx).len) k
  have h3 := derL_eqv (n := d) (i := m) (by omega) hd hp k hk
  rw [Int.one_mul]
  refine mod_addc h1 ?_
  rw [h2]
  exact mod_mulc rfl h3
theorem DerL_val {d : Nat} (hd : d ≤ 3) (y : Nat → Int) : ∀ (vs : List (List Int)) {L : List Mon}, (∀ v ∈ vs, Ns v) → (∀ m ∈ L, VOk d m) → evM d y (DerL d vs L) % 10007 = Val y (Dv d vs (cfL L)) % 10007
 | [], L, _, h => by rw [DerL, ev_Val hd y h]; rfl
 | v :: vs, L, hv, h => by
  have h2 : ∀ m ∈ alongL (cstF (fun k => v[k]?.getD 0) d) L, VOk d m := fun m hm => by
   rw [← alP_all] at hm
   exact VOk.w (alP_ok (v := fun k => v[k]?.getD 0) (fun k _ => (hv v (by simp)).get k) h d (Nat.le_refl _) m hm)
  rw [DerL, DerL_val hd y vs (fun w hw => hv w (by simp [hw])) h2]
  refine Val_eqv y ?_
  show Eqv _ (Dv d vs (alo (yat v) (cfL L) d))
  refine Dv_eqv d vs ?_
  have := alP_cf (v := fun k => v[k]?.getD 0) hd h d (Nat.le_refl _)
  rw [alP_all] at this
  exact this
theorem partB_vok {n : Nat} {p : List Mon} (h : partB (n : Int) p = true) : ∀ m ∈ p, VOk n m := fun m hm => (partB_mem h hm).vok
theorem DerL_drv {n : Nat} {p : List Mon} {y : List Int} (hn : n ≤ 3) (hl : y.length = n) (hp : partB (n : Int) p = true) {vs : List (List Int)} (hv : ∀ v ∈ vs, Ns v) :
  evM n (fun k => y[k]?.getD 0) (DerL n vs p) % 10007 = drvP y n vs p := by
 rw [drvP_dv hn hl hp, DerL_val hn _ vs hv (partB_vok hp)]
 rfl
end Go.Proofs.YtiikdbomhkbdlaaGreat


namespace Go.Proofs.YtiikdbomhkbdlaaGreat
open Go.Abs Go.Shelf Go.Sort
theorem ltL_tot : ∀ {a b : List Int}, a ≠ b → ltL a b = false → ltL b a = true
 | [], [], h, _ => absurd rfl h
 | [], y :: b, _, h => by simp [ltL] at h
 | x :: a, [], _, _ => by simp [ltL]
 | x :: a, y :: b, h, h2 => by
  simp only [ltL] at h2 ⊢
  by_cases e : x = y
  ·subst e
   simp only [if_true] at h2 ⊢
   exact ltL_tot (fun e => h (by rw [e])) h2
  ·rw [if_neg e] at h2
   rw [if_neg (fun x => e x.symm)]
   simp at h2 ⊢
   omega
theorem cmpL_neg (a b : List Int) : decide (cmpL a b < 0) = ltL a b := by
 have h := cmpL_lt a b
 cases hl : ltL a b <;> rw [hl] at h <;> simp at h ⊢ <;> omega
end Go.Proofs.YtiikdbomhkbdlaaGreat


namespace Go.Proofs.YtiikdbomhkbdlaaGreat
open Go.Abs
theorem rev_ind {α : Type} {P : List α → Prop} (h0 : P []) (h1 : ∀ l a, P l → P (l ++ [a])) (l : List α) : P l := by
 rw [← List.reverse_reverse l]
 induction l.reverse with
 | nil => exact h0
 | cons a l ih => rw [List.reverse_cons]; exact h1 _ _ ih
def atL (p : List Int) : List (List Int) → Nat
 | [] => 0
 | s :: S => if ltL s p = true then 0 else atL p S + 1
theorem atL_le (p : List Int) : ∀ S, atL p S ≤ S.length
 | [] => by simp [atL]
 | s :: S => by have := atL_le p S; rw [atL]; split <;> simp; omega
def insL (p : List Int) (S : List (List Int)) : List (List Int) := S.take (atL p S) ++ p :: S.drop (atL p S)
@[simp] theorem insL_len (p : List Int) (S : List (List Int)) : (insL p S).length = S.length + 1 := by have := atL_le p S; simp [insL]; omega
theorem insL_mem {p x : List Int} {S : List (List Int)} (h : x ∈ insL p S) : x = p ∨ x ∈ S := by
 rcases List.mem_append.1 h with h | h
 ·exact .inr (List.mem_of_mem_take h)
 ·rcases List.mem_cons.1 h with h | h
  ·exact .inl h
  ·exact .inr (List.mem_of_mem_drop h)
theorem sumL_ins (p : List Int) (S : List (List Int)) : sumL (insL p S) = sumL S + p.length := by
 have h := congrArg sumL (List.take_append_drop (atL p S) S)
 rw [sumL_app] at h
 rw [insL, sumL_app, sumL]
 omega
def rootL (S : List (List Int)) : List Int := 0 :: S.flatMap fun b => b.map (· + 1)
theorem rootL_len (S : List (List Int)) : (rootL S).length = sumL S + 1 := by
 have : ∀ S : List (List Int), (S.flatMap fun b => b.map (· + 1)).length = sumL S := by
  intro S
  induction S with
  | nil => rfl
  | cons b S ih => simp [sumL, ih]
 rw [rootL, List.length_cons, this]
def canF : Nat → List Int → List Int
 | 0, _ => []
 | n + 1, t => rootL ((brs t).foldl (fun S b => insL (canF n b) S) [])
def insA (n : Nat) (bs : List (List Int)) : List (List Int) := bs.foldl (fun S b => insL (canF n b) S) []
theorem insA_snoc (n : Nat) (bs : List (List Int)) (b : List Int) : insA n (bs ++ [b]) = insL (canF n b) (insA n bs) := by simp [insA]
theorem insA_mem {n : Nat} {bs : List (List Int)} : ∀ {x : List Int}, x ∈ insA n bs → ∃ b ∈ bs, x = canF n b := by
 refine rev_ind (P := fun bs => ∀ {x : List Int}, x ∈ insA n bs → ∃ b ∈ bs, x = canF n b) ?_ ?_ bs
 ·intro x hx; simp [insA] at hx
 ·intro l b ih x hx
  rw [insA_snoc] at hx
  rcases insL_mem hx with h | h
  ·exact ⟨b, by simp, h⟩
  ·obtain ⟨c, hc, e⟩ := ih h
   exact ⟨c, by simp [hc], e⟩
theorem canF_val (n : Nat) : ∀ (t : List Int), ∀ x ∈ canF n t, 0 ≤ x ∧ x ≤ n := by
 induction n with
 | zero => intro t x hx; simp [canF] at hx
 | succ n ih =>
  intro t x hx
  rw [canF] at hx
  rcases List.mem_cons.1 hx with rfl | hx
  ·omega
  ·obtain ⟨b, hb, hx⟩ := List.mem_flatMap.1 hx
   obtain ⟨y, hy, rfl⟩ := List.mem_map.1 hx
   obtain ⟨c, hc, rfl⟩ := insA_mem (n := n) (bs := brs t) hb
   have := ih c y hy
   omega
theorem sumL_set {A : List (List Int)} {k : Nat} (h : k < A.length) (v : List Int) : sumL (A.set k v) + (A[k]?.getD []).length = sumL A + v.length := by
 induction A generalizing k with
 | nil => simp at h
 | cons r A ih =>
  cases k with
  | zero => simp [sumL]; omega
  | succ k => have := ih (k := k) (by simpa using h); simp [sumL] at this ⊢; omega
theorem brStep_sum {out : List (List Int)} {x : Int} (h : out ≠ [] ∨ x = 1) : sumL (brStep out x) = sumL out + 1 := by
 unfold brStep
 simp only
 have ho : (if x = 1 then out ++ [[]] else out) ≠ [] := by
  split
  ·simp
  ·rcases h with h | h
   ·exact h
   ·contradiction
 have hs : sumL (if x = 1 then out ++ [[]] else out) = sumL out := by
  split
  ·rw [sumL_app]; simp [sumL]
  ·rfl
 generalize (if x = 1 then out ++ [[]] else out) = o at *
 have hl : o.length - 1 < o.length := by have := List.length_pos_iff.2 ho; omega
 have := sumL_set hl (o[o.length - 1]?.getD [] ++ [x - 1])
 simp at this
 omega
theorem brs_sum {t : List Int} (h : Lv t) : ∀ i, 1 ≤ i → i ≤ t.length → sumL (brs (t.take i)) + 1 = i ∧ (2 ≤ i → brs (t.take i) ≠ [])
 | 0, h1, _ => by omega
 | 1, _, _ => by
  have : brs (t.take 1) = [] := by
   unfold brs
   rw [List.drop_eq_nil_of_le (by simp; omega)]; rfl
  rw [this]
  exact ⟨rfl, by omega⟩
 | i + 2, h1, h2 => by
  have ih := brs_sum h (i + 1) (by omega) (by omega)
  rw [brs_take (by omega) (by omega)]
  have hne : brs (t.take (i + 1)) ≠ [] ∨ t[i + 1]?.getD 0 = 1 := by
   by_cases e : i = 0
   ·subst e
    have h3 := h.2.2 1 (by omega) (by omega)
    rw [show 1 - 1 = 0 by omega, h.2.1] at h3
    exact .inr (by show t[1]?.getD 0 = 1; omega)
   ·exact .inl (ih.2 (by omega))
  rw [brStep_sum hne]
  refine ⟨by omega, fun _ e => ?_⟩
  have := brStep_sum hne
  rw [e] at this
  simp [sumL] at this
theorem brs_total {t : List Int} (h : Lv t) : sumL (brs t) + 1 = t.length := by
 have := (brs_sum h t.length h.1 (Nat.le_refl _)).1
 rwa [List.take_length] at this
theorem canF_len : ∀ (n : Nat) (t : List Int), Lv t → t.length ≤ n → (canF n t).length = t.length
 | 0, t, h, hl => by have := h.1; omega
 | n + 1, t, h, hl => by
  have gen : ∀ bs : List (List Int), (∀ b ∈ bs, (canF n b).length = b.length) → sumL (insA n bs) = sumL bs := by
   intro bs
   refine rev_ind (P := fun bs => (∀ b ∈ bs, (canF n b).length = b.length) → sumL (insA n bs) = sumL bs) (fun _ => rfl) ?_ bs
   intro l b ih hb
   rw [insA_snoc, sumL_ins, sumL_app, ih (fun c hc => hb c (by simp [hc])), hb b (by simp)]
   simp [sumL]
  have e : (brs t).foldl (fun S b => insL (canF n b) S) [] = insA n (brs t) := rfl
  rw [canF, rootL_len, e, gen (brs t) (fun b hb => by
   have := brs_ok h hb
   exact canF_len n b this.1 (by have := this.2; omega)), brs_total h]
end Go.Proofs.YtiikdbomhkbdlaaGreat


namespace Go.Proofs.YtiikdbomhkbdlaaGreat
open Go.Abs Go.Shelf Go.Sort
theorem ltL_asym {a b : List Int} (h : ltL a b = true) : ltL b a = false := by
 cases h2 : ltL b a with
 | false => rfl
 | true => have := ltL_trans h h2; rw [ltL_irr] at this; simp at this
theorem insL_perm (p : List Int) (S : List (List Int)) : (insL p S).Perm (p :: S) := by
 unfold insL
 exact List.perm_middle.trans (by rw [List.take_append_drop])
theorem insL_cons (p s : List Int) (S : List (List Int)) : insL p (s :: S) = if ltL s p = true then p :: s :: S else s :: insL p S := by
 unfold insL
 rw [atL]
 split <;> simp
theorem insL_dsc (p : List Int) : ∀ {S : List (List Int)}, S.Pairwise (fun a b => ltL a b = false) → (insL p S).Pairwise (fun a b => ltL a b = false)
 | [], _ => by simp [insL, atL]
 | s :: S, h => by
  obtain ⟨h1, h2⟩ := List.pairwise_cons.1 h
  rw [insL_cons]
  split
  ·rename_i hs
   refine List.pairwise_cons.2 ⟨fun y hy => ?_, h⟩
   rcases List.mem_cons.1 hy with rfl | hy
   ·exact ltL_asym hs
   ·cases hp : ltL p y with
    | false => rfl
    | true => have := h1 y hy; rw [ltL_trans hs hp] at this; exact this
  ·rename_i hs
   refine List.pairwise_cons.2 ⟨fun y hy => ?_, insL_dsc p h2⟩
   rcases insL_mem hy with rfl | hy
   ·simpa using hs
   ·exact h1 y hy
theorem insA_dsc (n : Nat) (bs : List (List Int)) : (insA n bs).Pairwise (fun a b => ltL a b = false) :=
 rev_ind (P := fun bs => (insA n bs).Pairwise (fun a b => ltL a b = false)) List.Pairwise.nil (fun l a h => by rw [insA_snoc]; exact insL_dsc _ h) bs
theorem insA_perm (n : Nat) (bs : List (List Int)) : (insA n bs).Perm (bs.map (canF n)) :=
 rev_ind (P := fun bs => (insA n bs).Perm (bs.map (canF n))) (List.Perm.refl _) (fun l a h => by
  rw [insA_snoc, List.map_append]
  refine (insL_perm _ _).trans ((h.cons _).trans ?_)
  exact (List.perm_append_comm (l₁ := [canF n a]) (l₂ := l.map (canF n)))) bs
theorem dsc_unique {X L : List (List Int)} (hp : X.Perm L) (hX : X.Pairwise (fun a b => ltL a b = false)) (hL : L.Pairwise (fun a b => ltL a b = false)) : X = L :=
 hp.eq_of_pairwise (fun a b _ _ h1 h2 => by
  by_cases e : a = b
  ·exact e
  ·have := ltL_tot e h1; rw [h2] at this; simp at this) hX hL
theorem canonical1_c [DrawK] (a b : List Int) (ha : a.length ≤ 1000000) (hb : b.length ≤ 1000000) : Con Tryz.prog 236 [.sl a.length (avs a), .sl b.length (avs b)] (.int (cmpL b a)) := by
 refine con_of_vc Tryz.mixed ⟨5, [], [], []⟩ Tryz.func236 (by decide) rfl (by simp) (by decide) (by simp [freshOK, freshL, go_sem]) ?_
 rw [Tryz.ntmps236]
 simp [go_sem]
 refine CallVC.of (Compare_c b a (by omega) (by omega)) (by decide) ?_
 simp [go_sem]
theorem swo_dsc : SWO (Go.Proofs.ltOf fun a b : List Int => cmpL b a) := by
 have e : (Go.Proofs.ltOf fun a b : List Int => cmpL b a) = fun a b => ltL b a := by
  funext a b; exact cmpL_neg _ _
 rw [e]
 refine ⟨fun m => ltL_irr _, fun x y z h1 h2 => ltL_trans h2 h1, fun x y z h1 h2 => ?_⟩
 cases h3 : ltL z x with
 | false => rfl
 | true =>
  by_cases e : x = y
  ·rw [e] at h3; rw [h3] at h2; exact h2
  ·have h4 := ltL_tot (fun x => e x.symm) h1
   have := ltL_trans h3 h4
   rw [this] at h2; exact h2
theorem omat_flat (X : List (List Int)) : (X.flatMap fun x => [AV.own 2 x.length (avs x)]) = omat X := by
 induction X with
 | nil => rfl
 | cons x X ih => simp only [List.flatMap_cons, ih, omat, List.map_cons, List.singleton_append]
theorem sortTrees_c (X L : List (List Int)) (hX : X.Perm L) (hS : L.Pairwise (fun a b => ltL a b = false)) (hl : ∀ m ∈ L, m.length ≤ 1000000) (hn : L.length ≤ 1048576) :
  MCon Tryz.prog 235 [.own 25 X.length (omat X), .val (.func (.func 236) #[] #[])] (.tup []) [.own 25 X.length (omat L), .any] := by
 have hxl := hX.length_eq
 have hm : ∀ m ∈ X, m.length ≤ 1000000 := fun m hm => hl m (hX.mem_iff.1 hm)
 obtain ⟨ys, h1, h2, h3⟩ := sort_mcon1 Tryz.sortTrees ⟨_, Tryz.func235, by decide, rfl⟩ (fun m : List Int => .own 2 m.length (avs m)) (fun m n => cmpL n m) swo_dsc 236 25 (by kernel_rfl) X (by rw [omat_flat]; exact omat_fresh X)
  (fun x hx y hy => by simpa [frz] using @canonical1_c ⟨1⟩ x y (hm x hx) (hm y hy)) (by omega)
 have e : ys = L := dsc_unique (h1.trans hX) (h2.imp fun {a b} h => by
  have := cmpL_neg a b
  rw [← this]; simpa using h) hS
 subst e
 rw [omat_flat, omat_flat] at h3
 exact h3
theorem rootOn_c (S : List (List Int)) (hl : S.length ≤ 1000) (hr : ∀ b ∈ S, b.length ≤ 1000 ∧ ∀ x ∈ b, 0 ≤ x ∧ x ≤ 1000) : Con Tryz.prog 237 [.sl S.length (mat S)] (.own 2 (rootL S).length (avs (rootL S))) := by
 have bl : ∀ i, (rootL (S.take i)).length ≤ 1 + i * 1000 := fun i => by
  rw [rootL_len]
  have : ∀ T : List (List Int), (∀ b ∈ T, b.length ≤ 1000) → sumL T ≤ T.length * 1000 := by
   intro T
   induction T with
   | nil => intro _; simp [sumL]
   | cons b T ih => intro h; have := h b (by simp); have := ih (fun c hc => h c (by simp [hc])); simp only [sumL, List.length_cons]; omega
  have h1 := this (S.take i) (fun b hb => (hr b (List.mem_of_mem_take hb)).1)
  have h2 : (S.take i).length ≤ i := by rw [List.length_take]; omega
  have := Nat.mul_le_mul_right 1000 h2
  omega
 refine con_of_vc Tryz.mixed ⟨8, [], [], []⟩ Tryz.func237 (by decide) rfl (by simp) (by decide) (by simp [freshOK, freshL, go_sem]) ?_
 rw [Tryz.ntmps237]
 simp [go_sem]
 refine loop_inv (3 :: 5 :: 7 :: List.range' 11 17) (fun i : Nat => [(3, .own 2 (rootL (S.take i)).length (avs (rootL (S.take i)))), (11, .int i)]) (fun i => i ≤ S.length) (fun i => S.length - i) 0 (by simp) (by simp [go_sem, rootL, avs]) (by simp [go_sem]) ?_
 intro i hi
 by_cases hiS : i < S.length
 ·have hii : (i : Int) < S.length := by omega
  have ne : ¬ S = [] := by rintro rfl; simp at hiS
  have md := mat_drop hiS
  obtain ⟨b1, b2⟩ := hr _ (show S[i]?.getD [] ∈ S by simp [hiS])
  have sn : rootL (S.take (i + 1)) = rootL (S.take i) ++ (S[i]?.getD []).map (· + 1) := by
   unfold rootL
   rw [List.take_add_one, List.flatMap_append, List.getElem?_eq_getElem hiS]; simp
  have bli := bl i
  generalize S[i]?.getD [] = b at *
  generalize rootL (S.take i) = R at *
  simp [go_sem, hii, md]
  refine ⟨ne, ?_⟩
  refine loop_inv (3 :: 7 :: List.range' 17 10) (fun k : Nat => [(3, .own 2 (R.length + k) (avs (R ++ (b.map (· + 1)).take k))), (17, .int k)]) (fun k => k ≤ b.length) (fun k => b.length - k) 0 (by simp) (by simp [go_sem]) (by simp [go_sem]) ?_
  intro k hk
  by_cases hkb : k < b.length
  ·have hki : (k : Int) < b.length := by omega
   have nb : ¬ b = [] := by rintro rfl; simp at hkb
   have ad := avs_drop hkb
   have bx := b2 _ (show b[k]?.getD 0 ∈ b by simp [hkb])
   have tk : (b.map (· + 1)).take (k + 1) = (b.map (· + 1)).take k ++ [b[k]?.getD 0 + 1] := by
    rw [List.take_add_one]; simp [hkb]
   rw [List.getD_eq_getElem?_getD] at ad
   generalize b[k]?.getD 0 = x at *
   simp [go_sem, hki, ad]
   exact ⟨nb, ⟨by omega, by omega⟩, ⟨by omega, by omega, by omega⟩, ⟨by omega, by omega⟩, k + 1, by omega, by omega, Off_reset _ _ _ (by simp), ⟨by omega, by rw [tk, ← List.append_assoc, avs_snoc]⟩, by omega⟩
  ·have e : k = b.length := by omega
   subst e
   have hki : ¬ (b.length : Int) < b.length := by omega
   have tk : (b.map (· + 1)).take b.length = b.map (· + 1) := List.take_of_length_le (by simp)
   simp [go_sem, hki, tk]
   exact ⟨⟨by omega, by omega⟩, i + 1, by omega, by omega, (Off.reset (by intro x hx; simp at hx ⊢; omega) (by simp) (by simp [go_sem, Off_reset])), by rw [sn]; simp, by omega⟩
 ·have e : i = S.length := by omega
  subst e
  have hii : ¬ (S.length : Int) < S.length := by omega
  rw [List.take_length]
  simp [go_sem, hii]
def cnB (n : Nat) (bs : List (List Int)) (i : Nat) : List (List Int) := (bs.take i).map (canF n) ++ bs.drop i
theorem cnB_zero (n : Nat) (bs : List (List Int)) : cnB n bs 0 = bs := by simp [cnB]
theorem cnB_all (n : Nat) (bs : List (List Int)) : cnB n bs bs.length = bs.map (canF n) := by simp [cnB]
theorem omat_get2 {A : List (List Int)} {k : Nat} (h : k < A.length) : (omat A)[k]? = some (.own 2 (A[k]?.getD []).length (avs (A[k]?.getD []))) := by simp [omat, h]
theorem cnB_at (n : Nat) {bs : List (List Int)} {i : Nat} (hi : i < bs.length) : (omat (cnB n bs i))[i]? = some (.own 2 (bs[i]?.getD []).length (avs (bs[i]?.getD []))) := by
 have h1 : i < (cnB n bs i).length := by simp [cnB]; omega
 rw [omat_get2 h1]
 have e : (cnB n bs i)[i]?.getD [] = bs[i]?.getD [] := by
  unfold cnB
  rw [List.getElem?_append_right (by simp; omega)]; simp [Nat.min_eq_left (Nat.le_of_lt hi)]
 rw [e]
theorem cnB_set (n : Nat) {bs : List (List Int)} {i : Nat} (hi : i < bs.length) (hc : (canF n (bs[i]?.getD [])).length = (bs[i]?.getD []).length) :
  (omat (cnB n bs i)).set i (.own 2 (bs[i]?.getD []).length (avs (canF n (bs[i]?.getD [])))) = omat (cnB n bs (i + 1)) := by
 have h := omat_set (cnB n bs i) i (canF n (bs[i]?.getD []))
 rw [hc] at h
 rw [h]
 congr 1
 unfold cnB
 have e1 : bs.drop i = bs[i]?.getD [] :: bs.drop (i + 1) := by rw [List.drop_eq_getElem_cons hi]; simp [hi]
 have e2 : bs.take (i + 1) = bs.take i ++ [bs[i]?.getD []] := by rw [List.take_add_one]; simp [hi]
 rw [e1, e2, List.map_append, List.set_append_right _ _ (by simp; omega)]
 simp [Nat.min_eq_left (Nat.le_of_lt hi)]
theorem canonical_c : ∀ (n : Nat) (t : List Int), n ≤ 100 → Lv t → t.length ≤ n → Con Tryz.prog 133 [.sl t.length (avs t)] (.own 2 t.length (avs (canF n t))) := by
 intro n
 induction n with
 | zero => intro t _ h1 h2; have := h1.1; omega
 | succ n ih =>
  intro t hn hLv hl
  have cB := branchesOf_c t (by omega) hLv
  have cn := brs_cnt hLv
  have bo := fun (b : List Int) hb => brs_ok hLv (b := b) hb
  have cI := fun (b : List Int) (hb : b ∈ brs t) => ih b (by omega) (bo b hb).1 (by have := (bo b hb).2; omega)
  have cl := fun (b : List Int) (hb : b ∈ brs t) => canF_len n b (bo b hb).1 (by have := (bo b hb).2; omega)
  have im := fun x (hx : x ∈ insA n (brs t)) => insA_mem hx
  have il : (insA n (brs t)).length = (brs t).length := by have := (insA_perm n (brs t)).length_eq; simpa using this
  have xl : ∀ x ∈ insA n (brs t), x.length ≤ 100 ∧ ∀ y ∈ x, 0 ≤ y ∧ y ≤ 1000 := fun x hx => by
   obtain ⟨b, hb, rfl⟩ := im x hx
   have := (bo b hb).2
   exact ⟨by rw [cl b hb]; omega, fun y hy => by have := canF_val n b y hy; omega⟩
  have cS := sortTrees_c ((brs t).map (canF n)) (insA n (brs t)) (insA_perm n (brs t)).symm (insA_dsc n _) (fun x hx => by have := (xl x hx).1; omega) (by omega)
  have cR := rootOn_c (insA n (brs t)) (by omega) (fun b hb => ⟨by have := (xl b hb).1; omega, (xl b hb).2⟩)
  have rl : (rootL (insA n (brs t))).length = t.length := canF_len (n + 1) t hLv hl
  have e1 : canF (n + 1) t = rootL (insA n (brs t)) := rfl
  rw [e1]
  rw [rl, il] at cR
  rw [List.length_map] at cS
  clear rl e1 xl im
  generalize insA n (brs t) = S at *
  refine con_of_vc Tryz.mixed ⟨6, [], [235], []⟩ Tryz.func133 (by decide) rfl (by simp) (by decide) (by simp [freshOK, freshL, go_sem]) ?_
  rw [Tryz.ntmps133]
  simp [go_sem]
  refine CallVC.of (cB) (by decide) ?_
  simp [go_sem]
  generalize brs t = bs at *
  refine loop_invA (3 :: 4 :: 5 :: 8 :: List.range' 10 11) (4 :: 5 :: List.range' 11 10) (fun i : Nat => [(3, .own 25 bs.length (omat (cnB n bs i))), (8, .bor 3 []), (10, .int i)]) (fun i => i ≤ bs.length) (fun i => bs.length - i) 0 (by intro x i h1 h2; have : i = 3 ∨ i = 8 ∨ i = 10 := (by simp at h1 h2; omega); rcases this with rfl | rfl | rfl <;> rfl) (by intro i h; simp at h ⊢; omega) (by simp) (by simp [go_sem, cnB_zero]) (by simp [go_sem, kl]) ?_
  intro i hi
  by_cases hib : i < bs.length
  ·have hii : (i : Int) < bs.length := by omega
   have gt := cnB_at n hib
   have st := cnB_set n hib (cl _ (by simp [hib]))
   have cc := cI (bs[i]?.getD []) (by simp [hib])
   generalize bs[i]?.getD [] = b at *
   simp [go_sem, hii, gt]
   have cbl : i < (cnB n bs i).length := by simp [cnB]; omega
   refine CallVC.of (cc) (by decide) ?_
   simp [go_sem]
   exact ⟨hib, cbl, ⟨by omega, by omega⟩, i + 1, by omega, by omega, Off_reset _ _ _ (by simp), by first | exact ⟨st, by omega⟩ | exact st | (refine ⟨?_⟩; exact st) | (simp; exact st), by simp [kl]⟩
  ·have e : i = bs.length := by omega
   subst e
   have hii : ¬ (bs.length : Int) < bs.length := by omega
   rw [cnB_all]
   simp [go_sem, hii]
   refine ⟨_, _, cS, ?_⟩
   simp [go_sem]
   refine CallVC.of (cR) (by decide) ?_
   simp [go_sem]
end Go.Proofs.YtiikdbomhkbdlaaGreat


namespace Go.Proofs.YtiikdbomhkbdlaaGreat
open Go.Abs Go.Shelf Go.Sort
def ltT (s t : List Int) : Bool := if s.length = t.length then ltL t s else decide (s.length < t.length)
def cmpT (s t : List Int) : Int := if s.length = t.length then cmpL t s else (s.length : Int) - t.length
theorem cmpT_neg (s t : List Int) : decide (cmpT s t < 0) = ltT s t := by
 unfold cmpT ltT
 split
 ·exact cmpL_neg t s
 ·congr 1; exact propext ⟨fun h => by omega, fun h => by omega⟩
theorem ltT_irr (s : List Int) : ltT s s = false := by unfold ltT; rw [if_pos rfl]; exact ltL_irr s
theorem ltT_trans {a b c : List Int} (h1 : ltT a b = true) (h2 : ltT b c = true) : ltT a c = true := by
 unfold ltT at *
 split at h1 <;> split at h2
 ·rw [if_pos (by omega)]; exact ltL_trans h2 h1
 ·simp at h2; rw [if_neg (by omega)]; simp; omega
 ·simp at h1; rw [if_neg (by omega)]; simp; omega
 ·simp at h1 h2; rw [if_neg (by omega)]; simp; omega
theorem ltT_tot {a b : List Int} (e : a ≠ b) (h : ltT a b = false) : ltT b a = true := by
 unfold ltT at *
 split at h
 ·rename_i hl
  rw [if_pos hl.symm]; exact ltL_tot (fun x => e x.symm) h
 ·rename_i hl
  simp at h; rw [if_neg (fun x => hl x.symm)]; simp; omega
theorem ltT_asym {a b : List Int} (h : ltT a b = true) : ltT b a = false := by
 cases h2 : ltT b a with
 | false => rfl
 | true => have := ltT_trans h h2; rw [ltT_irr] at this; simp at this
def atT (p : List Int) : List (List Int) → Nat
 | [] => 0
 | s :: S => if ltT p s = true then 0 else atT p S + 1
theorem atT_le (p : List Int) : ∀ S, atT p S ≤ S.length
 | [] => by simp [atT]
 | s :: S => by have := atT_le p S; rw [atT]; split <;> simp; omega
def insT (p : List Int) (S : List (List Int)) : List (List Int) := S.take (atT p S) ++ p :: S.drop (atT p S)
@[simp] theorem insT_len (p : List Int) (S : List (List Int)) : (insT p S).length = S.length + 1 := by have := atT_le p S; simp [insT]; omega
theorem insT_mem {p x : List Int} {S : List (List Int)} (h : x ∈ insT p S) : x = p ∨ x ∈ S := by
 rcases List.mem_append.1 h with h | h
 ·exact .inr (List.mem_of_mem_take h)
 ·rcases List.mem_cons.1 h with h | h
  ·exact .inl h
  ·exact .inr (List.mem_of_mem_drop h)
theorem insT_perm (p : List Int) (S : List (List Int)) : (insT p S).Perm (p :: S) := by
 unfold insT
 exact List.perm_middle.trans (by rw [List.take_append_drop])
theorem insT_cons (p s : List Int) (S : List (List Int)) : insT p (s :: S) = if ltT p s = true then p :: s :: S else s :: insT p S := by
 unfold insT
 rw [atT]
 split <;> simp
theorem insT_asc (p : List Int) : ∀ {S : List (List Int)}, S.Pairwise (fun a b => ltT b a = false) → (insT p S).Pairwise (fun a b => ltT b a = false)
 | [], _ => by simp [insT, atT]
 | s :: S, h => by
  obtain ⟨h1, h2⟩ := List.pairwise_cons.1 h
  rw [insT_cons]
  split
  ·rename_i hs
   refine List.pairwise_cons.2 ⟨fun y hy => ?_, h⟩
   rcases List.mem_cons.1 hy with rfl | hy
   ·exact ltT_asym hs
   ·cases hp : ltT y p with
    | false => rfl
    | true => have := h1 y hy; rw [ltT_trans hp hs] at this; exact this
  ·rename_i hs
   refine List.pairwise_cons.2 ⟨fun y hy => ?_, insT_asc p h2⟩
   rcases insT_mem hy with rfl | hy
   ·simpa using hs
   ·exact h1 y hy
def srtT (bs : List (List Int)) : List (List Int) := bs.foldl (fun S b => insT b S) []
theorem srtT_snoc (bs : List (List Int)) (b : List Int) : srtT (bs ++ [b]) = insT b (srtT bs) := by simp [srtT]
theorem srtT_asc (bs : List (List Int)) : (srtT bs).Pairwise (fun a b => ltT b a = false) :=
 rev_ind (P := fun bs => (srtT bs).Pairwise (fun a b => ltT b a = false)) List.Pairwise.nil (fun l a h => by rw [srtT_snoc]; exact insT_asc _ h) bs
theorem srtT_perm (bs : List (List Int)) : (srtT bs).Perm bs :=
 rev_ind (P := fun bs => (srtT bs).Perm bs) (List.Perm.refl _) (fun l a h => by
  rw [srtT_snoc]
  refine (insT_perm _ _).trans ((h.cons _).trans ?_)
  exact (List.perm_append_comm (l₁ := [a]) (l₂ := l))) bs
@[simp] theorem srtT_len (bs : List (List Int)) : (srtT bs).length = bs.length := (srtT_perm bs).length_eq
theorem asc_unique {X L : List (List Int)} (hp : X.Perm L) (hX : X.Pairwise (fun a b => ltT b a = false)) (hL : L.Pairwise (fun a b => ltT b a = false)) : X = L :=
 hp.eq_of_pairwise (fun a b _ _ h1 h2 => by
  by_cases e : a = b
  ·exact e
  ·have := ltT_tot e h2; rw [h1] at this; simp at this) hX hL
theorem swo_asc : SWO (Go.Proofs.ltOf cmpT) := by
 have e : (Go.Proofs.ltOf cmpT) = ltT := by
  funext a b; exact cmpT_neg _ _
 rw [e]
 refine ⟨fun m => ltT_irr _, fun x y z h1 h2 => ltT_trans h1 h2, fun x y z h1 h2 => ?_⟩
 cases h3 : ltT x z with
 | false => rfl
 | true =>
  by_cases e : x = y
  ·rw [e] at h3; rw [h3] at h2; exact h2
  ·have h4 := ltT_tot e h1
   have := ltT_trans h4 h3
   rw [this] at h2; exact h2
theorem compareTrees_c [DrawK] (a b : List Int) (ha : a.length ≤ 1000000) (hb : b.length ≤ 1000000) : Con Tryz.prog 234 [.sl a.length (avs a), .sl b.length (avs b)] (.int (cmpT a b)) := by
 unfold cmpT
 by_cases h : a.length = b.length
 ·have hi : (a.length : Int) = b.length := by omega
  rw [if_pos h]
  have c := Compare_c b a (by omega) (by omega)
  refine con_of_vc Tryz.mixed ⟨5, [], [], []⟩ Tryz.func234 (by decide) rfl (by simp) (by decide) (by simp [freshOK, freshL, go_sem]) ?_
  rw [Tryz.ntmps234]
  simp [go_sem, hi]
  refine CallVC.of (c) (by decide) ?_
  simp [go_sem]
 ·have hi : ¬ (a.length : Int) = b.length := by omega
  rw [if_neg h]
  refine con_of_vc Tryz.mixed ⟨5, [], [], []⟩ Tryz.func234 (by decide) rfl (by simp) (by decide) (by simp [freshOK, freshL, go_sem]) ?_
  rw [Tryz.ntmps234]
  simp [go_sem, hi]
  omega
theorem insTrees_c (X : List (List Int)) (hl : ∀ m ∈ X, m.length ≤ 1000000) (hn : X.length ≤ 1048576) :
  MCon Tryz.prog 346 [.own 25 X.length (omat X), .int 0, .int X.length, .val (.func (.func 234) #[] #[])] (.tup []) [.own 25 X.length (omat (srtT X)), .any, .any, .any] := by
 obtain ⟨ys, h1, h2, h3⟩ := inssort_mcon1 Tryz.insTrees ⟨_, Tryz.func346, by decide, rfl⟩ (fun m : List Int => .own 2 m.length (avs m)) cmpT swo_asc 234 25 (by kernel_rfl) X (by rw [omat_flat]; exact omat_fresh X)
  (fun x hx y hy => by simpa [frz] using @compareTrees_c ⟨1⟩ x y (hl x hx) (hl y hy)) (by omega)
 have e : ys = srtT X := asc_unique (h1.trans (srtT_perm X).symm) (h2.imp fun {a b} h => by
  have := cmpT_neg b a
  rw [← this]; simpa using h) (srtT_asc X)
 subst e
 rw [omat_flat, omat_flat] at h3
 exact h3
theorem stable_c (X : List (List Int)) (hl : ∀ m ∈ X, m.length ≤ 1000000) (hn : X.length ≤ 19) :
  MCon Tryz.prog 339 [.own 25 X.length (omat X), .int X.length, .val (.func (.func 234) #[] #[])] (.tup []) [.own 25 X.length (omat (srtT X)), .any, .any] := by
 have cI := insTrees_c X hl (by omega)
 have h1 : ¬ (20 : Int) ≤ X.length := by omega
 have h2 : ¬ (20 : Int) < X.length := by omega
 refine mcon_of_vc Tryz.mixed ⟨10, [], [346], []⟩ [] [0] Tryz.func339 (by decide) rfl rfl (by simp) (by simp) (by simp) (by decide) ?_
 rw [Tryz.ntmps339]
 simp [go_sem]
 refine loop_inv (7 :: 8 :: List.range' 11 12) (fun _ : Nat => [(7, .int 0), (8, .int 20)]) (fun _ => True) (fun _ => 0) 0 trivial (by simp [go_sem]) (by simp [go_sem]) ?_
 intro _ _
 simp [go_sem, h1]
 refine ⟨_, _, cI, ?_⟩
 simp [go_sem]
 refine loop_inv ([6, 7, 8, 9] ++ List.range' 28 35) (fun _ : Nat => [(6, .int 20)]) (fun _ => True) (fun _ => 0) 0 trivial (by simp [go_sem]) (by simp [go_sem]) ?_
 intro _ _
 simp [go_sem, h2]
theorem sortStable_c (X : List (List Int)) (hl : ∀ m ∈ X, m.length ≤ 1000000) (hn : X.length ≤ 19) :
  MCon Tryz.prog 290 [.own 25 X.length (omat X), .val (.func (.func 234) #[] #[])] (.tup []) [.own 25 X.length (omat (srtT X)), .any] := by
 have cI := stable_c X hl hn
 refine mcon_of_vc Tryz.mixed ⟨4, [], [339], []⟩ [] [0] Tryz.func290 (by decide) rfl rfl (by simp) (by simp) (by simp) (by decide) ?_
 rw [Tryz.ntmps290]
 simp [go_sem]
 refine ⟨_, _, cI, ?_⟩
 simp [go_sem]
theorem forestOf_c (X : List (List Int)) (hl : ∀ m ∈ X, m.length ≤ 1000000) (hn : X.length ≤ 19) :
  Con Tryz.prog 212 [.sl X.length (mat X)] (.own 25 X.length (omat (srtT X))) := by
 have cC := cloneRows_c X (by omega) (fun r h => by have := hl r h; omega)
 have cI := sortStable_c X hl hn
 refine con_of_vc Tryz.mixed ⟨4, [], [290], []⟩ Tryz.func212 (by decide) rfl (by simp) (by decide) (by simp [freshOK, freshL, go_sem]) ?_
 rw [Tryz.ntmps212]
 simp [go_sem]
 refine CallVC.of (cC) (by decide) ?_
 simp [go_sem]
 refine ⟨_, _, cI, ?_⟩
 simp [go_sem]
end Go.Proofs.YtiikdbomhkbdlaaGreat


namespace Go.Proofs.YtiikdbomhkbdlaaGreat
open Go.Abs
theorem slEqual_c (a b : List Int) (ha : a.length ≤ 9223372036854775807) : Con Tryz.prog 164 [.sl a.length (avs a), .sl b.length (avs b)] (.bool (decide (a = b))) := by
 by_cases hl : a.length = b.length
 ·have hi : (a.length : Int) = b.length := by omega
  refine con_of_vc Tryz.mixed ⟨7, [], [], []⟩ Tryz.func164 (by decide) rfl (by simp) (by decide) (by simp [freshOK, freshL, go_sem]) ?_
  rw [Tryz.ntmps164]
  simp [go_sem, hi]
  refine loop_inv (4 :: 5 :: List.range' 13 13) (fun i : Nat => [(13, .int i)]) (fun i => i ≤ b.length ∧ a.take i = b.take i) (fun i => b.length - i) 0 (by simp) (by simp [go_sem]) (by simp [go_sem]) ?_
  intro i hi
  simp [go_sem]
  refine ⟨fun h => ?_, fun h => ?_⟩ <;> simp at h
  ·have h2 : i < a.length := by omega
   simp [go_sem, avs_drop h, avs_drop h2]
   refine ⟨by kernel_rfl, ⟨h2, by rintro rfl; simp at h2⟩, ⟨h, by rintro rfl; simp at h⟩, ?_⟩
   refine ⟨by kernel_rfl, ?_⟩
   simp [go_sem]
   refine ⟨fun h3 => ?_, fun h3 => ?_⟩ <;> simp at h3 <;> simp [go_sem]
   ·rintro rfl; exact h3 rfl
   ·refine ⟨by omega, i + 1, ⟨by omega, ?_⟩, by omega, Off_reset _ _ _ (by simp), by omega⟩
    rw [List.take_add_one, List.take_add_one, hi.2]
    rw [List.getElem?_eq_getElem h, List.getElem?_eq_getElem h2] at h3 ⊢
    simp only [Option.getD_some] at h3
    rw [h3]
  ·simp [go_sem]
   have e : i = b.length := by omega
   subst e
   have := hi.2
   rw [List.take_length, ← hl, List.take_length] at this
   exact this
 ·have e : decide (a = b) = false := by
   rw [decide_eq_false_iff_not]; intro h; exact hl (by rw [h])
  rw [e]
  have hi : ¬ (a.length : Int) = b.length := by omega
  refine con_of_vc Tryz.mixed ⟨7, [], [], []⟩ Tryz.func164 (by decide) rfl (by simp) (by decide) (by simp [freshOK, freshL, go_sem]) ?_
  rw [Tryz.ntmps164]
  simp [go_sem, hi]
end Go.Proofs.YtiikdbomhkbdlaaGreat


namespace Go.Proofs.YtiikdbomhkbdlaaGreat
open Go.Abs
def runT (l : List (List Int)) (i : Nat) (s : Int) : Int := if 0 < i ∧ l[i - 1]?.getD [] ≠ l[i]?.getD [] then 1 else s + 1
def symP (g : List Int → Int) (l : List (List Int)) : Nat → Int × Int
 | 0 => (1, 0)
 | i + 1 => ((symP g l i).1 * (runT l i (symP g l i).2 * g (l[i]?.getD [])), runT l i (symP g l i).2)
def symF : Nat → List Int → Int
 | 0, _ => 1
 | n + 1, t => (symP (symF n) (srtT (brs (canF (n + 1) t))) (srtT (brs (canF (n + 1) t))).length).1
def okS : Nat → List Int → Bool
 | 0, _ => false
 | n + 1, t => lv0 t && decide (t.length ≤ n + 1) && lv0 (canF (n + 1) t) && decide ((srtT (brs (canF (n + 1) t))).length ≤ 19) &&
   (srtT (brs (canF (n + 1) t))).all (fun b => okS n b && decide (0 ≤ symF n b ∧ symF n b ≤ 1000000)) &&
   (List.range ((srtT (brs (canF (n + 1) t))).length + 1)).all fun i => decide (0 ≤ (symP (symF n) (srtT (brs (canF (n + 1) t))) i).1 ∧ (symP (symF n) (srtT (brs (canF (n + 1) t))) i).1 ≤ 1000000 ∧ 0 ≤ (symP (symF n) (srtT (brs (canF (n + 1) t))) i).2 ∧ (symP (symF n) (srtT (brs (canF (n + 1) t))) i).2 ≤ 100)
theorem okS_spec {n : Nat} {t : List Int} (h : okS (n + 1) t = true) : Lv t ∧ t.length ≤ n + 1 ∧ Lv (canF (n + 1) t) ∧ (srtT (brs (canF (n + 1) t))).length ≤ 19 ∧
  (∀ b ∈ srtT (brs (canF (n + 1) t)), okS n b = true ∧ 0 ≤ symF n b ∧ symF n b ≤ 1000000) ∧
  ∀ i, i ≤ (srtT (brs (canF (n + 1) t))).length → 0 ≤ (symP (symF n) (srtT (brs (canF (n + 1) t))) i).1 ∧ (symP (symF n) (srtT (brs (canF (n + 1) t))) i).1 ≤ 1000000 ∧ 0 ≤ (symP (symF n) (srtT (brs (canF (n + 1) t))) i).2 ∧ (symP (symF n) (srtT (brs (canF (n + 1) t))) i).2 ≤ 100 := by
 unfold okS at h
 simp only [Bool.and_eq_true, decide_eq_true_eq, List.all_eq_true] at h
 obtain ⟨⟨⟨⟨⟨h1, h2⟩, h3⟩, h4⟩, h5⟩, h6⟩ := h
 exact ⟨lv0_Lv h1, h2, lv0_Lv h3, h4, fun b hb => h5 b hb, fun i hi => h6 i (by simpa using Nat.lt_succ_of_le hi)⟩
theorem okS_len : ∀ {n : Nat} {t : List Int}, okS n t = true → t.length ≤ n
 | 0, t, h => by simp [okS] at h
 | n + 1, t, h => (okS_spec h).2.1
theorem symmetry_c : ∀ (n : Nat) (t : List Int), n ≤ 100 → okS n t = true → Con Tryz.prog 110 [.sl t.length (avs t)] (.int (symF n t))
 | 0, t, _, h => by simp [okS] at h
 | n + 1, t, hn, h => by
  obtain ⟨hLv, hl, hcv, hk, hb, hp⟩ := okS_spec h
  have ih := fun b (h : b ∈ srtT (brs (canF (n + 1) t))) => symmetry_c n b (by omega) (hb b h).1
  have hlen := fun b (h : b ∈ srtT (brs (canF (n + 1) t))) => okS_len (hb b h).1
  have cC := canonical_c (n + 1) t hn hLv hl
  have cl := canF_len (n + 1) t hLv hl
  have cB := branchesOf_c (canF (n + 1) t) (by omega) hcv
  rw [cl] at cB
  have cF := forestOf_c (brs (canF (n + 1) t)) (fun m hm => by have := hlen m ((srtT_perm _).mem_iff.2 hm); omega) (by have := hk; rw [srtT_len] at this; exact this)
  have sl := srtT_len (brs (canF (n + 1) t))
  rw [← sl] at cF cB
  have e1 : symF (n + 1) t = (symP (symF n) (srtT (brs (canF (n + 1) t))) (srtT (brs (canF (n + 1) t))).length).1 := rfl
  rw [e1]
  clear e1 sl cl
  generalize canF (n + 1) t = u at *
  generalize srtT (brs u) = l at *
  refine con_of_vc Tryz.mixed ⟨8, [11], [], []⟩ Tryz.func110 (by decide) rfl (by simp) (by decide) (by simp [freshOK, freshL, go_sem]) ?_
  rw [Tryz.ntmps110]
  simp [go_sem]
  refine CallVC.of (cC) (by decide) ?_
  simp [go_sem]
  refine CallVC.of (cB) (by decide) ?_
  simp [go_sem]
  refine CallVC.of (cF) (by decide) ?_
  simp [go_sem]
  refine loop_inv ([3, 5, 6, 7] ++ List.range' 14 26) (fun i : Nat => [(3, .int (symP (symF n) l i).1), (5, .int (symP (symF n) l i).2), (14, .int i)]) (fun i => i ≤ l.length) (fun i => l.length - i) 0 (by simp) (by simp [go_sem, symP]) (by simp [go_sem]) ?_
  intro i hi
  simp [go_sem]
  refine ⟨fun h => ?_, fun h => ?_⟩ <;> simp at h
  ·have h0 := hp i hi
   have h1 := hp (i + 1) (by omega)
   have hm : l[i]?.getD [] ∈ l := by simp [h]
   have cS := ih _ hm
   have lS := hlen _ hm
   have gS := (hb _ hm).2
   have s1 : (symP (symF n) l (i + 1)).1 = (symP (symF n) l i).1 * (runT l i (symP (symF n) l i).2 * symF n (l[i]?.getD [])) := rfl
   have s2 : (symP (symF n) l (i + 1)).2 = runT l i (symP (symF n) l i).2 := rfl
   rw [s1, s2] at h1
   have hd := mat_drop h
   rw [s1.symm.trans rfl] at h1
   have pr : ∀ r g : Int, 0 ≤ r → r ≤ 100 → 0 ≤ g → g ≤ 1000000 → 0 ≤ r * g ∧ r * g ≤ 100000000 := fun r g a1 a2 a3 a4 => ⟨Int.mul_nonneg a1 a3, by have := Int.mul_le_mul a2 a4 a3 (by omega); omega⟩
   have q := pr _ _ h1.2.2.1 h1.2.2.2 gS.1 gS.2
   by_cases h00 : i = 0
   ·subst h00
    have e : runT l 0 (symP (symF n) l 0).2 = (symP (symF n) l 0).2 + 1 := by unfold runT; rw [if_neg (by omega)]
    rw [e] at s1 s2 h1 q
    rw [s1] at h1
    generalize hO : (symP (symF n) l (0 + 1)).1 = o2 at *
    generalize hS : (symP (symF n) l (0 + 1)).2 = s2' at *
    generalize (symP (symF n) l 0).1 = o at *
    generalize (symP (symF n) l 0).2 = s at *
    generalize symF n (l[0]?.getD []) = g at *
    generalize l[0]?.getD [] = b at *
    have ne : ¬ l = [] := by rintro rfl; simp at h
    simp [go_sem, hd]
    refine ⟨⟨by omega, ne⟩, ⟨by omega, by omega⟩, ?_⟩
    refine CallVC.of (cS) (by decide) ?_
    simp [go_sem]
    refine ⟨⟨by omega, by omega⟩, ⟨by omega, by omega⟩, 0 + 1, by omega, by omega, Off_reset _ _ _ (by simp), ?_⟩
    rw [hO, hS, s1, s2]
    exact ⟨rfl, rfl, by omega⟩
   ·obtain ⟨j, rfl⟩ : ∃ j, i = j + 1 := ⟨i - 1, by omega⟩
    have hj : j < l.length := by omega
    have hdj := mat_drop hj
    have hmj : l[j]?.getD [] ∈ l := by simp [hj]
    have lSj := hlen _ hmj
    have cE := slEqual_c (l[j]?.getD []) (l[j + 1]?.getD []) (by omega)
    have e : runT l (j + 1) (symP (symF n) l (j + 1)).2 = if l[j]?.getD [] = l[j + 1]?.getD [] then (symP (symF n) l (j + 1)).2 + 1 else 1 := by
     unfold runT
     rw [show j + 1 - 1 = j by omega]
     by_cases x : l[j]?.getD [] = l[j + 1]?.getD []
     ·rw [if_neg (by simp [x]), if_pos x]
     ·rw [if_pos ⟨by omega, x⟩, if_neg x]
    rw [e] at s1 s2 h1 q
    rw [s1] at h1
    generalize hO : (symP (symF n) l (j + 1 + 1)).1 = o2 at *
    generalize hS : (symP (symF n) l (j + 1 + 1)).2 = s2' at *
    generalize (symP (symF n) l (j + 1)).1 = o at *
    generalize (symP (symF n) l (j + 1)).2 = s at *
    generalize symF n (l[j + 1]?.getD []) = g at *
    generalize l[j + 1]?.getD [] = b at *
    generalize l[j]?.getD [] = b0 at *
    have hj1 : (0 : Int) < j + 1 := by omega
    have ne : ¬ l = [] := by rintro rfl; simp at h
    by_cases x : b0 = b
    ·rw [decide_eq_true x] at cE
     rw [if_pos x] at s1 s2 h1 q
     simp [go_sem, hd, hdj, hj1]
     refine ⟨⟨by omega, by omega, ne⟩, ⟨by omega, by omega⟩, by omega, ⟨hj, ne⟩, ?_⟩
     refine CallVC.of (cE) (by decide) ?_
     simp [go_sem]
     refine CallVC.of (cS) (by decide) ?_
     simp [go_sem]
     refine ⟨⟨by omega, by omega⟩, ⟨by omega, by omega⟩, ⟨by omega, by omega⟩, j + 1 + 1, by omega, by omega, Off_reset _ _ _ (by simp), ?_⟩
     rw [hO, hS, s1, s2]
     exact ⟨rfl, rfl, by omega⟩
    ·rw [decide_eq_false x] at cE
     rw [if_neg x] at s1 s2 h1 q
     rw [Int.one_mul] at s1 h1 q
     simp [go_sem, hd, hdj, hj1]
     refine ⟨⟨by omega, by omega, ne⟩, ⟨by omega, by omega⟩, by omega, ⟨hj, ne⟩, ?_⟩
     refine CallVC.of (cE) (by decide) ?_
     simp [go_sem]
     refine CallVC.of (cS) (by decide) ?_
     simp [go_sem]
     refine ⟨⟨by omega, by omega⟩, ⟨by omega, by omega⟩, ⟨by omega, by omega⟩, j + 1 + 1, by omega, by omega, Off_reset _ _ _ (by simp), ?_⟩
     rw [hO, hS, s1, s2]
     exact ⟨rfl, rfl, by omega⟩
  ·have e : i = l.length := by omega
   subst e
   simp [go_sem]
end Go.Proofs.YtiikdbomhkbdlaaGreat


namespace Go.Proofs.YtiikdbomhkbdlaaGreat
open Go.Abs
end Go.Proofs.YtiikdbomhkbdlaaGreat


namespace Go.Proofs.YtiikdbomhkbdlaaGreat
open Go.Abs
def mapB (a : List Int) : Bool := decide (a.length = 38) && numsB a
theorem IsMap_c (a : List Int) (ha : a.length ≤ 9223372036854775807) : Con Tryz.prog 104 [.sl a.length (avs a)] (.bool (mapB a)) := by
 have cN := areNumbers_c a ha
 unfold mapB
 by_cases h : a.length = 38
 ·have hi : (a.length : Int) = 38 := by omega
  rw [decide_eq_true h]
  refine con_of_vc Tryz.mixed ⟨3, [], [], []⟩ Tryz.func104 (by decide) rfl (by simp) (by decide) (by simp [freshOK, freshL, go_sem]) ?_
  rw [Tryz.ntmps104]
  simp [go_sem, hi]
  refine CallVC.of (cN) (by decide) ?_
  simp [go_sem]
 ·have hi : ¬ (a.length : Int) = 38 := by omega
  rw [decide_eq_false h]
  refine con_of_vc Tryz.mixed ⟨3, [], [], []⟩ Tryz.func104 (by decide) rfl (by simp) (by decide) (by simp [freshOK, freshL, go_sem]) ?_
  rw [Tryz.ntmps104]
  simp [go_sem, hi]
end Go.Proofs.YtiikdbomhkbdlaaGreat


namespace Go.Proofs.YtiikdbomhkbdlaaGreat
open Go.Abs
def hadS (s : Nat) (a v : List Int) : List Int := tb (fun j => a[j]?.getD 0 * v[j]?.getD 0 % 10007) s
@[simp] theorem hadS_len (s : Nat) (a v : List Int) : (hadS s a v).length = s := by simp [hadS]
def hadL (s : Nat) (a : List Int) : List (List Int) → List Int
 | [] => a
 | v :: l => hadL s (hadS s a v) l
def stwF (A : List (List Int)) (s : Nat) : Nat → List Int → List Int
 | 0, _ => List.replicate s 1
 | m + 1, t => hadL s (List.replicate s 1) ((brs t).map fun b => tim A (stwF A s m b))
end Go.Proofs.YtiikdbomhkbdlaaGreat


namespace Go.Proofs.YtiikdbomhkbdlaaGreat
open Go.Abs
def pF (t : List Int) : Nat → Option Nat
 | 0 => none
 | j + 1 => if t[j]?.getD 0 ≤ 1 then pF t j else some j
def qF (t : List Int) (v : Int) : Nat → Option Nat
 | 0 => none
 | j + 1 => if t[j]?.getD 0 = v then some j else qF t v j
def fiS (t : List Int) (d p : Nat) : Nat → List Int
 | 0 => t
 | k + 1 => (fiS t d p k).set (p + k) ((fiS t d p k)[p + k - d]?.getD 0)
@[simp] theorem fiS_len (t : List Int) (d p : Nat) : ∀ k, (fiS t d p k).length = t.length
 | 0 => rfl
 | k + 1 => by simp [fiS, fiS_len t d p k]
def genT : Nat → List Int → List (List Int)
 | 0, _ => []
 | k + 1, t => t :: match pF t t.length with
  | none => []
  | some p => match qF t (t[p]?.getD 0 - 1) p with
   | none => []
   | some q => genT k (fiS t (p - q) p (t.length - p))
def chkT : Nat → List Int → Bool
 | 0, _ => false
 | k + 1, t => t.all (fun x => decide (0 ≤ x ∧ x ≤ 100)) && match pF t t.length with
  | none => true
  | some p => match qF t (t[p]?.getD 0 - 1) p with
   | none => false
   | some q => chkT k (fiS t (p - q) p (t.length - p))
theorem qF_lt {t : List Int} {v : Int} : ∀ {j q : Nat}, qF t v j = some q → q < j ∧ t[q]?.getD 0 = v
 | j + 1, q, h => by
  rw [qF] at h
  split at h
  ·injection h with h; subst h; exact ⟨by omega, by assumption⟩
  ·have := qF_lt h; exact ⟨by omega, this.2⟩
theorem treesOf_c (n F : Nat) (hn : n ≤ 1000) (hF : F ≤ 1000000) (hc : chkT F (upTo n) = true) : Con Tryz.prog 146 [.int n] (.own 25 (genT F (upTo n)).length (omat (genT F (upTo n)))) := by
 refine con_of_vc Tryz.mixed ⟨9, [], [], []⟩ Tryz.func146 (by decide) rfl (by simp) (by decide) (by simp [freshOK, freshL, go_sem]) ?_
 rw [Tryz.ntmps146]
 simp [go_sem]
 refine loop_inv (3 :: 5 :: List.range' 12 8) (fun i : Nat => [(3, .own 2 i (avs (upTo i))), (12, .int i)]) (fun i => i ≤ n) (fun i => n - i) 0 (by simp) (by simp [go_sem, upTo]) (by simp [go_sem]) ?_
 intro i hi
 simp [go_sem]
 refine ⟨fun h => ?_, fun h => ?_⟩ <;> simp at h
 ·simp [go_sem]
  refine ⟨⟨by omega, by omega⟩, by omega, i + 1, by omega, by omega, Off_reset _ _ _ (by simp), by rw [upTo_succ, avs_snoc]; exact ⟨rfl, rfl⟩, by omega⟩
 ·have e : i = n := by omega
  subst e
  simp [go_sem]
  refine loop_inv (2 :: 3 :: 4 :: 6 :: 7 :: 8 :: List.range' 20 52) (fun x : Nat × List Int × List (List Int) => [(3, .own 2 i (avs x.2.1)), (4, .own 25 x.2.2.length (omat x.2.2))]) (fun x => x.2.2 ++ genT x.1 x.2.1 = genT F (upTo i) ∧ chkT x.1 x.2.1 = true ∧ x.2.1.length = i ∧ x.2.2.length + x.1 ≤ F) (fun x => x.1) (F, upTo i, []) ⟨by simp, hc, by simp, by simp⟩ (by simp [go_sem, omat_nil]) (by simp [go_sem]) ?_
  rintro ⟨k, t, done⟩ ⟨hg, hk, hl, hdl⟩
  simp only at hg hk hl hdl
  cases k with
  | zero => simp [chkT] at hk
  | succ k =>
   rw [chkT] at hk
   rw [genT] at hg
   simp only [Bool.and_eq_true] at hk
   obtain ⟨hb, hk⟩ := hk
   have hb2 : ∀ j : Nat, 0 ≤ t[j]?.getD 0 ∧ t[j]?.getD 0 ≤ 100 := fun j => by
    rcases Nat.lt_or_ge j t.length with hj | hj
    ·have := (List.all_eq_true.1 hb) _ (List.getElem_mem hj)
     simp only [decide_eq_true_eq] at this
     simpa [hj] using this
    ·simp [List.getElem?_eq_none hj]
   have cC := Clone_c t (by omega)
   rw [hl] at cC hk hg
   simp [go_sem]
   refine CallVC.of (cC) (by decide) ?_
   simp [go_sem]
   refine ⟨⟨by omega, by omega⟩, ⟨by omega, by omega⟩, ?_⟩
   refine loop_inv (6 :: List.range' 27 11) (fun j : Nat => [(6, .int ((j : Int) - 1))]) (fun j => j ≤ i ∧ pF t i = pF t j) (fun j => j) i ⟨by omega, rfl⟩ (by simp [go_sem]) (by simp [go_sem]) ?_
   rintro j ⟨hj, hpj⟩
   rcases j with _ | j
   ·rw [hpj, pF] at hg
    simp [go_sem]
    rw [← hg, omat_app, omat_one, hl]
    exact ⟨by simp, rfl⟩
   ·have hjt : j < t.length := by omega
    have ej : ((j + 1 : Nat) : Int) - 1 = j := by omega
    have j0 : (0 : Int) ≤ j := by omega
    by_cases ht : t[j]?.getD 0 ≤ 1
    ·rw [pF, if_pos ht] at hpj
     simp [go_sem, ej, j0, avs_at hjt, ht]
     exact ⟨by omega, ⟨by omega, by omega⟩, j, ⟨by omega, hpj⟩, by omega, Off_reset _ _ _ (by simp), by omega⟩
    ·rw [pF, if_neg ht] at hpj
     rw [hpj] at hg hk
     simp only at hg hk
     have jn : ¬ (j : Int) < 0 := by omega
     cases hq : qF t (t[j]?.getD 0 - 1) j with
     | none => rw [hq] at hk; simp at hk
     | some q =>
      rw [hq] at hg hk
      simp only at hg hk
      have hql := qF_lt hq
      have b1 := hb2 j
      simp [go_sem, ej, j0, avs_at hjt, ht, jn]
      refine ⟨by omega, ⟨by omega, by omega⟩, ?_⟩
      refine loop_inv (7 :: List.range' 43 12) (fun r : Nat => [(7, .int ((r : Int) - 1))]) (fun r => r ≤ j ∧ qF t (t[j]?.getD 0 - 1) r = some q) (fun r => r) j ⟨by omega, hq⟩ (by simp [go_sem]) (by simp [go_sem]) ?_
      rintro r ⟨hr, hqr⟩
      rcases r with _ | r
      ·simp [qF] at hqr
      ·have hrt : r < t.length := by omega
       have er : ((r + 1 : Nat) : Int) - 1 = r := by omega
       by_cases hv : t[r]?.getD 0 = t[j]?.getD 0 - 1
       ·rw [qF, if_pos hv] at hqr
        injection hqr with hqr
        subst hqr
        simp [go_sem, er, avs_at hrt, avs_at hjt, hv]
        refine ⟨by kernel_rfl, by omega, by omega, ⟨by omega, by omega⟩, ?_⟩
        refine ⟨by kernel_rfl, ?_⟩
        simp [go_sem]
        refine loop_inv (3 :: 8 :: List.range' 56 16) (fun e : Nat => [(3, .own 2 i (avs (fiS t (j - r) j e))), (8, .int ((j + e : Nat) : Int))]) (fun e => j + e ≤ i) (fun e => i - e) 0 (by omega) (by simp [go_sem, fiS]) (by simp [go_sem]) ?_
        intro e he
        simp [go_sem]
        refine ⟨fun h => ?_, fun h => ?_⟩ <;> simp at h
        ·have hlf := fiS_len t (j - r) j e
         have k1 : j + e - (j - r) < (fiS t (j - r) j e).length := by omega
         have k2 : j + e < (fiS t (j - r) j e).length := by omega
         have ix : ((j : Int) + e - (j - r)) = ((j + e - (j - r) : Nat) : Int) := by omega
         have hs : fiS t (j - r) j (e + 1) = (fiS t (j - r) j e).set (j + e) ((fiS t (j - r) j e)[j + e - (j - r)]?.getD 0) := rfl
         generalize hF1 : fiS t (j - r) j (e + 1) = F1 at *
         generalize fiS t (j - r) j e = F0 at *
         have ix2 : ((j : Int) + e - (j - r)).toNat = j + e - (j - r) := by omega
         have ij2 : ((j : Int) + e).toNat = j + e := by omega
         simp [go_sem, ix2, avs_at k1, ij2]
         refine ⟨⟨by omega, by omega⟩, ⟨by omega, by omega⟩, ⟨by omega, by omega⟩, ⟨by omega, by omega⟩, k2, ⟨by omega, by omega⟩, e + 1, by omega, by omega, Off_reset _ _ _ (by simp), ?_, by omega⟩
         rw [hF1, hs, avs_set]
        ·have en : e = i - j := by omega
         subst en
         have h1 : done ++ [t] ++ genT k (fiS t (j - r) j (i - j)) = genT F (upTo i) := by rw [← hg]; simp
         simp [go_sem]
         refine ⟨k, fiS t (j - r) j (i - j), done ++ [t], ⟨h1, hk, by rw [fiS_len]; exact hl, by simp; omega⟩, by omega, (by repeat (first | exact Off_reset _ _ _ (by simp) | (refine Off.reset (by intro x hx; simp at hx ⊢; omega) (by simp) ?_; simp -failIfUnchanged [go_sem, Off_reset]))), rfl, ?_⟩
         rw [omat_app, omat_one, hl]
         exact ⟨by simp, rfl⟩
       ·rw [qF, if_neg hv] at hqr
        simp [go_sem, er, avs_at hrt, avs_at hjt, hv]
        refine ⟨by kernel_rfl, by omega, by omega, ⟨by omega, by omega⟩, ?_⟩
        refine ⟨by kernel_rfl, ?_⟩
        simp [go_sem]
        exact ⟨⟨by omega, by omega⟩, r, ⟨by omega, hqr⟩, by omega, Off_reset _ _ _ (by simp), by omega⟩
end Go.Proofs.YtiikdbomhkbdlaaGreat


namespace Go.Proofs.YtiikdbomhkbdlaaGreat
open Go.Abs
def grwL : Nat → List Int → List (List Int) → List (List Int)
 | 0, t, L => if canF t.length t = t then L ++ [t] else L
 | k + 1, t, L => (List.range (t[t.length - 1]?.getD 0 + 1).toNat).foldl (fun (L : List (List Int)) (i : Nat) => grwL k (t ++ [t[t.length - 1]?.getD 0 + 1 - (i : Int)]) L) L
theorem trees_same : ∀ n : Nat, 1 ≤ n → n ≤ 6 → chkT 200 (upTo n) = true ∧ genT 200 (upTo n) = grwL (n - 1) [0] [] ∧ (genT 200 (upTo n)).all lvB = true := by
 have h : ∀ n ∈ [1, 2, 3, 4, 5, 6], (chkT 200 (upTo n) && decide (genT 200 (upTo n) = grwL (n - 1) [0] []) && (genT 200 (upTo n)).all lvB) = true := by decide +kernel
 intro n h1 h6
 have := h n (by simp; omega)
 simp only [Bool.and_eq_true, decide_eq_true_eq] at this
 exact ⟨this.1.1, this.1.2, this.2⟩
end Go.Proofs.YtiikdbomhkbdlaaGreat


namespace Go.Proofs.YtiikdbomhkbdlaaGreat
open Go.Abs CR
structure Adj (A : List (List Int)) (B : List Int) (A' : List (List Int)) (B' : List Int) : Prop where
 tab : Tab A' B'
 len : B'.length = B.length
 a : ∀ r c, r < B.length → c < B.length → mx A' r c % 10007 = (B[B.length - 1 - c]?.getD 0 - mx A (B.length - 1 - r) (B.length - 1 - c)) % 10007
 b : ∀ r, r < B.length → B'[r]?.getD 0 % 10007 = B[B.length - 1 - r]?.getD 0 % 10007
theorem serEq.mul {a b c d : Ser Int} (h : serEq a b) (k : serEq c d) : serEq (a * c) (b * d) := fun i => cmul_mod i (fun j _ => h j) (fun j _ => k j)
theorem serEq.eq {a b c : Ser Int} (h : serEq a b) (k : b = c) : serEq a c := k ▸ h
end Go.Proofs.YtiikdbomhkbdlaaGreat


namespace Go.Proofs.YtiikdbomhkbdlaaGreat
open Go.Abs
def denF : Nat → List Int → Int
 | 0, _ => 0
 | n + 1, t => (brs t).foldl (fun o b => o * denF n b) t.length
def denK (n : Nat) (t : List Int) (j : Nat) : Int := ((brs t).take j).foldl (fun o b => o * denF n b) t.length
def denOk : Nat → List Int → Bool
 | 0, _ => false
 | n + 1, t => (brs t).all (denOk n) && (List.range ((brs t).length + 1)).all fun j => decide (0 ≤ denK n t j ∧ denK n t j ≤ 1000000)
theorem denK_succ (n : Nat) {t : List Int} {j : Nat} (h : j < (brs t).length) : denK n t (j + 1) = denK n t j * denF n ((brs t)[j]?.getD []) := by
 unfold denK
 rw [List.take_add_one, List.foldl_append]
 simp [h]
theorem density_c : ∀ (n : Nat) (t : List Int), Lv t → t.length ≤ 1048576 → denOk n t = true → Con Tryz.prog 148 [.sl t.length (avs t)] (.int (denF n t))
 | 0, t, hL, hl, hd => by simp [denOk] at hd
 | n + 1, t, hL, hl, hd => by
  have cL := length_c t.length (avs t) (by omega)
  have cB := branchesOf_c t hl hL
  rw [denOk, Bool.and_eq_true] at hd
  obtain ⟨hd1, hd2⟩ := hd
  have ih := fun b (hb : b ∈ brs t) => density_c n b (brs_ok hL hb).1 (by have := (brs_ok hL hb).2; omega) (List.all_eq_true.1 hd1 b hb)
  have bd : ∀ j, j ≤ (brs t).length → 0 ≤ denK n t j ∧ denK n t j ≤ 1000000 := fun j hj => by
   have := List.all_eq_true.1 hd2 j (by simp; omega)
   simpa using this
  have hs := fun j (h : j < (brs t).length) => denK_succ n h
  have k0 : denK n t 0 = t.length := by simp [denK]
  have ke : denK n t (brs t).length = denF (n + 1) t := by rw [denK, List.take_length, denF]
  have hcnt : (brs t).length < t.length := brs_cnt hL
  rw [← ke]
  generalize denK n t = K at *
  generalize brs t = L at *
  refine con_of_vc Tryz.mixed ⟨6, [], [], []⟩ Tryz.func148 (by decide) rfl (by simp) (by decide) (by simp [freshOK, freshL, go_sem]) ?_
  rw [Tryz.ntmps148]
  simp [go_sem]
  refine CallVC.of (cL) (by decide) ?_
  simp [go_sem]
  refine CallVC.of (cB) (by decide) ?_
  simp [go_sem]
  refine loop_inv ([3, 5] ++ List.range' 11 9) (fun i : Nat => [(3, .int (K i)), (11, .int i)]) (fun i => i ≤ L.length) (fun i => L.length - i) 0 (by simp) (by simp [go_sem, k0]) (by simp [go_sem]) ?_
  intro i hi
  by_cases hiL : i < L.length
  ·have hii : (i : Int) < L.length := by omega
   have hb : L[i]?.getD [] ∈ L := by simp [hiL]
   have cD := ih _ hb
   have hg := omat_get hiL
   have b0 := bd i hi
   have b1 := bd (i + 1) hiL
   have h1 := hs i hiL
   generalize denF n (L[i]?.getD []) = d at *
   generalize hk1 : K (i + 1) = k1 at *
   generalize K i = k at *
   simp [go_sem, hii, hg]
   refine CallVC.of (cD) (by decide) ?_
   simp [go_sem]
   rw [← h1]
   exact ⟨⟨by omega, by omega⟩, ⟨by omega, by omega⟩, i + 1, by omega, by omega, Off_reset _ _ _ (by simp), hk1.symm, by omega⟩
  ·have e : i = L.length := by omega
   subst e
   have hii : ¬ (L.length : Int) < L.length := by omega
   simp [go_sem, hii]
def trN (k : Nat) : List (List Int) := (List.range k).flatMap fun i => genT 200 (upTo (i + 1))
theorem trN_succ (k : Nat) : trN (k + 1) = trN k ++ genT 200 (upTo (k + 1)) := by simp [trN, List.range_succ]
theorem trN_len : ∀ k, k ≤ 6 → (trN k).length ≤ 100 := by decide +kernel
theorem trN_len6 : (trN 6).length = 37 := by decide +kernel
def lvC (t : List Int) : Bool := decide (0 < t.length) && decide (t[0]?.getD 0 = 0) && (List.range t.length).all fun j => decide (j = 0) || decide (1 ≤ t[j]?.getD 0 ∧ t[j]?.getD 0 ≤ t[j - 1]?.getD 0 + 1)
theorem lvC_Lv {t : List Int} (h : lvC t = true) : Lv t := by
 unfold lvC at h
 simp only [Bool.and_eq_true, decide_eq_true_eq, List.all_eq_true, Bool.or_eq_true, List.mem_range] at h
 exact ⟨h.1.1, h.1.2, fun j h1 h2 => (h.2 j h2).resolve_left (by omega)⟩
theorem trN_all : (trN 6).all (fun t => lvC t && decide (t.length ≤ 6) && denOk 8 t) = true := by decide +kernel
theorem trN_at {t : List Int} (h : t ∈ trN 6) : Lv t ∧ t.length ≤ 6 ∧ denOk 8 t = true := by
 have := List.all_eq_true.1 trN_all t h
 simp only [Bool.and_eq_true, decide_eq_true_eq] at this
 exact ⟨lvC_Lv this.1.1, this.1.2, this.2⟩
theorem treesTo_c (n : Nat) (hn : n ≤ 6) : Con Tryz.prog 107 [.int n] (.own 25 (trN n).length (omat (trN n))) := by
 refine con_of_vc Tryz.mixed ⟨5, [], [], []⟩ Tryz.func107 (by decide) rfl (by simp) (by decide) (by simp [freshOK, freshL, go_sem]) ?_
 rw [Tryz.ntmps107]
 simp [go_sem]
 refine loop_inv ([3, 4] ++ List.range' 6 9) (fun i : Nat => [(3, .own 25 (trN i).length (omat (trN i))), (4, .int (i + 1))]) (fun i => i ≤ n) (fun i => n - i) 0 (by simp) (by simp [go_sem, trN, omat]) (by simp [go_sem]) ?_
 intro i hi
 have l0 := trN_len i (by omega)
 by_cases hin : i < n
 ·have hii : (i : Int) + 1 ≤ n := by omega
  have cT := treesOf_c (i + 1) 200 (by omega) (by omega) (trees_same (i + 1) (by omega) (by omega)).1
  have l1 := trN_len (i + 1) (by omega)
  have ts := trN_succ i
  have tl := congrArg List.length ts
  rw [List.length_append] at tl
  have ot : omat (trN (i + 1)) = omat (trN i) ++ omat (genT 200 (upTo (i + 1))) := by rw [ts]; simp [omat]
  have ec : ((i + 1 : Nat) : Int) = (i : Int) + 1 := by omega
  rw [ec] at cT
  generalize genT 200 (upTo (i + 1)) = G at *
  simp [go_sem, hii]
  refine CallVC.of (cT) (by decide) ?_
  simp [go_sem]
  exact ⟨⟨by omega, by omega⟩, ⟨by omega, by omega⟩, i + 1, by omega, by omega, Off_reset _ _ _ (by simp), by rw [tl, ot]; exact ⟨rfl, rfl⟩, by omega⟩
 ·have e : i = n := by omega
  subst e
  have hii : ¬ (i : Int) + 1 ≤ i := by omega
  simp [go_sem, hii]
end Go.Proofs.YtiikdbomhkbdlaaGreat


namespace Go.Proofs.YtiikdbomhkbdlaaGreat
open Go.Abs
theorem genT_len : ∀ (k : Nat) (t : List Int), (genT k t).length ≤ k
 | 0, t => by simp [genT]
 | k + 1, t => by
  rw [genT]
  split
  ·simp
  ·split
   ·simp
   ·have := genT_len k (fiS t (‹Nat› - ‹Nat›) ‹Nat› (t.length - ‹Nat›)); simp; exact genT_len _ _
def tmE (z : Int) (f : List (List Mon)) (y : List Int) (n : Int) : Int := if fpE z f y = 0 then if 1 ≤ n ∧ n ≤ 6 then 0 else 2 else fpE z f y
def tmX (z : Int) (f : List (List Mon)) (y : List Int) (n : Int) : List (List Int) := if tmE z f y n = 0 then (genT 200 (upTo n.toNat)).map (fun t => edF f y t.length t) else []
def tmR (z : Int) (f : List (List Mon)) (y : List Int) (n : Int) : AV := .tup [.own 25 (tmX z f y n).length (omat (tmX z f y n)), .int (tmE z f y n)]
theorem tmE_ok {z : Int} {f : List (List Mon)} {y : List Int} {n : Int} (h : tmE z f y n = 0) : fpE z f y = 0 ∧ 1 ≤ n ∧ n ≤ 6 := by
 unfold tmE at h
 split at h
 ·split at h
  ·rename_i h1 h2; exact ⟨h1, h2⟩
  ·simp at h
 ·contradiction
theorem genT_Lv {n : Nat} (h1 : 1 ≤ n) (h6 : n ≤ 6) {t : List Int} (h : t ∈ genT 200 (upTo n)) : Lv t ∧ t.length ≤ 8 := by
 have := (List.all_eq_true.1 (trees_same n h1 h6).2.2) t h
 unfold lvB at this
 simp only [Bool.and_eq_true, decide_eq_true_eq] at this
 exact ⟨lv0_Lv this.1, this.2⟩
theorem TermsOf_c (z : Int) (f : List (List Mon)) (y : List Int) (n : Int) (hs : Small f) (hy : y.length ≤ 1048576) :
  Con Tryz.prog 45 [.agg [.int z, .sl f.length (prt f)], .sl y.length (avs y), .int n] (tmR z f y n) := by
 have cK := checkVectors_c z f [y] hs (by simp) (by simp; omega)
 have e1 : mat [y] = [.sl y.length (avs y)] := rfl
 have e2 : ([y] : List (List Int)).length = 1 := rfl
 rw [e1, e2, chk_one] at cK
 have cI := inRange_c n 1 6
 unfold tmR tmX
 by_cases he : tmE z f y n = 0
 ·obtain ⟨h0, h1, h6⟩ := tmE_ok he
  obtain ⟨hF, hl, hN⟩ := fpE_ok h0
  obtain ⟨m, rfl⟩ : ∃ m : Nat, n = m := ⟨n.toNat, by omega⟩
  have z3 := hF.hi
  have zl := hF.len
  have cP := polynomials_c z f hF hs
  have cT := treesOf_c m 200 (by omega) (by omega) (trees_same m (by omega) (by omega)).1
  have gl := genT_len 200 (upTo m)
  have cD := fun (t : List Int) (ht : t ∈ genT 200 (upTo m)) => differential_c z f y hF hs hN hl t.length t (genT_Lv (by omega) (by omega) ht).1 (Nat.le_refl _) (by have := (genT_Lv (by omega) (by omega) ht).2; omega)
  have dl := fun (t : List Int) (ht : t ∈ genT 200 (upTo m)) => edF_len (f := f) (y := y) (genT_Lv (by omega) (by omega) ht).1.1 t
  rw [he, if_pos rfl]
  rw [h0] at cK
  simp only [Int.toNat_natCast]
  rw [decide_eq_true h1, decide_eq_true h6] at cI
  generalize genT 200 (upTo m) = G at *
  refine con_of_vc Tryz.mixed ⟨13, [27], [], []⟩ Tryz.func45 (by decide) rfl (by simp) (by decide) (by simp [freshOK, freshL, go_sem]) ?_
  rw [Tryz.ntmps45]
  simp [go_sem]
  refine CallVC.of (cK) (by decide) ?_
  simp [go_sem]
  refine CallVC.of (cI) (by decide) ?_
  simp [go_sem]
  refine CallVC.of (cP) (by decide) ?_
  simp [go_sem]
  refine CallVC.of (cT) (by decide) ?_
  simp [go_sem]
  have xat : ∀ i, i < G.length → (G.map (fun t => edF f y t.length t))[i]?.getD [] = edF f y (G[i]?.getD []).length (G[i]?.getD []) := fun i h => by simp [h]
  have xl : (G.map (fun t => edF f y t.length t)).length = G.length := by simp
  generalize G.map (fun t => edF f y t.length t) = X at *
  refine loop_inv (10 :: 12 :: List.range' 29 12) (fun i : Nat => [(10, .own 25 i (omat (X.take i))), (29, .int i)]) (fun i => i ≤ G.length) (fun i => G.length - i) 0 (by simp) (by simp [go_sem, omat_nil]) (by simp [go_sem]) ?_
  intro i hi
  simp [go_sem]
  refine ⟨fun h => ?_, fun h => ?_⟩ <;> simp at h
  ·have hG := memD [] h
   have cd := cD _ hG
   have dl2 := dl _ hG
   have xi := xat i h
   have ht := omat_take X i (by omega)
   rw [xi, dl2] at ht
   simp [go_sem, mat_drop h]
   refine ⟨⟨h, by rintro rfl; simp at h⟩, ?_⟩
   refine CallVC.of (cd) (by decide) ?_
   simp [go_sem]
   exact ⟨⟨by omega, by omega, by omega⟩, ⟨by omega, by omega⟩, i + 1, by omega, by omega, Off_reset _ _ _ (by simp), ⟨by omega, ht.symm⟩, by omega⟩
  ·have e : i = X.length := by omega
   have e2 : i = G.length := by omega
   subst e2
   simp [go_sem]
   rw [List.take_of_length_le (by omega)]
 ·rw [if_neg he]
  refine Con.n1 _ ?_
  by_cases h0 : fpE z f y = 0
  ·have hn : (decide (1 ≤ n) && decide (n ≤ 6)) = false := by
    unfold tmE at he
    rw [if_pos h0] at he
    cases hb : (decide (1 ≤ n) && decide (n ≤ 6)) with
    | false => rfl
    | true => simp at hb; rw [if_pos hb] at he; exact (he rfl).elim
   have ht : tmE z f y n = 2 := by
    unfold tmE at he ⊢
    rw [if_pos h0] at he ⊢
    split
    ·rename_i h; rw [if_pos h] at he; exact (he rfl).elim
    ·rfl
   rw [h0] at cK
   rw [hn] at cI
   rw [ht]
   refine con_of_vc Tryz.mixed ⟨13, [27], [], []⟩ Tryz.func45 (by decide) rfl (by simp) (by decide) (by simp [freshOK, freshL, go_sem]) ?_
   rw [Tryz.ntmps45]
   simp [go_sem]
   refine CallVC.of (cK) (by decide) ?_
   simp [go_sem]
   refine CallVC.of (cI) (by decide) ?_
   simp [go_sem]
  ·have ht : tmE z f y n = fpE z f y := by unfold tmE; rw [if_neg h0]
   rw [ht]
   generalize fpE z f y = e at *
   refine con_of_vc Tryz.mixed ⟨13, [27], [], []⟩ Tryz.func45 (by decide) rfl (by simp) (by decide) (by simp [freshOK, freshL, go_sem]) ?_
   rw [Tryz.ntmps45]
   simp [go_sem]
   refine CallVC.of (cK) (by decide) ?_
   simp [go_sem]
   simp [go_sem, h0]
end Go.Proofs.YtiikdbomhkbdlaaGreat


namespace Go.Proofs.YtiikdbomhkbdlaaGreat
open Go.Abs
theorem trN_sym : (trN 6).all (fun t => okS 6 t) = true := by decide +kernel
theorem trN_okS {i : Nat} (h : i < 37) : okS 6 ((trN 6)[i]?.getD []) = true :=
 List.all_eq_true.1 trN_sym _ (memD [] (by rw [trN_len6]; exact h))
theorem trN_pos {j : Nat} (h : j < 37) : ((trN 6)[j]?.getD []).length ≠ 0 ∧ ((trN 6)[j]?.getD []).length ≤ 6 ∧ Lv ((trN 6)[j]?.getD []) := by
 have h1 := trN_at (memD [] (show j < (trN 6).length by rw [trN_len6]; exact h))
 have := h1.1.1
 exact ⟨by omega, h1.2.1, h1.1⟩
theorem okS_sym {n : Nat} {t : List Int} (h : okS (n + 1) t = true) : 0 ≤ symF (n + 1) t ∧ symF (n + 1) t ≤ 1000000 := by
 have := (okS_spec h).2.2.2.2.2 _ (Nat.le_refl _)
 exact ⟨this.1, this.2.1⟩
def facT (a : List Int) (i : Nat) : Int := a[i + 1]?.getD 0 * pw (symF 6 ((trN 6)[i]?.getD []) % 10007) 10005 % 10007
theorem facT_N (a : List Int) (i : Nat) : isN (facT a i) := isN_mod _
def rowT (f : List (List Mon)) (y a : List Int) (n : Nat) : Nat → List Int
 | 0 => if n = 0 then scalS y (a[0]?.getD 0) else List.replicate y.length 0
 | i + 1 => if ((trN 6)[i]?.getD []).length = n then plusS (rowT f y a n i) (edF f y 6 ((trN 6)[i]?.getD [])) (facT a i) else rowT f y a n i
theorem rowT_len (f : List (List Mon)) (y a : List Int) (n : Nat) : ∀ i, (rowT f y a n i).length = y.length
 | 0 => by rw [rowT]; split <;> simp
 | i + 1 => by rw [rowT]; split <;> simp [rowT_len f y a n i]
theorem rowT_N (f : List (List Mon)) (y a : List Int) (n : Nat) : ∀ i, Ns (rowT f y a n i)
 | 0 => by
  rw [rowT]; split
  ·exact scalS_N _ _
  ·intro x hx
   obtain ⟨_, rfl⟩ := List.mem_replicate.1 hx
   exact ⟨by omega, by omega⟩
 | i + 1 => by
  rw [rowT]; split
  ·exact plusS_N _ _ _
  ·exact rowT_N f y a n i
theorem rowT_same (f : List (List Mon)) (y a : List Int) (n i : Nat) : ∀ k, (∀ j, i ≤ j → j < i + k → ((trN 6)[j]?.getD []).length ≠ n) → rowT f y a n (i + k) = rowT f y a n i
 | 0, _ => rfl
 | k + 1, h => by
  rw [← Nat.add_assoc, rowT, if_neg (h (i + k) (by omega) (by omega)), rowT_same f y a n i k (fun j h1 h2 => h j h1 (by omega))]
def tsX (f : List (List Mon)) (y a : List Int) (k i : Nat) : List (List Int) := (List.range k).map fun n => rowT f y a n i
@[simp] theorem tsX_len (f : List (List Mon)) (y a : List Int) (k i : Nat) : (tsX f y a k i).length = k := by simp [tsX]
theorem tsX_succ (f : List (List Mon)) (y a : List Int) (k i : Nat) : tsX f y a (k + 1) i = tsX f y a k i ++ [rowT f y a k i] := by simp [tsX, List.range_succ]
theorem tsX_get (f : List (List Mon)) (y a : List Int) {k n : Nat} (i : Nat) (h : n < k) : (tsX f y a k i)[n]?.getD [] = rowT f y a n i := by simp [tsX, h]
end Go.Proofs.YtiikdbomhkbdlaaGreat


namespace Go.Proofs.YtiikdbomhkbdlaaGreat
open Go.Abs CR
def isgT (t : List Int) : Int := ((fp 15 (symF 6 t % 10007).toNat 10005 : Nat) : Int)
def geL : List Int → List Int → Bool
 | _, [] => true
 | [], _ :: _ => false
 | a :: l, b :: m => if a = b then geL l m else decide (b < a)
def insD (t : List Int) : List (List Int) → List (List Int)
 | [] => [t]
 | s :: l => if geL t s = true then t :: s :: l else s :: insD t l
def srtD : List (List Int) → List (List Int)
 | [] => []
 | t :: l => insD t (srtD l)
def tsD : List (List Int) := srtD (trN 5)
def rtB (bs : List (List Int)) : List Int := 0 :: bs.flatMap (fun b => b.map (· + 1))
def genN (j : Nat) : List (List Int) := genT 200 (upTo j)
def forB (j : Nat) : Bool := ((enT tsD j).map (fun x => x.1)).isPerm ((genN (j + 1)).map brs) && ((enT tsD j).all (fun x => decide (x.2 * prodC isgT x.1 % 10007 = isgT (rtB x.1))) && (genN (j + 1)).all (fun t => decide (rtB (brs t) = t)))
theorem for_ok : (List.range 6).all forB = true := by decide +kernel
theorem for_at {j : Nat} (h : j < 6) : ((enT tsD j).map (fun x => x.1)).Perm ((genN (j + 1)).map brs) ∧ (∀ x ∈ enT tsD j, x.2 * prodC isgT x.1 % 10007 = isgT (rtB x.1)) ∧ ∀ t ∈ genN (j + 1), rtB (brs t) = t := by
 have h1 := List.all_eq_true.1 for_ok j (by simpa using h)
 unfold forB at h1
 simp only [Bool.and_eq_true, List.all_eq_true, decide_eq_true_eq] at h1
 exact ⟨List.isPerm_iff.1 h1.1, h1.2.1, h1.2.2⟩
def memB (j : Nat) : Bool := (genN (j + 1)).all (fun t => lvC t && decide (t.length = j + 1)) && (((trN 6).filter (fun t => decide (t.length = j + 1))).isPerm (genN (j + 1)) && (decide (5 ≤ j) || (tsD.filter (fun t => decide (t.length = j + 1))).isPerm (genN (j + 1))))
theorem mem_ok : (List.range 6).all memB = true := by decide +kernel
theorem mem_at {j : Nat} (h : j < 6) : (∀ t ∈ genN (j + 1), Lv t ∧ t.length = j + 1) ∧ ((trN 6).filter (fun t => decide (t.length = j + 1))).Perm (genN (j + 1)) ∧ (j < 5 → (tsD.filter (fun t => decide (t.length = j + 1))).Perm (genN (j + 1))) := by
 have h1 := List.all_eq_true.1 mem_ok j (by simpa using h)
 unfold memB at h1
 simp only [Bool.and_eq_true, Bool.or_eq_true, List.all_eq_true, decide_eq_true_eq] at h1
 refine ⟨fun t ht => ⟨lvC_Lv (h1.1 t ht).1, (h1.1 t ht).2⟩, List.isPerm_iff.1 h1.2.1, fun h5 => ?_⟩
 rcases h1.2.2 with h2 | h2
 ·omega
 ·exact List.isPerm_iff.1 h2
theorem tsD_ok : tsD.all (fun t => lvC t && decide (t.length ≤ 5)) = true := by decide +kernel
theorem tsD_at {t : List Int} (h : t ∈ tsD) : Lv t ∧ t.length ≤ 5 := by
 have := List.all_eq_true.1 tsD_ok t h
 simp only [Bool.and_eq_true, decide_eq_true_eq] at this
 exact ⟨lvC_Lv this.1, this.2⟩
theorem prodC_mul (g h : List Int → Int) : ∀ bs, prodC (fun b => g b * h b) bs = prodC g bs * prodC h bs
 | [] => rfl
 | b :: bs => by rw [prodC, prodC, prodC, prodC_mul g h bs]; ac_rfl
theorem sumL2_filter {β : Type} (p : β → Bool) (f : β → Int) : ∀ l : List β, sumL2 f (l.filter p) = sumL2 (fun b => if p b = true then f b else 0) l
 | [] => rfl
 | b :: l => by
  rw [List.filter_cons]
  by_cases h : p b = true
  ·rw [if_pos h, sumL2, sumL2_filter p f l, sumL2, if_pos h]
  ·rw [if_neg h, sumL2_filter p f l, sumL2, if_neg h, Int.zero_add]
def FT (f : List (List Mon)) (y : List Int) (t : List Int) : List Int := edF f y 6 t
theorem edF_fuel (f : List (List Mon)) (y : List Int) : ∀ (m k : Nat) (t : List Int), Lv t → t.length ≤ m → m ≤ k → edF f y k t = edF f y m t
 | 0, k, t, ht, h0, _ => by have := ht.1; omega
 | m + 1, k, t, ht, h, hk => by
  obtain ⟨k', rfl⟩ : ∃ k', k = k' + 1 := ⟨k - 1, by omega⟩
  rw [edF, edF]
  congr 1
  refine List.map_congr_left fun b hb => ?_
  obtain ⟨h1, h2⟩ := brs_ok ht hb
  exact edF_fuel f y m k' b h1 (by omega) (by omega)
section
variable {f : List (List Mon)} {y : List Int} {z : Int} {n : Nat}
theorem FT_N (t : List Int) : Ns (FT f y t) := edF_N t
theorem FT_at (hy : y.length = n) {t : List Int} (ht : Lv t) (h6 : t.length ≤ 6) {k : Nat} (hk : k < f.length) : (FT f y t)[k]?.getD 0 = drvP y n ((brs t).map (FT f y)) (f[k]?.getD []) := by
 have e : (brs t).map (edF f y 5) = (brs t).map (FT f y) := List.map_congr_left fun b hb => by
  obtain ⟨h1, h2⟩ := brs_ok ht hb
  exact (edF_fuel f y 5 6 b h1 (by omega) (by omega)).symm
 unfold FT
 rw [edF, e, hy]
 unfold drvL
 rw [List.getElem?_map, List.getElem?_eq_getElem hk]
 rfl
theorem pow_zz (w m : Nat) : (pwr zz w : Ser Int) m = if m = w then 1 else 0 := by
 have := zw_mul (ofI 1) w m
 rw [mul1] at this
 rw [this]
 by_cases h : w ≤ m
 ·rw [if_pos h, of_at]
  by_cases e : m = w
  ·rw [if_pos e, if_pos (by omega)]
  ·rw [if_neg e, if_neg (by omega)]
 ·rw [if_neg h, if_neg (by omega)]
theorem uT_at (Y : Nat → Int) (C : List Int → Int) (F : List Int → List Int) (k m : Nat) : ∀ ts, (uT Y C F ts k : Ser Int) m = (if m = 0 then Y k else 0) + sumL2 (fun t => if t.length = m then (F t)[k]?.getD 0 * C t else 0) ts
 | [] => by
  show (ofI (Y k) : Ser Int) m = _ + 0
  rw [of_at, Int.add_zero]
 | t :: ts => by
  show (uT Y C F ts k + ofI ((F t)[k]?.getD 0) * zT C t : Ser Int) m = _
  rw [ser_add, uT_at Y C F k m ts, of_mul]
  have e : zT C t m = if t.length = m then C t else 0 := by
   unfold zT
   rw [of_mul, pow_zz]
   by_cases h : t.length = m
   ·rw [if_pos h, if_pos h.symm, Int.mul_one]
   ·rw [if_neg h, if_neg (fun x => h x.symm), Int.mul_zero]
  rw [e, sumL2]
  by_cases h : t.length = m
  ·rw [if_pos h, if_pos h]; omega
  ·rw [if_neg h, if_neg h, Int.mul_zero]; omega
theorem uT_gen (Y : Nat → Int) (C : List Int → Int) (F : List Int → List Int) (k : Nat) {m : Nat} (h : m < 5) : (uT Y C F tsD k : Ser Int) (m + 1) = sumL2 (fun t => (F t)[k]?.getD 0 * C t) (genN (m + 1)) := by
 rw [uT_at, if_neg (by omega), Int.zero_add, ← sumL2_perm _ ((mem_at (show m < 6 by omega)).2.2 h), sumL2_filter]
 refine sumL2_congr fun t _ => ?_
 by_cases e : t.length = m + 1
 ·rw [if_pos e, if_pos (by simpa using e)]
 ·rw [if_neg e, if_neg (by simpa using e)]
theorem uT_zero (Y : Nat → Int) (C : List Int → Int) (F : List Int → List Int) (k : Nat) : (uT Y C F tsD k : Ser Int) 0 = Y k := by
 rw [uT_at, if_pos rfl]
 have e : sumL2 (fun t => if t.length = 0 then (F t)[k]?.getD 0 * C t else 0) tsD = 0 := by
  have h : ∀ l : List (List Int), (∀ t ∈ l, 0 < t.length) → sumL2 (fun t => if t.length = 0 then (F t)[k]?.getD 0 * C t else 0) l = 0 := fun l => by
   induction l with
   | nil => intro _; rfl
   | cons t l ih =>
    intro h
    have := h t (by simp)
    rw [sumL2, if_neg (by omega), ih (fun s hs => h s (by simp [hs]))]; rfl
  exact h tsD fun t ht => (tsD_at ht).1.1
 rw [e, Int.add_zero]
theorem exp_aux {E : List (List (List Int) × Int)} {G : List (List Int)} (f1 : (E.map (fun x => x.1)).Perm (G.map brs)) (f2 : ∀ x ∈ E, x.2 * prodC isgT x.1 % 10007 = isgT (rtB x.1)) (f3 : ∀ t ∈ G, rtB (brs t) = t)
  (D : List (List Int) → Int) (g : List Int → Int) : sumL2 (fun x => x.2 * prodC (fun b => g b * isgT b) x.1 * D x.1) E % 10007 = sumL2 (fun t => isgT t * prodC g (brs t) * D (brs t)) G % 10007 := by
 have e1 : sumL2 (fun x => x.2 * prodC (fun b => g b * isgT b) x.1 * D x.1) E % 10007 = sumL2 (fun x : List (List Int) × Int => isgT (rtB x.1) * prodC g x.1 * D x.1) E % 10007 := by
  refine sumL2_mod fun x hx => ?_
  refine mod_mulc ?_ rfl
  rw [prodC_mul]
  have e : x.2 * (prodC g x.1 * prodC isgT x.1) = x.2 * prodC isgT x.1 * prodC g x.1 := by ac_rfl
  rw [e]
  refine mod_mulc ?_ rfl
  rw [← f2 x hx, Int.emod_emod_of_dvd _ (Int.dvd_refl _)]
 rw [e1]
 have e2 : sumL2 (fun x : List (List Int) × Int => isgT (rtB x.1) * prodC g x.1 * D x.1) E = sumL2 (fun bs => isgT (rtB bs) * prodC g bs * D bs) (E.map (fun x => x.1)) := (sumL2_map (fun bs => isgT (rtB bs) * prodC g bs * D bs) (fun x : List (List Int) × Int => x.1) E).symm
 rw [e2, sumL2_perm _ f1, sumL2_map]
 exact congrArg (· % 10007) (sumL2_congr fun t ht => by rw [f3 t ht])
theorem tree_exp (hf : FieldOk (n : Int) f) (hy : y.length = n) (hfl : f.length = n) (g : List Int → Int) {j k : Nat} (hj : j < 6) (hk : k < n) :
  (evM n (uT (fun k => y[k]?.getD 0) (fun b => g b * isgT b) (FT f y) tsD) (f[k]?.getD []) : Ser Int) j % 10007 = sumL2 (fun t => isgT t * prodC g (brs t) * (FT f y t)[k]?.getD 0) (genN (j + 1)) % 10007 := by
 have hn : n ≤ 3 := by have := hf.hi; omega
 have hp := hf.part _ (memD [] (show k < f.length by omega))
 have hL : LOk n (f[k]?.getD []) := by
  have := hf.lok _ (memD [] (show k < f.length by omega))
  rwa [hfl] at this
 obtain ⟨f1, f2, f3⟩ := for_at hj
 have h1 := tay n (fun k => y[k]?.getD 0) (fun b => g b * isgT b) (FT f y) tsD (fun t ht => (tsD_at ht).1.1) (f[k]?.getD []) hL j (by omega)
 have h2 := exp_aux f1 f2 f3 (fun bs => evM n (fun k => y[k]?.getD 0) (DerL n (bs.map (FT f y)) (f[k]?.getD []))) g
 have m := (mem_at hj).1
 refine h1.trans (h2.trans ?_)
 clear h1 h2 f1 f2 f3
 generalize genN (j + 1) = G at *
 refine sumL2_mod fun t ht => ?_
 obtain ⟨m1, m2⟩ := m t ht
 rw [FT_at hy m1 (by omega) (by omega)]
 refine mod_mulc rfl ?_
 have hv : ∀ v ∈ (brs t).map (FT f y), Ns v := fun v hv => by
  obtain ⟨b, _, rfl⟩ := List.mem_map.1 hv
  exact FT_N b
 have h3 := DerL_drv hn hy (by exact hp) hv
 rw [h3]
 unfold drvP
 split
 ·rfl
 ·exact (Int.emod_emod_of_dvd _ (Int.dvd_refl _)).symm
end
end Go.Proofs.YtiikdbomhkbdlaaGreat


namespace Go.Proofs.YtiikdbomhkbdlaaGreat
open Go.Abs CR
theorem cgI_eq {a b : Int} (h : cgI.r a b) : a % 10007 = b % 10007 := h
theorem sw3 (e I F : List Int → Int) (G : List (List Int)) : sumL2 (fun t => I t * e t * F t) G = sumL2 (fun t => F t * (e t * I t)) G := sumL2_congr fun b _ => by ac_rfl
theorem sw4 (k : Int) (e I F : List Int → Int) (G : List (List Int)) : k * sumL2 (fun t => I t * e t * F t) G = sumL2 (fun t => I t * (k * e t) * F t) G := by
 rw [← sumL2_mul]
 exact sumL2_congr fun b _ => by ac_rfl
section
variable {A : List (List Int)} {B : List Int} {f : List (List Mon)} {y : List Int} {n : Nat}
def wS (A : List (List Int)) (s : Nat) (i : Nat) (t : List Int) : Int := (stwF A s 6 t)[i]?.getD 0
def gS (A : List (List Int)) (s : Nat) (i : Nat) (t : List Int) : Int := dsum (fun q => (A[i]?.getD [])[q]?.getD 0 * wS A s q t) s
end
def exN (t : List Int) : Int := ((fp 15 (denF 8 t % 10007).toNat 10005 : Nat) : Int)
def exB (j : Nat) : Bool := (genN (j + 1)).all fun t => decide (prodC exN (brs t) % 10007 = ((j : Int) + 1) * exN t % 10007)
theorem ex_ok : (List.range 6).all exB = true := by decide +kernel
theorem ex_at {j : Nat} (h : j < 6) {t : List Int} (ht : t ∈ genN (j + 1)) : prodC exN (brs t) % 10007 = ((j : Int) + 1) * exN t % 10007 := by
 have h1 := List.all_eq_true.1 ex_ok j (by simpa using h)
 exact of_decide_eq_true (List.all_eq_true.1 h1 t ht)
section
variable {f : List (List Mon)} {y : List Int} {n : Nat}
def flT (f : List (List Mon)) (y : List Int) (k j : Nat) : Int := sumL2 (fun t => isgT t * exN t * (FT f y t)[k]?.getD 0) (genN (j + 1))
theorem flow_trees (hf : FieldOk (n : Int) f) (hy : y.length = n) (hN : Ns y) (hfl : f.length = n) : ∀ j, j < 6 → ∀ k, k < n → toU (floS f y 6) k (j + 1) % 10007 = flT f y k j % 10007 := by
 have all : ∀ m, m ≤ 6 → ∀ j, j < m → ∀ k, k < n → toU (floS f y 6) k (j + 1) % 10007 = flT f y k j % 10007 := by
  intro m
  induction m with
  | zero => intro _ j hj; omega
  | succ m ih =>
   intro hm j hj k hk
   rcases Nat.lt_or_ge j m with h | h
   ·exact ih (by omega) j h k hk
   have e : j = m := by omega
   subst e
   have f0 : ∀ k, k < n → toU (floS f y 6) k 0 = y[k]?.getD 0 := fun k hk => by
    have := floS_keep (f := f) (show k < y.length by omega) 0 (Nat.le_refl 0) 6
    rw [Nat.zero_add] at this
    show ((floS f y 6)[k]?.getD [])[0]?.getD 0 = y[k]?.getD 0
    rw [this, floS, poS_at (by omega)]; rfl
   have ode := floS_ode hf (by omega) hN k (by omega) j (by omega)
   rw [hfl] at ode
   have cong : ∀ k', k' < n → ∀ j', j' < j + 1 → cgI.r (toU (floS f y 6) k' j') (uT (fun k => y[k]?.getD 0) (fun b => exN b * isgT b) (FT f y) tsD k' j') := fun k' hk' j' hj' => by
    cases j' with
    | zero => rw [f0 k' hk', uT_zero]; exact cgI.refl _
    | succ j' =>
     rw [uT_gen _ _ _ _ (by omega)]
     refine cgI.trans (ih (by omega) j' (by omega) k' hk') (cgI.eq ?_)
     exact sw3 exN isgT (fun t => (FT f y t)[k']?.getD 0) (genN (j' + 1))
   have h1 := Cg.evM (cgS cgI (j + 1)) (d := n) (fun q hq m hm => cong q hq m hm) (f[k]?.getD []) j (by omega)
   have h2 := tree_exp hf hy hfl exN (j := j) (by omega) hk
   have h3 : (((j + 1 : Nat) : Int) * toU (floS f y 6) k (j + 1)) % 10007 = sumL2 (fun t => isgT t * prodC exN (brs t) * (FT f y t)[k]?.getD 0) (genN (j + 1)) % 10007 := (cgI_eq ode).trans ((cgI_eq h1).trans h2)
   have h4 : sumL2 (fun t => isgT t * prodC exN (brs t) * (FT f y t)[k]?.getD 0) (genN (j + 1)) % 10007 = ((j + 1 : Nat) : Int) * flT f y k j % 10007 := by
    have e1 := sw4 ((j + 1 : Nat) : Int) exN isgT (fun t => (FT f y t)[k]?.getD 0) (genN (j + 1))
    refine Eq.trans ?_ (congrArg (· % 10007) e1).symm
    refine sumL2_mod fun t ht => mod_mulc (mod_mulc rfl ?_) rfl
    rw [show ((j + 1 : Nat) : Int) = (j : Int) + 1 by omega]
    exact ex_at (by omega) ht
   have h5 := h3.trans h4
   have i6 := inv_6 j (by omega)
   generalize toU (floS f y 6) k (j + 1) = a at *
   generalize flT f y k j = b at *
   generalize pw ((j : Int) + 1) 10005 = w at *
   have ca : ∀ x : Int, x % 10007 = (((j + 1 : Nat) : Int) * x) * w % 10007 := fun x => by
    have e1 : ((j + 1 : Nat) : Int) * x * w = x * (((j + 1 : Nat) : Int) * w) := by ac_rfl
    rw [e1, Int.mul_emod x, i6, Int.mul_one, Int.emod_emod_of_dvd _ (Int.dvd_refl _)]
   rw [ca a, ca b]
   exact mod_mulc h5 rfl
 exact fun j hj => all 6 (Nat.le_refl _) j hj
end
end Go.Proofs.YtiikdbomhkbdlaaGreat

