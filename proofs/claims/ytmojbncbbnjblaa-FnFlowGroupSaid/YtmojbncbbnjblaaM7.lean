/- Texts of the own layer and contracts, part 7: Q18 Q19 Q20 Q21 Q22 Q23 Q24 W11 O W2 B0 B1 B2 E5 Q25 Q26 Q30 Q32 E6 Q31 Q33 Q45 Q46 Q47 Q48 Q49 Q50 E7 Q51 L29. -/
import Derived.Test.YtmojbncbbnjblaaRows
import Derived.WalkKit
import Derived.ProofKit
import Derived.OpenShut
import Derived.Test.YtmojbncbbnjblaaM6
namespace Go.Proofs.Ytmojbncbbnjblaa
open Go.Abs
set_option linter.unusedVariables false
set_option linter.unusedSimpArgs false
set_option maxHeartbeats 1000000
def tmN (i j n : Nat) : Nat := if i ≤ n then (if n < i + j then i + 1 else i) else n + 1
def tmS (a b : List Int) (i j : Nat) : List Int := tb (fun n => cv a b n (tmN i j n) % 10007) a.length
@[simp] theorem tmS_len (a b : List Int) (i j : Nat) : (tmS a b i j).length = a.length := by simp [tmS]
theorem tmS_N (a b : List Int) (i j : Nat) : Ns (tmS a b i j) := tb_N fun i _ => isN_mod _
theorem tmS_zero (a b : List Int) : tmS a b 0 0 = List.replicate a.length 0 := by
  refine List.ext_getElem (by simp) fun n h1 h2 => ?_
  simp [tmS, tb, tmN, cv]
theorem tmS_next (a b : List Int) (i j : Nat) (h : a.length ≤ i + j) : tmS a b i j = tmS a b (i + 1) 0 := by
  unfold tmS tb
  refine List.map_congr_left fun n hn => ?_
  have hn : n < a.length := by simpa using hn
  have e : tmN i j n = tmN (i + 1) 0 n := by unfold tmN; (repeat' split) <;> omega
  rw [e]
theorem tmS_end (a b : List Int) : tmS a b a.length 0 = mulS a b := by
  unfold tmS mulS tb
  refine List.map_congr_left fun n hn => ?_
  have hn : n < a.length := by simpa using hn
  have e : tmN a.length 0 n = n + 1 := by unfold tmN; split <;> omega
  rw [e]
theorem tmS_set (a b : List Int) (i j : Nat) (h : i + j < a.length) : (tmS a b i j).set (i + j) (((tmS a b i j)[i + j]?.getD 0 + a[i]?.getD 0 * b[j]?.getD 0) % 10007) = tmS a b i (j + 1) := by
  refine List.ext_getElem (by simp) fun n h1 h2 => ?_
  simp at h1
  rw [List.getElem_set]
  by_cases e : i + j = n
  · subst e
    have e1 : tmN i j (i + j) = i := by unfold tmN; (repeat' split) <;> omega
    have e2 : tmN i (j + 1) (i + j) = i + 1 := by unfold tmN; (repeat' split) <;> omega
    have e3 : i + j - i = j := by omega
    have g := tb_get (fun n => cv a b n (tmN i j n) % 10007) h
    have g2 : (tmS a b i j)[i + j]?.getD 0 = cv a b (i + j) (tmN i j (i + j)) % 10007 := g
    simp only [if_true, g2, e1]
    simp only [tmS, tb, List.getElem_map, List.getElem_range, e2, cv, e3]
    omega
  · have e1 : tmN i j n = tmN i (j + 1) n := by unfold tmN; (repeat' split) <;> omega
    simp only [e, if_false, tmS, tb, List.getElem_map, List.getElem_range, e1]
set_option maxRecDepth 100000 in
theorem timesSeries_c (a b : List Int) (ha : Ns a) (hb : Ns b) (hl : a.length ≤ 1048576) (hab : a.length ≤ b.length) :
    Con Try.prog 180 [.sl a.length (avs a), .sl b.length (avs b)] (.own 2 a.length (avs (mulS a b))) := by
  refine con_of_vc Try.mixed ⟨9, [], [], []⟩ Try.func180 (by decide) rfl (by simp) (by decide) (by simp [freshOK, freshL, go_sem]) ?_
  rw [Try.ntmps180]
  simp [go_sem]
  refine ⟨by omega, ?_⟩
  refine loop_inv (5 :: 6 :: 7 :: 8 :: List.range' 14 33) (fun i : Nat => [(5, .own 2 a.length (avs (tmS a b i 0))), (14, .int i)]) (fun i => i ≤ a.length) (fun i => a.length - i) 0 (by simp) (by simp [go_sem, tmS_zero, avs_repl]) (by simp [go_sem]) ?_
  intro i hi
  simp [go_sem]
  refine ⟨fun h => ?_, fun h => ?_⟩ <;> simp at h
  · have hi2 := h
    simp [go_sem, avs_drop hi2]
    refine ⟨⟨hi2, by rintro rfl; simp at hi2⟩, ?_⟩
    refine loop_inv (5 :: 8 :: List.range' 19 27) (fun j : Nat => [(5, .own 2 a.length (avs (tmS a b i j))), (8, .int j)]) (fun j => i + j ≤ a.length) (fun j => a.length - j) 0 (by simp; omega) (by simp [go_sem]) (by simp [go_sem]) ?_
    intro j hj
    simp [go_sem]
    refine ⟨⟨by omega, by omega⟩, ?_⟩
    refine ⟨fun h => ?_, fun h => ?_⟩ <;> simp at h
    · have k0 : i + j < a.length := by omega
      have k1 : j < b.length := by omega
      have k2 : i + j < (tmS a b i j).length := by rw [tmS_len]; exact k0
      have hset := tmS_set a b i j k0
      have tN := (tmS_N a b i j).get (i + j)
      have m1 := mul_fits (ha.get i) (hb.get j)
      have m2 : fits ((tmS a b i j)[i + j]?.getD 0 + a[i]?.getD 0 * b[j]?.getD 0) := by
        have x0 := mul_bound (ha.get i) (hb.get j)
        obtain ⟨y0, y1⟩ := tN
        exact ⟨by omega, by omega⟩
      have ij : ((i : Int) + j).toNat = i + j := by omega
      simp [go_sem, ij, avs_drop k1, avs_at k2]
      refine ⟨by kernel_rfl, ⟨by omega, by omega⟩, ⟨by omega, by omega⟩, ⟨k1, by intro e; simp [e] at k1⟩, m1, m2, ?_⟩
      refine CallD.of (num_c _ m2.1 m2.2) (by simp [roots, rootsL]) (by decide) ?_
      simp [go_sem]
      refine ⟨⟨by omega, by omega⟩, by omega, ?_⟩
      refine ⟨by kernel_rfl, ?_⟩
      simp [go_sem]
      exact ⟨by omega, j + 1, by omega, by omega, Off_reset _ _ _ (by simp), by rw [ij, avs_set, hset], by omega⟩
    · have hx : a.length ≤ i + j := by omega
      have hn := tmS_next a b i j hx
      simp [go_sem]
      exact ⟨by omega, i + 1, by omega, by omega, (Off.reset (by intro x hx; simp at hx ⊢; omega) (by simp) (by simp [go_sem, Off_reset])), by rw [hn], by omega⟩
  · have e : i = a.length := by omega
    subst e
    simp [go_sem]
    exact tmS_end a b
end Go.Proofs.Ytmojbncbbnjblaa


namespace Go.Proofs.Ytmojbncbbnjblaa
open Go.Abs
set_option linter.unusedVariables false
set_option linter.unusedSimpArgs false
set_option maxHeartbeats 1000000
def pwS (s x : List Int) : Nat → List Int
  | 0 => s
  | n + 1 => mulS (pwS s x n) x
@[simp] theorem pwS_len (s x : List Int) : ∀ n, (pwS s x n).length = s.length
  | 0 => rfl
  | n + 1 => by rw [pwS, mulS_len, pwS_len s x n]
theorem pwS_N {s x : List Int} (h : Ns s) : ∀ n, Ns (pwS s x n)
  | 0 => h
  | n + 1 => mulS_N _ _
def teS (L : List (List Int)) (e : List Int) (s : List Int) : Nat → List Int
  | 0 => s
  | i + 1 => pwS (teS L e s i) (L[i]?.getD []) (e[i]?.getD 0).toNat
@[simp] theorem teS_len (L : List (List Int)) (e s : List Int) : ∀ i, (teS L e s i).length = s.length
  | 0 => rfl
  | i + 1 => by rw [teS, pwS_len, teS_len L e s i]
theorem teS_N {L : List (List Int)} {e s : List Int} (h : Ns s) : ∀ i, Ns (teS L e s i)
  | 0 => h
  | i + 1 => pwS_N (teS_N h i) _
theorem teS_congr {L : List (List Int)} {e e' s : List Int} : ∀ {n : Nat}, (∀ i, i < n → e[i]?.getD 0 = e'[i]?.getD 0) → teS L e s n = teS L e' s n
  | 0, _ => rfl
  | n + 1, h => by rw [teS, teS, teS_congr (fun i hi => h i (by omega)), h n (by omega)]
def unS (a : Int) : List Int := [a, 0, 0, 0, 0, 0, 0]
theorem unS_N {a : Int} (h : isN a) : Ns (unS a) := by
  intro x hx
  simp [unS] at hx
  rcases hx with rfl | rfl
  · exact h
  · exact ⟨by omega, by omega⟩
def teK (L : List (List Int)) (k : Key) (x : Int) : List Int := teS L [k.1, k.2.1, k.2.2] (unS x) L.length
def reS (L : List (List Int)) (n : Nat) : List (Key × Int) → Int
  | [] => 0
  | e :: es => (teK L e.1 e.2)[n]?.getD 0 + reS L n es
def voS (L : List (List Int)) (n : Nat) : List Mon → Int
  | [] => 0
  | m :: p => (teS L m.2 (unS m.1) L.length)[n]?.getD 0 + voS L n p
theorem reS_app (L : List (List Int)) (n : Nat) (a b : List (Key × Int)) : reS L n (a ++ b) = reS L n a + reS L n b := by
  induction a with
  | nil => simp [reS]
  | cons e a ih => simp [reS, ih]; omega
theorem reS_perm (L : List (List Int)) (n : Nat) {a b : List (Key × Int)} (h : a.Perm b) : reS L n a = reS L n b := by
  induction h with
  | nil => rfl
  | cons x _ ih => simp [reS, ih]
  | swap x z l => simp [reS]; omega
  | trans _ _ i1 i2 => rw [i1, i2]
theorem teK_of {L : List (List Int)} (hl : L.length ≤ 3) (m : Mon) : teK L (keyOf m.2) m.1 = teS L m.2 (unS m.1) L.length := by
  refine teS_congr (fun i hi => ?_)
  have : i = 0 ∨ i = 1 ∨ i = 2 := by omega
  rcases this with rfl | rfl | rfl <;> simp [keyOf]
theorem reS_map {L : List (List Int)} (hl : L.length ≤ 3) (n : Nat) : ∀ p : List Mon, reS L n (p.map keyM) = voS L n p
  | [] => rfl
  | m :: p => by
    rw [List.map_cons, reS, voS, reS_map hl n p]
    have := teK_of hl m
    simp only [keyM]
    rw [this]
def evS (L : List (List Int)) (p : List Mon) : List Int := tb (fun n => voS L n p % 10007) 7
@[simp] theorem evS_len (L : List (List Int)) (p : List Mon) : (evS L p).length = 7 := by simp [evS]
theorem evS_N (L : List (List Int)) (p : List Mon) : Ns (evS L p) := tb_N fun i _ => isN_mod _
end Go.Proofs.Ytmojbncbbnjblaa


namespace Go.Proofs.Ytmojbncbbnjblaa
open Go.Abs
set_option linter.unusedVariables false
set_option linter.unusedSimpArgs false
set_option maxHeartbeats 1000000
set_option maxRecDepth 100000 in
theorem series_c (c : Key → Option Int) (L : List (List Int)) (T : Nat → Int) (hL : L.length ≤ 3) (hr : ∀ r ∈ L, r.length = 7 ∧ Ns r) (hc : ∀ k x, c k = some x → EOk (k, x)) (hE : ∀ es, Enum c es → ∀ n, reS L n es % 10007 = T n) :
    Con Try.prog 175 [.fmp c, .sl L.length (mat L)] (.own 2 7 (avs (tb T 7))) := by
  refine con_of_vc Try.mixed ⟨11, [], [], []⟩ Try.func175 (by decide) rfl (by simp) (by decide) (by simp [freshOK, freshL, go_sem]) ?_
  rw [Try.ntmps175]
  simp [go_sem]
  intro es hes
  have hok : ∀ e ∈ es, EOk e := fun e he => hc e.1 e.2 (hes.val e he)
  have hsum := hE es hes
  refine loop_inv (5 :: 6 :: 7 :: 8 :: 9 :: 10 :: List.range' 13 30) (fun x : List Int × Option (Key × Int) × List (Key × Int) => [(5, .own 2 7 (avs x.1)), (13, .it x.2.1 x.2.2)]) (fun x => x.1.length = 7 ∧ Ns x.1 ∧ (∀ n, n < 7 → (x.1[n]?.getD 0 + reS L n x.2.2) % 10007 = T n) ∧ ∀ e ∈ x.2.2, EOk e) (fun x => x.2.2.length) ([0, 0, 0, 0, 0, 0, 0], none, es) ?_ ?_ (by simp [go_sem]) ?_
  · refine ⟨rfl, ?_, fun n _ => ?_, hok⟩
    · intro x hx
      simp at hx; subst hx; exact ⟨by omega, by omega⟩
    · have e : ([0, 0, 0, 0, 0, 0, 0] : List Int)[n]?.getD 0 = 0 := by
        rcases Nat.lt_or_ge n 7 with h | h
        · have : n = 0 ∨ n = 1 ∨ n = 2 ∨ n = 3 ∨ n = 4 ∨ n = 5 ∨ n = 6 := by omega
          rcases this with rfl | rfl | rfl | rfl | rfl | rfl | rfl <;> rfl
        · simp [List.getElem?_eq_none, h]
      simp only [e, Int.zero_add]
      exact hsum n
  · simp [go_sem, avs]
  rintro ⟨o, l, rem⟩ ⟨ho, hoN, hoT, hrem⟩
  simp only at ho hoN hoT hrem
  simp [go_sem, keyAV]
  refine ⟨fun hr => ?_, fun l1 k0 k1 k2 x l2 hr2 => ?_⟩
  · subst hr
    refine List.ext_getElem (by simp [ho]) fun n h1 h2 => ?_
    have h7 : n < 7 := by omega
    have t := hoT n h7
    have oN := hoN.get n
    simp only [reS, Int.add_zero] at t
    rw [Int.emod_eq_of_lt oN.1 (by have := oN.2; omega)] at t
    simpa [tb, h1] using t
  · subst hr2
    have hek := hrem ((k0, k1, k2), x) (by simp)
    have hx : isN x := hek.1
    have hg : ∀ i : Nat, 0 ≤ ([k0, k1, k2] : List Int)[i]?.getD 0 ∧ ([k0, k1, k2] : List Int)[i]?.getD 0 ≤ 1000 := by
      intro i
      obtain ⟨_, a1, a2, a3, a4, a5, a6⟩ := hek
      match i with
      | 0 => exact ⟨a1, a2⟩
      | 1 => exact ⟨a3, a4⟩
      | 2 => exact ⟨a5, a6⟩
      | i + 3 => simp
    have hu := unS_N hx
    refine loop_inv (8 :: 9 :: 10 :: List.range' 25 15) (fun i : Nat => [(8, .own 2 7 (avs (teS L [k0, k1, k2] (unS x) i))), (25, .int i)]) (fun i => i ≤ L.length) (fun i => L.length - i) 0 (by simp) (by simp [go_sem, teS, unS, avs]) (by simp [go_sem]) ?_
    intro i hi
    simp [go_sem]
    refine ⟨fun h => ?_, fun h => ?_⟩ <;> simp at h
    · have hiL := h
      have h3 : i < ([k0, k1, k2] : List Int).length := by simp; omega
      have e3 : ([.val (.int .i64 k0), .val (.int .i64 k1), .val (.int .i64 k2)] : List AV)[i]? = some (.val (.int .i64 (([k0, k1, k2] : List Int)[i]?.getD 0))) := avs_at' (xs := [k0, k1, k2]) h3
      have g := hg i
      have hy := hr (L[i]?.getD []) (by simp [hiL])
      have hs : teS L [k0, k1, k2] (unS x) (i + 1) = pwS (teS L [k0, k1, k2] (unS x) i) (L[i]?.getD []) (([k0, k1, k2] : List Int)[i]?.getD 0).toNat := rfl
      simp [go_sem, mat_drop hiL, e3]
      refine ⟨⟨hiL, by rintro rfl; simp at hiL⟩, by omega, ?_⟩
      have hteN := teS_N (L := L) (e := [k0, k1, k2]) hu i
      have htl := teS_len L [k0, k1, k2] (unS x) i
      have hul : (unS x).length = 7 := rfl
      rw [hul] at htl
      generalize teS L [k0, k1, k2] (unS x) i = te at *
      generalize ([k0, k1, k2] : List Int)[i]?.getD 0 = ki at *
      obtain ⟨m, rfl⟩ : ∃ m : Nat, ki = m := ⟨ki.toNat, by omega⟩
      simp only [Int.toNat_natCast] at hs
      refine loop_inv (8 :: List.range' 33 6) (fun t : Nat => [(8, .own 2 7 (avs (pwS te (L[i]?.getD []) t))), (33, .int t)]) (fun t => t ≤ m) (fun t => m - t) 0 (by simp) (by simp [go_sem, pwS]) (by simp [go_sem]) ?_
      intro t ht
      simp [go_sem]
      refine ⟨fun h => ?_, fun h => ?_⟩ <;> simp at h
      · have cT := timesSeries_c (pwS te (L[i]?.getD []) t) (L[i]?.getD []) (pwS_N hteN t) hy.2 (by rw [pwS_len]; omega) (by rw [pwS_len]; omega)
        rw [pwS_len, htl] at cT
        simp [go_sem]
        refine CallVC.of (cT) (by decide) ?_
        simp [go_sem]
        exact ⟨by omega, t + 1, by omega, by omega, Off_reset _ _ _ (by simp), rfl, by omega⟩
      · have e : t = m := by omega
        subst e
        simp [go_sem]
        exact ⟨by omega, i + 1, by omega, by omega, (Off.reset (by intro x hx; simp at hx ⊢; omega) (by simp) (by simp [go_sem, Off_reset])), by rw [hs], by omega⟩
    · have e : i = L.length := by omega
      subst e
      have hteN := teS_N (L := L) (e := [k0, k1, k2]) hu L.length
      have htl := teS_len L [k0, k1, k2] (unS x) L.length
      have hul : (unS x).length = 7 := rfl
      rw [hul] at htl
      have hinv : ∀ n, n < 7 → ((plusS o (teS L [k0, k1, k2] (unS x) L.length) 1)[n]?.getD 0 + reS L n (l1 ++ l2)) % 10007 = T n := by
        intro n hn
        have t := hoT n hn
        have q := tb_get (fun i => (o[i]?.getD 0 + 1 % 10007 * (teS L [k0, k1, k2] (unS x) L.length)[i]?.getD 0) % 10007) (show n < o.length by omega)
        have q2 : (plusS o (teS L [k0, k1, k2] (unS x) L.length) 1)[n]?.getD 0 = (o[n]?.getD 0 + 1 % 10007 * (teS L [k0, k1, k2] (unS x) L.length)[n]?.getD 0) % 10007 := q
        rw [reS_app, reS] at t
        simp only [teK] at t
        rw [q2, reS_app, ← t]
        omega
      have cP := plus_c o (teS L [k0, k1, k2] (unS x) L.length) 1 hoN hteN ⟨by omega, by omega⟩ (by omega) (by omega)
      rw [ho, htl] at cP
      simp [go_sem]
      refine CallVC.of (cP) (by decide) ?_
      simp [go_sem]
      refine ⟨_, _, _, ⟨?_, plusS_N _ _ _, hinv, fun a b c d he => hrem _ ?_⟩, ?_, (Off.reset (by intro x hx; simp at hx ⊢; omega) (by simp) (by simp [go_sem, Off_reset])), rfl, rfl, rfl⟩
      · rw [plusS_len, ho]
      · rcases List.mem_append.1 he with he | he <;> simp [he]
      · simp
end Go.Proofs.Ytmojbncbbnjblaa


namespace Go.Proofs.Ytmojbncbbnjblaa
open Go.Abs
set_option linter.unusedVariables false
set_option linter.unusedSimpArgs false
set_option maxHeartbeats 1000000
theorem partSeries_c {z : Int} {p : List Mon} {L : List (List Int)} (hz : z ≤ 3) (hp : partB z p = true) (hL : (L.length : Int) = z) (hr : ∀ r ∈ L, r.length = 7 ∧ Ns r) :
    Con Try.prog 175 [.fmp (polF p), .sl L.length (mat L)] (.own 2 7 (avs (evS L p))) := by
  refine series_c (polF p) L (fun n => voS L n p % 10007) (by omega) hr (fun k x hk => part_entries hz hp hk) (fun es he n => ?_)
  rw [reS_perm L n (enum_perm (keys_nd hz hp) he), reS_map (by omega) n p]
def fdS (L : List (List Int)) (f : List (List Mon)) : List (List Int) := f.map (evS L)
@[simp] theorem fdS_len (L : List (List Int)) (f : List (List Mon)) : (fdS L f).length = f.length := by simp [fdS]
theorem fdS_row {L : List (List Int)} {f : List (List Mon)} : ∀ r ∈ fdS L f, r.length = 7 ∧ Ns r := by
  intro r hr
  obtain ⟨p, _, rfl⟩ := List.mem_map.1 hr
  exact ⟨evS_len L p, evS_N L p⟩
theorem fdS_take {L : List (List Int)} {f : List (List Mon)} {i : Nat} (h : i < f.length) : fdS L (f.take (i + 1)) = fdS L (f.take i) ++ [evS L (f[i]?.getD [])] := by
  rw [List.take_add_one, List.getElem?_eq_getElem h]; simp only [fdS, List.map_append, Option.toList_some, List.map_cons, List.map_nil, Option.getD_some]
theorem voS_app (L : List (List Int)) (n : Nat) (p q : List Mon) : voS L n (p ++ q) = voS L n p + voS L n q := by
  induction p with
  | nil => simp [voS]
  | cons m p ih => simp [voS, ih]; omega
theorem evS_take {L : List (List Int)} {p : List Mon} {i : Nat} (h : i < p.length) :
    tb (fun n => ((evS L (p.take i))[n]?.getD 0 + (teS L (p[i]?.getD (0, [])).2 (unS (p[i]?.getD (0, [])).1) L.length)[n]?.getD 0) % 10007) 7 = evS L (p.take (i + 1)) := by
  rw [List.take_add_one, List.getElem?_eq_getElem h]
  unfold evS
  unfold tb
  refine List.map_congr_left fun n hn => ?_
  have hn : n < 7 := by simpa using hn
  have e := tb_get (fun n => voS L n (p.take i) % 10007) hn
  unfold tb at e
  rw [e, Option.toList_some, voS_app]
  simp [voS]
theorem evS_nil (L : List (List Int)) : evS L [] = [0, 0, 0, 0, 0, 0, 0] := by
  simp [evS, voS, tb, List.range, List.range.loop]
theorem unS_times (a : Int) (h : isN a) : tb (fun i => (tb (fun i => if i = 0 then (1 : Int) else 0) 7)[i]?.getD 0 * a % 10007) 7 = unS a := by
  have : a % 10007 = a := Int.emod_eq_of_lt h.1 (by have := h.2; omega)
  simp [unS, tb, List.range, List.range.loop, this]
end Go.Proofs.Ytmojbncbbnjblaa


namespace Go.Proofs.Ytmojbncbbnjblaa
open Go.Abs
set_option linter.unusedVariables false
set_option linter.unusedSimpArgs false
set_option maxHeartbeats 1000000
set_option maxRecDepth 100000 in
theorem l14ValueG_c {p : List Mon} {L : List (List Int)} (hp : ∀ m ∈ p, isN m.1 ∧ m.2.length = L.length ∧ ∀ k : Nat, 0 ≤ m.2[k]?.getD 0 ∧ m.2[k]?.getD 0 ≤ 1000000) (hpl : p.length ≤ 1000000000000) (hL : L.length ≤ 3) (hr : ∀ r ∈ L, r.length = 7 ∧ Ns r) :
    Con Try.prog 124 [.sl p.length (mons p), .sl L.length (mat L)] (.own 2 7 (avs (evS L p))) := by
  refine con_of_vc Try.mixed ⟨11, [], [], []⟩ Try.func124 (by decide) rfl (by simp) (by decide) (by simp [freshOK, freshL, go_sem]) ?_
  rw [Try.ntmps124]
  simp [go_sem]
  refine loop_inv (List.range' 6 48) (fun i : Nat => [(6, .own 2 7 (avs (evS L (p.take i)))), (7, .int i)]) (fun i => i ≤ p.length) (fun i => p.length - i) 0 (by simp) (by simp [go_sem, evS_nil, avs]) (by simp [go_sem]) ?_
  intro i hi
  simp [go_sem]
  refine ⟨fun h => ?_, fun h => ?_⟩ <;> simp at h
  · have hif := h
    have hx : p[i]?.getD (0, []) ∈ p := by simp [h]
    have hv := evS_take (L := L) h
    obtain ⟨mN, ml, mg⟩ := hp _ hx
    simp [go_sem]
    have cU := l02Unit_c 7 0 (by omega) (by omega)
    generalize hM : p[i]?.getD (0, []) = m at *
    have cT := l02Times_c (tb (fun i => if i = 0 then (1 : Int) else 0) 7) m.1 (tb_N fun i _ => by split <;> exact ⟨by omega, by omega⟩) mN (by simp)
    rw [tb_len, unS_times _ mN] at cT
    refine ⟨by kernel_rfl, ?_⟩
    refine CallD.of (cU) (by simp [roots, rootsL]) (by decide) ?_
    simp [go_sem]
    simp [go_sem, mons_drop hif, hM]
    refine ⟨⟨hif, by rintro rfl; simp at hif⟩, ?_⟩
    refine CallD.of (cT) (by simp [roots, rootsL]) (by decide) ?_
    simp [go_sem]
    refine ⟨by kernel_rfl, ?_⟩
    simp [go_sem]
    refine loop_inv (8 :: 9 :: 10 :: List.range' 27 24) (fun k : Nat => [(8, .own 2 7 (avs (teS L m.2 (unS m.1) k))), (9, .int k)]) (fun k => k ≤ L.length) (fun k => L.length - k) 0 (by simp) (by simp [go_sem, teS]) (by simp [go_sem]) ?_
    intro k hk
    simp [go_sem]
    refine ⟨fun h => ?_, fun h => ?_⟩ <;> simp at h
    · have hkL := h
      have hkm : k < m.2.length := by omega
      have hy := hr (L[k]?.getD []) (by simp [hkL])
      have g := mg k
      have hs : teS L m.2 (unS m.1) (k + 1) = pwS (teS L m.2 (unS m.1) k) (L[k]?.getD []) (m.2[k]?.getD 0).toNat := rfl
      have hteN := teS_N (L := L) (e := m.2) (unS_N mN) k
      have htl := teS_len L m.2 (unS m.1) k
      have hul : (unS m.1).length = 7 := rfl
      rw [hul] at htl
      generalize teS L m.2 (unS m.1) k = te at *
      simp [go_sem]
      refine loop_inv (8 :: 10 :: List.range' 33 18) (fun t : Nat => [(8, .own 2 7 (avs (pwS te (L[k]?.getD []) t))), (10, .int t)]) (fun t => (t : Int) ≤ m.2[k]?.getD 0) (fun t => (m.2[k]?.getD 0).toNat - t) 0 (by simp; omega) (by simp [go_sem, pwS]) (by simp [go_sem]) ?_
      intro t ht
      simp [go_sem, mons_drop hif, hM, avs_drop hkm]
      refine ⟨⟨hif, by rintro rfl; simp at hif⟩, ⟨hkm, by intro e; simp [e] at hkm⟩, ?_⟩
      refine ⟨fun h => ?_, fun h => ?_⟩ <;> simp at h
      · have cT := l02Mul_c (pwS te (L[k]?.getD []) t) (L[k]?.getD []) (pwS_N hteN t) hy.2 (by rw [pwS_len]; omega) (by rw [pwS_len]; omega)
        rw [pwS_len, htl] at cT
        simp [go_sem, mat_drop hkL]
        refine ⟨⟨hkL, by rintro rfl; simp at hkL⟩, ?_⟩
        refine CallVC.of (cT) (by decide) ?_
        simp [go_sem]
        exact ⟨⟨by omega, by omega⟩, t + 1, by omega, by omega, Off_reset _ _ _ (by simp), rfl, by omega⟩
      · have e : (m.2[k]?.getD 0).toNat = t := by omega
        rw [e] at hs
        simp [go_sem]
        exact ⟨by omega, k + 1, by omega, by omega, (Off.reset (by intro x hx; simp at hx ⊢; omega) (by simp) (by simp [go_sem, Off_reset])), by rw [hs], by omega⟩
    · have e : k = L.length := by omega
      subst e
      have hteN := teS_N (L := L) (e := m.2) (unS_N mN) L.length
      have htl := teS_len L m.2 (unS m.1) L.length
      have hul : (unS m.1).length = 7 := rfl
      rw [hul] at htl
      have cP := l02Add_c (evS L (p.take i)) (teS L m.2 (unS m.1) L.length) (evS_N _ _) hteN (by simp) (by simp; omega)
      rw [evS_len, htl, hv] at cP
      simp [go_sem]
      refine CallVC.of (cP) (by decide) ?_
      simp [go_sem]
      exact ⟨by omega, i + 1, by omega, by omega, (Off.reset (by intro x hx; simp at hx ⊢; omega) (by simp) (by simp [go_sem, Off_reset])), rfl, by omega⟩
  · have e : i = p.length := by omega
    subst e
    simp [go_sem]
theorem fieldSeries_c {z : Int} {f : List (List Mon)} {L : List (List Int)} (hf : FieldOk z f) (hs : Small f) (hL : (L.length : Int) = z) (hr : ∀ r ∈ L, r.length = 7 ∧ Ns r) :
    Con Try.prog 117 [.sl f.length (fpols f), .sl L.length (mat L)] (.own 27 f.length (omat (fdS L f))) := by
  have fl := hs.1
  have z3 := hf.hi
  refine con_of_vc Try.mixed ⟨8, [], [], []⟩ Try.func117 (by decide) rfl (by simp) (by decide) (by simp [freshOK, freshL, go_sem]) ?_
  rw [Try.ntmps117]
  simp [go_sem]
  refine loop_inv (5 :: 7 :: List.range' 11 11) (fun i : Nat => [(5, .own 27 i (omat (fdS L (f.take i)))), (11, .int i)]) (fun i => i ≤ f.length) (fun i => f.length - i) 0 (by simp) (by simp [go_sem, fdS, omat_nil]) (by simp [go_sem]) ?_
  intro i hi
  simp [go_sem]
  refine ⟨fun h => ?_, fun h => ?_⟩ <;> simp at h
  · have hif := h
    have hx : f[i]?.getD [] ∈ f := by simp [h]
    have hv := fdS_take (L := L) h
    simp [go_sem, fpols_drop hif]
    refine ⟨⟨hif, by rintro rfl; simp at hif⟩, ?_⟩
    refine CallVC.of (partSeries_c z3 (hf.part _ hx) hL hr) (by decide) ?_
    simp [go_sem]
    refine ⟨⟨by omega, by omega⟩, by omega, i + 1, by omega, by omega, Off_reset _ _ _ (by simp), ?_, by omega⟩
    rw [hv, omat_app, omat_one]; simp
  · simp [go_sem]
    have e : i = f.length := by omega
    subst e; simp
end Go.Proofs.Ytmojbncbbnjblaa


namespace Go.Proofs.Ytmojbncbbnjblaa
open Go.Abs
set_option linter.unusedVariables false
set_option linter.unusedSimpArgs false
set_option maxHeartbeats 1000000
end Go.Proofs.Ytmojbncbbnjblaa


namespace Go.Proofs.Ytmojbncbbnjblaa
open Go.Abs
set_option linter.unusedVariables false
set_option linter.unusedSimpArgs false
set_option maxHeartbeats 1000000
theorem colS_N {a : List (List Int)} (h : ∀ r ∈ a, Ns r) (k : Nat) : Ns (colS a k) := tb_N fun i hi => (h (a[i]?.getD []) (by simp [hi])).get k
theorem turnS_row {n : Nat} {a : List (List Int)} (h7 : a.length = n) (h : ∀ r ∈ a, Ns r) : ∀ r ∈ turnS a, r.length = n ∧ Ns r := by
  intro r hr
  obtain ⟨k, _, rfl⟩ := List.mem_map.1 hr
  exact ⟨by rw [colS_len, h7], colS_N h k⟩
def serB (z : Int) (L : List (List Int)) : Bool := decide (L.length = 7) && L.all (vecB z)
theorem notSeries_c (z : Int) (n : Nat) (cs : List AV) (y : List Int) (hl : y.length ≤ 9223372036854775807) :
    Con Try.prog 131 [.sl y.length (avs y), .fptr [.int z, .sl n cs]] (.bool (!vecB z y)) := by
  refine con_of_vc Try.mixed ⟨4, [], [], []⟩ Try.func131 (by decide) rfl (by simp) (by decide) (by simp [freshOK, freshL, go_sem]) ?_
  rw [Try.ntmps131]
  simp [go_sem]
  refine CallVC.of (isVector_c z n cs y hl) (by decide) ?_
  simp [go_sem]
theorem isVectorSeries_c (z : Int) (n : Nat) (cs : List AV) (L : List (List Int)) (hl : L.length ≤ 9223372036854775807) (hr : ∀ y ∈ L, y.length ≤ 9223372036854775807) :
    Con Try.prog 61 [.agg [.int z, .sl n cs], .sl L.length (mat L)] (.bool (serB z L)) := by
  have cC := ContainsFuncV_c 131 [.int z, .sl n cs] (fun y => !vecB z y) L hl (fun y hy => notSeries_c z n cs y (hr y hy))
  have e : L.any (fun y => !vecB z y) = !L.all (vecB z) := by rw [List.not_all_eq_any_not]
  rw [e] at cC
  unfold serB
  generalize L.all (vecB z) = b at *
  refine con_of_vc Try.mixed ⟨5, [], [], []⟩ Try.func61 (by decide) rfl (by simp) (by decide) (by simp [freshOK, freshL, go_sem]) ?_
  rw [Try.ntmps61]
  simp [go_sem]
  by_cases h : L.length = 7
  · have h2 : (L.length : Int) = 7 := by omega
    simp [go_sem, h2]
    refine CallVC.of (cC) (by decide) ?_
    simp [go_sem]
    cases b <;> simp [h]
  · have h2 : ¬ (L.length : Int) = 7 := by omega
    simp [go_sem, h2]
    simp [h]
end Go.Proofs.Ytmojbncbbnjblaa


namespace Go.Proofs.Ytmojbncbbnjblaa
open Go.Abs
set_option linter.unusedVariables false
set_option linter.unusedSimpArgs false
set_option maxHeartbeats 1000000
set_option maxRecDepth 100000 in
theorem checkSeriesNumber_c (z : Int) (f : List (List Mon)) (L : List (List Int)) (k : Int) (hs : Small f) (hf : fieldB z f = true) (hl : L.length ≤ 1048576) (hr : ∀ y ∈ L, y.length ≤ 1048576) (hL : serB z L = true) (hk : isN k) :
    Con Try.prog 67 [.agg [.int z, .sl f.length (prt f)], .sl L.length (mat L), .int k] (.int 0) := by
  have cI := IsField_c z f hs
  have cV := isVectorSeries_c z f.length (prt f) L (by omega) (fun y hy => by have := hr y hy; omega)
  have cN := IsNumber_c k
  rw [hf] at cI
  rw [hL] at cV
  rw [decide_eq_true (show 0 ≤ k ∧ k ≤ 10006 from ⟨hk.1, by have := hk.2; omega⟩)] at cN
  refine con_of_vc Try.mixed ⟨7, [], [], []⟩ Try.func67 (by decide) rfl (by simp) (by decide) (by simp [freshOK, freshL, go_sem]) ?_
  rw [Try.ntmps67]
  simp [go_sem]
  refine CallVC.of (cI) (by decide) ?_
  simp [go_sem]
  refine CallVC.of (cV) (by decide) ?_
  simp [go_sem]
  refine CallVC.of (cN) (by decide) ?_
  simp [go_sem]
def svL (k : Int) (L : List (List Int)) (m : Nat) : List (List Int) := (List.range m).map fun (i : Nat) => scalS (L[i]?.getD []) (pw k i)
theorem svL_succ (k : Int) (L : List (List Int)) (m : Nat) : svL k L (m + 1) = svL k L m ++ [scalS (L[m]?.getD []) (pw k m)] := by simp [svL, List.range_succ]
@[simp] theorem svL_len (k : Int) (L : List (List Int)) (m : Nat) : (svL k L m).length = m := by simp [svL]
def evV (k : Int) (L : List (List Int)) (n : Nat) : Nat → List Int
  | 0 => List.replicate n 0
  | i + 1 => plusS (evV k L n i) (L[i]?.getD []) (pw k i)
@[simp] theorem evV_len (k : Int) (L : List (List Int)) (n : Nat) : ∀ i, (evV k L n i).length = n
  | 0 => by simp [evV]
  | i + 1 => by simp [evV, evV_len k L n i]
theorem evV_N (k : Int) (L : List (List Int)) (n : Nat) : ∀ i, Ns (evV k L n i)
  | 0 => fun x hx => by have := List.eq_of_mem_replicate hx; subst this; exact ⟨by omega, by omega⟩
  | i + 1 => plusS_N _ _ _
theorem serB_un {z : Int} {L : List (List Int)} (h : serB z L = true) : L.length = 7 ∧ ∀ y ∈ L, (y.length : Int) = z ∧ Ns y := by
  unfold serB at h
  simp at h
  exact ⟨h.1, fun y hy => vecB_iff.1 (h.2 y hy)⟩
theorem fits_N {x : Int} (h : isN x) : fits x := ⟨by have := h.1; omega, by have := h.2; omega⟩
set_option maxRecDepth 100000 in
theorem ScaleVectors_c (z : Int) (f : List (List Mon)) (L : List (List Int)) (k : Int) (hs : Small f) (hf : fieldB z f = true) (hl : L.length ≤ 1048576) (hr : ∀ y ∈ L, y.length ≤ 1048576) (hL : serB z L = true) (hk : isN k) :
    Con Try.prog 16 [.agg [.int z, .sl f.length (prt f)], .sl L.length (mat L), .int k] (.tup [.own 27 L.length (omat (svL k L L.length)), .int 0]) := by
  have cC := checkSeriesNumber_c z f L k hs hf hl hr hL hk
  obtain ⟨l7, lr⟩ := serB_un hL
  refine con_of_vc Try.mixed ⟨12, [], [], []⟩ Try.func16 (by decide) rfl (by simp) (by decide) (by simp [freshOK, freshL, go_sem]) ?_
  rw [Try.ntmps16]
  simp [go_sem]
  refine CallVC.of (cC) (by decide) ?_
  simp [go_sem]
  refine loop_inv (List.range' 9 3 ++ List.range' 22 14) (fun i : Nat => [(9, .own 27 i (omat (svL k L i))), (22, .int i)]) (fun i => i ≤ L.length) (fun i => L.length - i) 0 (by simp) (by simp [go_sem, svL, omat_nil]) (by simp [go_sem]) ?_
  intro i hi
  simp [go_sem]
  refine ⟨fun h => ?_, fun h => ?_⟩ <;> simp at h
  · have hiL : i < L.length := by omega
    have hM := mat_drop hiL
    have hrow := lr (L[i]?.getD []) (by simp [hiL])
    have hrl := hr (L[i]?.getD []) (by simp [hiL])
    have hsn := svL_succ k L i
    have cP := pow_c k i hk (by omega) (by omega)
    have cS := scaled_c (L[i]?.getD []) (pw k i) hrow.2 (fits_N (isN_mod _)) hrl
    have nL : ¬ L = [] := by rintro rfl; simp at hiL
    have sl2 := scalS_len (L[i]?.getD []) (pw k i)
    generalize scalS (L[i]?.getD []) (pw k i) = q at *
    generalize pw k i = p at *
    generalize L[i]?.getD [] = r at *
    simp [go_sem, hM]
    refine ⟨⟨hiL, nL⟩, ?_⟩
    refine CallVC.of (cP) (by decide) ?_
    simp [go_sem]
    refine CallVC.of (cS) (by decide) ?_
    simp [go_sem]
    refine ⟨⟨by omega, by omega⟩, by omega, i + 1, by omega, by omega, Off_reset _ _ _ (by simp), ?_⟩
    rw [hsn]
    simp [omat, sl2]
  · have e : i = L.length := by omega
    subst e
    simp [go_sem]
set_option maxRecDepth 100000 in
theorem EvaluateVectors_c (n : Nat) (f : List (List Mon)) (L : List (List Int)) (k : Int) (hn : n ≤ 3) (hs : Small f) (hf : fieldB n f = true) (hl : L.length ≤ 1048576) (hr : ∀ y ∈ L, y.length ≤ 1048576) (hL : serB n L = true) (hk : isN k) :
    Con Try.prog 17 [.agg [.int n, .sl f.length (prt f)], .sl L.length (mat L), .int k] (.tup [.own 2 n (avs (evV k L n L.length)), .int 0]) := by
  have cC := checkSeriesNumber_c n f L k hs hf hl hr hL hk
  obtain ⟨l7, lr⟩ := serB_un hL
  refine con_of_vc Try.mixed ⟨12, [], [], []⟩ Try.func17 (by decide) rfl (by simp) (by decide) (by simp [freshOK, freshL, go_sem]) ?_
  rw [Try.ntmps17]
  simp [go_sem]
  refine CallVC.of (cC) (by decide) ?_
  simp [go_sem]
  refine ⟨⟨by omega, by omega⟩, ?_⟩
  refine loop_inv (List.range' 9 3 ++ List.range' 24 12) (fun i : Nat => [(9, .own 2 n (avs (evV k L n i))), (24, .int i)]) (fun i => i ≤ L.length) (fun i => L.length - i) 0 (by simp) (by simp [go_sem, evV, avs]) (by simp [go_sem]) ?_
  intro i hi
  simp [go_sem]
  refine ⟨fun h => ?_, fun h => ?_⟩ <;> simp at h
  · have hiL : i < L.length := by omega
    have hM := mat_drop hiL
    have hrow := lr (L[i]?.getD []) (by simp [hiL])
    have cP := pow_c k i hk (by omega) (by omega)
    have cS := plus_c (evV k L n i) (L[i]?.getD []) (pw k i) (evV_N k L n i) hrow.2 (fits_N (isN_mod _)) (by rw [evV_len]; omega) (by rw [evV_len]; omega)
    have nL : ¬ L = [] := by rintro rfl; simp at hiL
    have hsn : evV k L n (i + 1) = plusS (evV k L n i) (L[i]?.getD []) (pw k i) := rfl
    rw [← hsn, evV_len] at cS
    generalize pw k i = p at *
    generalize L[i]?.getD [] = r at *
    simp [go_sem, hM]
    refine ⟨⟨hiL, nL⟩, ?_⟩
    refine CallVC.of (cP) (by decide) ?_
    simp [go_sem]
    refine CallVC.of (cS) (by decide) ?_
    simp [go_sem]
    exact ⟨⟨by omega, by omega⟩, i + 1, by omega, by omega, Off_reset _ _ _ (by simp), rfl, by omega⟩
  · have e : i = L.length := by omega
    subst e
    simp [go_sem]
end Go.Proofs.Ytmojbncbbnjblaa


namespace Go.Proofs.Ytmojbncbbnjblaa
open Go.ChangeShapes Go.WideShapes Go.ChangeAt Go.RowKit Go.Abs Go.Deep
set_option linter.unusedVariables false
section
variable {H : Type} {enc : TypeId × Value → H} {w : World} {sp : Nat → Bool} {held : Bool} {base : Nat}
theorem kids : Kids Try.prog (· < Try.prog.types.size) := kids_rows (by kernel_rfl) (by kernel_rfl)
theorem full : ∀ t e, t < Try.prog.types.size → Try.prog.underlying t = some (.slice e) → 0 < Try.prog.cellsOf e := slices_full_of Try.prog (by kernel_rfl)
theorem flat1 {α β : Type} (g : α → β) : ∀ qs : List α, qs.flatMap (fun a => [g a]) = qs.map g
  | [] => rfl
  | a :: qs => by rw [List.flatMap_cons, flat1 g qs]; rfl
theorem rep_one {F : Nat → Prop} {tm : Nat → Value} {oss : Nat → List Nat} {c : AV} {v : Value} (h : RepL Try.prog w F [c] [v] []) : RepT Try.prog w F tm oss c v [] := .cell _ _ _ (RepL.one h)
set_option maxRecDepth 100000 in
theorem repV {F : Nat → Prop} {tm : Nat → Value} {oss : Nat → List Nat} {t e : TypeId} {v : Value} {c : AV} {r : Reach} {b0 : Nat} (ht : Try.prog.underlying t = some (.slice e)) (hv : Value.okWide Try.prog w r b0 t v) (h : RepL Try.prog w F [c] v.cells.toList []) :
    RepT Try.prog w F tm oss c v [] := by
  have hc : v.cells.toList = [v] := by
    simp only [Value.okWide, ht] at hv
    cases v <;> simp_all [Value.cells, Cell.okWide, Cell.ok]
  rw [hc] at h
  exact rep_one h
end
end Go.Proofs.Ytmojbncbbnjblaa


namespace Go.Proofs.Ytmojbncbbnjblaa
open Go.Abs
set_option linter.unusedVariables false
set_option linter.unusedSimpArgs false
set_option maxHeartbeats 1000000
open Go.ChangeShapes Go.WideShapes Go.ChangeAt Go.RowKit Go.Deep
theorem big_c (c : List Int) (hl : c.length ≤ 9223372036854775807) : Con Try.prog 8 [.sl c.length (bys c)] (.bool (decide (4096 < c.length))) := by
  refine con_of_vc Try.mixed ⟨3, [], [], []⟩ Try.func8 (by decide) rfl (by simp) (by decide) (by simp [freshOK, freshL, go_sem]) ?_
  rw [Try.ntmps8]
  simp [go_sem]
  omega
section
variable {H : Type} {enc : TypeId × Value → H} {w : World} {sp : Nat → Bool} {held : Bool} {base : Nat}
theorem open_bys {n : Nat} {cs : List Value} {x : DataW H × List MemPlace} (h : DataW.trod enc Try.prog w base sp held n 22 cs = some x) :
    ∃ xs : List Int, (∀ z ∈ xs, 0 ≤ z ∧ z ≤ 255) ∧ xs.length ≤ 9223372036854775807 ∧ RepL Try.prog w (fun b => b < w.heap.size) [.sl xs.length (bys xs)] cs [] ∧ cs.length = 1 := by
  obtain ⟨qs, h1, h2, h3, h4⟩ := open_sl (f := fun z : Int => [AV.val (.int .u8 z)]) (Good := fun z => (Lit.int .u8 z).wf = true) Try.underlying22 (s := 1) (by kernel_rfl) (by decide) (fun _ => rfl)
    (fun n cs y hy => by obtain ⟨z, k1, k2, _⟩ := open_i Try.underlying5 hy; exact ⟨z, k1, k2⟩) h
  refine ⟨qs, fun z hz => ?_, h2, by rw [flat1] at h3; exact h3, h4⟩
  have := h1 z hz
  simp [Lit.wf, IntKind.min, IntKind.max, IntKind.signed, IntKind.bits] at this
  omega
end
end Go.Proofs.Ytmojbncbbnjblaa


namespace Go.Proofs.Ytmojbncbbnjblaa
set_option linter.unusedVariables false
set_option linter.unusedSimpArgs false
set_option maxHeartbeats 1000000
abbrev Mx := Nat → Nat → Int
def sgd (i : Nat) : Int := if i % 2 = 0 then 1 else -1
theorem sgd_succ (i : Nat) : sgd (i + 1) = - sgd i := by
  unfold sgd
  by_cases h : i % 2 = 0
  · rw [if_pos h, if_neg (by omega)]
  · rw [if_neg h, if_pos (by omega)]; rfl
def dsum (f : Nat → Int) : Nat → Int
  | 0 => 0
  | n + 1 => dsum f n + f n
theorem dsum_congr {f g : Nat → Int} : ∀ {n : Nat}, (∀ i, i < n → f i = g i) → dsum f n = dsum g n
  | 0, _ => rfl
  | n + 1, h => by rw [dsum, dsum, dsum_congr (fun i hi => h i (by omega)), h n (by omega)]
theorem dsum_lin (f g : Nat → Int) (k : Int) : ∀ n : Nat, dsum (fun i => f i + k * g i) n = dsum f n + k * dsum g n
  | 0 => by simp [dsum]
  | n + 1 => by rw [dsum, dsum, dsum, dsum_lin f g k n, Int.mul_add]; omega
theorem dsum_zero {f : Nat → Int} : ∀ {n : Nat}, (∀ i, i < n → f i = 0) → dsum f n = 0
  | 0, _ => rfl
  | n + 1, h => by rw [dsum, dsum_zero (fun i hi => h i (by omega)), h n (by omega)]; rfl
theorem dsum_one {f : Nat → Int} {k : Nat} : ∀ {n : Nat}, k < n → (∀ i, i < n → i ≠ k → f i = 0) → dsum f n = f k
  | 0, h, _ => by omega
  | n + 1, h, hz => by
    rw [dsum]
    by_cases e : k = n
    · subst e
      rw [dsum_zero (fun i hi => hz i (by omega) (by omega)), Int.zero_add]
    · rw [dsum_one (n := n) (by omega) (fun i hi hne => hz i (by omega) hne), hz n (by omega) (by omega), Int.add_zero]
theorem dsum_two {f : Nat → Int} {k : Nat} : ∀ {n : Nat}, k + 1 < n → (∀ i, i < n → i ≠ k → i ≠ k + 1 → f i = 0) → dsum f n = f k + f (k + 1)
  | 0, h, _ => by omega
  | n + 1, h, hz => by
    rw [dsum]
    by_cases e : k + 1 = n
    · subst e
      rw [dsum_one (k := k) (by omega) (fun i hi hne => hz i (by omega) hne (by omega))]
    · rw [dsum_two (n := n) (by omega) (fun i hi h1 h2 => hz i (by omega) h1 h2), hz n (by omega) (by omega) (by omega), Int.add_zero]
def mnr (M : Mx) (i : Nat) : Mx := fun r c => M (if r < i then r else r + 1) (c + 1)
def det : Nat → Mx → Int
  | 0, _ => 1
  | n + 1, M => dsum (fun i => sgd i * M i 0 * det n (mnr M i)) (n + 1)
def updR (M : Mx) (i : Nat) (w : Nat → Int) : Mx := fun r => if r = i then w else M r
theorem updR_self (M : Mx) (i : Nat) : updR M i (M i) = M := funext fun r => by
  unfold updR; split
  · rename_i h; rw [h]
  · rfl
theorem updR_at (M : Mx) (i : Nat) (w : Nat → Int) : updR M i w i = w := by simp [updR]
theorem updR_ne (M : Mx) {i r : Nat} (w : Nat → Int) (h : r ≠ i) : updR M i w r = M r := by simp [updR, h]
theorem updR_comm (M : Mx) {i j : Nat} (h : i ≠ j) (v w : Nat → Int) : updR (updR M i v) j w = updR (updR M j w) i v := funext fun r => by
  unfold updR
  by_cases h1 : r = i
  · subst h1; rw [if_neg h, if_pos rfl, if_pos rfl]
  · rw [if_neg h1, if_neg h1]
theorem mnr_self (M : Mx) (i : Nat) (w : Nat → Int) : mnr (updR M i w) i = mnr M i := funext fun r => funext fun c => by
  unfold mnr updR
  rw [if_neg (by split <;> omega)]
theorem mnr_ne (M : Mx) {i j : Nat} (w : Nat → Int) (h : j ≠ i) : mnr (updR M i w) j = updR (mnr M j) (if i < j then i else i - 1) (fun c => w (c + 1)) := funext fun r => funext fun c => by
  unfold mnr updR
  by_cases h1 : (if r < j then r else r + 1) = i
  · have h2 : r = if i < j then i else i - 1 := by
      split at h1 <;> split <;> omega
    rw [if_pos h1, if_pos h2]
  · have h2 : ¬ r = if i < j then i else i - 1 := by
      split at h1 <;> split <;> omega
    rw [if_neg h1, if_neg h2]
theorem det_cong {p : Int} : ∀ {n : Nat} {M N : Mx}, (∀ r c, r < n → c < n → M r c % p = N r c % p) → det n M % p = det n N % p
  | 0, _, _, _ => rfl
  | n + 1, M, N, h => by
    rw [det, det]
    have gen : ∀ m : Nat, m ≤ n + 1 → dsum (fun i => sgd i * M i 0 * det n (mnr M i)) m % p = dsum (fun i => sgd i * N i 0 * det n (mnr N i)) m % p := by
      intro m
      induction m with
      | zero => intro _; rfl
      | succ m ih =>
        intro hm
        rw [dsum, dsum, Int.add_emod, ih (by omega), Int.add_emod (dsum (fun i => sgd i * N i 0 * det n (mnr N i)) m)]
        have e1 := h m 0 (by omega) (by omega)
        have e2 := det_cong (p := p) (n := n) (M := mnr M m) (N := mnr N m) (fun r c hr hc => h _ _ (by split <;> omega) (by omega))
        have e3 : (sgd m * M m 0 * det n (mnr M m)) % p = (sgd m * N m 0 * det n (mnr N m)) % p := by
          rw [Int.mul_emod, Int.mul_emod (sgd m), e1, e2, ← Int.mul_emod (sgd m), ← Int.mul_emod]
        rw [e3]
    exact gen _ (Nat.le_refl _)
theorem det_lin : ∀ {n : Nat} (M : Mx) {i : Nat} (u v : Nat → Int) (k : Int), i < n → det n (updR M i (fun c => u c + k * v c)) = det n (updR M i u) + k * det n (updR M i v)
  | 0, _, _, _, _, _, h => by omega
  | n + 1, M, i, u, v, k, h => by
    rw [det, det, det, ← dsum_lin]
    refine dsum_congr fun j hj => ?_
    by_cases e : j = i
    · subst e
      simp only [mnr_self, updR_at]
      generalize det n (mnr M j) = d
      rw [Int.mul_add, Int.add_mul]
      congr 1
      ac_rfl
    · simp only [mnr_ne M _ e, updR_ne M _ e]
      rw [det_lin (n := n) (mnr M j) (fun c => u (c + 1)) (fun c => v (c + 1)) k (by split <;> omega), Int.mul_add]
      congr 1
      ac_rfl
theorem det_adj : ∀ {n : Nat} (M : Mx) {i : Nat}, i + 1 < n → M i = M (i + 1) → det n M = 0
  | 0, _, _, h, _ => by omega
  | n + 1, M, i, h, he => by
    rw [det, dsum_two (k := i) h]
    · have hm : mnr M (i + 1) = mnr M i := funext fun r => funext fun c => by
        unfold mnr
        by_cases h1 : r < i
        · rw [if_pos (by omega), if_pos h1]
        · by_cases h2 : r = i
          · subst h2; rw [if_pos (by omega), if_neg (by omega), he]
          · rw [if_neg (by omega), if_neg (by omega)]
      rw [hm, ← he, sgd_succ, Int.neg_mul, Int.neg_mul]
      omega
    · intro j hj h1 h2
      have hz : det n (mnr M j) = 0 := by
        by_cases hlt : i < j
        · refine det_adj (mnr M j) (i := i) (by omega) (funext fun c => ?_)
          unfold mnr
          rw [if_pos hlt, if_pos (by omega), he]
        · obtain ⟨i', rfl⟩ : ∃ i', i = i' + 1 := ⟨i - 1, by omega⟩
          refine det_adj (mnr M j) (i := i') (by omega) (funext fun c => ?_)
          unfold mnr
          rw [if_neg (by omega), if_neg (by omega), he]
      rw [hz, Int.mul_zero]
theorem det_swap1 {n : Nat} (M : Mx) {i : Nat} (h : i + 1 < n) (u v : Nat → Int) : det n (updR (updR M i u) (i + 1) v) = - det n (updR (updR M i v) (i + 1) u) := by
  have hne : i ≠ i + 1 := by omega
  have z := fun w : Nat → Int => det_adj (n := n) (updR (updR M i w) (i + 1) w) h (by rw [updR_at, updR_ne _ _ hne, updR_at])
  have s := z (fun c => u c + 1 * v c)
  rw [det_lin _ u v 1 h, updR_comm _ hne, updR_comm _ hne, det_lin _ u v 1 (by omega), det_lin _ u v 1 (by omega)] at s
  have zu := z u
  have zv := z v
  rw [updR_comm _ hne] at zu zv
  rw [updR_comm _ hne, updR_comm (M) hne v u]
  omega
theorem det_eq : ∀ {n : Nat} (k : Nat) (M : Mx) {i : Nat}, i + k + 1 < n → M i = M (i + k + 1) → det n M = 0
  | n, 0, M, i, h, he => det_adj M h he
  | n, k + 1, M, i, h, he => by
    have hne : i + k + 1 ≠ i + (k + 1) + 1 := by omega
    have e0 : M = updR (updR M (i + k + 1) (M (i + k + 1))) (i + k + 1 + 1) (M (i + k + 1 + 1)) := by rw [updR_self, updR_self]
    rw [e0, det_swap1 M (i := i + k + 1) (by omega)]
    have := det_eq k (updR (updR M (i + k + 1) (M (i + k + 1 + 1))) (i + k + 1 + 1) (M (i + k + 1))) (i := i) (n := n) (by omega) (by
      rw [updR_ne _ _ (show i ≠ i + k + 1 + 1 by omega), updR_ne _ _ (show i ≠ i + k + 1 by omega), updR_ne _ _ (show i + k + 1 ≠ i + k + 1 + 1 by omega), updR_at]
      exact he)
    rw [this]; rfl
theorem det_same {n : Nat} (M : Mx) {i j : Nat} (hi : i < n) (hj : j < n) (hne : i ≠ j) (he : M i = M j) : det n M = 0 := by
  by_cases h : i < j
  · have e : j = i + (j - i - 1) + 1 := by omega
    rw [e] at he
    exact det_eq (j - i - 1) M (by omega) he
  · have e : i = j + (i - j - 1) + 1 := by omega
    rw [e] at he
    exact det_eq (i - j - 1) M (by omega) he.symm
theorem det_nil {n : Nat} (M : Mx) {i : Nat} (hi : i < n) (hz : ∀ c, M i c = 0) : det n M = 0 := by
  have := det_lin M (M i) (M i) 1 hi
  have e : (fun c => M i c + 1 * M i c) = M i := funext fun c => by rw [hz c]; rfl
  rw [e, updR_self] at this
  omega
theorem det_swap {n : Nat} (M : Mx) {i j : Nat} (hi : i < n) (hj : j < n) (hne : i ≠ j) (u v : Nat → Int) : det n (updR (updR M i u) j v) = - det n (updR (updR M i v) j u) := by
  have z := fun w : Nat → Int => det_same (n := n) (updR (updR M i w) j w) hi hj hne (by rw [updR_at, updR_ne _ _ hne, updR_at])
  have s := z (fun c => u c + 1 * v c)
  rw [det_lin _ u v 1 hj, updR_comm _ hne, updR_comm _ hne, det_lin _ u v 1 hi, det_lin _ u v 1 hi] at s
  have zu := z u
  have zv := z v
  rw [updR_comm _ hne] at zu zv
  rw [updR_comm _ hne, updR_comm (M) hne v u]
  omega
def idM : Mx := fun r c => if r = c then 1 else 0
theorem mnr_id : mnr idM 0 = idM := funext fun r => funext fun c => by simp [mnr, idM]
theorem det_one : ∀ n : Nat, det n idM = 1
  | 0 => rfl
  | n + 1 => by
    rw [det, dsum_one (k := 0) (by omega) (fun i hi hne => by simp [idM, hne]), mnr_id, det_one n]
    simp [sgd, idM]
def updC (M : Mx) (k : Nat) (b : Nat → Int) : Mx := fun r c => if c = k then b r else M r c
theorem det_col : ∀ {n k : Nat} (b : Nat → Int), k < n → det n (updC idM k b) = b k
  | 0, _, _, h => by omega
  | n + 1, 0, b, _ => by
    rw [det, dsum_one (k := 0) (by omega)]
    · have e : mnr (updC idM 0 b) 0 = idM := funext fun r => funext fun c => by simp [mnr, updC, idM]
      rw [e, det_one]
      simp [sgd, updC]
    · intro i hi hne
      rw [det_nil (mnr (updC idM 0 b) i) (i := 0) (by omega) (fun c => by
        have : (0 : Nat) < i := by omega
        simp [mnr, updC, idM, this]), Int.mul_zero]
  | n + 1, k + 1, b, h => by
    rw [det, dsum_one (k := 0) (by omega)]
    · have e : mnr (updC idM (k + 1) b) 0 = updC idM k (fun r => b (r + 1)) := funext fun r => funext fun c => by simp [mnr, updC, idM]
      rw [e, det_col _ (by omega)]
      simp [sgd, updC, idM]
    · intro i hi hne
      have : updC idM (k + 1) b i 0 = 0 := by simp [updC, idM, hne]
      rw [this]; simp
end Go.Proofs.Ytmojbncbbnjblaa


namespace Go.Proofs.Ytmojbncbbnjblaa
set_option linter.unusedVariables false
set_option linter.unusedSimpArgs false
set_option maxHeartbeats 1000000
end Go.Proofs.Ytmojbncbbnjblaa


namespace Go.Proofs.Ytmojbncbbnjblaa
set_option linter.unusedVariables false
set_option linter.unusedSimpArgs false
set_option maxHeartbeats 1000000
def sel (W : Mx) (g : Nat → Nat) : Mx := fun r c => W r (g c)
theorem sel_upd (W : Mx) (i : Nat) (w : Nat → Int) (g : Nat → Nat) : sel (updR W i w) g = updR (sel W g) i (fun c => w (g c)) := funext fun r => funext fun c => by
  unfold sel updR; split <;> rfl
def RowEq (n w : Nat) (W W' : Mx) : Prop := ∃ s t : Int, s * t % 10007 = 1 ∧ ∀ g : Nat → Nat, (∀ c, c < n → g c < w) → det n (sel W g) * s % 10007 = det n (sel W' g) % 10007
theorem RowEq.refl (n w : Nat) (W : Mx) : RowEq n w W W := ⟨1, 1, rfl, fun g hg => by rw [Int.mul_one]⟩
theorem mul_mod_l (a b : Int) : a % 10007 * b % 10007 = a * b % 10007 := by rw [Int.mul_emod, Int.emod_emod_of_dvd _ (Int.dvd_refl _), ← Int.mul_emod]
theorem mul_mod_r (a b : Int) : a * (b % 10007) % 10007 = a * b % 10007 := by rw [Int.mul_emod, Int.emod_emod_of_dvd _ (Int.dvd_refl _), ← Int.mul_emod]
theorem RowEq.trans {n w : Nat} {W X Y : Mx} (h : RowEq n w W X) (k : RowEq n w X Y) : RowEq n w W Y := by
  obtain ⟨s, t, h1, h2⟩ := h
  obtain ⟨s', t', k1, k2⟩ := k
  refine ⟨s * s', t * t', ?_, fun g hg => ?_⟩
  · have e : s * s' * (t * t') = (s * t) * (s' * t') := by ac_rfl
    rw [e, Int.mul_emod, h1, k1]; rfl
  · rw [← k2 g hg, ← Int.mul_assoc, ← mul_mod_l, h2 g hg, mul_mod_l]
theorem RowEq.swap {n w : Nat} (W : Mx) {i j : Nat} (hi : i < n) (hj : j < n) (hne : i ≠ j) : RowEq n w W (updR (updR W i (W j)) j (W i)) :=
  ⟨-1, -1, rfl, fun g hg => by
    rw [sel_upd, sel_upd]
    have e : sel W g = updR (updR (sel W g) i (fun c => W i (g c))) j (fun c => W j (g c)) := by
      have e1 : (fun c => W i (g c)) = sel W g i := rfl
      have e2 : (fun c => W j (g c)) = sel W g j := rfl
      rw [e1, e2, updR_self, updR_self]
    have h := det_swap (sel W g) hi hj hne (fun c => W j (g c)) (fun c => W i (g c))
    rw [h, ← e]
    congr 1
    omega⟩
theorem RowEq.full {n : Nat} {W W' : Mx} (h : RowEq n (n + 1) W W') (hid : ∀ r c, r < n → c < n → W' r c % 10007 = idM r c % 10007) :
    ∃ s : Int, det n W * s % 10007 = 1 ∧ ∀ k, k < n → W' k n % 10007 = det n (updC W k (fun r => W r n)) * s % 10007 := by
  obtain ⟨s, t, h1, h2⟩ := h
  refine ⟨s, ?_, fun k hk => ?_⟩
  · have := h2 id (fun c hc => by show c < n + 1; omega)
    have e : ∀ X : Mx, sel X id = X := fun X => rfl
    rw [e, e, det_cong (p := 10007) (N := idM) hid, det_one] at this
    exact this
  · have := h2 (fun c => if c = k then n else c) (fun c hc => by show (if c = k then n else c) < n + 1; split <;> omega)
    have e : sel W (fun c => if c = k then n else c) = updC W k (fun r => W r n) := funext fun r => funext fun c => by
      by_cases hc : c = k
      · simp [sel, updC, hc]
      · simp [sel, updC, hc]
    rw [e] at this
    rw [this, det_cong (p := 10007) (N := updC idM k (fun r => W' r n)), det_col _ hk]
    intro r c hr hc
    by_cases hck : c = k
    · simp [sel, updC, hck]
    · simp [sel, updC, hck]; exact hid r c hr hc
end Go.Proofs.Ytmojbncbbnjblaa


namespace Go.Proofs.Ytmojbncbbnjblaa
open Go.Abs
set_option linter.unusedVariables false
set_option linter.unusedSimpArgs false
set_option maxHeartbeats 1000000
theorem pw_prod (a b : Int) (n : Nat) : pw (a * b % 10007) n % 10007 = pw a n * pw b n % 10007 := by
  unfold pw
  rw [Int.toNat_natCast, pow_mod, Int.mul_pow, Int.emod_emod_of_dvd _ (Int.dvd_refl _), ← Int.mul_emod]
theorem svL_at {k : Int} {L : List (List Int)} {m i : Nat} (h : i < m) : (svL k L m)[i]?.getD [] = scalS (L[i]?.getD []) (pw k i) := by simp [svL, h]
theorem plusS_eq {a b c : List Int} {v w : Int} (h : ∀ i, i < a.length → (v % 10007 * b[i]?.getD 0) % 10007 = (w % 10007 * c[i]?.getD 0) % 10007) : plusS a b v = plusS a c w := by
  unfold plusS tb
  refine List.map_congr_left fun i hi => ?_
  have := h i (by simpa using hi)
  omega
theorem evV_scaled {n : Nat} (k h : Int) (L : List (List Int)) (hr : ∀ y ∈ L, y.length = n) : ∀ i, i ≤ L.length → evV h (svL k L L.length) n i = evV (k * h % 10007) L n i
  | 0, _ => rfl
  | i + 1, hi => by
    rw [evV, evV, evV_scaled k h L hr i (by omega), svL_at (by omega)]
    have hl : (L[i]?.getD []).length = n := hr _ (by simp [show i < L.length by omega])
    refine plusS_eq fun j hj => ?_
    rw [evV_len] at hj
    have e : (scalS (L[i]?.getD []) (pw k i))[j]?.getD 0 = (L[i]?.getD [])[j]?.getD 0 * (pw k i % 10007) % 10007 := tb_get (fun j => (L[i]?.getD [])[j]?.getD 0 * (pw k i % 10007) % 10007) (by omega)
    rw [e, pw_prod]
    generalize (L[i]?.getD [])[j]?.getD 0 = x
    generalize pw k i = p
    generalize pw h i = q
    rw [mul_mod_l, mul_mod_r, mul_mod_l]
    have e1 : q * (x * (p % 10007)) = q * x * (p % 10007) := by rw [Int.mul_assoc]
    rw [e1, mul_mod_r]
    congr 1
    rw [Int.mul_comm q x, Int.mul_assoc, Int.mul_comm q p, Int.mul_comm x]
end Go.Proofs.Ytmojbncbbnjblaa


namespace Go.Proofs.Ytmojbncbbnjblaa
open Go.Abs
set_option linter.unusedVariables false
set_option linter.unusedSimpArgs false
set_option maxHeartbeats 1000000
end Go.Proofs.Ytmojbncbbnjblaa


namespace Go.Proofs.Ytmojbncbbnjblaa
open Go.Abs
set_option linter.unusedVariables false
set_option linter.unusedSimpArgs false
set_option maxHeartbeats 1000000
def poS (y : List Int) : List (List Int) := y.map unS
@[simp] theorem poS_len (y : List Int) : (poS y).length = y.length := by simp [poS]
theorem poS_row {y : List Int} (h : Ns y) : ∀ r ∈ poS y, r.length = 7 ∧ Ns r := by
  intro r hr
  obtain ⟨a, ha, rfl⟩ := List.mem_map.1 hr
  exact ⟨rfl, unS_N (h a ha)⟩
theorem poS_take {y : List Int} {i : Nat} (h : i < y.length) : omat (poS (y.take (i + 1))) = omat (poS (y.take i)) ++ [.own 2 7 (avs (unS (y[i]?.getD 0)))] := by
  rw [List.take_add_one, List.getElem?_eq_getElem h]
  simp only [poS, List.map_append, omat_app]; rfl
def stV (y : List Int) : List (List Int) := y :: List.replicate 6 (List.replicate y.length 0)
@[simp] theorem stV_len (y : List Int) : (stV y).length = 7 := by simp [stV]
theorem stV_row {y : List Int} (h : Ns y) : ∀ r ∈ stV y, r.length = y.length ∧ Ns r := by
  intro r hr
  rcases List.mem_cons.1 hr with rfl | hr
  · exact ⟨rfl, h⟩
  · obtain ⟨_, rfl⟩ := List.mem_replicate.1 hr
    refine ⟨by simp, fun x hx => ?_⟩
    obtain ⟨_, rfl⟩ := List.mem_replicate.1 hx
    exact ⟨by omega, by omega⟩
theorem turn_stV (y : List Int) : turnS (stV y) = poS y := by
  refine List.ext_getElem (by simp [stV]) fun k h1 h2 => ?_
  have hk : k < y.length := by simpa using h2
  have e : (y :: List.replicate 6 (List.replicate y.length 0))[0]?.getD [] = y := rfl
  simp only [turnS, List.getElem_map, List.getElem_range, poS, colS, stV]
  simp [tb, List.range, List.range.loop, unS, hk, List.replicate]
theorem l14Start_c (y : List Int) (hy : y.length ≤ 1048576) : Con Try.prog 58 [.sl y.length (avs y)] (.own 27 7 (omat (stV y))) := by
  refine con_of_vc Try.mixed ⟨4, [], [], []⟩ Try.func58 (by decide) rfl (by simp) (by decide) (by simp [freshOK, freshL, go_sem]) ?_
  rw [Try.ntmps58]
  simp [go_sem]
  refine CallVC.of (l01Own_c y (by omega)) (by decide) ?_
  simp [go_sem]
  have e0 : ∀ k, omat (y :: List.replicate (k + 1) (List.replicate y.length 0)) = omat (y :: List.replicate k (List.replicate y.length 0)) ++ [.own 2 y.length (avs (List.replicate y.length 0))] := fun k => by
    rw [List.replicate_succ', ← List.cons_append, omat_app, omat_one]; simp
  refine loop_inv (3 :: List.range' 7 9) (fun i : Nat => [(3, .own 27 (i + 1) (omat (y :: List.replicate i (List.replicate y.length 0))))]) (fun i => i ≤ 6) (fun i => 6 - i) 0 (by simp) (by simp [go_sem, omat]) (by simp [go_sem]) ?_
  intro i hi
  simp [go_sem]
  refine ⟨fun h => ?_, fun h => ?_⟩ <;> simp at h
  · have ht := e0 i
    simp [go_sem]
    refine ⟨⟨by omega, by omega⟩, ⟨by omega, by omega⟩, i + 1, by omega, by omega, Off_reset _ _ _ (by simp), ⟨by omega, ?_⟩⟩
    rw [ht, ← avs_repl]
  · have e : i = 6 := by omega
    subst e
    simp [go_sem]
    rfl
end Go.Proofs.Ytmojbncbbnjblaa


namespace Go.Proofs.Ytmojbncbbnjblaa
open Go.Abs
set_option linter.unusedVariables false
set_option linter.unusedSimpArgs false
set_option maxHeartbeats 1000000
def floS (f : List (List Mon)) (y : List Int) : Nat → List (List Int)
  | 0 => poS y
  | n + 1 => (List.range y.length).map fun i => ((floS f y n)[i]?.getD []).set (n + 1) (((fdS (floS f y n) f)[i]?.getD [])[n]?.getD 0 * pw ((n : Int) + 1) 10005 % 10007)
@[simp] theorem floS_len (f : List (List Mon)) (y : List Int) : ∀ n, (floS f y n).length = y.length
  | 0 => by simp [floS]
  | n + 1 => by simp [floS]
theorem set_N {a : List Int} (h : Ns a) {i : Nat} {x : Int} (hx : isN x) : Ns (a.set i x) := by
  intro z hz
  rcases List.mem_or_eq_of_mem_set hz with hz | rfl
  · exact h z hz
  · exact hx
theorem floS_row {f : List (List Mon)} {y : List Int} (hy : Ns y) : ∀ n, ∀ r ∈ floS f y n, r.length = 7 ∧ Ns r
  | 0 => poS_row hy
  | n + 1 => by
    intro r hr
    obtain ⟨i, hi, rfl⟩ := List.mem_map.1 hr
    have h := floS_row hy n _ (memD [] (show i < (floS f y n).length by rw [floS_len]; simpa using hi))
    exact ⟨by simp [h.1], set_N h.2 (isN_mod _)⟩
set_option maxRecDepth 100000 in
theorem flow_c {z : Int} (f : List (List Mon)) (y : List Int) (hf : FieldOk z f) (hs : Small f) (hl : (y.length : Int) = z) (hy : Ns y) :
    Con Try.prog 53 [.sl f.length (fpols f), .sl y.length (avs y)] (.own 27 y.length (omat (floS f y 6))) := by
  have fl := hs.1
  have z3 := hf.hi
  have fz := hf.len
  refine con_of_vc Try.mixed ⟨12, [], [], []⟩ Try.func53 (by decide) rfl (by simp) (by decide) (by simp [freshOK, freshL, go_sem]) ?_
  rw [Try.ntmps53]
  simp [go_sem]
  refine loop_inv (5 :: 7 :: 8 :: List.range' 15 13) (fun i : Nat => [(5, .own 27 i (omat (poS (y.take i)))), (15, .int i)]) (fun i => i ≤ y.length) (fun i => y.length - i) 0 (by simp) (by simp [go_sem, poS, omat_nil]) (by simp [go_sem]) ?_
  intro i hi
  simp [go_sem]
  refine ⟨fun h => ?_, fun h => ?_⟩ <;> simp at h
  · have ht := poS_take h
    simp [go_sem, avs_drop h]
    refine ⟨⟨h, by rintro rfl; simp at h⟩, ⟨by omega, by omega⟩, by omega, i + 1, by omega, by omega, Off_reset _ _ _ (by simp), ⟨rfl, ?_⟩, by omega⟩
    rw [ht]; rfl
  · have e : i = y.length := by omega
    subst e
    simp [go_sem]
    refine loop_inv (5 :: 9 :: 10 :: 11 :: List.range' 28 31) (fun k : Nat => [(5, .own 27 y.length (omat (floS f y k))), (9, .int ((k + 1 : Nat) : Int))]) (fun k => k ≤ 6) (fun k => 7 - k) 0 (by simp) (by simp [go_sem, floS]) (by simp [go_sem]) ?_
    intro k hk
    simp [go_sem]
    refine ⟨fun h => ?_, fun h => ?_⟩ <;> simp at h
    · have fr := floS_row (f := f) hy k
      have cF := fieldSeries_c (L := floS f y k) hf hs (by rw [floS_len]; exact hl) fr
      rw [floS_len] at cF
      simp [go_sem]
      refine CallVC.of (cF) (by decide) ?_
      simp [go_sem]
      refine loop_inv (5 :: 11 :: List.range' 37 22) (fun j : Nat => [(5, .own 27 y.length (omat (mxS (floS f y k) (floS f y (k + 1)) j))), (37, .int j)]) (fun j => j ≤ y.length) (fun j => y.length - j) 0 (by simp) (by simp [go_sem, mxS_zero]) (by simp [go_sem]) ?_
      intro j hj
      simp [go_sem]
      refine ⟨fun h => ?_, fun h => ?_⟩ <;> simp at h
      · have hjy := h
        have hM : j < (mxS (floS f y k) (floS f y (k + 1)) j).length := by rw [mxS_len, floS_len]; exact hjy
        have hj2 : j < (floS f y k).length := by rw [floS_len]; exact hjy
        have hg := omat_get hM
        rw [mxS_get hj2] at hg
        have hr := fr _ (memD [] hj2)
        have hV : j < (fdS (floS f y k) f).length := by rw [fdS_len]; omega
        have hgv := omat_get hV
        have hv := fdS_row (L := floS f y k) (f := f) _ (memD [] hV)
        have hset := omat_set (mxS (floS f y k) (floS f y (k + 1)) j) j ((floS f y (k + 1))[j]?.getD [])
        have hnext : (floS f y (k + 1))[j]?.getD [] = ((floS f y k)[j]?.getD []).set (k + 1) (((fdS (floS f y k) f)[j]?.getD [])[k]?.getD 0 * pw ((k : Int) + 1) 10005 % 10007) := by simp [floS, hjy]
        rw [mxS_set hj2] at hset
        have m1 : fits (((fdS (floS f y k) f)[j]?.getD [])[k]?.getD 0 * pw ((k : Int) + 1) 10005) := mul_fits (hv.2.get k) (isN_mod _)
        have hk7 : k < ((fdS (floS f y k) f)[j]?.getD []).length := by omega
        have hk8 : k + 1 < ((floS f y k)[j]?.getD []).length := by omega
        generalize mxS (floS f y k) (floS f y (k + 1)) j = M at *
        generalize (floS f y (k + 1))[j]?.getD [] = new at *
        generalize (floS f y k)[j]?.getD [] = old at *
        generalize (fdS (floS f y k) f)[j]?.getD [] = vs at *
        simp [go_sem, hg, hgv, avs_at hk7, avs_drop hk7]
        refine ⟨by kernel_rfl, hjy, by omega, by omega, hk7, ?_⟩
        refine CallD.of (inv_c _ ⟨by omega, by omega⟩) (by simp [roots, rootsL]) (by decide) ?_
        simp [go_sem]
        refine ⟨m1, ?_⟩
        refine CallD.of (num_c _ m1.1 m1.2) (by simp [roots, rootsL]) (by decide) ?_
        simp [go_sem]
        simp [go_sem, hg]
        refine ⟨⟨by omega, by omega⟩, hk8, ?_⟩
        refine ⟨by kernel_rfl, ?_⟩
        simp [go_sem]
        refine ⟨by omega, j + 1, by omega, by omega, Off_reset _ _ _ (by simp), ?_, by omega⟩
        rw [← hset, hnext, List.length_set, avs_set]
      · have e : j = y.length := by omega
        have hall := mxS_all (A := floS f y k) (C := floS f y (k + 1)) (by rw [floS_len, floS_len])
        rw [floS_len] at hall
        subst e
        simp [go_sem]
        exact ⟨by omega, k + 1, by omega, by omega, (Off.reset (by intro x hx; simp at hx ⊢; omega) (by simp) (by simp [go_sem, Off_reset])), by rw [hall], by omega⟩
    · have e : k = 6 := by omega
      subst e
      simp [go_sem]
def raiN (a : List Int) : Nat → List Int
  | 0 => a
  | j + 1 => rakS (raiN a j) (pw ((j : Int) + 1) 10005)
@[simp] theorem raiN_len (a : List Int) : ∀ j, (raiN a j).length = a.length
  | 0 => rfl
  | j + 1 => by simp [raiN, raiN_len a j]
theorem raiN_N {a : List Int} (h : Ns a) : ∀ j, Ns (raiN a j)
  | 0 => h
  | j + 1 => rakS_N _ _
def alN (f : List (List Mon)) (n i : Nat) : Nat → List Mon
  | 0 => [(1, oneE n i)]
  | j + 1 => alongL f (alN f n i j)
theorem alongL_wok {n : Nat} {B : Int} {f : List (List Mon)} {p : List Mon} (hp : ∀ m ∈ p, WOk n B m) (hl : f.length ≤ n) (hf : ∀ F ∈ f, ∀ m ∈ F, WOk n 3 m) : ∀ m ∈ alongL f p, WOk n (3 + B) m := alongGo_wok hp f 0 [] (by omega) hf (by simp)
theorem FieldOk.wok {z : Int} {f : List (List Mon)} (hf : FieldOk z f) : ∀ F ∈ f, ∀ m ∈ F, WOk f.length 3 m := fun F hF m hm => by
  have h := partB_mem (hf.part F hF) hm
  have h1 := h.lo
  have h2 := h.hi
  have h3 := h.len
  have h4 := hf.len
  exact ⟨⟨by omega, by omega⟩, by omega, h.pw⟩
theorem alN_wok {z : Int} {f : List (List Mon)} (hf : FieldOk z f) (i : Nat) : ∀ j : Nat, ∀ m ∈ alN f f.length i j, WOk f.length (1 + 3 * (j : Int)) m
  | 0, m, hm => by
    simp only [alN, List.mem_singleton] at hm
    subst hm
    exact oneE_wok.le (by omega)
  | j + 1, m, hm => (alongL_wok (alN_wok hf i j) (Nat.le_refl _) hf.wok m hm).le (by omega)
theorem alN_len {z : Int} {f : List (List Mon)} (hf : FieldOk z f) (n i : Nat) : ∀ j : Nat, (alN f n i j).length ≤ 60 ^ j
  | 0 => by simp [alN]
  | j + 1 => by
    have z3 := hf.hi
    have zl := hf.len
    have ih := alN_len hf n i j
    have h := alongGo_len (p := alN f n i j) (N := 20) f 0 [] (fun F hF => part20 z3 (hf.part F hF))
    have h2 := Nat.mul_le_mul_right (20 * (alN f n i j).length) (show f.length ≤ 3 by omega)
    rw [alN, alongL, Nat.pow_succ]
    simp only [List.length_nil, Nat.zero_add] at h
    omega
theorem alN_small {z : Int} {f : List (List Mon)} (hf : FieldOk z f) (n i : Nat) {j : Nat} (hj : j ≤ 5) : (alN f n i j).length ≤ 777600000 :=
  Nat.le_trans (alN_len hf n i j) (Nat.le_trans (Nat.pow_le_pow_right (by omega) hj) (by decide))
theorem alN_small6 {z : Int} {f : List (List Mon)} (hf : FieldOk z f) (n i : Nat) {j : Nat} (hj : j ≤ 6) : (alN f n i j).length ≤ 46656000000 :=
  Nat.le_trans (alN_len hf n i j) (Nat.le_trans (Nat.pow_le_pow_right (by omega) hj) (by decide))
def trS (f : List (List Mon)) (n i : Nat) : List (List Mon) := (List.range f.length).map fun k => if k < i then alN f f.length k (n + 1) else alN f f.length k n
@[simp] theorem trS_len (f : List (List Mon)) (n i : Nat) : (trS f n i).length = f.length := by simp [trS]
theorem trS_all (f : List (List Mon)) (n : Nat) : trS f n f.length = trS f (n + 1) 0 := by
  unfold trS
  refine List.map_congr_left fun k hk => ?_
  simp at hk
  simp [hk]
theorem trS_get {f : List (List Mon)} {n i : Nat} (h : i < f.length) : (trS f n i)[i]?.getD [] = alN f f.length i n := by simp [trS, h]
theorem trS_set {f : List (List Mon)} {n i : Nat} (h : i < f.length) : (trS f n i).set i (alN f f.length i (n + 1)) = trS f n (i + 1) := by
  refine List.ext_getElem (by simp) fun k h1 h2 => ?_
  simp at h1
  rw [List.getElem_set]
  by_cases e : i = k
  · subst e; simp [trS]
  · simp only [e, if_false, trS, List.getElem_map, List.getElem_range]
    by_cases h3 : k < i
    · simp [h3, show k < i + 1 by omega]
    · simp [h3, show ¬ k < i + 1 by omega]
theorem oprt_get {T : List (List Mon)} {k : Nat} (h : k < T.length) : (oprt T)[k]? = some (.own 137 (T[k]?.getD []).length (omons (T[k]?.getD []))) := by simp [oprt, h]
theorem oprt_set (T : List (List Mon)) (k : Nat) (p : List Mon) : (oprt T).set k (.own 137 p.length (omons p)) = oprt (T.set k p) := by simp [oprt, List.map_set]
def flsS (f : List (List Mon)) (P : List (List Int)) : Nat → List (List Int)
  | 0 => P
  | n + 1 => (List.range P.length).map fun k => tb (fun m => (((flsS f P n)[k]?.getD [])[m]?.getD 0 + (raiN (evS P (alN f f.length k (n + 1))) (n + 1))[m]?.getD 0) % 10007) 7
@[simp] theorem flsS_len (f : List (List Mon)) (P : List (List Int)) : ∀ n, (flsS f P n).length = P.length
  | 0 => rfl
  | n + 1 => by simp [flsS]
theorem flsS_row {f : List (List Mon)} {P : List (List Int)} (h : ∀ r ∈ P, r.length = 7 ∧ Ns r) : ∀ n, ∀ r ∈ flsS f P n, r.length = 7 ∧ Ns r
  | 0 => h
  | n + 1 => by
    intro r hr
    obtain ⟨i, hi, rfl⟩ := List.mem_map.1 hr
    exact ⟨by simp, tb_N fun i _ => isN_mod _⟩
end Go.Proofs.Ytmojbncbbnjblaa


namespace Go.Proofs.Ytmojbncbbnjblaa
open Go.Abs CR
set_option linter.unusedVariables false
set_option linter.unusedSimpArgs false
set_option maxHeartbeats 1000000
def toS (a : List Int) : Ser Int := fun n => a[n]?.getD 0
def csum (A B : Nat → Int) (n : Nat) : Nat → Int
  | 0 => 0
  | m + 1 => csum A B n m + A m * B (n - m)
theorem csum_shift (A B : Nat → Int) (n : Nat) : ∀ m, csum A B (n + 1) (m + 1) = A 0 * B (n + 1) + csum (sh A) B n m
  | 0 => by simp [csum]
  | m + 1 => by
    rw [csum, csum_shift A B n m, csum]
    have : n + 1 - (m + 1) = n - m := by omega
    rw [this, Int.add_assoc]; rfl
theorem csum_all : ∀ (n : Nat) (A B : Nat → Int), csum A B n (n + 1) = cmul n A B
  | 0, A, B => by simp [csum, cmul]
  | n + 1, A, B => by rw [csum_shift, csum_all n, cmul]
theorem cv_csum (a b : List Int) (n : Nat) : ∀ m, cv a b n m = csum (toS a) (toS b) n m
  | 0 => rfl
  | m + 1 => by rw [cv, cv_csum a b n m]; rfl
abbrev c7 : Cg (Ser Int) := cgS cgI 7
theorem mulS_ser {a b : List Int} (ha : a.length = 7) : c7.r (toS (mulS a b)) (toS a * toS b) := by
  intro n hn
  show (toS (mulS a b) n) % 10007 = (cmul n (toS a) (toS b)) % 10007
  rw [← csum_all, ← cv_csum]
  have e := tb_get (fun n => cv a b n (n + 1) % 10007) (show n < a.length by omega)
  have e2 : toS (mulS a b) n = cv a b n (n + 1) % 10007 := e
  rw [e2, Int.emod_emod_of_dvd _ (Int.dvd_refl _)]
theorem pwS_ser {s x : List Int} (hs : s.length = 7) : ∀ n, c7.r (toS (pwS s x n)) (toS s * pwr (toS x) n)
  | 0 => c7.eq (mul1 _).symm
  | n + 1 => by
    refine c7.trans (mulS_ser (by rw [pwS_len, hs])) ?_
    refine c7.trans (c7.mul (pwS_ser hs n) (c7.refl _)) (c7.eq ?_)
    rw [pwr, mulA]
def toU (L : List (List Int)) : Nat → Ser Int := fun k => toS (L[k]?.getD [])
theorem teS_ser {L : List (List Int)} {e s : List Int} (hs : s.length = 7) : ∀ d, c7.r (toS (teS L e s d)) (toS s * mon (toU L) (ex e) d)
  | 0 => c7.eq (mul1 _).symm
  | d + 1 => by
    refine c7.trans (pwS_ser (by rw [teS_len, hs]) _) ?_
    refine c7.trans (c7.mul (teS_ser hs d) (c7.refl _)) (c7.eq ?_)
    rw [mon, mulA]; rfl
theorem unS_ser (a : Int) : toS (unS a) = ofI a := funext fun n => by
  show ([a, 0, 0, 0, 0, 0, 0] : List Int)[n]?.getD 0 = if n = 0 then a else 0
  match n with
  | 0 => rfl
  | 1 => rfl
  | 2 => rfl
  | 3 => rfl
  | 4 => rfl
  | 5 => rfl
  | 6 => rfl
  | n + 7 => simp
theorem voS_ser (L : List (List Int)) : ∀ p : List Mon, c7.r (fun n => voS L n p) (evM L.length (toU L) p)
  | [] => fun n hn => by
    show (0 : Int) % 10007 = (evM L.length (toU L) [] n) % 10007
    rw [evM_nil]
    cases n <;> rfl
  | m :: p => by
    rw [evM_cons, ← unS_ser]
    have h1 := teS_ser (L := L) (e := m.2) (s := unS m.1) rfl L.length
    exact c7.add h1 (voS_ser L p)
theorem evS_ser (L : List (List Int)) (p : List Mon) : c7.r (toS (evS L p)) (evM L.length (toU L) p) := by
  refine c7.trans (fun n hn => ?_) (voS_ser L p)
  have e := tb_get (fun n => voS L n p % 10007) hn
  have e2 : toS (evS L p) n = voS L n p % 10007 := e
  show toS (evS L p) n % 10007 = voS L n p % 10007
  rw [e2, Int.emod_emod_of_dvd _ (Int.dvd_refl _)]
section
variable {α : Type} [CR α]
theorem Cg.evM (c : Cg α) {d : Nat} {U V : Nat → α} (h : ∀ k, k < d → c.r (U k) (V k)) (L : List Mon) : c.r (evM d U L) (evM d V L) := c.ev h _
theorem mon_zero (U : Nat → α) {e : Nat → Nat} : ∀ {d : Nat}, (∀ j, j < d → e j = 0) → mon U e d = ofI 1
  | 0, _ => rfl
  | d + 1, h => by rw [mon, mon_zero U (fun j hj => h j (by omega)), h d (by omega), pwr, mul1]
theorem mon_one (U : Nat → α) {e : Nat → Nat} {k : Nat} (h1 : e k = 1) (h0 : ∀ j, j ≠ k → e j = 0) : ∀ {d : Nat}, k < d → mon U e d = U k
  | 0, h => by omega
  | d + 1, h => by
    rw [mon]
    by_cases hk : k = d
    · subst hk
      rw [mon_zero U (fun j hj => h0 j (by omega)), h1, omul, pwr, pwr, omul]
    · rw [mon_one U h1 h0 (show k < d by omega), h0 d (fun e => hk e.symm), pwr, mul1]
theorem ex_one {n k : Nat} (h : k < n) : ex (oneE n k) k = 1 ∧ ∀ j, j ≠ k → ex (oneE n k) j = 0 := by
  refine ⟨by simp [ex, oneE, h], fun j hj => ?_⟩
  unfold ex oneE
  rw [List.getElem?_set_ne (Ne.symm hj)]
  by_cases hjn : j < n
  · simp [hjn]
  · simp [List.getElem?_eq_none (show (List.replicate n (0 : Int)).length ≤ j by simp; omega)]
theorem evM_one (U : Nat → α) {d k : Nat} (h : k < d) : evM d U [(1, oneE d k)] = U k := by
  rw [evM_cons, evM_nil, add0, omul]
  exact mon_one U (ex_one h).1 (ex_one h).2 h
theorem pwr_of (c : Int) : ∀ n, pwr (ofI c : α) n = ofI (pwr c n)
  | 0 => rfl
  | n + 1 => by rw [pwr, pwr_of c n, pwr, ← ofMul]
theorem mon_of (U : Nat → Int) (e : Nat → Nat) : ∀ d, mon (fun k => (ofI (U k) : α)) e d = ofI (mon U e d)
  | 0 => rfl
  | d + 1 => by rw [mon, mon_of U e d, pwr_of, mon, ← ofMul]
theorem evM_of (U : Nat → Int) (d : Nat) : ∀ L : List Mon, evM d (fun k => (ofI (U k) : α)) L = ofI (evM d U L)
  | [] => rfl
  | m :: L => by
    rw [evM_cons, evM_of U d L, mon_of, evM_cons, ofAdd, ofMul]; rfl
end
theorem alN_repeat (f : List (List Mon)) (n k : Nat) : ∀ j, alN f n k j = Nat.repeat (alongL f) j [(1, oneE n k)]
  | 0 => rfl
  | j + 1 => by rw [alN, alN_repeat f n k j]; rfl
theorem FieldOk.lok {z : Int} {f : List (List Mon)} (hf : FieldOk z f) : ∀ F ∈ f, LOk f.length F := fun F hF m hm => ⟨(hf.wok F hF m hm).len, fun x hx => ((hf.wok F hF m hm).pw x hx).1⟩
theorem oneE_lok (n k : Nat) : LOk n [(1, oneE n k)] := fun m hm => by
  simp at hm; subst hm
  exact ⟨oneE_wok.len, fun x hx => (oneE_wok (n := n) (k := k).pw x hx).1⟩
theorem inv_6 : ∀ n : Nat, n < 6 → ((n + 1 : Nat) : Int) * pw ((n : Int) + 1) 10005 % 10007 = 1 := by
  have h : ∀ n ∈ List.range 6, ((n + 1 : Nat) : Int) * pw ((n : Int) + 1) 10005 % 10007 = 1 := by decide +kernel
  exact fun n hn => h n (by simpa using hn)
def ift : Nat → Int
  | 0 => 1
  | n + 1 => ift n * pw ((n : Int) + 1) 10005
theorem ift_fct : ∀ n : Nat, n ≤ 6 → ift n * fct n % 10007 = 1
  | 0, _ => by decide
  | n + 1, h => by
    have h1 := ift_fct n (by omega)
    have h2 := inv_6 n (by omega)
    have e : ift (n + 1) * fct (n + 1) = (ift n * fct n) * (((n + 1 : Nat) : Int) * pw ((n : Int) + 1) 10005) := by
      rw [ift, fct, show ((n + 1 : Nat) : Int) = (n : Int) + 1 by omega]
      generalize pw ((n : Int) + 1) 10005 = w
      ac_rfl
    rw [e, Int.mul_emod, h1, h2]; rfl
theorem floS_at {f : List (List Mon)} {y : List Int} (n : Nat) {k : Nat} (hk : k < y.length) : (floS f y (n + 1))[k]?.getD [] = ((floS f y n)[k]?.getD []).set (n + 1) (((fdS (floS f y n) f)[k]?.getD [])[n]?.getD 0 * pw ((n : Int) + 1) 10005 % 10007) := by
  simp [floS, hk]
theorem floS_keep {f : List (List Mon)} {y : List Int} {k j : Nat} (hk : k < y.length) (n : Nat) (hj : j ≤ n) : ∀ m, ((floS f y (n + m))[k]?.getD [])[j]?.getD 0 = ((floS f y n)[k]?.getD [])[j]?.getD 0
  | 0 => rfl
  | m + 1 => by
    rw [← Nat.add_assoc, floS_at (n + m) hk, List.getElem?_set_ne (by omega), floS_keep hk n hj m]
theorem floS_new {f : List (List Mon)} {y : List Int} {n k : Nat} (hy : Ns y) (hk : k < y.length) (hf : k < f.length) (hn : n < 6) : ((floS f y (n + 1))[k]?.getD [])[n + 1]?.getD 0 = (evS (floS f y n) (f[k]?.getD []))[n]?.getD 0 * pw ((n : Int) + 1) 10005 % 10007 := by
  have hr := (floS_row (f := f) hy n _ (memD [] (show k < (floS f y n).length by rw [floS_len]; exact hk))).1
  have e : (fdS (floS f y n) f)[k]?.getD [] = evS (floS f y n) (f[k]?.getD []) := by simp [fdS, hf]
  rw [floS_at n hk, e, List.getElem?_set_self (by omega)]; rfl
theorem floS_ode {z : Int} {f : List (List Mon)} {y : List Int} (hf : FieldOk z f) (hl : y.length = f.length) (hy : Ns y) : ∀ k, k < f.length → ∀ n, n < 6 → cgI.r (ofI ((n + 1 : Nat) : Int) * toU (floS f y 6) k (n + 1)) (evM f.length (toU (floS f y 6)) (f[k]?.getD []) n) := by
  intro k hk n hn
  have hky : k < y.length := by omega
  have e1 : toU (floS f y 6) k (n + 1) = (evS (floS f y n) (f[k]?.getD []))[n]?.getD 0 * pw ((n : Int) + 1) 10005 % 10007 := by
    rw [← floS_new hy hky hk hn]
    have := floS_keep (f := f) hky (n + 1) (Nat.le_refl _) (6 - (n + 1))
    rw [show n + 1 + (6 - (n + 1)) = 6 by omega] at this
    exact this
  have e2 : cgI.r ((evS (floS f y n) (f[k]?.getD []))[n]?.getD 0) (evM f.length (toU (floS f y 6)) (f[k]?.getD []) n) := by
    have h1 := evS_ser (floS f y n) (f[k]?.getD []) n (by omega)
    rw [floS_len, hl] at h1
    refine cgI.trans h1 ?_
    refine (cgS cgI (n + 1)).evM (U := toU (floS f y n)) (V := toU (floS f y 6)) (fun j hj i hi => ?_) (f[k]?.getD []) n (by omega)
    have := floS_keep (f := f) (show j < y.length by omega) n (show i ≤ n by omega) (6 - n)
    rw [show n + (6 - n) = 6 by omega] at this
    exact cgI.eq this.symm
  rw [e1]
  refine cgI.trans ?_ e2
  have h3 := inv_6 n hn
  generalize (evS (floS f y n) (f[k]?.getD []))[n]?.getD 0 = v at *
  generalize pw ((n : Int) + 1) 10005 = w at *
  show (((n + 1 : Nat) : Int) * (v * w % 10007)) % 10007 = v % 10007
  have e : ((n + 1 : Nat) : Int) * (v * w) = v * (((n + 1 : Nat) : Int) * w) := by ac_rfl
  rw [Int.mul_emod, Int.emod_emod_of_dvd _ (Int.dvd_refl _), ← Int.mul_emod, e, Int.mul_emod, h3, Int.mul_one, Int.emod_emod_of_dvd _ (Int.dvd_refl _)]
theorem poS_at {y : List Int} {k : Nat} (hk : k < y.length) : (poS y)[k]?.getD [] = unS (y[k]?.getD 0) := by simp [poS, hk]
theorem floS_is {z : Int} {f : List (List Mon)} {y : List Int} (hf : FieldOk z f) (hl : y.length = f.length) (hy : Ns y) {k n : Nat} (hk : k < f.length) (hn : n ≤ 6) :
    cgI.r (fct n * ((floS f y 6)[k]?.getD [])[n]?.getD 0) (evM f.length (fun k => y[k]?.getD 0) (alN f f.length k n)) := by
  have h := flow_is cgI (d := f.length) (N := 6) (U := toU (floS f y 6)) rfl hf.lok (floS_ode hf hl hy) n [(1, oneE f.length k)] hn (oneE_lok _ _)
  rw [evM_one _ hk, ← alN_repeat] at h
  refine cgI.trans h (cgI.evM (fun j hj => cgI.eq ?_) _)
  have := floS_keep (f := f) (show j < y.length by omega) 0 (Nat.le_refl 0) 6
  rw [Nat.zero_add] at this
  show ((floS f y 6)[j]?.getD [])[0]?.getD 0 = y[j]?.getD 0
  rw [this, floS, poS_at (by omega)]; rfl
theorem rakS_at {a : List Int} {k : Int} {n : Nat} (hn : n < a.length) : (rakS a k)[n]?.getD 0 = if n = 0 then 0 else a[n - 1]?.getD 0 * k % 10007 := tb_get _ hn
theorem raiN_at {a : List Int} (ha : a.length = 7) : ∀ t n, n < 7 → cgI.r ((raiN a t)[n]?.getD 0) (if t ≤ n then ift t * a[n - t]?.getD 0 else 0)
  | 0, n, hn => cgI.eq (by simp [raiN, ift])
  | t + 1, n, hn => by
    rw [raiN, rakS_at (by rw [raiN_len, ha]; exact hn)]
    by_cases h0 : n = 0
    · subst h0; exact cgI.eq (by simp)
    · have ih := raiN_at ha t (n - 1) (by omega)
      rw [if_neg h0]
      by_cases ht : t + 1 ≤ n
      · rw [if_pos (by omega)] at ih
        rw [if_pos ht, ift, show n - (t + 1) = n - 1 - t by omega]
        have e : ift t * pw ((t : Int) + 1) 10005 * a[n - 1 - t]?.getD 0 = ift t * a[n - 1 - t]?.getD 0 * pw ((t : Int) + 1) 10005 := by generalize pw ((t : Int) + 1) 10005 = w; ac_rfl
        rw [e]
        refine cgI.trans (b := (raiN a t)[n - 1]?.getD 0 * pw ((t : Int) + 1) 10005) ?_ (cgI.mul ih (cgI.refl _))
        exact Int.emod_emod_of_dvd _ (Int.dvd_refl _)
      · rw [if_neg (by omega)] at ih
        rw [if_neg ht]
        refine cgI.trans (b := (raiN a t)[n - 1]?.getD 0 * pw ((t : Int) + 1) 10005) (Int.emod_emod_of_dvd _ (Int.dvd_refl _)) ?_
        refine cgI.trans (cgI.mul ih (cgI.refl _)) (cgI.eq (Int.zero_mul _))
def gT (f : List (List Mon)) (P : List (List Int)) (k m t : Nat) : Int := if t ≤ m then ift t * (evS P (alN f f.length k t))[m - t]?.getD 0 else 0
theorem flsS_at {f : List (List Mon)} {P : List (List Int)} {k m : Nat} (hk : k < P.length) (hP : P.length = f.length) (hm : m < 7) : ∀ n, cgI.r (((flsS f P n)[k]?.getD [])[m]?.getD 0) (sT (gT f P k m) (n + 1))
  | 0 => by
    have h := evS_ser P (alN f f.length k 0) m hm
    rw [hP, alN, evM_one _ (by omega)] at h
    show cgI.r ((P[k]?.getD [])[m]?.getD 0) (ofI 0 + gT f P k m 0)
    rw [zadd]
    unfold gT
    rw [if_pos (by omega), ift, Int.one_mul, Nat.sub_zero]
    exact cgI.symm h
  | n + 1 => by
    rw [sT]
    have e : (flsS f P (n + 1))[k]?.getD [] = tb (fun m => (((flsS f P n)[k]?.getD [])[m]?.getD 0 + (raiN (evS P (alN f f.length k (n + 1))) (n + 1))[m]?.getD 0) % 10007) 7 := by simp [flsS, hk]
    rw [e, tb_get _ hm]
    refine cgI.trans (Int.emod_emod_of_dvd _ (Int.dvd_refl _)) ?_
    exact cgI.add (flsS_at hk hP hm n) (raiN_at (evS_len _ _) (n + 1) m hm)
theorem sT_only (g : Nat → Int) (m : Nat) : ∀ n, m < n → (∀ t, t ≠ m → g t % 10007 = 0) → cgI.r (sT g n) (g m)
  | 0, h, _ => by omega
  | n + 1, h, hz => by
    have zero : ∀ j, (∀ t, t < j → g t % 10007 = 0) → cgI.r (sT g j) 0 := by
      intro j
      induction j with
      | zero => intro _; exact cgI.refl _
      | succ j ih =>
        intro hj
        exact cgI.trans (cgI.add (ih (fun t ht => hj t (by omega))) (show cgI.r (g j) 0 from hj j (by omega))) (cgI.eq (Int.add_zero _))
    rw [sT]
    by_cases e : m = n
    · subst e
      exact cgI.trans (cgI.add (zero m (fun t ht => hz t (by omega))) (cgI.refl _)) (cgI.eq (Int.zero_add _))
    · have h0 : cgI.r (g n) 0 := hz n (fun x => e x.symm)
      exact cgI.trans (cgI.add (sT_only g m n (by omega) hz) h0) (cgI.eq (Int.add_zero _))
theorem evS_point {y : List Int} (p : List Mon) {j : Nat} (hj : j < 7) : cgI.r ((evS (poS y) p)[j]?.getD 0) (if j = 0 then evM y.length (fun k => y[k]?.getD 0) p else 0) := by
  have h := evS_ser (poS y) p j hj
  rw [poS_len] at h
  refine cgI.trans h ?_
  have e : c7.r (evM y.length (toU (poS y)) p) (evM y.length (fun k => (ofI (y[k]?.getD 0) : Ser Int)) p) := c7.evM (fun k hk => c7.eq (by
    show toS ((poS y)[k]?.getD []) = _
    rw [poS_at hk, unS_ser])) p
  refine cgI.trans (e j hj) (cgI.eq ?_)
  rw [evM_of]; rfl
theorem flows_agree {z : Int} {f : List (List Mon)} {y : List Int} (hf : FieldOk z f) (hl : y.length = f.length) (hy : Ns y) : floS f y 6 = flsS f (poS y) 6 := by
  refine List.ext_getElem (by simp) fun k h1 h2 => ?_
  have hk : k < y.length := by simpa using h1
  have r1 := floS_row (f := f) hy 6 _ (memD [] h1)
  have r2 := flsS_row (f := f) (poS_row hy) 6 _ (memD [] h2)
  have e1 : (floS f y 6)[k]?.getD [] = (floS f y 6)[k] := by rw [List.getElem?_eq_getElem h1]; rfl
  have e2 : (flsS f (poS y) 6)[k]?.getD [] = (flsS f (poS y) 6)[k] := by rw [List.getElem?_eq_getElem h2]; rfl
  rw [← e1, ← e2]
  refine List.ext_getElem (by rw [r1.1, r2.1]) fun m m1 m2 => ?_
  have hm : m < 7 := by rw [r1.1] at m1; exact m1
  have a1 := floS_is hf hl hy (k := k) (n := m) (by omega) (by omega)
  have a2 := flsS_at (f := f) (P := poS y) (k := k) (m := m) (by simp; exact hk) (by simp; exact hl) hm 6
  have a3 : cgI.r (sT (gT f (poS y) k m) 7) (gT f (poS y) k m m) := sT_only _ m 7 (by omega) (fun t ht => by
    unfold gT
    split
    · have h := evS_point (y := y) (alN f f.length k t) (j := m - t) (by omega)
      rw [if_neg (by omega)] at h
      have h : (evS (poS y) (alN f f.length k t))[m - t]?.getD 0 % 10007 = 0 := h
      rw [Int.mul_emod, h]; simp
    · rfl)
  have a4 : cgI.r (gT f (poS y) k m m) (ift m * evM f.length (fun k => y[k]?.getD 0) (alN f f.length k m)) := by
    unfold gT
    rw [if_pos (Nat.le_refl _), Nat.sub_self]
    have h := evS_point (y := y) (alN f f.length k m) (j := 0) (by omega)
    rw [if_pos rfl, hl] at h
    exact cgI.mul (cgI.refl _) h
  have a5 : cgI.r (((floS f y 6)[k]?.getD [])[m]?.getD 0) (ift m * evM f.length (fun k => y[k]?.getD 0) (alN f f.length k m)) := by
    refine cgI.trans ?_ (cgI.mul (cgI.refl (ift m)) a1)
    have h := ift_fct m (by omega)
    generalize ((floS f y 6)[k]?.getD [])[m]?.getD 0 = x
    show x % 10007 = (ift m * (fct m * x)) % 10007
    rw [← Int.mul_assoc, Int.mul_emod, h, Int.one_mul, Int.emod_emod_of_dvd _ (Int.dvd_refl _)]
  have a6 : ((floS f y 6)[k]?.getD [])[m]?.getD 0 % 10007 = ((flsS f (poS y) 6)[k]?.getD [])[m]?.getD 0 % 10007 := cgI.trans a5 (cgI.symm (cgI.trans a2 (cgI.trans a3 a4)))
  have n1 := r1.2.get m
  have n2 := r2.2.get m
  obtain ⟨x0, x1⟩ := n1
  obtain ⟨x2, x3⟩ := n2
  have a7 : ((floS f y 6)[k]?.getD [])[m]?.getD 0 = ((flsS f (poS y) 6)[k]?.getD [])[m]?.getD 0 := by omega
  rw [List.getElem?_eq_getElem m1, List.getElem?_eq_getElem m2] at a7
  exact a7
end Go.Proofs.Ytmojbncbbnjblaa


namespace Go.Proofs.Ytmojbncbbnjblaa
open Go.Abs CR
set_option linter.unusedVariables false
set_option linter.unusedSimpArgs false
set_option maxHeartbeats 1000000
theorem bin_two : ∀ m, m < 7 → decide ((sT (fun t => if t ≤ m then ift t * ift (m - t) * fct m else 0) 7) % 10007 = 2 ^ m % 10007) = true := by decide +kernel
theorem repeat_add {α : Type} (A : α → α) (x : α) (t : Nat) : ∀ j, Nat.repeat A j (Nat.repeat A t x) = Nat.repeat A (t + j) x
  | 0 => rfl
  | j + 1 => by show A (Nat.repeat A j (Nat.repeat A t x)) = A (Nat.repeat A (t + j) x); rw [repeat_add A x t j]
theorem alN_lok {z : Int} {f : List (List Mon)} (hf : FieldOk z f) (k : Nat) : ∀ t, LOk f.length (alN f f.length k t)
  | 0 => oneE_lok _ _
  | t + 1 => alongL_lok (alN_lok hf k t) hf.lok (by omega)
theorem flow_twice {z : Int} {f : List (List Mon)} {y : List Int} (hf : FieldOk z f) (hl : y.length = f.length) (hy : Ns y) {k m : Nat} (hk : k < f.length) (hm : m < 7) :
    cgI.r (((flsS f (floS f y 6) 6)[k]?.getD [])[m]?.getD 0) (2 ^ m * ((floS f y 6)[k]?.getD [])[m]?.getD 0) := by
  have a2 := flsS_at (f := f) (P := floS f y 6) (k := k) (m := m) (by simp; omega) (by simp; omega) hm 6
  have ode := floS_ode hf hl hy
  have base : cgI.r (fct m * ((floS f y 6)[k]?.getD [])[m]?.getD 0) (evM f.length (fun k => toU (floS f y 6) k 0) (alN f f.length k m)) := by
    have h := flow_is cgI (d := f.length) (N := 6) (U := toU (floS f y 6)) rfl hf.lok ode m [(1, oneE f.length k)] (by omega) (oneE_lok _ _)
    rw [evM_one _ hk, ← alN_repeat] at h
    exact h
  have term : ∀ t, t < 7 → cgI.r (gT f (floS f y 6) k m t) ((if t ≤ m then ift t * ift (m - t) * fct m else 0) * ((floS f y 6)[k]?.getD [])[m]?.getD 0) := fun t ht => by
    unfold gT
    by_cases htm : t ≤ m
    · rw [if_pos htm, if_pos htm]
      have h1 := evS_ser (floS f y 6) (alN f f.length k t) (m - t) (by omega)
      rw [floS_len, hl] at h1
      have h2 := flow_is cgI (d := f.length) (N := 6) (U := toU (floS f y 6)) rfl hf.lok ode (m - t) (alN f f.length k t) (by omega) (alN_lok hf k t)
      rw [alN_repeat f f.length k t, repeat_add, ← alN_repeat, show t + (m - t) = m by omega, ← alN_repeat] at h2
      have h3 : cgI.r (fct (m - t) * (evS (floS f y 6) (alN f f.length k t))[m - t]?.getD 0) (fct m * ((floS f y 6)[k]?.getD [])[m]?.getD 0) := cgI.trans (cgI.mul (cgI.refl _) h1) (cgI.trans h2 (cgI.symm base))
      have h4 := ift_fct (m - t) (by omega)
      generalize (evS (floS f y 6) (alN f f.length k t))[m - t]?.getD 0 = e at *
      generalize ((floS f y 6)[k]?.getD [])[m]?.getD 0 = p at *
      have h5 : cgI.r (ift t * e) (ift t * (ift (m - t) * (fct (m - t) * e))) := cgI.mul (cgI.refl _) (by
        have : ift (m - t) * (fct (m - t) * e) = (ift (m - t) * fct (m - t)) * e := (Int.mul_assoc _ _ _).symm
        rw [this]
        exact cgI.trans (cgI.eq (Int.one_mul e).symm) (cgI.mul (show cgI.r 1 (ift (m - t) * fct (m - t)) from h4.symm) (cgI.refl _)))
      refine cgI.trans h5 (cgI.trans (cgI.mul (cgI.refl _) (cgI.mul (cgI.refl _) h3)) (cgI.eq ?_))
      show ift t * (ift (m - t) * (fct m * p)) = ift t * ift (m - t) * fct m * p
      simp only [Int.mul_assoc]
    · rw [if_neg htm, if_neg htm]
      exact cgI.eq (Int.zero_mul _).symm
  refine cgI.trans a2 (cgI.trans (cgI.sT (fun t ht => term t ht)) ?_)
  have hs : ∀ (g : Nat → Int) (p : Int) (n : Nat), sT (fun t => g t * p) n = sT g n * p := fun g p n => by
    induction n with
    | zero => exact (Int.zero_mul p).symm
    | succ n ih => rw [sT, sT, ih]; exact (Int.add_mul _ _ _).symm
  rw [hs]
  have hb : (sT (fun t => if t ≤ m then ift t * ift (m - t) * fct m else 0) 7) % 10007 = 2 ^ m % 10007 := of_decide_eq_true (bin_two m hm)
  exact cgI.mul hb (cgI.refl _)
end Go.Proofs.Ytmojbncbbnjblaa


namespace Go.Proofs.Ytmojbncbbnjblaa
open Go.Abs
set_option linter.unusedVariables false
set_option linter.unusedSimpArgs false
set_option maxHeartbeats 2000000
theorem oprt_one (p : List Mon) : oprt [p] = [.own 137 p.length (omons p)] := rfl
theorem trS_step {f : List (List Mon)} {i : Nat} (h : i < f.length) : oprt ((trS f 0 0).take (i + 1)) = oprt ((trS f 0 0).take i) ++ [.own 137 1 [.int 1, .own 2 f.length (avs (oneE f.length i))]] := by
  have hx : i < (trS f 0 0).length := by rw [trS_len]; exact h
  rw [List.take_add_one, List.getElem?_eq_getElem hx, Option.toList_some, oprt_app]
  have : (trS f 0 0)[i] = [(1, oneE f.length i)] := by simp [trS, alN]
  rw [this, oprt_one, omons_one]; simp
set_option maxRecDepth 100000 in
theorem l14Flow_c {z : Int} (f : List (List Mon)) (start : List (List Int)) (hf : FieldOk z f) (hs : Small f) (h7 : start.length = 7) (hr : ∀ r ∈ start, (r.length : Int) = z ∧ Ns r) :
    Con Try.prog 57 [.agg [.int z, .sl f.length (prt f)], .sl start.length (mat start)] (.own 27 7 (omat (turnS (flsS f (turnS start) 6)))) := by
  have fl := hs.1
  have z3 := hf.hi
  have z1 := hf.lo
  have fz := hf.len
  have h0 := memD (i := 0) [] (l := start) (by omega)
  have hz := (hr _ h0).1
  have tl : (turnS start).length = f.length := by have := turnS_len start; omega
  have tr : ∀ r ∈ turnS start, r.length = 7 ∧ Ns r := turnS_row h7 (fun r h => (hr r h).2)
  have cT := l14Turn_c start (by omega) (by omega) (fun r h => by have := (hr r h).1; omega) (by omega)
  generalize turnS start = P at *
  have cO := l01Own2_c P (by omega) (fun r hr => by have := (tr r hr).1; omega)
  have sr := flsS_row (f := f) tr 6
  have sl := flsS_len f P 6
  have s0 := memD (i := 0) [] (l := flsS f P 6) (by omega)
  have s7 := (sr _ s0).1
  have cE := l14Turn_c (flsS f P 6) (by omega) (by omega) (fun r h => by have := (sr r h).1; omega) (by omega)
  rw [turnS_len, s7, sl, tl] at cE
  rw [tl] at cT cO
  obtain ⟨n, rfl⟩ : ∃ n : Nat, z = n := ⟨z.toNat, by omega⟩
  have fn : f.length = n := by omega
  refine con_of_vc Try.mixed ⟨13, [], [], []⟩ Try.func57 (by decide) rfl (by simp) (by decide) (by simp [freshOK, freshL, go_sem]) ?_
  rw [Try.ntmps57]
  simp [go_sem]
  refine CallVC.of (cT) (by decide) ?_
  simp [go_sem]
  refine loop_inv (6 :: 7 :: List.range' 16 15) (fun i : Nat => [(6, .own 129 i (oprt ((trS f 0 0).take i))), (7, .int i)]) (fun i => i ≤ f.length) (fun i => f.length - i) 0 (by simp) (by simp [go_sem, oprt]) (by simp [go_sem]) ?_
  intro i hi
  simp [go_sem]
  refine ⟨fun h => ?_, fun h => ?_⟩ <;> simp at h
  · have hif : i < f.length := by omega
    have ht := trS_step hif
    have c1 := l13One_c n i (by omega) (by omega)
    rw [fn] at ht
    simp [go_sem]
    refine CallVC.of (c1) (by decide) ?_
    simp [go_sem]
    exact ⟨⟨by omega, by omega⟩, by omega, i + 1, by omega, by omega, Off_reset _ _ _ (by simp), by rw [ht]; exact ⟨rfl, rfl⟩, by omega⟩
  · have e : i = f.length := by omega
    have tt : (trS f 0 0).take f.length = trS f 0 0 := List.take_of_length_le (by simp)
    subst e
    rw [tt]
    simp [go_sem]
    refine CallVC.of (cO) (by decide) ?_
    simp [go_sem]
    refine loop_inv (6 :: 8 :: 9 :: 10 :: 11 :: 12 :: List.range' 33 43) (fun k : Nat => [(6, .own 129 f.length (oprt (trS f k 0))), (8, .own 27 f.length (omat (flsS f P k))), (9, .int ((k + 1 : Nat) : Int))]) (fun k => k ≤ 6) (fun k => 7 - k) 0 (by simp) (by simp [go_sem, flsS]) (by simp [go_sem]) ?_
    intro k hk
    simp [go_sem]
    refine ⟨fun h => ?_, fun h => ?_⟩ <;> simp at h
    · simp [go_sem]
      refine loop_inv (6 :: 8 :: 10 :: 11 :: 12 :: List.range' 37 39) (fun i : Nat => [(6, .own 129 f.length (oprt (trS f k i))), (8, .own 27 f.length (omat (mxS (flsS f P k) (flsS f P (k + 1)) i))), (10, .int i)]) (fun i => i ≤ f.length) (fun i => f.length - i) 0 (by simp) (by simp [go_sem, mxS_zero]) (by simp [go_sem]) ?_
      intro i hi
      simp [go_sem]
      refine ⟨fun h => ?_, fun h => ?_⟩ <;> simp at h
      · have hif : i < f.length := by omega
        have hT : i < (trS f k i).length := by rw [trS_len]; exact hif
        have gT := oprt_get hT
        rw [trS_get hif] at gT
        have sT := oprt_set (trS f k i) i (alN f f.length i (k + 1))
        rw [trS_set hif] at sT
        have hT2 : i < (trS f k (i + 1)).length := by rw [trS_len]; exact hif
        have gT2 := oprt_get hT2
        have gE : (trS f k (i + 1))[i]?.getD [] = alN f f.length i (k + 1) := by simp [trS, hif]
        rw [gE] at gT2
        have w0 := alN_wok hf i k
        have w1 := alN_wok hf i (k + 1)
        have l0 := alN_small hf f.length i (j := k) (by omega)
        have l1 := alN_small6 hf f.length i (j := k + 1) (by omega)
        have cA := l13Along2_c f (alN f f.length i k) hf hs (fun F hF => part20 z3 (hf.part F hF)) (by omega) (by omega) w0 (by omega)
        have cV := l14ValueG_c (p := alN f f.length i (k + 1)) (L := P) (fun m hm => ⟨(w1 m hm).num, by rw [tl]; exact (w1 m hm).len, fun t => by
          have := (w1 m hm).get (by omega) t
          exact ⟨this.1, by omega⟩⟩) (by omega) (by omega) tr
        rw [tl] at cV
        have hdef : alN f f.length i (k + 1) = alongL f (alN f f.length i k) := rfl
        rw [← hdef] at cA
        have hM : i < (mxS (flsS f P k) (flsS f P (k + 1)) i).length := by rw [mxS_len, flsS_len]; omega
        have hi2 : i < (flsS f P k).length := by rw [flsS_len]; omega
        have hg := omat_get hM
        rw [mxS_get hi2] at hg
        have fr := flsS_row (f := f) tr k _ (memD [] hi2)
        have hset := omat_set (mxS (flsS f P k) (flsS f P (k + 1)) i) i ((flsS f P (k + 1))[i]?.getD [])
        rw [mxS_set hi2] at hset
        have hnext : (flsS f P (k + 1))[i]?.getD [] = tb (fun m => (((flsS f P k)[i]?.getD [])[m]?.getD 0 + (raiN (evS P (alN f f.length i (k + 1))) (k + 1))[m]?.getD 0) % 10007) 7 := by simp [flsS, show i < P.length by omega]
        have eN := evS_N P (alN f f.length i (k + 1))
        have el := evS_len P (alN f f.length i (k + 1))
        generalize trS f k i = T at *
        generalize eT2 : trS f k (i + 1) = T2 at *
        generalize mxS (flsS f P k) (flsS f P (k + 1)) i = M at *
        generalize eM2 : mxS (flsS f P k) (flsS f P (k + 1)) (i + 1) = M2 at *
        generalize (flsS f P (k + 1))[i]?.getD [] = new at *
        generalize (flsS f P k)[i]?.getD [] = old at *
        generalize evS P (alN f f.length i (k + 1)) = ev at *
        generalize alN f f.length i (k + 1) = a1 at *
        generalize alN f f.length i k = a0 at *
        simp [go_sem, gT]
        refine ⟨by kernel_rfl, hif, ?_⟩
        refine CallD.of (cA) (by simp [roots, rootsL]) (by decide) ?_
        simp [go_sem]
        refine ⟨hif, hT, ?_⟩
        refine ⟨by kernel_rfl, ?_⟩
        simp [go_sem]
        rw [sT]
        simp [go_sem, gT2]
        refine ⟨hif, ?_⟩
        refine CallVC.of (cV) (by decide) ?_
        simp [go_sem]
        refine loop_inv (11 :: 12 :: List.range' 58 9) (fun j : Nat => [(11, .own 2 7 (avs (raiN ev j))), (12, .int ((j + 1 : Nat) : Int))]) (fun j => j ≤ k + 1) (fun j => k + 1 - j) 0 (by simp) (by simp [go_sem, raiN]) (by simp [go_sem]) ?_
        intro j hj
        simp [go_sem]
        refine ⟨fun h => ?_, fun h => ?_⟩ <;> simp at h
        · have cR := l14Raise_c (raiN ev j) (pw ((j : Int) + 1) 10005) (raiN_N eN j) (isN_mod _) (by rw [raiN_len]; omega) (by rw [raiN_len]; omega)
          rw [raiN_len, el] at cR
          simp [go_sem]
          refine CallVC.of (l01Inv_c _ ⟨by omega, by omega⟩) (by decide) ?_
          simp [go_sem]
          refine CallVC.of (cR) (by decide) ?_
          simp [go_sem]
          exact ⟨⟨by omega, by omega⟩, j + 1, by omega, by omega, Off_reset _ _ _ (by simp), rfl, by omega⟩
        · have e : j = k + 1 := by omega
          subst e
          have cS := l02Add_c old (raiN ev (k + 1)) fr.2 (raiN_N eN _) (by omega) (by rw [raiN_len]; omega)
          have hnext2 : new = tb (fun m => (old[m]?.getD 0 + (raiN ev (k + 1))[m]?.getD 0) % 10007) old.length := by rw [fr.1]; exact hnext
          rw [raiN_len, el, ← hnext2] at cS
          have nl : new.length = old.length := by rw [hnext2]; simp
          rw [nl] at hset
          simp [go_sem, hg]
          refine ⟨hif, ?_⟩
          refine CallVC.of (cS) (by decide) ?_
          simp [go_sem]
          refine ⟨hif, hM, by omega, i + 1, by omega, by omega, (Off.reset (by intro x hx; simp at hx ⊢; omega) (by simp) (by simp [go_sem, Off_reset])), ?_⟩
          rw [eT2, eM2, ← hset]
          exact ⟨rfl, rfl, by omega⟩
      · have e : i = f.length := by omega
        have hall := mxS_all (A := flsS f P k) (C := flsS f P (k + 1)) (by rw [flsS_len, flsS_len])
        rw [flsS_len, tl] at hall
        have tall := trS_all f k
        subst e
        simp [go_sem]
        exact ⟨by omega, k + 1, by omega, by omega, (Off.reset (by intro x hx; simp at hx ⊢; omega) (by simp) (by simp [go_sem, Off_reset])), by rw [tall], by rw [hall], by omega⟩
    · have e : k = 6 := by omega
      subst e
      simp [go_sem]
      refine CallVC.of (cE) (by decide) ?_
      simp [go_sem]
end Go.Proofs.Ytmojbncbbnjblaa


namespace Go.Proofs.Ytmojbncbbnjblaa
open Go.Abs
set_option linter.unusedVariables false
set_option linter.unusedSimpArgs false
set_option maxHeartbeats 1000000
def fpE (z : Int) (f : List (List Mon)) (y : List Int) : Int := if fieldB z f = true then if vecB z y = true then 0 else 2 else 1
theorem fpE_ok {z : Int} {f : List (List Mon)} {y : List Int} (h : fpE z f y = 0) : FieldOk z f ∧ (y.length : Int) = z ∧ Ns y := by
  unfold fpE at h
  split at h
  · rename_i hF
    split at h
    · rename_i hV
      unfold vecB at hV
      simp only [Bool.and_eq_true, decide_eq_true_eq] at hV
      exact ⟨fieldB_iff.1 hF, hV.1, numsB_N.1 hV.2⟩
    · simp at h
  · simp at h
theorem chk_one (z : Int) (f : List (List Mon)) (y : List Int) : chk z f [y] = fpE z f y := by
  unfold chk fpE
  cases hV : vecB z y <;> simp [hV]
def fsX (z : Int) (f : List (List Mon)) (y : List Int) : List (List Int) := if fpE z f y = 0 then turnS (floS f y 6) else []
def fsR (z : Int) (f : List (List Mon)) (y : List Int) : AV := .tup [.own 27 (fsX z f y).length (omat (fsX z f y)), .int (fpE z f y)]
theorem flo_turn {f : List (List Mon)} {y : List Int} (y1 : 1 ≤ y.length) (hy : Ns y) (n : Nat) : (turnS (floS f y n)).length = 7 ∧ ∀ r ∈ turnS (floS f y n), r.length = y.length ∧ Ns r := by
  have sr := floS_row (f := f) hy n
  have s0 := memD (i := 0) [] (l := floS f y n) (by rw [floS_len]; omega)
  refine ⟨by rw [turnS_len, (sr _ s0).1], fun r h => ?_⟩
  have := turnS_row rfl (fun r h => (sr r h).2) r h
  rw [floS_len] at this
  exact this
theorem fsX_row {z : Int} {f : List (List Mon)} {y : List Int} (h : fpE z f y = 0) : (fsX z f y).length = 7 ∧ ∀ r ∈ fsX z f y, r.length = y.length ∧ Ns r := by
  obtain ⟨hF, hl, hN⟩ := fpE_ok h
  have z1 := hF.lo
  unfold fsX
  rw [if_pos h]
  exact flo_turn (by omega) hN 6
theorem fsX_ok (z : Int) (f : List (List Mon)) (y : List Int) : (fsX z f y).length ≤ 7 ∧ ∀ r ∈ fsX z f y, r.length ≤ 3 := by
  by_cases h : fpE z f y = 0
  · obtain ⟨hF, hl, hN⟩ := fpE_ok h
    have z3 := hF.hi
    obtain ⟨e1, e2⟩ := fsX_row h
    exact ⟨by omega, fun r hr => by have := (e2 r hr).1; omega⟩
  · unfold fsX
    rw [if_neg h]
    simp
set_option maxRecDepth 100000 in
theorem FlowSeries_c (z : Int) (f : List (List Mon)) (y : List Int) (hs : Small f) (hy : y.length ≤ 1048576) :
    Con Try.prog 10 [.agg [.int z, .sl f.length (prt f)], .sl y.length (avs y)] (fsR z f y) := by
  have cK := checkVectors_c z f [y] hs (by simp) (by simp; omega)
  have e1 : mat [y] = [.sl y.length (avs y)] := rfl
  have e2 : ([y] : List (List Int)).length = 1 := rfl
  rw [e1, e2, chk_one] at cK
  unfold fsR fsX
  have hz := @fpE_ok z f y
  generalize fpE z f y = e at *
  by_cases he : e = 0
  · subst he
    obtain ⟨hF, hl, hN⟩ := hz rfl
    have z1 := hF.lo
    have z3 := hF.hi
    have zl := hF.len
    have cP := polynomials_c z f hF hs
    have cL := flow_c f y hF hs hl hN
    obtain ⟨t1, t2⟩ := flo_turn (f := f) (by omega) hN 6
    have sl := floS_len f y 6
    have sr := floS_row (f := f) hN 6
    have s0 := memD (i := 0) [] (l := floS f y 6) (by omega)
    have s7 := (sr _ s0).1
    have cE := turned_c (floS f y 6) (by omega) (by omega) (fun r h => by have := (sr r h).1; omega) (by omega)
    rw [sl] at cE
    rw [if_pos rfl]
    generalize turnS (floS f y 6) = X at *
    generalize floS f y 6 = E at *
    refine con_of_vc Try.mixed ⟨7, [], [], []⟩ Try.func10 (by decide) rfl (by simp) (by decide) (by simp [freshOK, freshL, go_sem]) ?_
    rw [Try.ntmps10]
    simp [go_sem]
    refine CallVC.of (cK) (by decide) ?_
    simp [go_sem]
    refine CallVC.of (cP) (by decide) ?_
    simp [go_sem]
    refine CallVC.of (cL) (by decide) ?_
    simp [go_sem]
    refine CallVC.of (cE) (by decide) ?_
    simp [go_sem]
  · rw [if_neg he]
    refine Con.n1 _ ?_
    refine con_of_vc Try.mixed ⟨7, [], [], []⟩ Try.func10 (by decide) rfl (by simp) (by decide) (by simp [freshOK, freshL, go_sem]) ?_
    rw [Try.ntmps10]
    simp [go_sem]
    refine CallVC.of (cK) (by decide) ?_
    simp [go_sem]
    simp [go_sem, he]
set_option maxRecDepth 100000 in
theorem specFlowSeries_c (z : Int) (f : List (List Mon)) (y : List Int) (hs : Small f) (hy : y.length ≤ 1048576) :
    Con Try.prog 11 [.agg [.int z, .sl f.length (prt f)], .sl y.length (avs y)] (fsR z f y) := by
  have cT := l13Is_c z f hs
  have cR := l13Point_c z y (by omega)
  have hvb : (decide ((y.length : Int) = z) && numsB y) = vecB z y := rfl
  rw [hvb] at cR
  unfold fsR fsX
  have hz := @fpE_ok z f y
  have hd : fpE z f y = if fieldB z f = true then if vecB z y = true then 0 else 2 else 1 := rfl
  generalize fpE z f y = e at *
  by_cases he : e = 0
  · subst he
    obtain ⟨hF, hl, hN⟩ := hz rfl
    have z1 := hF.lo
    have z3 := hF.hi
    have zl := hF.len
    have cU := l14Start_c y hy
    have cL := l14Flow_c f (stV y) hF hs (stV_len y) (fun r h => by rw [← hl]; have := stV_row hN r h; exact ⟨by omega, this.2⟩)
    rw [stV_len, turn_stV, ← flows_agree hF (by omega) hN] at cL
    obtain ⟨t1, t2⟩ := flo_turn (f := f) (by omega) hN 6
    rw [if_pos rfl, t1]
    generalize turnS (floS f y 6) = X at *
    generalize stV y = U at *
    cases hT : fieldB z f with
    | false => rw [hT] at hd; simp at hd
    | true =>
      cases hV : vecB z y with
      | false => rw [hT, hV] at hd; simp at hd
      | true =>
        rw [hT] at cT
        rw [hV] at cR
        refine con_of_vc Try.mixed ⟨6, [], [], []⟩ Try.func11 (by decide) rfl (by simp) (by decide) (by simp [freshOK, freshL, go_sem]) ?_
        rw [Try.ntmps11]
        simp [go_sem]
        refine CallVC.of (cT) (by decide) ?_
        simp [go_sem]
        refine CallVC.of (cR) (by decide) ?_
        simp [go_sem]
        refine ⟨by kernel_rfl, ?_⟩
        refine CallD.of (cU) (by simp [roots, rootsL]) (by decide) ?_
        simp [go_sem]
        refine CallD.of (cL) (by simp [roots, rootsL]) (by decide) ?_
        simp [go_sem]
        refine ⟨by kernel_rfl, ?_⟩
        simp [go_sem]
  · rw [if_neg he]
    refine Con.n1 _ ?_
    clear hz
    cases hT : fieldB z f with
    | false =>
      rw [hT] at hd cT
      simp at hd
      subst hd
      refine con_of_vc Try.mixed ⟨6, [], [], []⟩ Try.func11 (by decide) rfl (by simp) (by decide) (by simp [freshOK, freshL, go_sem]) ?_
      rw [Try.ntmps11]
      simp [go_sem]
      refine CallVC.of (cT) (by decide) ?_
      simp [go_sem]
    | true =>
      cases hV : vecB z y with
      | false =>
        rw [hT, hV] at hd
        rw [hT] at cT
        rw [hV] at cR
        simp at hd
        subst hd
        refine con_of_vc Try.mixed ⟨6, [], [], []⟩ Try.func11 (by decide) rfl (by simp) (by decide) (by simp [freshOK, freshL, go_sem]) ?_
        rw [Try.ntmps11]
        simp [go_sem]
        refine CallVC.of (cT) (by decide) ?_
        simp [go_sem]
        refine CallVC.of (cR) (by decide) ?_
        simp [go_sem]
      | true =>
        rw [hT, hV] at hd
        simp at hd
        exact absurd hd he
end Go.Proofs.Ytmojbncbbnjblaa


namespace Go.Proofs.Ytmojbncbbnjblaa
open Go.Abs
set_option linter.unusedVariables false
set_option linter.unusedSimpArgs false
set_option maxHeartbeats 1000000
abbrev zz7 : List Int := [0, 0, 0, 0, 0, 0, 0]
def newD (s : List Int) : List (List Int) := [s, zz7, zz7, zz7, zz7, zz7, zz7]
def nzC (n : Nat) : List AV := List.replicate n (.own 2 7 (avs zz7)) ++ List.replicate (7 - n) (.val (.slice none 0 0))
set_option maxRecDepth 100000 in
theorem newDouble0_c  : Con Try.prog 62 [.sl 0 []] (.agg (omat (newD zz7))) := by
  refine con_of_vc Try.mixed ⟨5, [], [], []⟩ Try.func62 (by decide) rfl (by simp) (by decide) (by simp [freshOK, freshL, go_sem]) ?_
  rw [Try.ntmps62]
  simp [go_sem]
  refine loop_inv (3 :: 4 :: List.range' 6 7) (fun n : Nat => [(3, .box 88 (nzC n)), (6, .int n)]) (fun n => n ≤ 7) (fun n => 7 - n) 0 (by simp) (by simp [go_sem, nzC]) (by simp [go_sem, nzC]) ?_
  intro n hn
  simp [go_sem]
  refine ⟨fun h => ?_, fun h => ?_⟩ <;> simp at h
  · have : n = 0 ∨ n = 1 ∨ n = 2 ∨ n = 3 ∨ n = 4 ∨ n = 5 ∨ n = 6 := by omega
    rcases this with rfl | rfl | rfl | rfl | rfl | rfl | rfl
    · simp [go_sem, nzC]
      exact ⟨1, by omega, by omega, Off_reset _ _ _ (by simp), rfl, rfl⟩
    · simp [go_sem, nzC]
      exact ⟨2, by omega, by omega, Off_reset _ _ _ (by simp), rfl, rfl⟩
    · simp [go_sem, nzC]
      exact ⟨3, by omega, by omega, Off_reset _ _ _ (by simp), rfl, rfl⟩
    · simp [go_sem, nzC]
      exact ⟨4, by omega, by omega, Off_reset _ _ _ (by simp), rfl, rfl⟩
    · simp [go_sem, nzC]
      exact ⟨5, by omega, by omega, Off_reset _ _ _ (by simp), rfl, rfl⟩
    · simp [go_sem, nzC]
      exact ⟨6, by omega, by omega, Off_reset _ _ _ (by simp), rfl, rfl⟩
    · simp [go_sem, nzC]
      exact ⟨7, by omega, by omega, Off_reset _ _ _ (by simp), rfl, rfl⟩
  · have e : n = 7 := by omega
    subst e
    simp [go_sem, nzC, setMany, avs]
    try rfl
set_option maxRecDepth 100000 in
theorem newDouble1_c (a : Int) : Con Try.prog 62 [.sl 1 [.int a]] (.agg (omat (newD [a, 0, 0, 0, 0, 0, 0]))) := by
  refine con_of_vc Try.mixed ⟨5, [], [], []⟩ Try.func62 (by decide) rfl (by simp) (by decide) (by simp [freshOK, freshL, go_sem]) ?_
  rw [Try.ntmps62]
  simp [go_sem]
  refine loop_inv (3 :: 4 :: List.range' 6 7) (fun n : Nat => [(3, .box 88 (nzC n)), (6, .int n)]) (fun n => n ≤ 7) (fun n => 7 - n) 0 (by simp) (by simp [go_sem, nzC]) (by simp [go_sem, nzC]) ?_
  intro n hn
  simp [go_sem]
  refine ⟨fun h => ?_, fun h => ?_⟩ <;> simp at h
  · have : n = 0 ∨ n = 1 ∨ n = 2 ∨ n = 3 ∨ n = 4 ∨ n = 5 ∨ n = 6 := by omega
    rcases this with rfl | rfl | rfl | rfl | rfl | rfl | rfl
    · simp [go_sem, nzC]
      exact ⟨1, by omega, by omega, Off_reset _ _ _ (by simp), rfl, rfl⟩
    · simp [go_sem, nzC]
      exact ⟨2, by omega, by omega, Off_reset _ _ _ (by simp), rfl, rfl⟩
    · simp [go_sem, nzC]
      exact ⟨3, by omega, by omega, Off_reset _ _ _ (by simp), rfl, rfl⟩
    · simp [go_sem, nzC]
      exact ⟨4, by omega, by omega, Off_reset _ _ _ (by simp), rfl, rfl⟩
    · simp [go_sem, nzC]
      exact ⟨5, by omega, by omega, Off_reset _ _ _ (by simp), rfl, rfl⟩
    · simp [go_sem, nzC]
      exact ⟨6, by omega, by omega, Off_reset _ _ _ (by simp), rfl, rfl⟩
    · simp [go_sem, nzC]
      exact ⟨7, by omega, by omega, Off_reset _ _ _ (by simp), rfl, rfl⟩
  · have e : n = 7 := by omega
    subst e
    simp [go_sem, nzC, setMany, avs]
    try rfl
set_option maxRecDepth 100000 in
theorem newDouble7_c (a b c d e f g : Int) : Con Try.prog 62 [.sl 7 [.int a, .int b, .int c, .int d, .int e, .int f, .int g]] (.agg (omat (newD [a, b, c, d, e, f, g]))) := by
  refine con_of_vc Try.mixed ⟨5, [], [], []⟩ Try.func62 (by decide) rfl (by simp) (by decide) (by simp [freshOK, freshL, go_sem]) ?_
  rw [Try.ntmps62]
  simp [go_sem]
  refine loop_inv (3 :: 4 :: List.range' 6 7) (fun n : Nat => [(3, .box 88 (nzC n)), (6, .int n)]) (fun n => n ≤ 7) (fun n => 7 - n) 0 (by simp) (by simp [go_sem, nzC]) (by simp [go_sem, nzC]) ?_
  intro n hn
  simp [go_sem]
  refine ⟨fun h => ?_, fun h => ?_⟩ <;> simp at h
  · have : n = 0 ∨ n = 1 ∨ n = 2 ∨ n = 3 ∨ n = 4 ∨ n = 5 ∨ n = 6 := by omega
    rcases this with rfl | rfl | rfl | rfl | rfl | rfl | rfl
    · simp [go_sem, nzC]
      exact ⟨1, by omega, by omega, Off_reset _ _ _ (by simp), rfl, rfl⟩
    · simp [go_sem, nzC]
      exact ⟨2, by omega, by omega, Off_reset _ _ _ (by simp), rfl, rfl⟩
    · simp [go_sem, nzC]
      exact ⟨3, by omega, by omega, Off_reset _ _ _ (by simp), rfl, rfl⟩
    · simp [go_sem, nzC]
      exact ⟨4, by omega, by omega, Off_reset _ _ _ (by simp), rfl, rfl⟩
    · simp [go_sem, nzC]
      exact ⟨5, by omega, by omega, Off_reset _ _ _ (by simp), rfl, rfl⟩
    · simp [go_sem, nzC]
      exact ⟨6, by omega, by omega, Off_reset _ _ _ (by simp), rfl, rfl⟩
    · simp [go_sem, nzC]
      exact ⟨7, by omega, by omega, Off_reset _ _ _ (by simp), rfl, rfl⟩
  · have e : n = 7 := by omega
    subst e
    simp [go_sem, nzC, setMany, avs]
    try rfl
theorem newDouble_c {s : List Int} (h : s.length = 7) : Con Try.prog 62 [.sl 7 (avs s)] (.agg (omat (newD s))) := by
  match s, h with
  | [a, b, c, d, e, f, g], _ => exact newDouble7_c a b c d e f g
end Go.Proofs.Ytmojbncbbnjblaa


namespace Go.Proofs.Ytmojbncbbnjblaa
open Go.Abs
set_option linter.unusedVariables false
set_option linter.unusedSimpArgs false
set_option maxHeartbeats 1000000
def Dbl (D : List (List Int)) : Prop := D.length = 7 ∧ ∀ r ∈ D, r.length = 7 ∧ Ns r
def tmI (O d e : List (List Int)) (n : Nat) : Nat → List (List Int)
  | 0 => O
  | k + 1 => (tmI O d e n k).set (n + k) (plusS ((tmI O d e n k)[n + k]?.getD []) (mulS (d[n]?.getD []) (e[k]?.getD [])) 1)
def tmO (d e : List (List Int)) : Nat → List (List Int)
  | 0 => newD zz7
  | n + 1 => tmI (tmO d e n) d e n (7 - n)
def mulD (d e : List (List Int)) : List (List Int) := tmO d e 7
theorem zz7_N : Ns zz7 := fun x hx => by simp at hx; subst hx; exact ⟨by omega, by omega⟩
theorem newD_ok {s : List Int} (h : s.length = 7 ∧ Ns s) : Dbl (newD s) := by
  refine ⟨rfl, fun r hr => ?_⟩
  simp [newD] at hr
  rcases hr with rfl | rfl
  · exact h
  · exact ⟨rfl, zz7_N⟩
theorem Dbl.set {D : List (List Int)} (h : Dbl D) {k : Nat} {r : List Int} (hr : r.length = 7 ∧ Ns r) : Dbl (D.set k r) := by
  refine ⟨by rw [List.length_set]; exact h.1, fun x hx => ?_⟩
  rcases List.mem_or_eq_of_mem_set hx with hx | rfl
  · exact h.2 x hx
  · exact hr
theorem Dbl.at {D : List (List Int)} (h : Dbl D) {k : Nat} (hk : k < 7) : (D[k]?.getD []).length = 7 ∧ Ns (D[k]?.getD []) := by
  have hk2 : k < D.length := by rw [h.1]; exact hk
  exact h.2 _ (memD [] hk2)
theorem tmI_ok {O d e : List (List Int)} (hO : Dbl O) {n : Nat} : ∀ k, n + k ≤ 7 → Dbl (tmI O d e n k)
  | 0, _ => hO
  | k + 1, h => by
    have ih := tmI_ok (d := d) (e := e) hO (n := n) k (by omega)
    rw [tmI]
    refine ih.set ⟨?_, plusS_N _ _ _⟩
    rw [plusS_len]; exact (ih.at (by omega)).1
theorem tmO_ok (d e : List (List Int)) : ∀ n, n ≤ 7 → Dbl (tmO d e n)
  | 0, _ => newD_ok ⟨rfl, zz7_N⟩
  | n + 1, h => by rw [tmO]; exact tmI_ok (tmO_ok d e n (by omega)) _ (by omega)
theorem mulD_ok (d e : List (List Int)) : Dbl (mulD d e) := tmO_ok d e 7 (Nat.le_refl _)
theorem mat_no : ∀ A : List (List Int), hasOwnL (mat A) = false
  | [] => rfl
  | r :: A => by
    have := mat_no A
    simp only [mat, List.map_cons] at this ⊢
    rw [hasOwnL, this]; rfl
theorem mat_locB (A : List (List Int)) : (mat A).flatMap locB = [] := by
  induction A with
  | nil => rfl
  | cons r A ih => simp only [mat, List.map_cons, List.flatMap_cons] at ih ⊢; rw [ih]; rfl
theorem mat_fillB (A : List (List Int)) : fillB (mat A) [] = some (mat A, []) := by
  induction A with
  | nil => rfl
  | cons r A ih => simp only [mat, List.map_cons] at ih ⊢; rw [fillB, ih]
theorem mat_cellsB (A : List (List Int)) : cellsB (mat A) = true := by
  induction A with
  | nil => rfl
  | cons r A ih => simp only [mat, List.map_cons] at ih ⊢; simp [cellsB] at ih ⊢; exact ⟨rfl, ih⟩
theorem mat_klL (W : List Nat) (A : List (List Int)) : klL W (mat A) = mat A := by
  induction A with
  | nil => rfl
  | cons r A ih => simp only [mat, List.map_cons] at ih ⊢; rw [klL, ih]; rfl
theorem omat_klL (W : List Nat) (A : List (List Int)) : klL W (omat A) = omat A := by
  induction A with
  | nil => rfl
  | cons r A ih => simp only [omat, List.map_cons] at ih ⊢; rw [klL, ih]; rfl
theorem omat_rootsL (A : List (List Int)) : rootsL (omat A) = [] := by
  induction A with
  | nil => rfl
  | cons r A ih => simp only [omat, List.map_cons] at ih ⊢; rw [rootsL, ih]; rfl
theorem omat_cellsB (A : List (List Int)) : cellsB (omat A) = true := by
  induction A with
  | nil => rfl
  | cons r A ih => simp only [omat, List.map_cons] at ih ⊢; simp [cellsB] at ih ⊢; exact ⟨rfl, ih⟩
theorem omat_has {A : List (List Int)} (h : A.length = 7) : hasOwnL (omat A) = true := by
  cases A with
  | nil => simp at h
  | cons r A => rfl
theorem setMany_all {α : Type} (es l : List α) (h : es.length = l.length) : setMany l 0 es = es := by
  rw [setMany_eq es l 0 (by omega), Nat.zero_add, h, List.drop_length]; simp
theorem set7 {A : List (List Int)} (h : A.length = 7) (a b c d e f g : AV) : setMany [a, b, c, d, e, f, g] 0 (omat A) = omat A := setMany_all _ _ (by rw [omat_len, h]; rfl)
theorem mat_at {A : List (List Int)} {k : Nat} (h : k < A.length) : (mat A)[k]? = some (.sl (A[k]?.getD []).length (avs (A[k]?.getD []))) := by simp [mat, h]
set_option maxRecDepth 100000 in
theorem times_c (d e : List (List Int)) (hd : Dbl d) (he : Dbl e) : Con Try.prog 132 [.agg (mat d), .agg (mat e)] (.agg (omat (mulD d e))) := by
  have c0 := newDouble0_c
  refine con_of_vc Try.mixed ⟨8, [], [], []⟩ Try.func132 (by decide) rfl (by simp) (by decide) (by simp [freshOK, freshL, go_sem]) ?_
  rw [Try.ntmps132]
  simp [go_sem]
  simp [go_sem, mat_no, mat_locB, mat_fillB, mat_cellsB, mat_klL]
  refine CallVC.of (c0) (by decide) ?_
  simp [go_sem]
  have hz : (newD zz7).length = 7 := rfl
  simp [go_sem, omat_klL, omat_rootsL, omat_cellsB, omat_has hz]
  rw [set7 hz]
  refine ⟨⟨rfl, Nat.le_refl _⟩, ?_⟩
  refine loop_inv (5 :: 6 :: 7 :: List.range' 9 27) (fun n : Nat => [(5, .box 88 (omat (tmO d e n))), (9, .int n)]) (fun n => n ≤ 7) (fun n => 7 - n) 0 (by simp) (by simp [go_sem, tmO]) (by simp [go_sem]) ?_
  intro n hn
  simp [go_sem]
  refine ⟨fun h => ?_, fun h => ?_⟩ <;> simp at h
  · have hO := tmO_ok d e n hn
    have hs : tmO d e (n + 1) = tmI (tmO d e n) d e n (7 - n) := rfl
    generalize tmO d e n = O at *
    simp [go_sem]
    refine loop_inv (5 :: 7 :: List.range' 12 23) (fun k : Nat => [(5, .box 88 (omat (tmI O d e n k))), (7, .int k)]) (fun k => n + k ≤ 7) (fun k => 7 - k) 0 (by simp; omega) (by simp [go_sem, tmI]) (by simp [go_sem]) ?_
    intro k hk
    simp [go_sem]
    refine ⟨⟨by omega, by omega⟩, ?_⟩
    refine ⟨fun h => ?_, fun h => ?_⟩ <;> simp at h
    · have hnk : n + k < 7 := by omega
      have hI := tmI_ok (d := d) (e := e) hO k hk
      have hst : tmI O d e n (k + 1) = (tmI O d e n k).set (n + k) (plusS ((tmI O d e n k)[n + k]?.getD []) (mulS (d[n]?.getD []) (e[k]?.getD [])) 1) := rfl
      generalize eI2 : tmI O d e n (k + 1) = I2 at *
      generalize tmI O d e n k = I at *
      have hd0 := hd.at (k := n) (by omega)
      have he0 := he.at (k := k) (by omega)
      have hi0 := hI.at hnk
      have gd := mat_at (A := d) (k := n) (by rw [hd.1]; omega)
      have ge := mat_at (A := e) (k := k) (by rw [he.1]; omega)
      have gi := omat_get (A := I) (k := n + k) (by rw [hI.1]; omega)
      have cT := timesSeries_c (d[n]?.getD []) (e[k]?.getD []) hd0.2 he0.2 (by omega) (by omega)
      have ml := mulS_len (d[n]?.getD []) (e[k]?.getD [])
      have mN := mulS_N (d[n]?.getD []) (e[k]?.getD [])
      have cP := plus_c (I[n + k]?.getD []) (mulS (d[n]?.getD []) (e[k]?.getD [])) 1 hi0.2 mN ⟨by omega, by omega⟩ (by omega) (by omega)
      have set := omat_set I (n + k) (plusS (I[n + k]?.getD []) (mulS (d[n]?.getD []) (e[k]?.getD [])) 1)
      rw [plusS_len, hi0.1] at set
      have dl := hd.1
      have el := he.1
      have il := hI.1
      have kk : ((n : Int) + k).toNat = n + k := by omega
      simp [go_sem, gd, ge, gi, kk]
      have dn : ¬ d = [] := by rintro rfl; simp at dl
      have en : ¬ e = [] := by rintro rfl; simp at el
      have inn : ¬ omat I = [] := fun h => by have := congrArg List.length h; rw [omat_len, List.length_nil] at this; omega
      refine ⟨by kernel_rfl, ⟨by omega, by omega⟩, ⟨by omega, by omega, inn⟩, ⟨by omega, dn⟩, ⟨by omega, en⟩, ?_⟩
      rw [hd0.1, he0.1]
      rw [hd0.1, he0.1] at cT
      rw [hi0.1, ml, hd0.1] at cP
      refine CallD.of (cT) (by simp [roots, rootsL]) (by decide) ?_
      simp [go_sem]
      simp [go_sem, gi, kk]
      rw [hi0.1]
      refine CallD.of (cP) (by simp [roots, rootsL]) (by decide) ?_
      simp [go_sem]
      refine ⟨⟨by omega, by omega, inn⟩, by omega, ?_⟩
      refine ⟨by kernel_rfl, ?_⟩
      simp [go_sem]
      refine ⟨⟨by omega, by omega⟩, k + 1, by omega, by omega, Off_reset _ _ _ (by simp), ?_, by omega⟩
      rw [eI2, hst, ← set, kk]
    · have e0 : k = 7 - n := by omega
      subst e0
      simp [go_sem]
      exact ⟨⟨by omega, by omega⟩, n + 1, by omega, by omega, (Off.reset (by intro x hx; simp at hx ⊢; omega) (by simp) (by simp [go_sem, Off_reset])), by rw [hs], by omega⟩
  · have e0 : n = 7 := by omega
    subst e0
    have hO := (tmO_ok d e 7 hn).1
    have hm : mulD d e = tmO d e 7 := rfl
    rw [hm]
    generalize tmO d e 7 = O at *
    match O, hO with
    | [a0, a1, a2, a3, a4, a5, a6], _ =>
      simp [go_sem, omat, setMany]
end Go.Proofs.Ytmojbncbbnjblaa


namespace Go.Proofs.Ytmojbncbbnjblaa
open Go.Abs
set_option linter.unusedVariables false
set_option linter.unusedSimpArgs false
set_option maxHeartbeats 1000000
def pwD (s x : List (List Int)) : Nat → List (List Int)
  | 0 => s
  | n + 1 => mulD (pwD s x n) x
theorem pwD_ok {s x : List (List Int)} (h : Dbl s) : ∀ n, Dbl (pwD s x n)
  | 0 => h
  | n + 1 => mulD_ok _ _
def teD (L : List (List (List Int))) (e : List Int) (s : List (List Int)) : Nat → List (List Int)
  | 0 => s
  | i + 1 => pwD (teD L e s i) (L[i]?.getD []) (e[i]?.getD 0).toNat
theorem teD_ok {L : List (List (List Int))} {e : List Int} {s : List (List Int)} (h : Dbl s) : ∀ i, Dbl (teD L e s i)
  | 0 => h
  | i + 1 => pwD_ok (teD_ok h i) _
theorem teD_congr {L : List (List (List Int))} {e e' : List Int} {s : List (List Int)} : ∀ {n : Nat}, (∀ i, i < n → e[i]?.getD 0 = e'[i]?.getD 0) → teD L e s n = teD L e' s n
  | 0, _ => rfl
  | n + 1, h => by rw [teD, teD, teD_congr (fun i hi => h i (by omega)), h n (by omega)]
abbrev at2 (D : List (List Int)) (m n : Nat) : Int := (D[m]?.getD [])[n]?.getD 0
def reD (L : List (List (List Int))) (m n : Nat) : List (Key × Int) → Int
  | [] => 0
  | e :: es => at2 (teD L [e.1.1, e.1.2.1, e.1.2.2] (newD (unS e.2)) L.length) m n + reD L m n es
def voD (L : List (List (List Int))) (m n : Nat) : List Mon → Int
  | [] => 0
  | a :: p => at2 (teD L a.2 (newD (unS a.1)) L.length) m n + voD L m n p
theorem reD_app (L : List (List (List Int))) (m n : Nat) (a b : List (Key × Int)) : reD L m n (a ++ b) = reD L m n a + reD L m n b := by
  induction a with
  | nil => simp [reD]
  | cons e a ih => simp [reD, ih]; omega
theorem reD_perm (L : List (List (List Int))) (m n : Nat) {a b : List (Key × Int)} (h : a.Perm b) : reD L m n a = reD L m n b := by
  induction h with
  | nil => rfl
  | cons x _ ih => simp [reD, ih]
  | swap x z l => simp [reD]; omega
  | trans _ _ i1 i2 => rw [i1, i2]
theorem reD_map {L : List (List (List Int))} (hl : L.length ≤ 3) (m n : Nat) : ∀ p : List Mon, reD L m n (p.map keyM) = voD L m n p
  | [] => rfl
  | a :: p => by
    have hc : teD L [(keyOf a.2).1, (keyOf a.2).2.1, (keyOf a.2).2.2] (newD (unS a.1)) L.length = teD L a.2 (newD (unS a.1)) L.length := teD_congr (fun i hi => by
      have : i = 0 ∨ i = 1 ∨ i = 2 := by omega
      rcases this with rfl | rfl | rfl <;> simp [keyOf])
    rw [List.map_cons, reD, voD, reD_map hl m n p]
    simp only [keyM]
    rw [hc]
def evD (L : List (List (List Int))) (p : List Mon) : List (List Int) := (List.range 7).map fun m => tb (fun n => voD L m n p % 10007) 7
theorem tbl_ok (T : Nat → Nat → Int) (h : ∀ m n, isN (T m n)) : Dbl ((List.range 7).map fun m => tb (T m) 7) := by
  refine ⟨by simp, fun r hr => ?_⟩
  obtain ⟨m, _, rfl⟩ := List.mem_map.1 hr
  exact ⟨by simp [tb], tb_N fun i _ => h m i⟩
theorem evD_ok (L : List (List (List Int))) (p : List Mon) : Dbl (evD L p) := tbl_ok _ (fun m n => isN_mod _)
def adI (O P : List (List Int)) : Nat → List (List Int)
  | 0 => O
  | i + 1 => (adI O P i).set i (plusS ((adI O P i)[i]?.getD []) (P[i]?.getD []) 1)
theorem adI_ok {O P : List (List Int)} (h : Dbl O) : ∀ i, i ≤ 7 → Dbl (adI O P i)
  | 0, _ => h
  | i + 1, hi => by
    have ih := adI_ok (P := P) h i (by omega)
    rw [adI]
    exact ih.set ⟨by rw [plusS_len]; exact (ih.at (by omega)).1, plusS_N _ _ _⟩
theorem adI_at {O P : List (List Int)} (h : Dbl O) : ∀ i, i ≤ 7 → ∀ m, m < 7 → (adI O P i)[m]?.getD [] = if m < i then plusS (O[m]?.getD []) (P[m]?.getD []) 1 else O[m]?.getD []
  | 0, _, m, _ => by simp [adI]
  | i + 1, hi, m, hm => by
    have hl := (adI_ok (P := P) h i (by omega)).1
    have im := adI_at (P := P) h i (by omega) m hm
    have ii := adI_at (P := P) h i (by omega) i (by omega)
    rw [adI, List.getElem?_set]
    by_cases e : i = m
    · subst e
      rw [if_pos rfl, if_pos (by omega), if_pos (by omega), ii, if_neg (by omega)]; rfl
    · rw [if_neg e, im]
      by_cases h2 : m < i
      · rw [if_pos h2, if_pos (by omega)]
      · rw [if_neg h2, if_neg (by omega)]
theorem Dbl.rows {D : List (List Int)} (h : Dbl D) : ∃ a b c d e f g : List Int, D = [a, b, c, d, e, f, g] ∧ a.length = 7 ∧ b.length = 7 ∧ c.length = 7 ∧ d.length = 7 ∧ e.length = 7 ∧ f.length = 7 ∧ g.length = 7 := by
  obtain ⟨h1, h2⟩ := h
  match D, h1, h2 with
  | [a, b, c, d, e, f, g], _, h2 =>
    exact ⟨a, b, c, d, e, f, g, rfl, (h2 a (by simp)).1, (h2 b (by simp)).1, (h2 c (by simp)).1, (h2 d (by simp)).1, (h2 e (by simp)).1, (h2 f (by simp)).1, (h2 g (by simp)).1⟩
theorem Dbl.ext {D E : List (List Int)} (hD : Dbl D) (hE : Dbl E) (h : ∀ m n, m < 7 → n < 7 → at2 D m n = at2 E m n) : D = E := by
  refine List.ext_getElem (by rw [hD.1, hE.1]) fun m h1 h2 => ?_
  have hm : m < 7 := by rw [hD.1] at h1; exact h1
  have d1 := hD.at hm
  have e1 := hE.at hm
  have key : D[m]?.getD [] = E[m]?.getD [] := by
    refine List.ext_getElem (by rw [d1.1, e1.1]) fun n k1 k2 => ?_
    have hn : n < 7 := by rw [d1.1] at k1; exact k1
    have := h m n hm hn
    unfold at2 at this
    simpa [k1, k2] using this
  simpa [h1, h2] using key
theorem tbl_at {T : Nat → Nat → Int} {m n : Nat} (hm : m < 7) (hn : n < 7) : at2 ((List.range 7).map fun m => tb (T m) 7) m n = T m n := by
  unfold at2
  have e : ((List.range 7).map fun m => tb (T m) 7)[m]?.getD [] = tb (T m) 7 := by simp [hm]
  rw [e]
  exact tb_get _ hn
theorem z_at : ∀ m : Nat, m < 7 → ∀ n : Nat, n < 7 → at2 (newD zz7) m n = 0 := by decide
def dmat (L : List (List (List Int))) : List AV := L.flatMap mat
theorem dmat_len {L : List (List (List Int))} (h : ∀ D ∈ L, Dbl D) : (dmat L).length = 7 * L.length := by
  induction L with
  | nil => rfl
  | cons D L ih =>
    have := ih (fun E hE => h E (by simp [hE]))
    have h1 := (h D (by simp)).1
    simp only [dmat, List.flatMap_cons, List.length_append, List.length_cons, mat_len] at this ⊢
    omega
theorem dmat_drop {L : List (List (List Int))} (h : ∀ D ∈ L, Dbl D) : ∀ {i : Nat}, i < L.length → (dmat L).drop (i * 7) = mat (L[i]?.getD []) ++ dmat (L.drop (i + 1)) := by
  induction L with
  | nil => intro i hi; simp at hi
  | cons D L ih =>
    intro i hi
    have h1 := (h D (by simp)).1
    cases i with
    | zero => simp [dmat]
    | succ i =>
      have e : dmat (D :: L) = mat D ++ dmat L := rfl
      rw [e, List.drop_append, List.drop_eq_nil_of_le (by simp; omega)]
      have e2 : (i + 1) * 7 - (mat D).length = i * 7 := by rw [mat_len]; omega
      rw [e2, ih (fun E hE => h E (by simp [hE])) (by simpa using hi)]
      simp
theorem omat7 (a b c d e f g : List Int) : omat [a, b, c, d, e, f, g] = [.own 2 a.length (avs a), .own 2 b.length (avs b), .own 2 c.length (avs c), .own 2 d.length (avs d), .own 2 e.length (avs e), .own 2 f.length (avs f), .own 2 g.length (avs g)] := rfl
theorem mat7 (a b c d e f g : List Int) : mat [a, b, c, d, e, f, g] = [.sl a.length (avs a), .sl b.length (avs b), .sl c.length (avs c), .sl d.length (avs d), .sl e.length (avs e), .sl f.length (avs f), .sl g.length (avs g)] := rfl
set_option maxRecDepth 100000 in
theorem doubled_c (c : Key → Option Int) (L : List (List (List Int))) (T : Nat → Nat → Int) (hL : L.length ≤ 3) (hr : ∀ D ∈ L, Dbl D) (hc : ∀ k x, c k = some x → EOk (k, x)) (hT : ∀ m n, isN (T m n)) (hE : ∀ es, Enum c es → ∀ m n, reD L m n es % 10007 = T m n) :
    Con Try.prog 63 [.fmp c, .sl L.length (dmat L)] (.agg (omat ((List.range 7).map fun m => tb (T m) 7))) := by
  have c0 := newDouble0_c
  generalize hR : ((List.range 7).map fun m => tb (T m) 7) = R
  refine con_of_vc Try.mixed ⟨12, [], [], []⟩ Try.func63 (by decide) rfl (by simp) (by decide) (by simp [freshOK, freshL, go_sem]) ?_
  rw [Try.ntmps63]
  simp [go_sem]
  refine CallVC.of (c0) (by decide) ?_
  simp [go_sem]
  have hz : (newD zz7).length = 7 := rfl
  simp [go_sem, omat_klL, omat_rootsL, omat_cellsB, omat_has hz]
  rw [set7 hz]
  refine ⟨⟨rfl, Nat.le_refl _⟩, ?_⟩
  intro es hes
  have hok : ∀ e ∈ es, EOk e := fun e he => hc e.1 e.2 (hes.val e he)
  have hsum := hE es hes
  refine loop_inv (5 :: 6 :: 7 :: 8 :: 9 :: 10 :: 11 :: List.range' 14 39) (fun x : List (List Int) × Option (Key × Int) × List (Key × Int) => [(5, .box 88 (omat x.1)), (14, .it x.2.1 x.2.2)]) (fun x => Dbl x.1 ∧ (∀ m n, m < 7 → n < 7 → (at2 x.1 m n + reD L m n x.2.2) % 10007 = T m n) ∧ ∀ e ∈ x.2.2, EOk e) (fun x => x.2.2.length) (newD zz7, none, es) ?_ ?_ (by simp [go_sem]) ?_
  · refine ⟨newD_ok ⟨rfl, zz7_N⟩, fun m n hm hn => ?_, hok⟩
    have e := z_at m hm n hn
    rw [e, Int.zero_add]
    exact hsum m n
  · simp [go_sem]
  rintro ⟨o, l, rem⟩ ⟨ho, hoT, hrem⟩
  simp only at ho hoT hrem
  simp [go_sem, keyAV]
  refine ⟨fun hr => ?_, fun l1 k0 k1 k2 x l2 hr2 => ?_⟩
  · subst hr
    have ho2 : o = R := by
      rw [← hR]
      refine ho.ext (tbl_ok T hT) fun m n hm hn => ?_
      have t := hoT m n hm hn
      have oN := ((ho.at hm).2).get n
      simp only [reD, Int.add_zero] at t
      rw [Int.emod_eq_of_lt oN.1 (by have := oN.2; omega)] at t
      have t2 : at2 o m n = T m n := t
      rw [t2, tbl_at hm hn]
    rw [← ho2]
    obtain ⟨a, b, c, d, e, f, g, rfl, h⟩ := ho.rows
    simp [go_sem, omat, setMany]
  · subst hr2
    have hek := hrem ((k0, k1, k2), x) (by simp)
    have hx : isN x := hek.1
    have hg : ∀ i : Nat, 0 ≤ ([k0, k1, k2] : List Int)[i]?.getD 0 ∧ ([k0, k1, k2] : List Int)[i]?.getD 0 ≤ 1000 := by
      intro i
      obtain ⟨_, a1, a2, a3, a4, a5, a6⟩ := hek
      match i with
      | 0 => exact ⟨a1, a2⟩
      | 1 => exact ⟨a3, a4⟩
      | 2 => exact ⟨a5, a6⟩
      | i + 3 => simp
    have hu := newD_ok ⟨(rfl : (unS x).length = 7), unS_N hx⟩
    have c1 := newDouble1_c x
    refine CallVC.of (c1) (by decide) ?_
    simp [go_sem]
    have hz1 : (newD [x, 0, 0, 0, 0, 0, 0]).length = 7 := rfl
    simp [go_sem, omat_klL, omat_rootsL, omat_cellsB, omat_has hz1]
    rw [set7 hz1]
    refine ⟨⟨rfl, Nat.le_refl _⟩, ?_⟩
    refine loop_inv (8 :: 9 :: 10 :: List.range' 25 15) (fun i : Nat => [(8, .box 88 (omat (teD L [k0, k1, k2] (newD (unS x)) i))), (25, .int i)]) (fun i => i ≤ L.length) (fun i => L.length - i) 0 (by simp) (by simp [go_sem, teD, unS]) (by simp [go_sem]) ?_
    intro i hi
    simp [go_sem]
    refine ⟨fun h => ?_, fun h => ?_⟩ <;> simp at h
    · have hiL := h
      have h3 : i < ([k0, k1, k2] : List Int).length := by simp; omega
      have e3 : ([.val (.int .i64 k0), .val (.int .i64 k1), .val (.int .i64 k2)] : List AV)[i]? = some (.val (.int .i64 (([k0, k1, k2] : List Int)[i]?.getD 0))) := avs_at' (xs := [k0, k1, k2]) h3
      have g := hg i
      have hy := hr (L[i]?.getD []) (by simp [hiL])
      have hs : teD L [k0, k1, k2] (newD (unS x)) (i + 1) = pwD (teD L [k0, k1, k2] (newD (unS x)) i) (L[i]?.getD []) (([k0, k1, k2] : List Int)[i]?.getD 0).toNat := rfl
      have hd := dmat_drop hr hiL
      have dl := dmat_len hr
      obtain ⟨q0, q1, q2, q3, q4, q5, q6, hq, ql⟩ := hy.rows
      rw [hq] at hd
      simp only [mat, List.map_cons, List.map_nil, List.cons_append, List.nil_append] at hd
      have di : ¬ dmat L = [] := fun h => by have := congrArg List.length h; rw [dl, List.length_nil] at this; omega
      simp [go_sem, hd, e3]
      refine ⟨⟨hiL, di⟩, by omega, ?_⟩
      have hteN := teD_ok (L := L) (e := [k0, k1, k2]) hu i
      generalize teD L [k0, k1, k2] (newD (unS x)) i = te at *
      generalize ([k0, k1, k2] : List Int)[i]?.getD 0 = ki at *
      obtain ⟨m, rfl⟩ : ∃ m : Nat, ki = m := ⟨ki.toNat, by omega⟩
      simp only [Int.toNat_natCast] at hs
      rw [hq] at hs hy
      refine loop_inv (8 :: List.range' 33 6) (fun t : Nat => [(8, .box 88 (omat (pwD te [q0, q1, q2, q3, q4, q5, q6] t))), (33, .int t)]) (fun t => t ≤ m) (fun t => m - t) 0 (by simp) (by simp [go_sem, pwD]) (by simp [go_sem]) ?_
      intro t ht
      simp [go_sem]
      refine ⟨fun h => ?_, fun h => ?_⟩ <;> simp at h
      · have hP := pwD_ok (x := [q0, q1, q2, q3, q4, q5, q6]) hteN t
        have hst : pwD te [q0, q1, q2, q3, q4, q5, q6] (t + 1) = mulD (pwD te [q0, q1, q2, q3, q4, q5, q6] t) [q0, q1, q2, q3, q4, q5, q6] := rfl
        generalize eP2 : pwD te [q0, q1, q2, q3, q4, q5, q6] (t + 1) = P2 at *
        generalize pwD te [q0, q1, q2, q3, q4, q5, q6] t = P at *
        have cT := times_c P [q0, q1, q2, q3, q4, q5, q6] hP hy
        rw [← hst] at cT
        have hP2 : P2.length = 7 := by rw [hst]; exact (mulD_ok _ _).1
        obtain ⟨p0, p1, p2, p3, p4, p5, p6, rfl, pl⟩ := hP.rows
        rw [mat7, mat7] at cT
        simp [go_sem, omat7]
        refine CallVC.of (cT) (by decide) ?_
        simp [go_sem]
        simp [go_sem, omat_klL, omat_rootsL, omat_cellsB, omat_has hP2, set7 hP2]
        exact ⟨⟨hP2.symm, by omega⟩, ⟨by omega, by omega⟩, t + 1, by omega, by omega, Off_reset _ _ _ (by simp), by rw [eP2], by omega⟩
      · have e : t = m := by omega
        subst e
        simp [go_sem]
        exact ⟨by omega, i + 1, by omega, by omega, (Off.reset (by intro x hx; simp at hx ⊢; omega) (by simp) (by simp [go_sem, Off_reset])), by rw [hs], by omega⟩
    · have e : i = L.length := by omega
      subst e
      have hP := teD_ok (L := L) (e := [k0, k1, k2]) hu L.length
      have hinv : ∀ m n, m < 7 → n < 7 → (at2 (adI o (teD L [k0, k1, k2] (newD (unS x)) L.length) 7) m n + reD L m n (l1 ++ l2)) % 10007 = T m n := by
        intro m n hm hn
        have t := hoT m n hm hn
        have q1 := adI_at (P := teD L [k0, k1, k2] (newD (unS x)) L.length) ho 7 (Nat.le_refl _) m hm
        rw [if_pos hm] at q1
        have om := (ho.at hm).1
        have q := tb_get (fun i => ((o[m]?.getD [])[i]?.getD 0 + 1 % 10007 * ((teD L [k0, k1, k2] (newD (unS x)) L.length)[m]?.getD [])[i]?.getD 0) % 10007) (show n < (o[m]?.getD []).length by omega)
        have q2 : (plusS (o[m]?.getD []) ((teD L [k0, k1, k2] (newD (unS x)) L.length)[m]?.getD []) 1)[n]?.getD 0 = ((o[m]?.getD [])[n]?.getD 0 + 1 % 10007 * ((teD L [k0, k1, k2] (newD (unS x)) L.length)[m]?.getD [])[n]?.getD 0) % 10007 := q
        rw [reD_app, reD] at t
        have q3 : at2 (adI o (teD L [k0, k1, k2] (newD (unS x)) L.length) 7) m n = ((o[m]?.getD [])[n]?.getD 0 + 1 % 10007 * ((teD L [k0, k1, k2] (newD (unS x)) L.length)[m]?.getD [])[n]?.getD 0) % 10007 := by
          show ((adI o (teD L [k0, k1, k2] (newD (unS x)) L.length) 7)[m]?.getD [])[n]?.getD 0 = _
          rw [q1, q2]
        rw [q3, reD_app, ← t]
        show _ = ((o[m]?.getD [])[n]?.getD 0 + (_ + (((teD L [k0, k1, k2] (newD (unS x)) L.length)[m]?.getD [])[n]?.getD 0 + _))) % 10007
        omega
      generalize teD L [k0, k1, k2] (newD (unS x)) L.length = P at *
      simp [go_sem]
      refine loop_inv (5 :: 11 :: List.range' 40 13) (fun i : Nat => [(5, .box 88 (omat (adI o P i))), (40, .int i)]) (fun i => i ≤ 7) (fun i => 7 - i) 0 (by simp) (by simp [go_sem, adI]) (by simp [go_sem]) ?_
      intro i hi
      simp [go_sem]
      refine ⟨fun h => ?_, fun h => ?_⟩ <;> simp at h
      · have hI := adI_ok (P := P) ho i hi
        have hst : adI o P (i + 1) = (adI o P i).set i (plusS ((adI o P i)[i]?.getD []) (P[i]?.getD []) 1) := rfl
        generalize eI2 : adI o P (i + 1) = I2 at *
        generalize adI o P i = I at *
        have hi7 : i < 7 := by omega
        have hi0 := hI.at hi7
        have hp0 := hP.at hi7
        have il := hI.1
        have pl := hP.1
        have gi := omat_get (A := I) (k := i) (by omega)
        have gp := omat_get (A := P) (k := i) (by omega)
        have cP := plus_c (I[i]?.getD []) (P[i]?.getD []) 1 hi0.2 hp0.2 ⟨by omega, by omega⟩ (by omega) (by omega)
        have set := omat_set I i (plusS (I[i]?.getD []) (P[i]?.getD []) 1)
        rw [plusS_len, hi0.1] at set
        have inn : ¬ omat I = [] := fun h => by have := congrArg List.length h; rw [omat_len, List.length_nil] at this; omega
        have pnn : ¬ omat P = [] := fun h => by have := congrArg List.length h; rw [omat_len, List.length_nil] at this; omega
        rw [hi0.1, hp0.1] at cP
        simp [go_sem, gi, gp]
        refine ⟨by kernel_rfl, ⟨by omega, inn⟩, ⟨by omega, pnn⟩, ?_⟩
        rw [hi0.1, hp0.1]
        refine CallD.of (cP) (by simp [roots, rootsL]) (by decide) ?_
        simp [go_sem]
        refine ⟨⟨by omega, inn⟩, by omega, ?_⟩
        refine ⟨by kernel_rfl, ?_⟩
        simp [go_sem]
        trace_state
        refine ⟨⟨by omega, by omega⟩, i + 1, by omega, by omega, Off_reset _ _ _ (by simp), ?_, by omega⟩
        rw [eI2, hst, ← set]
      · have e : i = 7 := by omega
        subst e
        have hA := adI_ok (P := P) ho 7 (Nat.le_refl _)
        simp [go_sem]
        refine ⟨_, _, _, ⟨hA, hinv, fun a b c d he => hrem _ ?_⟩, ?_, (by repeat (first | exact Off_reset _ _ _ (by simp) | (refine Off.reset (by intro x hx; simp at hx ⊢; omega) (by simp) ?_; simp -failIfUnchanged [go_sem, Off_reset]))), rfl, rfl, rfl⟩
        · rcases List.mem_append.1 he with he | he <;> simp [he]
        · simp
end Go.Proofs.Ytmojbncbbnjblaa


namespace Go.Proofs.Ytmojbncbbnjblaa
open Go.Abs CR
set_option linter.unusedVariables false
set_option linter.unusedSimpArgs false
set_option maxHeartbeats 1000000
section
variable {α : Type} [CR α]
def csG (A B : Nat → α) (n : Nat) : Nat → α
  | 0 => ofI 0
  | m + 1 => csG A B n m + A m * B (n - m)
theorem csG_shift (A B : Nat → α) (n : Nat) : ∀ m, csG A B (n + 1) (m + 1) = A 0 * B (n + 1) + csG (sh A) B n m
  | 0 => by
    show (ofI 0 : α) + A 0 * B (n + 1 - 0) = A 0 * B (n + 1) + ofI 0
    rw [zadd, add0]; rfl
  | m + 1 => by
    rw [csG, csG_shift A B n m, csG]
    have : n + 1 - (m + 1) = n - m := by omega
    rw [this, addA]; rfl
theorem csG_all : ∀ (n : Nat) (A B : Nat → α), csG A B n (n + 1) = cmul n A B
  | 0, A, B => by
    show (ofI 0 : α) + A 0 * B (0 - 0) = A 0 * B 0
    rw [zadd]
  | n + 1, A, B => by rw [csG_shift, csG_all n, cmul]
end
abbrev c77 : Cg (Ser (Ser Int)) := cgS c7 7
def toSS (D : List (List Int)) : Ser (Ser Int) := fun m => toS (D[m]?.getD [])
theorem plusS_ser {a b : List Int} (ha : a.length = 7) : c7.r (toS (plusS a b 1)) (toS a + toS b) := by
  intro n hn
  have e := tb_get (fun i => (a[i]?.getD 0 + 1 % 10007 * b[i]?.getD 0) % 10007) (show n < a.length by omega)
  have e2 : toS (plusS a b 1) n = (a[n]?.getD 0 + 1 % 10007 * b[n]?.getD 0) % 10007 := e
  show toS (plusS a b 1) n % 10007 = (a[n]?.getD 0 + b[n]?.getD 0) % 10007
  rw [e2]; omega
theorem tmI_at {O d e : List (List Int)} (hO : Dbl O) {n : Nat} : ∀ k, n + k ≤ 7 → ∀ m, m < 7 → (tmI O d e n k)[m]?.getD [] = if n ≤ m ∧ m < n + k then plusS (O[m]?.getD []) (mulS (d[n]?.getD []) (e[m - n]?.getD [])) 1 else O[m]?.getD []
  | 0, _, m, _ => by rw [if_neg (by omega)]; rfl
  | k + 1, hk, m, hm => by
    have hl := (tmI_ok (d := d) (e := e) hO (n := n) k (by omega)).1
    have im := tmI_at (d := d) (e := e) hO (n := n) k (by omega) m hm
    have ii := tmI_at (d := d) (e := e) hO (n := n) k (by omega) (n + k) (by omega)
    rw [tmI, List.getElem?_set]
    by_cases h : n + k = m
    · subst h
      rw [if_pos rfl, if_pos (by omega), if_pos (by omega), ii, if_neg (by omega), show n + k - n = k by omega]; rfl
    · rw [if_neg h, im]
      by_cases h2 : n ≤ m ∧ m < n + k
      · rw [if_pos h2, if_pos (by omega)]
      · rw [if_neg h2, if_neg (by omega)]
theorem tmO_ser {d e : List (List Int)} (hd : Dbl d) {m : Nat} (hm : m < 7) : ∀ n, n ≤ 7 → c7.r (toS ((tmO d e n)[m]?.getD [])) (csG (toSS d) (toSS e) m (min n (m + 1)))
  | 0, _ => by
    rw [Nat.zero_min]
    intro j hj
    have := z_at m hm j hj
    show (at2 (newD zz7) m j) % 10007 = (if j = 0 then (0 : Int) else 0) % 10007
    rw [this, ite_self]
  | n + 1, hn => by
    have ih := tmO_ser (e := e) hd hm n (by omega)
    have hO := tmO_ok d e n (by omega)
    rw [tmO, tmI_at hO (7 - n) (by omega) m hm]
    by_cases h : n ≤ m
    · rw [if_pos (by omega), show min (n + 1) (m + 1) = n + 1 by omega, csG]
      rw [show min n (m + 1) = n by omega] at ih
      refine c7.trans (plusS_ser (hO.at hm).1) ?_
      exact c7.add ih (mulS_ser (hd.at (by omega)).1)
    · rw [if_neg (by omega), show min (n + 1) (m + 1) = min n (m + 1) by omega]
      exact ih
theorem mulD_ser {d e : List (List Int)} (hd : Dbl d) : c77.r (toSS (mulD d e)) (toSS d * toSS e) := by
  intro m hm
  have h := tmO_ser (e := e) hd hm 7 (Nat.le_refl _)
  rw [show min 7 (m + 1) = m + 1 by omega, csG_all] at h
  exact h
theorem pwD_ser {s x : List (List Int)} (hs : Dbl s) : ∀ n, c77.r (toSS (pwD s x n)) (toSS s * pwr (toSS x) n)
  | 0 => c77.eq (mul1 _).symm
  | n + 1 => by
    refine c77.trans (mulD_ser (pwD_ok hs n)) ?_
    refine c77.trans (c77.mul (pwD_ser hs n) (c77.refl _)) (c77.eq ?_)
    rw [pwr, mulA]
def toUU (L : List (List (List Int))) : Nat → Ser (Ser Int) := fun k => toSS (L[k]?.getD [])
theorem teD_ser {L : List (List (List Int))} {e : List Int} {s : List (List Int)} (hs : Dbl s) : ∀ d, c77.r (toSS (teD L e s d)) (toSS s * mon (toUU L) (ex e) d)
  | 0 => c77.eq (mul1 _).symm
  | d + 1 => by
    refine c77.trans (pwD_ser (teD_ok hs d) _) ?_
    refine c77.trans (c77.mul (teD_ser hs d) (c77.refl _)) (c77.eq ?_)
    rw [mon, mulA]; rfl
theorem newD_ser (s : List Int) : c77.r (toSS (newD s)) (fun m => if m = 0 then toS s else ofI 0) := by
  intro m hm j hj
  match m with
  | 0 => rfl
  | m + 1 =>
    have h0 : at2 (newD s) (m + 1) j = 0 := by
      have := z_at (m + 1) hm j hj
      exact this
    show (at2 (newD s) (m + 1) j) % 10007 = (if j = 0 then (0 : Int) else 0) % 10007
    rw [h0, ite_self]
theorem unD_ser (a : Int) : c77.r (toSS (newD (unS a))) (ofI a) := by
  refine c77.trans (newD_ser _) (c77.eq (funext fun m => ?_))
  rw [unS_ser]; rfl
theorem voD_ser {L : List (List (List Int))} : ∀ p : List Mon, (∀ m ∈ p, isN m.1) → c77.r (fun m n => voD L m n p) (evM L.length (toUU L) p)
  | [], _ => fun m hm n hn => by
    show (0 : Int) % 10007 = (evM L.length (toUU L) [] m n) % 10007
    rw [evM_nil]
    cases m <;> cases n <;> rfl
  | a :: p, h => by
    rw [evM_cons]
    have hu := newD_ok ⟨(rfl : (unS a.1).length = 7), unS_N (h a (by simp))⟩
    have h1 := c77.trans (teD_ser (L := L) (e := a.2) hu L.length) (c77.mul (unD_ser a.1) (c77.refl _))
    exact c77.add h1 (voD_ser p (fun m hm => h m (by simp [hm])))
theorem evD_ser {L : List (List (List Int))} {p : List Mon} (h : ∀ m ∈ p, isN m.1) : c77.r (toSS (evD L p)) (evM L.length (toUU L) p) := by
  refine c77.trans (fun m hm n hn => ?_) (voD_ser p h)
  have e : at2 (evD L p) m n = voD L m n p % 10007 := tbl_at (T := fun m n => voD L m n p % 10007) hm hn
  show at2 (evD L p) m n % 10007 = voD L m n p % 10007
  rw [e, Int.emod_emod_of_dvd _ (Int.dvd_refl _)]
def flD (f : List (List Mon)) (P : List (List Int)) : Nat → List (List (List Int))
  | 0 => P.map newD
  | n + 1 => (List.range P.length).map fun i => ((flD f P n)[i]?.getD []).set (n + 1) (scalS ((evD (flD f P n) (f[i]?.getD []))[n]?.getD []) (pw ((n : Int) + 1) 10005))
@[simp] theorem flD_len (f : List (List Mon)) (P : List (List Int)) : ∀ n, (flD f P n).length = P.length
  | 0 => by simp [flD]
  | n + 1 => by simp [flD]
theorem flD_ok {f : List (List Mon)} {P : List (List Int)} (hP : ∀ r ∈ P, r.length = 7 ∧ Ns r) : ∀ n, n ≤ 6 → ∀ D ∈ flD f P n, Dbl D
  | 0, _, D, h => by
    obtain ⟨r, hr, rfl⟩ := List.mem_map.1 h
    exact newD_ok (hP r hr)
  | n + 1, hn, D, h => by
    have ih := flD_ok (f := f) hP n (by omega)
    obtain ⟨i, hi, rfl⟩ := List.mem_map.1 h
    have hi2 : i < (flD f P n).length := by rw [flD_len]; simpa using hi
    have hv := (evD_ok (flD f P n) (f[i]?.getD [])).at (k := n) (by omega)
    exact (ih _ (memD [] hi2)).set ⟨by rw [scalS_len]; exact hv.1, scalS_N _ _⟩
theorem flD_at (f : List (List Mon)) {P : List (List Int)} (n : Nat) {k : Nat} (hk : k < P.length) : (flD f P (n + 1))[k]?.getD [] = ((flD f P n)[k]?.getD []).set (n + 1) (scalS ((evD (flD f P n) (f[k]?.getD []))[n]?.getD []) (pw ((n : Int) + 1) 10005)) := by
  simp [flD, hk]
theorem flD_keep {f : List (List Mon)} {P : List (List Int)} {k j : Nat} (hk : k < P.length) (n : Nat) (hj : j ≤ n) : ∀ m, ((flD f P (n + m))[k]?.getD [])[j]?.getD [] = ((flD f P n)[k]?.getD [])[j]?.getD []
  | 0 => rfl
  | m + 1 => by
    rw [← Nat.add_assoc, flD_at f (n + m) hk, List.getElem?_set_ne (by omega), flD_keep hk n hj m]
end Go.Proofs.Ytmojbncbbnjblaa


namespace Go.Proofs.Ytmojbncbbnjblaa
open Go.Abs CR
set_option linter.unusedVariables false
set_option linter.unusedSimpArgs false
set_option maxHeartbeats 1000000
theorem scalS_ser {a : List Int} (ha : a.length = 7) (w : Int) : c7.r (toS (scalS a w)) (toS a * ofI w) := by
  intro n hn
  have e := tb_get (fun i => a[i]?.getD 0 * (w % 10007) % 10007) (show n < a.length by omega)
  have e2 : toS (scalS a w) n = a[n]?.getD 0 * (w % 10007) % 10007 := e
  have e3 : (toS a * ofI w : Ser Int) n = toS a n * w := cmul_of w n (toS a)
  show toS (scalS a w) n % 10007 = (toS a * ofI w : Ser Int) n % 10007
  rw [e2, e3]
  show a[n]?.getD 0 * (w % 10007) % 10007 % 10007 = a[n]?.getD 0 * w % 10007
  rw [Int.emod_emod_of_dvd _ (Int.dvd_refl _), Int.mul_emod, Int.emod_emod_of_dvd _ (Int.dvd_refl _), ← Int.mul_emod]
theorem flD_new {f : List (List Mon)} {P : List (List Int)} (hP : ∀ r ∈ P, r.length = 7 ∧ Ns r) {n k : Nat} (hk : k < P.length) (hn : n < 6) :
    ((flD f P 6)[k]?.getD [])[n + 1]?.getD [] = scalS ((evD (flD f P n) (f[k]?.getD []))[n]?.getD []) (pw ((n : Int) + 1) 10005) := by
  have := flD_keep (f := f) hk (n + 1) (Nat.le_refl _) (6 - (n + 1))
  rw [show n + 1 + (6 - (n + 1)) = 6 by omega] at this
  have hl := (flD_ok (f := f) hP n (by omega) _ (memD [] (show k < (flD f P n).length by rw [flD_len]; exact hk))).1
  rw [this, flD_at f n hk, List.getElem?_set_self (by omega)]; rfl
theorem FieldOk.isn {z : Int} {f : List (List Mon)} (hf : FieldOk z f) {k : Nat} (hk : k < f.length) : ∀ m ∈ f[k]?.getD [], isN m.1 := fun m hm => (hf.wok _ (memD [] hk) m hm).num
theorem flD_ode {z : Int} {f : List (List Mon)} {P : List (List Int)} (hf : FieldOk z f) (hl : P.length = f.length) (hP : ∀ r ∈ P, r.length = 7 ∧ Ns r) :
    ∀ k, k < f.length → ∀ n, n < 6 → c7.r (ofI ((n + 1 : Nat) : Int) * toUU (flD f P 6) k (n + 1)) (evM f.length (toUU (flD f P 6)) (f[k]?.getD []) n) := by
  intro k hk n hn
  have hkP : k < P.length := by omega
  have e1 : toUU (flD f P 6) k (n + 1) = toS (scalS ((evD (flD f P n) (f[k]?.getD []))[n]?.getD []) (pw ((n : Int) + 1) 10005)) := by
    show toS (((flD f P 6)[k]?.getD [])[n + 1]?.getD []) = _
    rw [flD_new hP hkP hn]
  have hv := (evD_ok (flD f P n) (f[k]?.getD [])).at (k := n) (by omega)
  have e2 : c7.r (toS ((evD (flD f P n) (f[k]?.getD []))[n]?.getD [])) (evM f.length (toUU (flD f P 6)) (f[k]?.getD []) n) := by
    have h1 := evD_ser (L := flD f P n) (hf.isn hk) n (by omega)
    rw [flD_len, hl] at h1
    refine c7.trans h1 ?_
    refine (cgS c7 (n + 1)).evM (U := toUU (flD f P n)) (V := toUU (flD f P 6)) (fun j hj i hi => ?_) (f[k]?.getD []) n (by omega)
    have := flD_keep (f := f) (show j < P.length by omega) n (show i ≤ n by omega) (6 - n)
    rw [show n + (6 - n) = 6 by omega] at this
    refine c7.eq ?_
    show toS (((flD f P n)[j]?.getD [])[i]?.getD []) = toS (((flD f P 6)[j]?.getD [])[i]?.getD [])
    rw [this]
  rw [e1]
  refine c7.trans ?_ e2
  have h3 := inv_6 n hn
  have h4 := scalS_ser hv.1 (pw ((n : Int) + 1) 10005)
  generalize (evD (flD f P n) (f[k]?.getD []))[n]?.getD [] = v at *
  generalize pw ((n : Int) + 1) 10005 = w at *
  refine c7.trans (c7.mul (c7.refl _) h4) ?_
  have e : (ofI ((n + 1 : Nat) : Int) : Ser Int) * (toS v * ofI w) = toS v * ofI (((n + 1 : Nat) : Int) * w) := by
    rw [ofMul, ← mulA, ← mulA, mulC (ofI _) (toS v)]
  rw [e]
  refine c7.trans (c7.mul (c7.refl _) (c7.of (b := 1) (by rw [h3]; rfl))) (c7.eq (mul1 _))
theorem flD_is {z : Int} {f : List (List Mon)} {P : List (List Int)} (hf : FieldOk z f) (hl : P.length = f.length) (hP : ∀ r ∈ P, r.length = 7 ∧ Ns r) {k n : Nat} (hk : k < f.length) (hn : n ≤ 6) :
    c7.r (toUU (flD f P 6) k n) (ofI (ift n) * toS (evS P (alN f f.length k n))) := by
  have h := flow_is c7 (d := f.length) (N := 6) (U := toUU (flD f P 6)) rfl hf.lok (flD_ode hf hl hP) n [(1, oneE f.length k)] hn (oneE_lok _ _)
  rw [evM_one _ hk, ← alN_repeat] at h
  have h2 : c7.r (evM f.length (fun k => toUU (flD f P 6) k 0) (alN f f.length k n)) (toS (evS P (alN f f.length k n))) := by
    have h3 := evS_ser P (alN f f.length k n)
    rw [hl] at h3
    refine c7.trans (c7.evM (fun j hj => c7.eq ?_) _) (c7.symm h3)
    have := flD_keep (f := f) (P := P) (show j < P.length by omega) 0 (Nat.le_refl 0) 6
    rw [Nat.zero_add] at this
    show toS (((flD f P 6)[j]?.getD [])[0]?.getD []) = toS (P[j]?.getD [])
    rw [this]
    have hj2 : j < P.length := by omega
    simp [flD, hj2, newD]
  have h4 := c7.trans h h2
  have h5 := c7.mul (c7.refl (ofI (ift n))) h4
  refine c7.trans ?_ h5
  rw [← mulA, ← ofMul]
  refine c7.symm (c7.trans (c7.mul (c7.of (b := 1) (by rw [ift_fct n hn]; rfl)) (c7.refl _)) (c7.eq (omul _)))
def smI (s : List Int) (d : List (List Int)) (n : Nat) : Nat → List Int
  | 0 => s
  | k + 1 => (smI s d n k).set (n + k) (((smI s d n k)[n + k]?.getD 0 + at2 d n k) % 10007)
def smO (d : List (List Int)) : Nat → List Int
  | 0 => zz7
  | n + 1 => smI (smO d n) d n (7 - n)
def smD (d : List (List Int)) : List Int := smO d 7
@[simp] theorem smI_len (s : List Int) (d : List (List Int)) (n : Nat) : ∀ k, (smI s d n k).length = s.length
  | 0 => rfl
  | k + 1 => by rw [smI, List.length_set, smI_len s d n k]
@[simp] theorem smO_len (d : List (List Int)) : ∀ n, (smO d n).length = 7
  | 0 => rfl
  | n + 1 => by rw [smO, smI_len, smO_len d n]
theorem smI_N {s : List Int} {d : List (List Int)} {n : Nat} (hs : Ns s) : ∀ k, Ns (smI s d n k)
  | 0 => hs
  | k + 1 => set_N (smI_N hs k) (isN_mod _)
theorem smO_N (d : List (List Int)) : ∀ n, Ns (smO d n)
  | 0 => zz7_N
  | n + 1 => smI_N (smO_N d n) _
theorem smI_at {s : List Int} {d : List (List Int)} {n : Nat} (hs : s.length = 7) : ∀ k, n + k ≤ 7 → ∀ m, m < 7 → (smI s d n k)[m]?.getD 0 = if n ≤ m ∧ m < n + k then (s[m]?.getD 0 + at2 d n (m - n)) % 10007 else s[m]?.getD 0
  | 0, _, m, _ => by rw [if_neg (by omega)]; rfl
  | k + 1, hk, m, hm => by
    have hl := smI_len s d n k
    have im := smI_at (d := d) (n := n) hs k (by omega) m hm
    have ii := smI_at (d := d) (n := n) hs k (by omega) (n + k) (by omega)
    rw [smI, List.getElem?_set]
    by_cases h : n + k = m
    · subst h
      rw [if_pos rfl, if_pos (by omega), if_pos (by omega), ii, if_neg (by omega), show n + k - n = k by omega]; rfl
    · rw [if_neg h, im]
      by_cases h2 : n ≤ m ∧ m < n + k
      · rw [if_pos h2, if_pos (by omega)]
      · rw [if_neg h2, if_neg (by omega)]
theorem smO_at (d : List (List Int)) {m : Nat} (hm : m < 7) : ∀ n, n ≤ 7 → cgI.r ((smO d n)[m]?.getD 0) (sT (fun t => if t ≤ m then at2 d t (m - t) else 0) n)
  | 0, _ => by
    have : m = 0 ∨ m = 1 ∨ m = 2 ∨ m = 3 ∨ m = 4 ∨ m = 5 ∨ m = 6 := by omega
    rcases this with rfl | rfl | rfl | rfl | rfl | rfl | rfl <;> rfl
  | n + 1, hn => by
    have ih := smO_at d hm n (by omega)
    rw [smO, smI_at (smO_len d n) (7 - n) (by omega) m hm, sT]
    by_cases h : n ≤ m
    · rw [if_pos (by omega), if_pos h]
      refine cgI.trans (Int.emod_emod_of_dvd _ (Int.dvd_refl _)) ?_
      exact cgI.add ih (cgI.refl _)
    · rw [if_neg (by omega), if_neg h]
      exact cgI.trans ih (cgI.eq (Int.add_zero _).symm)
theorem flows_from {z : Int} {f : List (List Mon)} {P : List (List Int)} (hf : FieldOk z f) (hl : P.length = f.length) (hP : ∀ r ∈ P, r.length = 7 ∧ Ns r) : (flD f P 6).map smD = flsS f P 6 := by
  refine List.ext_getElem (by simp) fun k h1 h2 => ?_
  have hk : k < P.length := by simpa using h1
  have hk2 : k < (flD f P 6).length := by simpa using h1
  have r2 := flsS_row (f := f) hP 6 _ (memD [] h2)
  have e1 : ((flD f P 6).map smD)[k] = smD ((flD f P 6)[k]?.getD []) := by rw [List.getElem_map, List.getElem?_eq_getElem hk2]; rfl
  have e2 : (flsS f P 6)[k]?.getD [] = (flsS f P 6)[k] := by rw [List.getElem?_eq_getElem h2]; rfl
  rw [e1, ← e2]
  have l1 := smO_len ((flD f P 6)[k]?.getD []) 7
  have n1 := smO_N ((flD f P 6)[k]?.getD []) 7
  refine List.ext_getElem (by rw [r2.1]; exact l1) fun m m1 m2 => ?_
  have hm : m < 7 := by rw [r2.1] at m2; exact m2
  have a1 := smO_at ((flD f P 6)[k]?.getD []) hm 7 (Nat.le_refl _)
  have a2 := flsS_at (f := f) (P := P) (k := k) (m := m) hk hl hm 6
  have a3 : cgI.r (sT (fun t => if t ≤ m then at2 ((flD f P 6)[k]?.getD []) t (m - t) else 0) 7) (sT (gT f P k m) 7) := cgI.sT (fun t ht => by
    unfold gT
    split
    · have h := flD_is hf hl hP (k := k) (n := t) (by omega) (by omega) (m - t) (by omega)
      have e3 : (ofI (ift t) * toS (evS P (alN f f.length k t)) : Ser Int) (m - t) = ift t * (evS P (alN f f.length k t))[m - t]?.getD 0 := by
        rw [mulC]
        have := cmul_of (ift t) (m - t) (toS (evS P (alN f f.length k t)))
        show cmul (m - t) (toS (evS P (alN f f.length k t))) (sOf (ift t)) = _
        rw [this]
        exact Int.mul_comm _ _
      rw [e3] at h
      exact h
    · exact cgI.refl _)
  have key : cgI.r ((smD ((flD f P 6)[k]?.getD []))[m]?.getD 0) (((flsS f P 6)[k]?.getD [])[m]?.getD 0) := cgI.trans a1 (cgI.trans a3 (cgI.symm a2))
  have b1 := n1.get m
  have b2 := r2.2.get m
  have k2 : (smD ((flD f P 6)[k]?.getD []))[m]?.getD 0 % 10007 = ((flsS f P 6)[k]?.getD [])[m]?.getD 0 % 10007 := key
  have b1' : isN ((smD ((flD f P 6)[k]?.getD []))[m]?.getD 0) := b1
  have r2' : isN (((flsS f P 6)[k]?.getD [])[m]?.getD 0) := b2
  rw [Int.emod_eq_of_lt b1'.1 (by have := b1'.2; omega), Int.emod_eq_of_lt r2'.1 (by have := r2'.2; omega)] at k2
  simpa [m1, m2] using k2
end Go.Proofs.Ytmojbncbbnjblaa


namespace Go.Proofs.Ytmojbncbbnjblaa
open Go.Abs
set_option linter.unusedVariables false
set_option linter.unusedSimpArgs false
set_option maxHeartbeats 1000000
def odmat (L : List (List (List Int))) : List AV := L.flatMap omat
theorem odmat_app (A C : List (List (List Int))) : odmat (A ++ C) = odmat A ++ odmat C := by simp [odmat]
theorem odmat_nil : odmat [] = [] := rfl
theorem frzL_app (a b : List AV) : frzL (a ++ b) = frzL a ++ frzL b := by rw [frzL_eq, frzL_eq, frzL_eq, List.map_append]
@[simp] theorem odmat_frz (L : List (List (List Int))) : frzL (odmat L) = dmat L := by
  induction L with
  | nil => rfl
  | cons D L ih =>
    have e : odmat (D :: L) = omat D ++ odmat L := rfl
    rw [e, frzL_app, omat_frz, ih]; rfl
theorem odmat_len {L : List (List (List Int))} (h : ∀ D ∈ L, Dbl D) : (odmat L).length = 7 * L.length := by
  induction L with
  | nil => rfl
  | cons D L ih =>
    have := ih (fun E hE => h E (by simp [hE]))
    have h1 := (h D (by simp)).1
    simp only [odmat, List.flatMap_cons, List.length_append, List.length_cons, omat_len] at this ⊢
    omega
theorem odmat_get {L : List (List (List Int))} (h : ∀ D ∈ L, Dbl D) {i n : Nat} (hi : i < L.length) (hn : n < 7) : (odmat L)[i * 7 + n]? = some (.own 2 7 (avs ((L[i]?.getD [])[n]?.getD []))) := by
  induction L generalizing i with
  | nil => simp at hi
  | cons D L ih =>
    have h1 := h D (by simp)
    have e : odmat (D :: L) = omat D ++ odmat L := rfl
    rw [e]
    cases i with
    | zero =>
      rw [List.getElem?_append_left (by rw [omat_len, h1.1]; omega), Nat.zero_mul, Nat.zero_add, omat_get (by rw [h1.1]; exact hn)]
      have := (h1.at hn).1
      simp only [List.getElem?_cons_zero, Option.getD_some]
      rw [this]
    | succ i =>
      rw [List.getElem?_append_right (by rw [omat_len, h1.1]; omega), omat_len, h1.1, show (i + 1) * 7 + n - 7 = i * 7 + n by omega, ih (fun E hE => h E (by simp [hE])) (by simpa using hi)]
      simp
theorem odmat_set {L : List (List (List Int))} (h : ∀ D ∈ L, Dbl D) {i n : Nat} (hi : i < L.length) (hn : n < 7) {r : List Int} (hr : r.length = 7) : (odmat L).set (i * 7 + n) (.own 2 7 (avs r)) = odmat (L.set i ((L[i]?.getD []).set n r)) := by
  induction L generalizing i with
  | nil => simp at hi
  | cons D L ih =>
    have h1 := h D (by simp)
    have e : ∀ D L, odmat (D :: L) = omat D ++ odmat L := fun D L => rfl
    rw [e]
    cases i with
    | zero =>
      rw [Nat.zero_mul, Nat.zero_add, List.set_append_left _ _ (by rw [omat_len, h1.1]; exact hn)]
      have := omat_set D n r
      rw [hr] at this
      rw [this]; rfl
    | succ i =>
      rw [List.set_append_right _ _ (by rw [omat_len, h1.1]; omega), omat_len, h1.1, show (i + 1) * 7 + n - 7 = i * 7 + n by omega, ih (fun E hE => h E (by simp [hE])) (by simpa using hi)]
      simp [odmat]
def mxD {α : Type} (A C : List α) (i : Nat) : List α := C.take i ++ A.drop i
theorem mxD_zero {α : Type} (A C : List α) : mxD A C 0 = A := by simp [mxD]
theorem mxD_all {α : Type} {A C : List α} (h : C.length = A.length) : mxD A C A.length = C := by simp [mxD, ← h]
theorem mxD_len {α : Type} {A C : List α} (h : C.length = A.length) {i : Nat} (hi : i ≤ A.length) : (mxD A C i).length = A.length := by simp [mxD]; omega
theorem mxD_get {α : Type} {A C : List α} (h : C.length = A.length) {i : Nat} (hi : i < A.length) (d : α) : (mxD A C i)[i]?.getD d = A[i]?.getD d := by
  unfold mxD
  rw [List.getElem?_append_right (by simp; omega)]
  simp [show min i C.length = i by omega]
theorem mxD_set {α : Type} {A C : List α} (h : C.length = A.length) {i : Nat} (hi : i < A.length) (d : α) : (mxD A C i).set i (C[i]?.getD d) = mxD A C (i + 1) := by
  unfold mxD
  have hc : i < C.length := by omega
  rw [List.set_append_right _ _ (by simp; omega)]
  have e1 : (C.take i).length = i := by simp; omega
  have e2 : C.take (i + 1) = C.take i ++ [C[i]] := by rw [List.take_add_one, List.getElem?_eq_getElem hc]; rfl
  rw [e1, Nat.sub_self, List.drop_eq_getElem_cons hi, List.set_cons_zero, e2, List.getElem?_eq_getElem hc, List.append_assoc]
  rfl
theorem mxD_mem {α : Type} {A C : List α} {i : Nat} {p : α → Prop} (h1 : ∀ x ∈ A, p x) (h2 : ∀ x ∈ C, p x) : ∀ x ∈ mxD A C i, p x := fun x hx => by
  rcases List.mem_append.1 hx with hx | hx
  · exact h2 x (List.mem_of_mem_take hx)
  · exact h1 x (List.mem_of_mem_drop hx)
def ffE (z : Int) (f : List (List Mon)) (q : List (List Int)) : Int := if fieldB z f = true then if serB z q = true then 0 else 2 else 1
def ffX (z : Int) (f : List (List Mon)) (q : List (List Int)) : List (List Int) := if ffE z f q = 0 then turnS (flsS f (turnS q) 6) else []
def ffR (z : Int) (f : List (List Mon)) (q : List (List Int)) : AV := .tup [.own 27 (ffX z f q).length (omat (ffX z f q)), .int (ffE z f q)]
theorem ffE_ok {z : Int} {f : List (List Mon)} {q : List (List Int)} (h : ffE z f q = 0) : FieldOk z f ∧ q.length = 7 ∧ ∀ r ∈ q, (r.length : Int) = z ∧ Ns r := by
  unfold ffE at h
  split at h
  · rename_i hF
    split at h
    · rename_i hV
      unfold serB at hV
      simp only [Bool.and_eq_true, decide_eq_true_eq, List.all_eq_true] at hV
      exact ⟨fieldB_iff.1 hF, hV.1, fun r hr => by have := vecB_iff.1 (hV.2 r hr); exact ⟨this.1, this.2⟩⟩
    · simp at h
  · simp at h
theorem ffX_row {z : Int} {f : List (List Mon)} {q : List (List Int)} (h : ffE z f q = 0) : (ffX z f q).length = 7 ∧ ∀ r ∈ ffX z f q, (r.length : Int) = z := by
  obtain ⟨hF, h7, hr⟩ := ffE_ok h
  have z1 := hF.lo
  have h0 := (hr _ (memD (i := 0) [] (by omega))).1
  have tr : ∀ r ∈ turnS q, r.length = 7 ∧ Ns r := turnS_row h7 (fun r h => (hr r h).2)
  have sr := flsS_row (f := f) tr 6
  have sl : (flsS f (turnS q) 6).length = (q[0]?.getD []).length := by rw [flsS_len, turnS_len]
  have s0 := memD (i := 0) [] (l := flsS f (turnS q) 6) (by omega)
  unfold ffX
  rw [if_pos h]
  refine ⟨by rw [turnS_len, (sr _ s0).1], fun r hr2 => ?_⟩
  have := (turnS_row sl (fun r h => (sr r h).2) r hr2).1
  omega
theorem partDoubled_c {z : Int} {p : List Mon} {L : List (List (List Int))} (hz : z ≤ 3) (hp : partB z p = true) (hL : (L.length : Int) = z) (hr : ∀ D ∈ L, Dbl D) :
    Con Try.prog 63 [.fmp (polF p), .sl L.length (dmat L)] (.agg (omat (evD L p))) := by
  refine doubled_c (polF p) L (fun m n => voD L m n p % 10007) (by omega) hr (fun k x hk => part_entries hz hp hk) (fun m n => isN_mod _) (fun es he m n => ?_)
  rw [reD_perm L m n (enum_perm (keys_nd hz hp) he), reD_map (by omega) m n p]
end Go.Proofs.Ytmojbncbbnjblaa


namespace Go.Proofs.Ytmojbncbbnjblaa
open Go.Abs CR
set_option linter.unusedVariables false
set_option linter.unusedSimpArgs false
set_option maxHeartbeats 1000000
theorem turnS_row2 {a : List (List Int)} {m : Nat} (h : m < (a[0]?.getD []).length) : (turnS a)[m]?.getD [] = colS a m := by simp [turnS, h]
theorem ff_facts {z : Int} {f : List (List Mon)} {y : List Int} (h : fpE z f y = 0) : serB z (fsX z f y) = true ∧ ffE z f (fsX z f y) = 0 := by
  obtain ⟨hF, hl, hN⟩ := fpE_ok h
  obtain ⟨e1, e2⟩ := fsX_row h
  have hs : serB z (fsX z f y) = true := by
    unfold serB
    simp [e1]
    exact fun r hr => vecB_iff.2 ⟨by rw [(e2 r hr).1]; exact hl, (e2 r hr).2⟩
  have hfb : fieldB z f = true := by
    unfold fpE at h
    cases hb : fieldB z f with
    | true => rfl
    | false => rw [hb] at h; simp at h
  refine ⟨hs, ?_⟩
  unfold ffE
  rw [if_pos hfb, if_pos hs]
theorem ff_double {z : Int} {f : List (List Mon)} {y : List Int} (h : fpE z f y = 0) : ffX z f (fsX z f y) = svL 2 (fsX z f y) 7 := by
  obtain ⟨hF, hl, hN⟩ := fpE_ok h
  have zl := hF.len
  have z1 := hF.lo
  have hlf : y.length = f.length := by omega
  have hq : fsX z f y = turnS (floS f y 6) := by unfold fsX; rw [if_pos h]
  have rows := floS_row (f := f) hN 6
  have fl := floS_len f y 6
  have r0 := (rows _ (memD (i := 0) [] (by omega))).1
  have tt : turnS (turnS (floS f y 6)) = floS f y 6 := by
    have c0 : ((turnS (floS f y 6))[0]?.getD []).length = y.length := by rw [turnS_row2 (by omega), colS_len, fl]
    refine List.ext_getElem (by rw [turnS_len, c0, fl]) fun k h1 h2 => ?_
    have hk : k < y.length := by omega
    have e1 : (turnS (turnS (floS f y 6)))[k] = colS (turnS (floS f y 6)) k := by simp [turnS]
    have rk := (rows _ (memD (i := k) [] (by omega))).1
    have e2 : (floS f y 6)[k] = (floS f y 6)[k]?.getD [] := by rw [List.getElem?_eq_getElem h2]; rfl
    rw [e1, e2]
    have tl : (turnS (floS f y 6)).length = 7 := by rw [turnS_len, r0]
    refine List.ext_getElem (by rw [colS_len, tl, rk]) fun m m1 m2 => ?_
    have hm : m < 7 := by rw [rk] at m2; exact m2
    have e3 : (colS (turnS (floS f y 6)) k)[m] = ((turnS (floS f y 6))[m]?.getD [])[k]?.getD 0 := by simp [colS, tb]
    rw [e3, turnS_row2 (by omega)]
    have e4 : (colS (floS f y 6) m)[k]?.getD 0 = ((floS f y 6)[k]?.getD [])[m]?.getD 0 := tb_get (fun i => ((floS f y 6)[i]?.getD [])[m]?.getD 0) (by omega)
    rw [e4, List.getElem?_eq_getElem m2]; rfl
  unfold ffX
  rw [if_pos (ff_facts h).2, hq, tt]
  have srow := flsS_row (f := f) rows 6
  have sl := flsS_len f (floS f y 6) 6
  have s0 := (srow _ (memD (i := 0) [] (by omega))).1
  refine List.ext_getElem (by rw [turnS_len, s0, svL_len]) fun m h1 h2 => ?_
  have hm : m < 7 := by simpa using h2
  have e1 : (turnS (flsS f (floS f y 6) 6))[m] = colS (flsS f (floS f y 6) 6) m := by simp [turnS]
  have e2 : (svL 2 (turnS (floS f y 6)) 7)[m] = scalS ((turnS (floS f y 6))[m]?.getD []) (pw 2 m) := by simp [svL]
  rw [e1]
  refine Eq.trans ?_ e2.symm
  rw [turnS_row2 (by omega)]
  refine List.ext_getElem (by rw [colS_len, scalS_len, colS_len, sl]) fun k k1 k2 => ?_
  have hk : k < f.length := by rw [colS_len, sl, fl] at k1; omega
  have tw := flow_twice hF hlf hN hk hm
  have g1 : (colS (flsS f (floS f y 6) 6) m)[k] = ((flsS f (floS f y 6) 6)[k]?.getD [])[m]?.getD 0 := by simp [colS, tb]
  have g2 : (scalS (colS (floS f y 6) m) (pw 2 m))[k] = (colS (floS f y 6) m)[k]?.getD 0 * (pw 2 m % 10007) % 10007 := by simp [scalS, tb]
  have e4 : (colS (floS f y 6) m)[k]?.getD 0 = ((floS f y 6)[k]?.getD [])[m]?.getD 0 := tb_get (fun i => ((floS f y 6)[i]?.getD [])[m]?.getD 0) (by omega)
  have n1 := (srow _ (memD (i := k) [] (by omega))).2.get m
  rw [g1, g2, e4]
  have tw2 : ((flsS f (floS f y 6) 6)[k]?.getD [])[m]?.getD 0 % 10007 = 2 ^ m * ((floS f y 6)[k]?.getD [])[m]?.getD 0 % 10007 := tw
  have p2 : pw 2 m = 2 ^ m % 10007 := by unfold pw; rw [Int.toNat_natCast]
  rw [p2, Int.emod_emod_of_dvd _ (Int.dvd_refl _), mul_mod_r, Int.mul_comm _ ((2 : Int) ^ m), ← tw2]
  unfold isN at n1
  omega
end Go.Proofs.Ytmojbncbbnjblaa


namespace Go.Proofs.Ytmojbncbbnjblaa
open Go.Abs
set_option linter.unusedVariables false
set_option linter.unusedSimpArgs false
set_option maxHeartbeats 1000000
theorem odmat_take (L : List (List (List Int))) (i : Nat) (h : i < L.length) : odmat (L.take (i + 1)) = odmat (L.take i) ++ omat (L[i]?.getD []) := by
  rw [List.take_add_one, List.getElem?_eq_getElem h, odmat_app]; simp [odmat]
theorem odmat_klL (W : List Nat) (L : List (List (List Int))) : klL W (odmat L) = odmat L := by
  induction L with
  | nil => rfl
  | cons D L ih =>
    have e : odmat (D :: L) = omat D ++ odmat L := rfl
    have ka : ∀ a b : List AV, klL W (a ++ b) = klL W a ++ klL W b := fun a b => by
      induction a with
      | nil => rfl
      | cons x a ih => rw [List.cons_append, klL, ih, klL]; rfl
    rw [e, ka, omat_klL, ih]
set_option maxRecDepth 100000 in
theorem FlowFrom_c (z : Int) (f : List (List Mon)) (q : List (List Int)) (hs : Small f) (hl : q.length ≤ 1048576) (hrl : ∀ r ∈ q, r.length ≤ 1048576) :
    Con Try.prog 15 [.agg [.int z, .sl f.length (prt f)], .sl q.length (mat q)] (ffR z f q) := by
  have cT := IsField_c z f hs
  have cR := isVectorSeries_c z f.length (prt f) q (by omega) (fun r h => by have := hrl r h; omega)
  unfold ffR ffX
  have hz := @ffE_ok z f q
  have hd : ffE z f q = if fieldB z f = true then if serB z q = true then 0 else 2 else 1 := rfl
  have hX := @ffX_row z f q
  unfold ffX at hX
  generalize ffE z f q = e at *
  by_cases he : e = 0
  · subst he
    obtain ⟨hF, h7, hr⟩ := hz rfl
    rw [if_pos rfl] at hX ⊢
    rw [(hX rfl).1]
    have z1 := hF.lo
    have z3 := hF.hi
    have zl := hF.len
    have q0 := (hr _ (memD (i := 0) [] (by omega))).1
    have cP := polynomials_c z f hF hs
    have cU := turned_c q (by omega) (by omega) (fun r h => by have := (hr r h).1; omega) (by omega)
    have tr : ∀ r ∈ turnS q, r.length = 7 ∧ Ns r := turnS_row h7 (fun r h => (hr r h).2)
    have tl : (turnS q).length = f.length := by rw [turnS_len]; omega
    have hfl := flows_from hF tl tr
    rw [← hfl]
    rw [← hfl] at hX
    have hX2 := (hX rfl).1
    have fok := fun n (h : n ≤ 6) => flD_ok (f := f) tr n h
    have flen := fun n => flD_len f (turnS q) n
    have fz := fun n k hk => @flD_at f (turnS q) n k hk
    have f0 : flD f (turnS q) 0 = (turnS q).map newD := rfl
    generalize turnS q = U at *
    cases hT : fieldB z f with
    | false => rw [hT] at hd; simp at hd
    | true =>
      cases hV : serB z q with
      | false => rw [hT, hV] at hd; simp at hd
      | true =>
        rw [hT] at cT
        rw [hV] at cR
        refine con_of_vc Try.mixed ⟨21, [31, 34, 86], [], []⟩ Try.func15 (by decide) rfl (by simp) (by decide) (by simp [freshOK, freshL, go_sem]) ?_
        rw [Try.ntmps15]
        simp [go_sem]
        refine CallVC.of (cT) (by decide) ?_
        simp [go_sem]
        refine CallVC.of (cR) (by decide) ?_
        simp [go_sem]
        refine CallVC.of (cP) (by decide) ?_
        simp [go_sem]
        refine CallVC.of (cU) (by decide) ?_
        simp [go_sem]
        have v0 : ∀ i, i < U.length → (flD f U 0)[i]?.getD [] = newD (U[i]?.getD []) := fun i h => by rw [f0]; simp [h]
        refine loop_inv (7 :: 9 :: List.range' 36 10) (fun i : Nat => [(7, .own 88 i (odmat ((flD f U 0).take i))), (36, .int i)]) (fun i => i ≤ U.length) (fun i => U.length - i) 0 (by simp) (by simp [go_sem, odmat_nil]) (by simp [go_sem, odmat_klL]) ?_
        intro i hi
        simp [go_sem]
        refine ⟨fun h => ?_, fun h => ?_⟩ <;> simp at h
        · have hU := tr _ (memD [] h)
          have cN := newDouble_c hU.1
          have ht := odmat_take (flD f U 0) i (by rw [flen]; exact h)
          rw [v0 i h] at ht
          have hol := odmat_len (fun D hD => fok 0 (by omega) D (List.mem_of_mem_take hD) : ∀ D ∈ (flD f U 0).take i, Dbl D)
          have htl : ((flD f U 0).take i).length = i := by rw [List.length_take, flen]; omega
          rw [htl] at hol
          generalize odmat ((flD f U 0).take i) = M at *
          have hz1 : (newD (U[i]?.getD [])).length = 7 := rfl
          simp [go_sem, mat_drop h, hU.1]
          refine ⟨⟨h, by rintro rfl; simp at h⟩, ?_⟩
          refine CallVC.of (cN) (by decide) ?_
          simp [go_sem]
          simp [go_sem, omat_klL, omat_rootsL, omat_cellsB, omat_has hz1]
          refine ⟨rfl, ⟨by omega, rfl, by omega, by omega⟩, ⟨by omega, by omega⟩, i + 1, by omega, by omega, Off_reset _ _ _ (by simp), ?_, by omega⟩
          rw [ht]
          exact ⟨rfl, rfl⟩
        · have e : i = U.length := by omega
          subst e
          have tk : (flD f U 0).take U.length = flD f U 0 := List.take_of_length_le (by rw [flen]; omega)
          simp [go_sem, tk]
          refine loop_inv (7 :: 10 :: 11 :: 13 :: 14 :: List.range' 46 39) (fun j : Nat => [(7, .own 88 U.length (odmat (flD f U j))), (10, .int ((j : Int) + 1))]) (fun j => j ≤ 6) (fun j => 6 - j) 0 (by simp) (by simp [go_sem]) (by simp [go_sem, odmat_klL]) ?_
          intro j hj
          simp [go_sem]
          refine ⟨fun h => ?_, fun h => ?_⟩ <;> simp at h
          · have hj6 : j < 6 := by omega
            have nok := fok j hj
            have nok2 := fok (j + 1) (by omega)
            have nl := flen j
            have nl2 := flen (j + 1)
            have nat := fz j
            generalize hN2 : flD f U (j + 1) = N2 at *
            generalize flD f U j = N at *
            have vl : (f.map (evD N)).length = f.length := by simp
            have vat : ∀ i, i < f.length → (f.map (evD N))[i]?.getD [] = evD N (f[i]?.getD []) := fun i h => by simp [h]
            have vok : ∀ D ∈ f.map (evD N), Dbl D := fun D hD => by
              obtain ⟨p, _, rfl⟩ := List.mem_map.1 hD
              exact evD_ok N p
            have cD := fun (i : Nat) (h : i < f.length) => partDoubled_c (z := z) (p := f[i]?.getD []) (L := N) (by omega) (hF.part _ (memD [] h)) (by omega) nok
            generalize f.map (evD N) = V at *
            simp [go_sem]
            refine loop_inv (11 :: 13 :: List.range' 53 11) (fun i : Nat => [(11, .own 88 i (odmat (V.take i))), (53, .int i)]) (fun i => i ≤ f.length) (fun i => f.length - i) 0 (by simp) (by simp [go_sem, odmat_nil]) (by simp [go_sem, odmat_klL]) ?_
            intro i hi
            simp [go_sem]
            refine ⟨fun h => ?_, fun h => ?_⟩ <;> simp at h
            · have ht := odmat_take V i (by omega)
              rw [vat i h] at ht
              have cDi := cD i h
              rw [nl] at cDi
              have hol := odmat_len (fun D hD => vok D (List.mem_of_mem_take hD) : ∀ D ∈ V.take i, Dbl D)
              have htl : (V.take i).length = i := by rw [List.length_take]; omega
              rw [htl] at hol
              generalize odmat (V.take i) = M at *
              have hz1 := (evD_ok N (f[i]?.getD [])).1
              generalize evD N (f[i]?.getD []) = R at *
              simp [go_sem, fpols_drop h]
              refine ⟨⟨h, by rintro rfl; simp at h⟩, ?_⟩
              refine CallVC.of (cDi) (by decide) ?_
              simp [go_sem]
              simp [go_sem, omat_klL, omat_rootsL, omat_cellsB, omat_has hz1]
              refine ⟨hz1, ⟨by omega, hz1, by omega, by omega⟩, ⟨by omega, by omega⟩, i + 1, by omega, by omega, Off_reset _ _ _ (by simp), ?_, by omega⟩
              rw [ht]
              exact ⟨rfl, rfl⟩
            · have e : i = f.length := by omega
              subst e
              have tk : V.take f.length = V := List.take_of_length_le (by omega)
              simp [go_sem, tk]
              have c2 : N2.length = N.length := by omega
              refine loop_inv (7 :: 14 :: List.range' 66 19) (fun i : Nat => [(7, .own 88 U.length (odmat (mxD N N2 i))), (66, .int i)]) (fun i => i ≤ U.length) (fun i => U.length - i) 0 (by simp) (by simp [go_sem, mxD_zero]) (by simp [go_sem, odmat_klL]) ?_
              intro i hi
              simp [go_sem]
              refine ⟨fun h => ?_, fun h => ?_⟩ <;> simp at h
              · have hiN : i < N.length := by omega
                have hif : i < f.length := by omega
                have mok : ∀ D ∈ mxD N N2 i, Dbl D := mxD_mem nok nok2
                have ml := mxD_len c2 (i := i) (by omega)
                have gv := odmat_get vok (i := i) (n := j) (by omega) (by omega)
                rw [vat i hif] at gv
                have ev := (evD_ok N (f[i]?.getD [])).at (k := j) (by omega)
                have ci := inv_c ((j : Int) + 1) ⟨by omega, by omega⟩
                have pb : isN (pw ((j : Int) + 1) 10005) := isN_mod _
                have st := odmat_set mok (i := i) (n := j + 1) (r := scalS ((evD N (f[i]?.getD []))[j]?.getD []) (pw ((j : Int) + 1) 10005)) (by omega) (by omega) (by rw [scalS_len]; exact ev.1)
                rw [mxD_get c2 hiN, ← nat i h, mxD_set c2 hiN] at st
                have cs := scaled_c ((evD N (f[i]?.getD []))[j]?.getD []) (pw ((j : Int) + 1) 10005) ev.2 ⟨by have := pb.1; omega, by have := pb.2; omega⟩ (by omega)
                rw [ev.1] at cs
                have ol := odmat_len mok
                have ovl := odmat_len vok
                have e1 : ((j : Int) + 1 - 1) = j := by omega
                have vnn : ¬ odmat V = [] := fun h => by have := congrArg List.length h; rw [ovl, List.length_nil] at this; omega
                have mnn : ¬ odmat (mxD N N2 i) = [] := fun h => by have := congrArg List.length h; rw [ol, List.length_nil] at this; omega
                simp [go_sem, gv, e1]
                refine ⟨by kernel_rfl, by omega, hif, ⟨by omega, vnn⟩, ?_⟩
                refine CallD.of (ci) (by simp [roots, rootsL]) (by decide) ?_
                simp [go_sem]
                simp [go_sem, gv]
                refine CallD.of (cs) (by simp [roots, rootsL]) (by decide) ?_
                simp [go_sem]
                refine ⟨by omega, ⟨by omega, by omega, mnn⟩, by omega, ?_⟩
                refine ⟨by kernel_rfl, ?_⟩
                simp [go_sem]
                refine ⟨⟨by omega, by omega⟩, i + 1, by omega, by omega, Off_reset _ _ _ (by simp), ?_, by omega⟩
                rw [← st]
              · have e : i = U.length := by omega
                subst e
                have hall := mxD_all c2
                rw [nl] at hall
                simp [go_sem, hall]
                refine ⟨⟨by omega, by omega⟩, j + 1, by omega, by omega, (by repeat (first | exact Off_reset _ _ _ (by simp) | (refine Off.reset (by intro x hx; simp at hx ⊢; omega) (by simp) ?_; simp -failIfUnchanged [go_sem, Off_reset]))), ?_, by omega⟩
                rw [hN2]
          · have e : j = 6 := by omega
            subst e
            have nok := fok 6 hj
            have nl := flen 6
            generalize flD f U 6 = N at *
            have wl : (N.map smD).length = U.length := by simp [nl]
            have wat : ∀ i, i < U.length → (N.map smD)[i]?.getD [] = smD (N[i]?.getD []) := fun i h => by simp [show i < N.length by omega]
            have wrow : ∀ r ∈ N.map smD, r.length = 7 := fun r hr => by
              obtain ⟨D, _, rfl⟩ := List.mem_map.1 hr
              exact smO_len D 7
            have w0 := wrow _ (memD (i := 0) [] (by omega))
            have cE := turned_c (N.map smD) (by omega) (by omega) (fun r h => by rw [wrow r h, w0]) (by omega)
            rw [hX2, wl] at cE
            generalize N.map smD = Wd at *
            simp [go_sem]
            refine loop_inv (15 :: 17 :: 18 :: 19 :: 20 :: List.range' 88 39) (fun i : Nat => [(15, .own 27 i (omat (Wd.take i))), (88, .int i)]) (fun i => i ≤ U.length) (fun i => U.length - i) 0 (by simp) (by simp [go_sem, omat_nil]) (by simp [go_sem]) ?_
            intro i hi
            simp [go_sem]
            refine ⟨fun h => ?_, fun h => ?_⟩ <;> simp at h
            · have hiN : i < N.length := by omega
              have hD := nok _ (memD [] hiN)
              have hd := dmat_drop nok hiN
              have dl := dmat_len nok
              have di : ¬ dmat N = [] := fun h => by have := congrArg List.length h; rw [dl, List.length_nil] at this; omega
              have ht := omat_take Wd i (by omega)
              have hs : smD (N[i]?.getD []) = smO (N[i]?.getD []) 7 := rfl
              rw [wat i h, hs, smO_len] at ht
              generalize N[i]?.getD [] = D at *
              obtain ⟨p0, p1, p2, p3, p4, p5, p6, hq, ql⟩ := hD.rows
              have gd : ∀ n, n < 7 → ([.sl p0.length (avs p0), .sl p1.length (avs p1), .sl p2.length (avs p2), .sl p3.length (avs p3), .sl p4.length (avs p4), .sl p5.length (avs p5), .sl p6.length (avs p6)] : List AV)[n]? = some (.sl (D[n]?.getD []).length (avs (D[n]?.getD []))) := fun n hn => by
                have := mat_at (A := D) (k := n) (by rw [hD.1]; exact hn)
                rw [hq] at this ⊢
                exact this
              rw [hq] at hd
              simp only [mat, List.map_cons, List.map_nil, List.cons_append, List.nil_append] at hd
              clear hq
              simp [go_sem, hd, setMany]
              refine ⟨⟨h, di⟩, ?_⟩
              refine loop_inv (18 :: 19 :: 20 :: List.range' 93 29) (fun n : Nat => [(18, .own 2 7 (avs (smO D n))), (93, .int n)]) (fun n => n ≤ 7) (fun n => 7 - n) 0 (by simp) (by simp [go_sem, smO, avs]) (by simp [go_sem]) ?_
              intro n hn
              simp [go_sem]
              refine ⟨fun h => ?_, fun h => ?_⟩ <;> simp at h
              · have hs2 : smO D (n + 1) = smI (smO D n) D n (7 - n) := rfl
                have sN := smO_N D n
                have sl := smO_len D n
                generalize smO D n = S at *
                simp [go_sem]
                refine loop_inv (18 :: 20 :: List.range' 96 25) (fun k : Nat => [(18, .own 2 7 (avs (smI S D n k))), (20, .int k)]) (fun k => n + k ≤ 7) (fun k => 7 - k) 0 (by simp; omega) (by simp [go_sem, smI]) (by simp [go_sem]) ?_
                intro k hk
                simp [go_sem]
                refine ⟨⟨by omega, by omega⟩, ?_⟩
                refine ⟨fun h => ?_, fun h => ?_⟩ <;> simp at h
                · have hnk : n + k < 7 := by omega
                  have hst : smI S D n (k + 1) = (smI S D n k).set (n + k) (((smI S D n k)[n + k]?.getD 0 + at2 D n k) % 10007) := rfl
                  have iN := (smI_N (d := D) (n := n) sN k)
                  have il := smI_len S D n k
                  rw [sl] at il
                  generalize eI2 : smI S D n (k + 1) = I2 at *
                  generalize smI S D n k = I at *
                  have d0 := hD.at (k := n) (by omega)
                  have b1 := iN.get (n + k)
                  have b2 := d0.2.get k
                  have gn := gd n (by omega)
                  have g1 := avs_at (xs := I) (k := n + k) (by omega)
                  have g2 := avs_drop (xs := D[n]?.getD []) (k := k) (by omega)
                  have kk : ((n : Int) + k).toNat = n + k := by omega
                  rw [d0.1] at gn
                  have f1 : -9223372036854775808 ≤ I[n + k]?.getD 0 + (D[n]?.getD [])[k]?.getD 0 := by have := b1.1; have := b2.1; omega
                  have f2 : I[n + k]?.getD 0 + (D[n]?.getD [])[k]?.getD 0 ≤ 9223372036854775807 := by have := b1.2; have := b2.2; omega
                  have cN := num_c (I[n + k]?.getD 0 + (D[n]?.getD [])[k]?.getD 0) f1 f2
                  have dnn : ¬ D[n]?.getD [] = [] := fun h => by have := d0.1; rw [h] at this; simp at this
                  simp [go_sem, gn, g1, g2, kk]
                  refine ⟨by kernel_rfl, ⟨by omega, by omega⟩, ⟨by omega, by omega⟩, by omega, ⟨by omega, dnn⟩, ⟨f1, f2⟩, ?_⟩
                  refine CallD.of (cN) (by simp [roots, rootsL]) (by decide) ?_
                  simp [go_sem]
                  refine ⟨⟨by omega, by omega⟩, by omega, ?_⟩
                  refine ⟨by kernel_rfl, ?_⟩
                  simp [go_sem]
                  refine ⟨⟨by omega, by omega⟩, k + 1, by omega, by omega, Off_reset _ _ _ (by simp), ?_, by omega⟩
                  rw [eI2, hst, ← avs_set, kk]
                · have e0 : k = 7 - n := by omega
                  subst e0
                  simp [go_sem]
                  exact ⟨⟨by omega, by omega⟩, n + 1, by omega, by omega, (Off.reset (by intro x hx; simp at hx ⊢; omega) (by simp) (by simp [go_sem, Off_reset])), by rw [hs2], by omega⟩
              · have e0 : n = 7 := by omega
                subst e0
                simp [go_sem]
                refine ⟨⟨by omega, by omega, by omega⟩, ⟨by omega, by omega⟩, i + 1, by omega, by omega, (by repeat (first | exact Off_reset _ _ _ (by simp) | (refine Off.reset (by intro x hx; simp at hx ⊢; omega) (by simp) ?_; simp -failIfUnchanged [go_sem, Off_reset]))), ?_, by omega⟩
                rw [ht]
                exact ⟨by omega, rfl⟩
            · have e : i = U.length := by omega
              subst e
              have tk : Wd.take U.length = Wd := List.take_of_length_le (by omega)
              simp [go_sem, tk]
              refine CallVC.of (cE) (by decide) ?_
              simp [go_sem]
  · rw [if_neg he]
    refine Con.n1 _ ?_
    clear hz hX
    cases hT : fieldB z f with
    | false =>
      rw [hT] at hd cT
      simp at hd
      subst hd
      refine con_of_vc Try.mixed ⟨21, [31, 34, 86], [], []⟩ Try.func15 (by decide) rfl (by simp) (by decide) (by simp [freshOK, freshL, go_sem]) ?_
      rw [Try.ntmps15]
      simp [go_sem]
      refine CallVC.of (cT) (by decide) ?_
      simp [go_sem]
    | true =>
      cases hV : serB z q with
      | false =>
        rw [hT, hV] at hd
        rw [hT] at cT
        rw [hV] at cR
        simp at hd
        subst hd
        refine con_of_vc Try.mixed ⟨21, [31, 34, 86], [], []⟩ Try.func15 (by decide) rfl (by simp) (by decide) (by simp [freshOK, freshL, go_sem]) ?_
        rw [Try.ntmps15]
        simp [go_sem]
        refine CallVC.of (cT) (by decide) ?_
        simp [go_sem]
        refine CallVC.of (cR) (by decide) ?_
        simp [go_sem]
      | true => rw [hT, hV] at hd; simp at hd; exact (he hd).elim
end Go.Proofs.Ytmojbncbbnjblaa


namespace Go.Proofs.Ytmojbncbbnjblaa
open Go.Abs
set_option linter.unusedVariables false
set_option linter.unusedSimpArgs false
set_option maxHeartbeats 4000000
theorem DrS.small' {z : Int} {f : List (List Mon)} (h : DrS z f) : Small f := ⟨by have := h.2.2.1; omega, fun p hp => ⟨by have := (h.2.2.2 p hp).1; omega, fun q hq => by have := (h.2.2.2 p hp).2 q hq; omega⟩⟩
set_option maxRecDepth 100000 in
theorem FnFlowGroup_c (c : List Int) (hl : c.length ≤ 9223372036854775807) (hb : ∀ x ∈ c, 0 ≤ x ∧ x ≤ 255) : Con Try.prog 3 [.sl c.length (bys c)] (.bool true) := by
  have cB := big_c c hl
  by_cases hc4 : 4096 < c.length
  · refine con_of_vc Try.mixed ⟨22, [91], [1000000 + 14, 2000000 + 9, 2000000 + 13], []⟩ Try.func3 (by decide) rfl (by simp) (by decide) (by simp [freshOK, freshL, go_sem]) ?_
    rw [Try.ntmps3]
    simp [go_sem]
    refine CallVC.of (cB) (by decide) ?_
    simp [go_sem]
    simp [go_sem, hc4]
  · have hc : Byt c := ⟨by omega, hb⟩
    have cD := DrawFlowSeries_r c hc
    have cR := roll_r c 613 hc
    refine con_of_vc Try.mixed ⟨22, [91], [1000000 + 14, 2000000 + 9, 2000000 + 13], []⟩ Try.func3 (by decide) rfl (by simp) (by decide) (by simp [freshOK, freshL, go_sem]) ?_
    rw [Try.ntmps3]
    simp [go_sem]
    refine CallVC.of (cB) (by decide) ?_
    simp [go_sem]
    simp [go_sem, hc4]
    refine ⟨_, cD, ?_⟩
    rintro _ _ ⟨rfl, z, f, y, hD, hy, rfl⟩
    have hS := hD.small'
    have cF := FlowSeries_c z f y hS (by omega)
    have cG := specFlowSeries_c z f y hS (by omega)
    unfold fsR at cF cG
    have ok := fsX_ok z f y
    have c5 := likeRows5_c (fsX z f y) (fsX z f y) (by omega) (fun r hr => by have := ok.2 r hr; omega)
    simp [go_sem]
    refine CallVC.of (cF) (by decide) ?_
    simp [go_sem]
    refine CallVC.of (cG) (by decide) ?_
    simp [go_sem]
    refine CallVC.of (c5) (by decide) ?_
    simp [go_sem]
    by_cases hE : fpE z f y = 0
    · simp [go_sem, hE]
      refine ⟨_, cR, ?_⟩
      rintro _ _ ⟨rfl, h, rfl⟩
      obtain ⟨hF, hyl, hyN⟩ := fpE_ok hE
      have ff := ff_facts hE
      have fd := ff_double hE
      have rw7 := fsX_row hE
      have z1 := hF.lo
      have z3 := hF.hi
      obtain ⟨n, rfl⟩ : ∃ n : Nat, z = n := ⟨z.toNat, by omega⟩
      have s0 : SOk ((0, h) : Src) := by unfold SOk; simp
      have k1 := number5_c c (0, h) hc s0
      have k1N := n5V_ok hc s0
      generalize n5V c (0, h) = u at *
      have k2 := number5_c c u.2 hc k1N.2
      have k2N := n5V_ok hc k1N.2
      generalize n5V c u.2 = v at *
      have hfb : fieldB n f = true := by
        have hE2 := hE
        unfold fpE at hE2
        cases hb : fieldB n f with
        | true => rfl
        | false => rw [hb] at hE2; simp at hE2
      have cFF := FlowFrom_c n f (fsX n f y) hS (by omega) (fun r hr => by have := ok.2 r hr; omega)
      unfold ffR at cFF
      rw [fd, ff.2] at cFF
      generalize fsX n f y = Q at *
      have hQr : ∀ r ∈ Q, r.length ≤ 1048576 := fun r hr => by have := ok.2 r hr; omega
      have cS2 := ScaleVectors_c n f Q 2 hS hfb (by omega) hQr ff.1 ⟨by omega, by omega⟩
      have cSk := ScaleVectors_c n f Q u.1 hS hfb (by omega) hQr ff.1 k1N.1
      have svr : ∀ w, serB n (svL w Q 7) = true ∧ ∀ r ∈ svL w Q 7, r.length = n := fun w => by
        have hr : ∀ r ∈ svL w Q 7, (r.length : Int) = n ∧ Ns r := fun r hr => by
          obtain ⟨i, hi, rfl⟩ := List.mem_map.1 hr
          have hi7 : i < 7 := by simpa using hi
          have := (rw7.2 (Q[i]?.getD []) (memD [] (by omega))).1
          exact ⟨by rw [scalS_len, this]; exact hyl, scalS_N _ _⟩
        refine ⟨?_, fun r h => by have := (hr r h).1; omega⟩
        unfold serB
        simp
        exact fun r h => vecB_iff.2 (hr r h)
      have cE1 := EvaluateVectors_c n f (svL u.1 Q 7) v.1 (by omega) hS hfb (by simp) (fun r hr => by have := (svr u.1).2 r hr; omega) (svr u.1).1 k2N.1
      have cM := mod5_c (u.1 * v.1) (by have := mul_bound k1N.1 k2N.1; omega) (by have := mul_bound k1N.1 k2N.1; omega)
      have cE2 := EvaluateVectors_c n f Q (u.1 * v.1 % 10007) (by omega) hS hfb (by omega) hQr ff.1 (isN_mod _)
      have sc := evV_scaled u.1 v.1 Q (fun r hr => by have := (rw7.2 r hr).1; omega) 7 (by omega) (n := n)
      have mb := mul_bound k1N.1 k2N.1
      have cL1 := likeRows5_c (svL 2 Q 7) (svL 2 Q 7) (by simp) (fun r hr => by have := (svr 2).2 r hr; omega)
      rw [svL_len] at cE1 cL1 cFF
      rw [rw7.1] at cS2 cSk cE2 sc
      rw [sc] at cE1
      have cL2 := likeInts_c (evV (u.1 * v.1 % 10007) Q n 7) (evV (u.1 * v.1 % 10007) Q n 7) (by simp; omega)
      rw [evV_len] at cL2
      unfold dicA at *
      simp [go_sem]
      refine ⟨_, _, k1, ?_⟩
      simp [go_sem]
      refine ⟨_, _, k2, ?_⟩
      simp [go_sem]
      refine CallVC.of (cFF) (by decide) ?_
      simp [go_sem]
      rw [rw7.1]
      refine CallVC.of (cS2) (by decide) ?_
      simp [go_sem]
      refine CallVC.of (cSk) (by decide) ?_
      simp [go_sem]
      refine CallVC.of (cE1) (by decide) ?_
      simp [go_sem]
      refine ⟨by kernel_rfl, ⟨by omega, by omega⟩, ?_⟩
      refine CallD.of (cM) (by simp [roots, rootsL]) (by decide) ?_
      simp [go_sem]
      refine CallD.of (cE2) (by simp [roots, rootsL, frz, frzL]) (by decide) ?_
      simp [go_sem]
      refine ⟨by kernel_rfl, ?_⟩
      simp [go_sem]
      refine CallVC.of (cL1) (by decide) ?_
      simp [go_sem]
      refine CallVC.of (cL2) (by decide) ?_
      simp [go_sem]
    · generalize fpE z f y = e at *
      simp [go_sem, hE]
end Go.Proofs.Ytmojbncbbnjblaa

