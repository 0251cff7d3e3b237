/- Texts of the own layer and contracts, part 7: Q19 Q20 Q21 Q22 Q23 Q24 Q25 Q26 Q30 V6 V7 V8 L34 O OF. -/
import Derived.Test.YtjpeakcapddimaaRows
import Derived.WalkKit
import Derived.ProofKit
import Derived.OpenShut
import Derived.Test.YtjpeakcapddimaaM6
/- Plain: series of monomials and of lists of monomials at series. -/
namespace Go.Proofs.Ytjpeakcapddimaa
open Go.Abs
set_option linter.unusedVariables false
set_option linter.unusedSimpArgs false
set_option maxHeartbeats 1000000
def pwS (s x : List Int) : Nat → List Int
  | 0 => s
  | n + 1 => mulS (pwS s x n) x
@[simp] theorem pwS_len (s x : List Int) : ∀ n, (pwS s x n).length = s.length
  | 0 => rfl
  | n + 1 => by rw [pwS, mulS_len, pwS_len s x n]
theorem pwS_N {s x : List Int} (h : Ns s) : ∀ n, Ns (pwS s x n)
  | 0 => h
  | n + 1 => mulS_N _ _
/-- A monomial at series: the first i series taken in. -/
def teS (L : List (List Int)) (e : List Int) (s : List Int) : Nat → List Int
  | 0 => s
  | i + 1 => pwS (teS L e s i) (L[i]?.getD []) (e[i]?.getD 0).toNat
@[simp] theorem teS_len (L : List (List Int)) (e s : List Int) : ∀ i, (teS L e s i).length = s.length
  | 0 => rfl
  | i + 1 => by rw [teS, pwS_len, teS_len L e s i]
theorem teS_N {L : List (List Int)} {e s : List Int} (h : Ns s) : ∀ i, Ns (teS L e s i)
  | 0 => h
  | i + 1 => pwS_N (teS_N h i) _
theorem teS_congr {L : List (List Int)} {e e' s : List Int} : ∀ {n : Nat}, (∀ i, i < n → e[i]?.getD 0 = e'[i]?.getD 0) → teS L e s n = teS L e' s n
  | 0, _ => rfl
  | n + 1, h => by rw [teS, teS, teS_congr (fun i hi => h i (by omega)), h n (by omega)]
def unS (a : Int) : List Int := [a, 0, 0, 0, 0, 0, 0]
theorem unS_N {a : Int} (h : isN a) : Ns (unS a) := by
  intro x hx
  simp [unS] at hx
  rcases hx with rfl | rfl
  · exact h
  · exact ⟨by omega, by omega⟩
def teK (L : List (List Int)) (k : Key) (x : Int) : List Int := teS L [k.1, k.2.1, k.2.2] (unS x) L.length
/-- The n-th numbers of the terms of a map's entries, of a list's monomials, added up. -/
def reS (L : List (List Int)) (n : Nat) : List (Key × Int) → Int
  | [] => 0
  | e :: es => (teK L e.1 e.2)[n]?.getD 0 + reS L n es
def voS (L : List (List Int)) (n : Nat) : List Mon → Int
  | [] => 0
  | m :: p => (teS L m.2 (unS m.1) L.length)[n]?.getD 0 + voS L n p
theorem reS_app (L : List (List Int)) (n : Nat) (a b : List (Key × Int)) : reS L n (a ++ b) = reS L n a + reS L n b := by
  induction a with
  | nil => simp [reS]
  | cons e a ih => simp [reS, ih]; omega
theorem reS_perm (L : List (List Int)) (n : Nat) {a b : List (Key × Int)} (h : a.Perm b) : reS L n a = reS L n b := by
  induction h with
  | nil => rfl
  | cons x _ ih => simp [reS, ih]
  | swap x z l => simp [reS]; omega
  | trans _ _ i1 i2 => rw [i1, i2]
theorem teK_of {L : List (List Int)} (hl : L.length ≤ 3) (m : Mon) : teK L (keyOf m.2) m.1 = teS L m.2 (unS m.1) L.length := by
  refine teS_congr (fun i hi => ?_)
  have : i = 0 ∨ i = 1 ∨ i = 2 := by omega
  rcases this with rfl | rfl | rfl <;> simp [keyOf]
theorem reS_map {L : List (List Int)} (hl : L.length ≤ 3) (n : Nat) : ∀ p : List Mon, reS L n (p.map keyM) = voS L n p
  | [] => rfl
  | m :: p => by
    rw [List.map_cons, reS, voS, reS_map hl n p]
    have := teK_of hl m
    simp only [keyM]
    rw [this]
/-- A list of monomials at series. -/
def evS (L : List (List Int)) (p : List Mon) : List Int := tb (fun n => voS L n p % 10007) 7
@[simp] theorem evS_len (L : List (List Int)) (p : List Mon) : (evS L p).length = 7 := by simp [evS]
theorem evS_N (L : List (List Int)) (p : List Mon) : Ns (evS L p) := tb_N fun i _ => isN_mod _
end Go.Proofs.Ytjpeakcapddimaa

/- Contracts: series of polynomials held in maps. -/
namespace Go.Proofs.Ytjpeakcapddimaa
open Go.Abs
set_option linter.unusedVariables false
set_option linter.unusedSimpArgs false
set_option maxHeartbeats 1000000
set_option maxRecDepth 100000 in
theorem series_c (c : Key → Option Int) (L : List (List Int)) (T : Nat → Int) (hL : L.length ≤ 3) (hr : ∀ r ∈ L, r.length = 7 ∧ Ns r) (hc : ∀ k x, c k = some x → EOk (k, x)) (hE : ∀ es, Enum c es → ∀ n, reS L n es % 10007 = T n) :
    Con Try.prog 246 [.fmp c, .sl L.length (mat L)] (.own 2 7 (avs (tb T 7))) := by
  refine con_of_vc Try.mixed ⟨11, [], [], []⟩ Try.func246 (by decide) rfl (by simp) (by decide) (by simp [freshOK, freshL, go_sem]) ?_
  rw [Try.ntmps246]
  simp [go_sem]
  intro es hes
  have hok : ∀ e ∈ es, EOk e := fun e he => hc e.1 e.2 (hes.val e he)
  have hsum := hE es hes
  refine loop_inv (5 :: 6 :: 7 :: 8 :: 9 :: 10 :: List.range' 13 30) (fun x : List Int × Option (Key × Int) × List (Key × Int) => [(5, .own 2 7 (avs x.1)), (13, .it x.2.1 x.2.2)]) (fun x => x.1.length = 7 ∧ Ns x.1 ∧ (∀ n, n < 7 → (x.1[n]?.getD 0 + reS L n x.2.2) % 10007 = T n) ∧ ∀ e ∈ x.2.2, EOk e) (fun x => x.2.2.length) ([0, 0, 0, 0, 0, 0, 0], none, es) ?_ ?_ (by simp [go_sem]) ?_
  · refine ⟨rfl, ?_, fun n _ => ?_, hok⟩
    · intro x hx
      simp at hx; subst hx; exact ⟨by omega, by omega⟩
    · have e : ([0, 0, 0, 0, 0, 0, 0] : List Int)[n]?.getD 0 = 0 := by
        rcases Nat.lt_or_ge n 7 with h | h
        · have : n = 0 ∨ n = 1 ∨ n = 2 ∨ n = 3 ∨ n = 4 ∨ n = 5 ∨ n = 6 := by omega
          rcases this with rfl | rfl | rfl | rfl | rfl | rfl | rfl <;> rfl
        · simp [List.getElem?_eq_none, h]
      simp only [e, Int.zero_add]
      exact hsum n
  · simp [go_sem, avs]
  rintro ⟨o, l, rem⟩ ⟨ho, hoN, hoT, hrem⟩
  simp only at ho hoN hoT hrem
  simp [go_sem, keyAV]
  refine ⟨fun hr => ?_, fun l1 k0 k1 k2 x l2 hr2 => ?_⟩
  · subst hr
    refine List.ext_getElem (by simp [ho]) fun n h1 h2 => ?_
    have h7 : n < 7 := by omega
    have t := hoT n h7
    have oN := hoN.get n
    simp only [reS, Int.add_zero] at t
    rw [Int.emod_eq_of_lt oN.1 (by have := oN.2; omega)] at t
    simpa [tb, h1] using t
  · subst hr2
    have hek := hrem ((k0, k1, k2), x) (by simp)
    have hx : isN x := hek.1
    have hg : ∀ i : Nat, 0 ≤ ([k0, k1, k2] : List Int)[i]?.getD 0 ∧ ([k0, k1, k2] : List Int)[i]?.getD 0 ≤ 1000 := by
      intro i
      obtain ⟨_, a1, a2, a3, a4, a5, a6⟩ := hek
      match i with
      | 0 => exact ⟨a1, a2⟩
      | 1 => exact ⟨a3, a4⟩
      | 2 => exact ⟨a5, a6⟩
      | i + 3 => simp
    have hu := unS_N hx
    refine loop_inv (8 :: 9 :: 10 :: List.range' 25 15) (fun i : Nat => [(8, .own 2 7 (avs (teS L [k0, k1, k2] (unS x) i))), (25, .int i)]) (fun i => i ≤ L.length) (fun i => L.length - i) 0 (by simp) (by simp [go_sem, teS, unS, avs]) (by simp [go_sem]) ?_
    intro i hi
    simp [go_sem]
    refine ⟨fun h => ?_, fun h => ?_⟩ <;> simp at h
    · have hiL := h
      have h3 : i < ([k0, k1, k2] : List Int).length := by simp; omega
      have e3 : ([.val (.int .i64 k0), .val (.int .i64 k1), .val (.int .i64 k2)] : List AV)[i]? = some (.val (.int .i64 (([k0, k1, k2] : List Int)[i]?.getD 0))) := avs_at' (xs := [k0, k1, k2]) h3
      have g := hg i
      have hy := hr (L[i]?.getD []) (by simp [hiL])
      have hs : teS L [k0, k1, k2] (unS x) (i + 1) = pwS (teS L [k0, k1, k2] (unS x) i) (L[i]?.getD []) (([k0, k1, k2] : List Int)[i]?.getD 0).toNat := rfl
      simp [go_sem, mat_drop hiL, e3]
      refine ⟨⟨hiL, by rintro rfl; simp at hiL⟩, by omega, ?_⟩
      have hteN := teS_N (L := L) (e := [k0, k1, k2]) hu i
      have htl := teS_len L [k0, k1, k2] (unS x) i
      have hul : (unS x).length = 7 := rfl
      rw [hul] at htl
      generalize teS L [k0, k1, k2] (unS x) i = te at *
      generalize ([k0, k1, k2] : List Int)[i]?.getD 0 = ki at *
      obtain ⟨m, rfl⟩ : ∃ m : Nat, ki = m := ⟨ki.toNat, by omega⟩
      simp only [Int.toNat_natCast] at hs
      refine loop_inv (8 :: List.range' 33 6) (fun t : Nat => [(8, .own 2 7 (avs (pwS te (L[i]?.getD []) t))), (33, .int t)]) (fun t => t ≤ m) (fun t => m - t) 0 (by simp) (by simp [go_sem, pwS]) (by simp [go_sem]) ?_
      intro t ht
      simp [go_sem]
      refine ⟨fun h => ?_, fun h => ?_⟩ <;> simp at h
      · have cT := timesSeries_c (pwS te (L[i]?.getD []) t) (L[i]?.getD []) (pwS_N hteN t) hy.2 (by rw [pwS_len]; omega) (by rw [pwS_len]; omega)
        rw [pwS_len, htl] at cT
        simp [go_sem]
        refine CallVC.of (cT) (by decide) ?_
        simp [go_sem]
        exact ⟨by omega, t + 1, by omega, by omega, Off_reset _ _ _ (by simp), rfl, by omega⟩
      · have e : t = m := by omega
        subst e
        simp [go_sem]
        exact ⟨by omega, i + 1, by omega, by omega, (Off.reset (by intro x hx; simp at hx ⊢; omega) (by simp) (by simp [go_sem, Off_reset])), by rw [hs], by omega⟩
    · have e : i = L.length := by omega
      subst e
      have hteN := teS_N (L := L) (e := [k0, k1, k2]) hu L.length
      have htl := teS_len L [k0, k1, k2] (unS x) L.length
      have hul : (unS x).length = 7 := rfl
      rw [hul] at htl
      have hinv : ∀ n, n < 7 → ((plusS o (teS L [k0, k1, k2] (unS x) L.length) 1)[n]?.getD 0 + reS L n (l1 ++ l2)) % 10007 = T n := by
        intro n hn
        have t := hoT n hn
        have q := tb_get (fun i => (o[i]?.getD 0 + 1 % 10007 * (teS L [k0, k1, k2] (unS x) L.length)[i]?.getD 0) % 10007) (show n < o.length by omega)
        have q2 : (plusS o (teS L [k0, k1, k2] (unS x) L.length) 1)[n]?.getD 0 = (o[n]?.getD 0 + 1 % 10007 * (teS L [k0, k1, k2] (unS x) L.length)[n]?.getD 0) % 10007 := q
        rw [reS_app, reS] at t
        simp only [teK] at t
        rw [q2, reS_app, ← t]
        omega
      have cP := plus_c o (teS L [k0, k1, k2] (unS x) L.length) 1 hoN hteN ⟨by omega, by omega⟩ (by omega) (by omega)
      rw [ho, htl] at cP
      simp [go_sem]
      refine CallVC.of (cP) (by decide) ?_
      simp [go_sem]
      refine ⟨_, _, _, ⟨?_, plusS_N _ _ _, hinv, fun a b c d he => hrem _ ?_⟩, ?_, (Off.reset (by intro x hx; simp at hx ⊢; omega) (by simp) (by simp [go_sem, Off_reset])), rfl, rfl, rfl⟩
      · rw [plusS_len, ho]
      · rcases List.mem_append.1 he with he | he <;> simp [he]
      · simp
end Go.Proofs.Ytjpeakcapddimaa

/- Contracts: series of parts, the program's. -/
namespace Go.Proofs.Ytjpeakcapddimaa
open Go.Abs
set_option linter.unusedVariables false
set_option linter.unusedSimpArgs false
set_option maxHeartbeats 1000000
theorem partSeries_c {z : Int} {p : List Mon} {L : List (List Int)} (hz : z ≤ 3) (hp : partB z p = true) (hL : (L.length : Int) = z) (hr : ∀ r ∈ L, r.length = 7 ∧ Ns r) :
    Con Try.prog 246 [.fmp (polF p), .sl L.length (mat L)] (.own 2 7 (avs (evS L p))) := by
  refine series_c (polF p) L (fun n => voS L n p % 10007) (by omega) hr (fun k x hk => part_entries hz hp hk) (fun es he n => ?_)
  rw [reS_perm L n (enum_perm (keys_nd hz hp) he), reS_map (by omega) n p]
/-- A field's parts at series. -/
def fdS (L : List (List Int)) (f : List (List Mon)) : List (List Int) := f.map (evS L)
@[simp] theorem fdS_len (L : List (List Int)) (f : List (List Mon)) : (fdS L f).length = f.length := by simp [fdS]
theorem fdS_row {L : List (List Int)} {f : List (List Mon)} : ∀ r ∈ fdS L f, r.length = 7 ∧ Ns r := by
  intro r hr
  obtain ⟨p, _, rfl⟩ := List.mem_map.1 hr
  exact ⟨evS_len L p, evS_N L p⟩
theorem fdS_take {L : List (List Int)} {f : List (List Mon)} {i : Nat} (h : i < f.length) : fdS L (f.take (i + 1)) = fdS L (f.take i) ++ [evS L (f[i]?.getD [])] := by
  rw [List.take_add_one, List.getElem?_eq_getElem h]; simp only [fdS, List.map_append, Option.toList_some, List.map_cons, List.map_nil, Option.getD_some]
theorem voS_app (L : List (List Int)) (n : Nat) (p q : List Mon) : voS L n (p ++ q) = voS L n p + voS L n q := by
  induction p with
  | nil => simp [voS]
  | cons m p ih => simp [voS, ih]; omega
/-- One more monomial. -/
theorem evS_take {L : List (List Int)} {p : List Mon} {i : Nat} (h : i < p.length) :
    tb (fun n => ((evS L (p.take i))[n]?.getD 0 + (teS L (p[i]?.getD (0, [])).2 (unS (p[i]?.getD (0, [])).1) L.length)[n]?.getD 0) % 10007) 7 = evS L (p.take (i + 1)) := by
  rw [List.take_add_one, List.getElem?_eq_getElem h]
  unfold evS
  unfold tb
  refine List.map_congr_left fun n hn => ?_
  have hn : n < 7 := by simpa using hn
  have e := tb_get (fun n => voS L n (p.take i) % 10007) hn
  unfold tb at e
  rw [e, Option.toList_some, voS_app]
  simp [voS]
theorem evS_nil (L : List (List Int)) : evS L [] = [0, 0, 0, 0, 0, 0, 0] := by
  simp [evS, voS, tb, List.range, List.range.loop]
theorem unS_times (a : Int) (h : isN a) : tb (fun i => (tb (fun i => if i = 0 then (1 : Int) else 0) 7)[i]?.getD 0 * a % 10007) 7 = unS a := by
  have : a % 10007 = a := Int.emod_eq_of_lt h.1 (by have := h.2; omega)
  simp [unS, tb, List.range, List.range.loop, this]
end Go.Proofs.Ytjpeakcapddimaa

/- Contracts: series of parts and of fields, the reference's; the program's series of fields. -/
namespace Go.Proofs.Ytjpeakcapddimaa
open Go.Abs
set_option linter.unusedVariables false
set_option linter.unusedSimpArgs false
set_option maxHeartbeats 1000000
set_option maxRecDepth 100000 in
theorem l14ValueG_c {p : List Mon} {L : List (List Int)} (hp : ∀ m ∈ p, isN m.1 ∧ m.2.length = L.length ∧ ∀ k : Nat, 0 ≤ m.2[k]?.getD 0 ∧ m.2[k]?.getD 0 ≤ 1000000) (hpl : p.length ≤ 1000000000000) (hL : L.length ≤ 3) (hr : ∀ r ∈ L, r.length = 7 ∧ Ns r) :
    Con Try.prog 222 [.sl p.length (mons p), .sl L.length (mat L)] (.own 2 7 (avs (evS L p))) := by
  refine con_of_vc Try.mixed ⟨11, [], [], []⟩ Try.func222 (by decide) rfl (by simp) (by decide) (by simp [freshOK, freshL, go_sem]) ?_
  rw [Try.ntmps222]
  simp [go_sem]
  refine loop_inv (List.range' 6 48) (fun i : Nat => [(6, .own 2 7 (avs (evS L (p.take i)))), (7, .int i)]) (fun i => i ≤ p.length) (fun i => p.length - i) 0 (by simp) (by simp [go_sem, evS_nil, avs]) (by simp [go_sem]) ?_
  intro i hi
  simp [go_sem]
  refine ⟨fun h => ?_, fun h => ?_⟩ <;> simp at h
  · have hif := h
    have hx : p[i]?.getD (0, []) ∈ p := by simp [h]
    have hv := evS_take (L := L) h
    obtain ⟨mN, ml, mg⟩ := hp _ hx
    simp [go_sem]
    have cU := l02Unit_c 7 0 (by omega) (by omega)
    generalize hM : p[i]?.getD (0, []) = m at *
    have cT := l02Times_c (tb (fun i => if i = 0 then (1 : Int) else 0) 7) m.1 (tb_N fun i _ => by split <;> exact ⟨by omega, by omega⟩) mN (by simp)
    rw [tb_len, unS_times _ mN] at cT
    refine ⟨by kernel_rfl, ?_⟩
    refine CallD.of (cU) (by simp [roots, rootsL]) (by decide) ?_
    simp [go_sem]
    simp [go_sem, mons_drop hif, hM]
    refine ⟨⟨hif, by rintro rfl; simp at hif⟩, ?_⟩
    refine CallD.of (cT) (by simp [roots, rootsL]) (by decide) ?_
    simp [go_sem]
    refine ⟨by kernel_rfl, ?_⟩
    simp [go_sem]
    refine loop_inv (8 :: 9 :: 10 :: List.range' 27 24) (fun k : Nat => [(8, .own 2 7 (avs (teS L m.2 (unS m.1) k))), (9, .int k)]) (fun k => k ≤ L.length) (fun k => L.length - k) 0 (by simp) (by simp [go_sem, teS]) (by simp [go_sem]) ?_
    intro k hk
    simp [go_sem]
    refine ⟨fun h => ?_, fun h => ?_⟩ <;> simp at h
    · have hkL := h
      have hkm : k < m.2.length := by omega
      have hy := hr (L[k]?.getD []) (by simp [hkL])
      have g := mg k
      have hs : teS L m.2 (unS m.1) (k + 1) = pwS (teS L m.2 (unS m.1) k) (L[k]?.getD []) (m.2[k]?.getD 0).toNat := rfl
      have hteN := teS_N (L := L) (e := m.2) (unS_N mN) k
      have htl := teS_len L m.2 (unS m.1) k
      have hul : (unS m.1).length = 7 := rfl
      rw [hul] at htl
      generalize teS L m.2 (unS m.1) k = te at *
      simp [go_sem]
      refine loop_inv (8 :: 10 :: List.range' 33 18) (fun t : Nat => [(8, .own 2 7 (avs (pwS te (L[k]?.getD []) t))), (10, .int t)]) (fun t => (t : Int) ≤ m.2[k]?.getD 0) (fun t => (m.2[k]?.getD 0).toNat - t) 0 (by simp; omega) (by simp [go_sem, pwS]) (by simp [go_sem]) ?_
      intro t ht
      simp [go_sem, mons_drop hif, hM, avs_drop hkm]
      refine ⟨⟨hif, by rintro rfl; simp at hif⟩, ⟨hkm, by intro e; simp [e] at hkm⟩, ?_⟩
      refine ⟨fun h => ?_, fun h => ?_⟩ <;> simp at h
      · have cT := l02Mul_c (pwS te (L[k]?.getD []) t) (L[k]?.getD []) (pwS_N hteN t) hy.2 (by rw [pwS_len]; omega) (by rw [pwS_len]; omega)
        rw [pwS_len, htl] at cT
        simp [go_sem, mat_drop hkL]
        refine ⟨⟨hkL, by rintro rfl; simp at hkL⟩, ?_⟩
        refine CallVC.of (cT) (by decide) ?_
        simp [go_sem]
        exact ⟨⟨by omega, by omega⟩, t + 1, by omega, by omega, Off_reset _ _ _ (by simp), rfl, by omega⟩
      · have e : (m.2[k]?.getD 0).toNat = t := by omega
        rw [e] at hs
        simp [go_sem]
        exact ⟨by omega, k + 1, by omega, by omega, (Off.reset (by intro x hx; simp at hx ⊢; omega) (by simp) (by simp [go_sem, Off_reset])), by rw [hs], by omega⟩
    · have e : k = L.length := by omega
      subst e
      have hteN := teS_N (L := L) (e := m.2) (unS_N mN) L.length
      have htl := teS_len L m.2 (unS m.1) L.length
      have hul : (unS m.1).length = 7 := rfl
      rw [hul] at htl
      have cP := l02Add_c (evS L (p.take i)) (teS L m.2 (unS m.1) L.length) (evS_N _ _) hteN (by simp) (by simp; omega)
      rw [evS_len, htl, hv] at cP
      simp [go_sem]
      refine CallVC.of (cP) (by decide) ?_
      simp [go_sem]
      exact ⟨by omega, i + 1, by omega, by omega, (Off.reset (by intro x hx; simp at hx ⊢; omega) (by simp) (by simp [go_sem, Off_reset])), rfl, by omega⟩
  · have e : i = p.length := by omega
    subst e
    simp [go_sem]
theorem l14Value_c {z : Int} {p : List Mon} {L : List (List Int)} (hz : z ≤ 3) (hp : partB z p = true) (hpl : p.length ≤ 1048576) (hL : (L.length : Int) = z) (hr : ∀ r ∈ L, r.length = 7 ∧ Ns r) :
    Con Try.prog 222 [.sl p.length (mons p), .sl L.length (mat L)] (.own 2 7 (avs (evS L p))) :=
  l14ValueG_c (fun m hm => by
    have h := partB_mem hp hm
    have h1 := h.lo
    have h2 := h.hi
    have h3 := h.len
    exact ⟨⟨by omega, by omega⟩, by omega, fun k => ⟨(h.get k).1, by have := (h.get k).2; omega⟩⟩) (by omega) (by omega) hr
theorem fieldSeries_c {z : Int} {f : List (List Mon)} {L : List (List Int)} (hf : FieldOk z f) (hs : Small f) (hL : (L.length : Int) = z) (hr : ∀ r ∈ L, r.length = 7 ∧ Ns r) :
    Con Try.prog 221 [.sl f.length (fpols f), .sl L.length (mat L)] (.own 38 f.length (omat (fdS L f))) := by
  have fl := hs.1
  have z3 := hf.hi
  refine con_of_vc Try.mixed ⟨8, [], [], []⟩ Try.func221 (by decide) rfl (by simp) (by decide) (by simp [freshOK, freshL, go_sem]) ?_
  rw [Try.ntmps221]
  simp [go_sem]
  refine loop_inv (5 :: 7 :: List.range' 11 11) (fun i : Nat => [(5, .own 38 i (omat (fdS L (f.take i)))), (11, .int i)]) (fun i => i ≤ f.length) (fun i => f.length - i) 0 (by simp) (by simp [go_sem, fdS, omat_nil]) (by simp [go_sem]) ?_
  intro i hi
  simp [go_sem]
  refine ⟨fun h => ?_, fun h => ?_⟩ <;> simp at h
  · have hif := h
    have hx : f[i]?.getD [] ∈ f := by simp [h]
    have hv := fdS_take (L := L) h
    simp [go_sem, fpols_drop hif]
    refine ⟨⟨hif, by rintro rfl; simp at hif⟩, ?_⟩
    refine CallVC.of (partSeries_c z3 (hf.part _ hx) hL hr) (by decide) ?_
    simp [go_sem]
    refine ⟨⟨by omega, by omega⟩, by omega, i + 1, by omega, by omega, Off_reset _ _ _ (by simp), ?_, by omega⟩
    rw [hv, omat_app, omat_one]; simp
  · simp [go_sem]
    have e : i = f.length := by omega
    subst e; simp
end Go.Proofs.Ytjpeakcapddimaa

/- Contracts: slopes and steps, the program's and the reference's. -/
namespace Go.Proofs.Ytjpeakcapddimaa
open Go.Abs
set_option linter.unusedVariables false
set_option linter.unusedSimpArgs false
set_option maxHeartbeats 1000000
abbrev z7 : List Int := [0, 0, 0, 0, 0, 0, 0]
/-- The slopes after some rounds. -/
def sloS (A : List (List Int)) (f : List (List Mon)) (start : List (List Int)) : Nat → List (List (List Int))
  | 0 => List.replicate A.length (List.replicate start.length z7)
  | n + 1 => A.map fun row => fdS (mvS start row (sloS A f start n) row.length) f
@[simp] theorem sloS_len (A : List (List Int)) (f : List (List Mon)) (start : List (List Int)) : ∀ n, (sloS A f start n).length = A.length
  | 0 => by simp [sloS]
  | n + 1 => by simp [sloS]
theorem sloS_row {A : List (List Int)} {f : List (List Mon)} {start : List (List Int)} (hl : f.length = start.length) : ∀ n, ∀ m ∈ sloS A f start n, m.length = start.length ∧ ∀ r ∈ m, r.length = 7 ∧ Ns r
  | 0, m, hm => by
    simp only [sloS, List.mem_replicate] at hm
    obtain ⟨_, rfl⟩ := hm
    refine ⟨by simp, fun r hr => ?_⟩
    obtain ⟨_, rfl⟩ := List.mem_replicate.1 hr
    refine ⟨rfl, fun x hx => ?_⟩
    simp at hx; subst hx; exact ⟨by omega, by omega⟩
  | n + 1, m, hm => by
    rw [sloS] at hm
    obtain ⟨row, _, rfl⟩ := List.mem_map.1 hm
    exact ⟨by simp [hl], fdS_row⟩
theorem omat_rep_succ (n : Nat) : omat (List.replicate (n + 1) z7) = omat (List.replicate n z7) ++ [.own 2 7 (avs z7)] := by
  rw [List.replicate_succ', omat_app, omat_one]; rfl
theorem ocube_rep_succ (n : Nat) (m : List (List Int)) : ocube (List.replicate (n + 1) m) = ocube (List.replicate n m) ++ [.own 38 m.length (omat m)] := by
  rw [List.replicate_succ', ocube_app, ocube_one]
theorem ocube_nil : ocube [] = [] := rfl
theorem ocube_take (X : List (List (List Int))) (i : Nat) (h : i < X.length) : ocube (X.take (i + 1)) = ocube (X.take i) ++ [.own 38 (X[i]?.getD []).length (omat (X[i]?.getD []))] := by
  rw [List.take_add_one, List.getElem?_eq_getElem h, ocube_app]; rfl
theorem sloS_at {A : List (List Int)} (f : List (List Mon)) (start : List (List Int)) (n : Nat) {i : Nat} (h : i < A.length) : (sloS A f start (n + 1))[i]?.getD [] = fdS (mvS start (A[i]?.getD []) (sloS A f start n) (A[i]?.getD []).length) f := by
  simp [sloS, h]
end Go.Proofs.Ytjpeakcapddimaa

/- Contracts: steps and vector series, the program's and the reference's. -/
namespace Go.Proofs.Ytjpeakcapddimaa
open Go.Abs
set_option linter.unusedVariables false
set_option linter.unusedSimpArgs false
set_option maxHeartbeats 1000000
theorem getD_mem {α : Type} {l : List α} {i : Nat} (d : α) (h : i < l.length) : l[i]?.getD d ∈ l := by simp [h]
theorem colS_N {a : List (List Int)} (h : ∀ r ∈ a, Ns r) (k : Nat) : Ns (colS a k) := tb_N fun i hi => (h (a[i]?.getD []) (by simp [hi])).get k
theorem turnS_row {n : Nat} {a : List (List Int)} (h7 : a.length = n) (h : ∀ r ∈ a, Ns r) : ∀ r ∈ turnS a, r.length = n ∧ Ns r := by
  intro r hr
  obtain ⟨k, _, rfl⟩ := List.mem_map.1 hr
  exact ⟨by rw [colS_len, h7], colS_N h k⟩
/-- The step from a start, as one series for each variable. -/
def steS (A : List (List Int)) (B : List Int) (f : List (List Mon)) (start : List (List Int)) : List (List Int) := mvS start B (sloS A f start 7) B.length
@[simp] theorem steS_len (A : List (List Int)) (B : List Int) (f : List (List Mon)) (start : List (List Int)) : (steS A B f start).length = start.length := mvS_len _ _ _ _
theorem steS_row {A : List (List Int)} {B : List Int} {f : List (List Mon)} {start : List (List Int)} (hr : ∀ r ∈ start, r.length = 7 ∧ Ns r) : ∀ r ∈ steS A B f start, r.length = 7 ∧ Ns r := mvS_row hr _
/-- Vector series of a field. -/
def serB (z : Int) (L : List (List Int)) : Bool := decide (L.length = 7) && L.all (vecB z)
theorem notSeries_c (z : Int) (n : Nat) (cs : List AV) (y : List Int) (hl : y.length ≤ 9223372036854775807) :
    Con Try.prog 224 [.sl y.length (avs y), .fptr [.int z, .sl n cs]] (.bool (!vecB z y)) := by
  refine con_of_vc Try.mixed ⟨4, [], [], []⟩ Try.func224 (by decide) rfl (by simp) (by decide) (by simp [freshOK, freshL, go_sem]) ?_
  rw [Try.ntmps224]
  simp [go_sem]
  refine CallVC.of (isVector_c z n cs y hl) (by decide) ?_
  simp [go_sem]
theorem isVectorSeries_c (z : Int) (n : Nat) (cs : List AV) (L : List (List Int)) (hl : L.length ≤ 9223372036854775807) (hr : ∀ y ∈ L, y.length ≤ 9223372036854775807) :
    Con Try.prog 158 [.agg [.int z, .sl n cs], .sl L.length (mat L)] (.bool (serB z L)) := by
  have cC := ContainsFuncV_c 224 [.int z, .sl n cs] (fun y => !vecB z y) L hl (fun y hy => notSeries_c z n cs y (hr y hy))
  have e : L.any (fun y => !vecB z y) = !L.all (vecB z) := by rw [List.not_all_eq_any_not]
  rw [e] at cC
  unfold serB
  generalize L.all (vecB z) = b at *
  refine con_of_vc Try.mixed ⟨5, [], [], []⟩ Try.func158 (by decide) rfl (by simp) (by decide) (by simp [freshOK, freshL, go_sem]) ?_
  rw [Try.ntmps158]
  simp [go_sem]
  by_cases h : L.length = 7
  · have h2 : (L.length : Int) = 7 := by omega
    simp [go_sem, h2]
    refine CallVC.of (cC) (by decide) ?_
    simp [go_sem]
    cases b <;> simp [h]
  · have h2 : ¬ (L.length : Int) = 7 := by omega
    simp [go_sem, h2]
    simp [h]
end Go.Proofs.Ytjpeakcapddimaa

/- Contracts: steps from a vector series, the program's and the reference's. -/
namespace Go.Proofs.Ytjpeakcapddimaa
open Go.Abs
set_option linter.unusedVariables false
set_option linter.unusedSimpArgs false
set_option maxHeartbeats 1000000
def sfE (A : List (List Int)) (B : List Int) (z : Int) (f : List (List Mon)) (L : List (List Int)) : Int := if (tabB A B && fieldB z f) = false then 1 else if serB z L = false then 2 else 0
def sfX (A : List (List Int)) (B : List Int) (z : Int) (f : List (List Mon)) (L : List (List Int)) : List (List Int) := if sfE A B z f L = 0 then turnS (steS A B f (turnS L)) else []
def sfR (A : List (List Int)) (B : List Int) (z : Int) (f : List (List Mon)) (L : List (List Int)) : AV := .tup [.own 38 (sfX A B z f L).length (omat (sfX A B z f L)), .int (sfE A B z f L)]
theorem sfE_zero {A : List (List Int)} {B : List Int} {z : Int} {f : List (List Mon)} {L : List (List Int)} (h : sfE A B z f L = 0) : tabB A B = true ∧ fieldB z f = true ∧ serB z L = true := by
  unfold sfE at h
  generalize tabB A B = a at *
  generalize fieldB z f = b at *
  generalize serB z L = c at *
  cases a <;> cases b <;> cases c <;> simp_all
theorem serB_iff {z : Int} {L : List (List Int)} : serB z L = true ↔ L.length = 7 ∧ ∀ y ∈ L, (y.length : Int) = z ∧ Ns y := by
  unfold serB vecB
  simp [numsB_N]
/-- The step's shape. -/
theorem ste_turn {A : List (List Int)} {B : List Int} {z : Int} {f : List (List Mon)} {L : List (List Int)} (z1 : 1 ≤ z) (hL : L.length = 7 ∧ ∀ y ∈ L, (y.length : Int) = z ∧ Ns y) :
    ((turnS L).length : Int) = z ∧ (∀ r ∈ turnS L, r.length = 7 ∧ Ns r) ∧ (turnS (steS A B f (turnS L))).length = 7 ∧ ∀ r ∈ turnS (steS A B f (turnS L)), (r.length : Int) = z ∧ Ns r := by
  have h0 : (L[0]?.getD []) ∈ L := getD_mem _ (by omega)
  have hz := (hL.2 _ h0).1
  have tl : (turnS L).length = (L[0]?.getD []).length := turnS_len _
  have tr : ∀ r ∈ turnS L, r.length = 7 ∧ Ns r := turnS_row hL.1 (fun r h => (hL.2 r h).2)
  have sl := steS_len A B f (turnS L)
  have sr := steS_row (A := A) (B := B) (f := f) tr
  have s0 : ((steS A B f (turnS L))[0]?.getD []) ∈ steS A B f (turnS L) := getD_mem _ (by rw [steS_len]; omega)
  have s7 := (sr _ s0).1
  refine ⟨by omega, tr, by rw [turnS_len, s7], fun r h => ?_⟩
  have := turnS_row (a := steS A B f (turnS L)) rfl (fun r h => (sr r h).2) r h
  exact ⟨by omega, this.2⟩
theorem sfX_ok (A : List (List Int)) (B : List Int) (z : Int) (f : List (List Mon)) (L : List (List Int)) : (sfX A B z f L).length ≤ 7 ∧ ∀ r ∈ sfX A B z f L, r.length ≤ 3 := by
  unfold sfX
  split
  · rename_i h
    obtain ⟨hT, hF, hS⟩ := sfE_zero h
    have hF := fieldB_iff.1 hF
    have hL := serB_iff.1 hS
    obtain ⟨_, _, e1, e2⟩ := ste_turn (A := A) (B := B) (f := f) hF.lo hL
    have := hF.hi
    exact ⟨by omega, fun r hr => by have := (e2 r hr).1; omega⟩
  · simp
end Go.Proofs.Ytjpeakcapddimaa

/- Contracts: points as series, steps and stages from a point, the program's and the reference's. -/
namespace Go.Proofs.Ytjpeakcapddimaa
open Go.Abs
set_option linter.unusedVariables false
set_option linter.unusedSimpArgs false
set_option maxHeartbeats 1000000
/-- A point as series, one for each variable; as a vector series. -/
def poS (y : List Int) : List (List Int) := y.map unS
@[simp] theorem poS_len (y : List Int) : (poS y).length = y.length := by simp [poS]
theorem poS_row {y : List Int} (h : Ns y) : ∀ r ∈ poS y, r.length = 7 ∧ Ns r := by
  intro r hr
  obtain ⟨a, ha, rfl⟩ := List.mem_map.1 hr
  exact ⟨rfl, unS_N (h a ha)⟩
theorem poS_take {y : List Int} {i : Nat} (h : i < y.length) : omat (poS (y.take (i + 1))) = omat (poS (y.take i)) ++ [.own 2 7 (avs (unS (y[i]?.getD 0)))] := by
  rw [List.take_add_one, List.getElem?_eq_getElem h]
  simp only [poS, List.map_append, omat_app]; rfl
def stV (y : List Int) : List (List Int) := y :: List.replicate 6 (List.replicate y.length 0)
@[simp] theorem stV_len (y : List Int) : (stV y).length = 7 := by simp [stV]
theorem stV_row {y : List Int} (h : Ns y) : ∀ r ∈ stV y, r.length = y.length ∧ Ns r := by
  intro r hr
  rcases List.mem_cons.1 hr with rfl | hr
  · exact ⟨rfl, h⟩
  · obtain ⟨_, rfl⟩ := List.mem_replicate.1 hr
    refine ⟨by simp, fun x hx => ?_⟩
    obtain ⟨_, rfl⟩ := List.mem_replicate.1 hx
    exact ⟨by omega, by omega⟩
theorem turn_stV (y : List Int) : turnS (stV y) = poS y := by
  refine List.ext_getElem (by simp [stV]) fun k h1 h2 => ?_
  have hk : k < y.length := by simpa using h2
  have e : (y :: List.replicate 6 (List.replicate y.length 0))[0]?.getD [] = y := rfl
  simp only [turnS, List.getElem_map, List.getElem_range, poS, colS, stV]
  simp [tb, List.range, List.range.loop, unS, hk, List.replicate]
theorem l14Start_c (y : List Int) (hy : y.length ≤ 1048576) : Con Try.prog 157 [.sl y.length (avs y)] (.own 38 7 (omat (stV y))) := by
  refine con_of_vc Try.mixed ⟨4, [], [], []⟩ Try.func157 (by decide) rfl (by simp) (by decide) (by simp [freshOK, freshL, go_sem]) ?_
  rw [Try.ntmps157]
  simp [go_sem]
  refine CallVC.of (l01Own_c y (by omega)) (by decide) ?_
  simp [go_sem]
  have e0 : ∀ k, omat (y :: List.replicate (k + 1) (List.replicate y.length 0)) = omat (y :: List.replicate k (List.replicate y.length 0)) ++ [.own 2 y.length (avs (List.replicate y.length 0))] := fun k => by
    rw [List.replicate_succ', ← List.cons_append, omat_app, omat_one]; simp
  refine loop_inv (3 :: List.range' 7 9) (fun i : Nat => [(3, .own 38 (i + 1) (omat (y :: List.replicate i (List.replicate y.length 0))))]) (fun i => i ≤ 6) (fun i => 6 - i) 0 (by simp) (by simp [go_sem, omat]) (by simp [go_sem]) ?_
  intro i hi
  simp [go_sem]
  refine ⟨fun h => ?_, fun h => ?_⟩ <;> simp at h
  · have ht := e0 i
    simp [go_sem]
    refine ⟨⟨by omega, by omega⟩, ⟨by omega, by omega⟩, i + 1, by omega, by omega, Off_reset _ _ _ (by simp), ⟨by omega, ?_⟩⟩
    rw [ht, ← avs_repl]
  · have e : i = 6 := by omega
    subst e
    simp [go_sem]
    rfl
def ssX (A : List (List Int)) (B : List Int) (z : Int) (f : List (List Mon)) (y : List Int) : List (List Int) := if stE A B z f y = 0 then turnS (steS A B f (poS y)) else []
def ssR (A : List (List Int)) (B : List Int) (z : Int) (f : List (List Mon)) (y : List Int) : AV := .tup [.own 38 (ssX A B z f y).length (omat (ssX A B z f y)), .int (stE A B z f y)]
theorem ste_point {A : List (List Int)} {B : List Int} {f : List (List Mon)} {y : List Int} (y1 : 1 ≤ y.length) (hy : Ns y) :
    (turnS (steS A B f (poS y))).length = 7 ∧ ∀ r ∈ turnS (steS A B f (poS y)), r.length = y.length ∧ Ns r := by
  have sr := steS_row (A := A) (B := B) (f := f) (poS_row hy)
  have s0 : ((steS A B f (poS y))[0]?.getD []) ∈ steS A B f (poS y) := getD_mem _ (by rw [steS_len, poS_len]; omega)
  refine ⟨by rw [turnS_len, (sr _ s0).1], fun r h => ?_⟩
  have := turnS_row (a := steS A B f (poS y)) rfl (fun r h => (sr r h).2) r h
  rw [steS_len, poS_len] at this
  exact this
theorem stE_ok {A : List (List Int)} {B : List Int} {z : Int} {f : List (List Mon)} {y : List Int} (h : stE A B z f y = 0) : Tab A B ∧ FieldOk z f ∧ (y.length : Int) = z ∧ Ns y := by
  obtain ⟨hT, hF, hV⟩ := stE_zero h
  unfold vecB at hV
  simp only [Bool.and_eq_true, decide_eq_true_eq] at hV
  exact ⟨tabB_iff.1 hT, fieldB_iff.1 hF, hV.1, numsB_N.1 hV.2⟩
theorem ssX_ok (A : List (List Int)) (B : List Int) (z : Int) (f : List (List Mon)) (y : List Int) : (ssX A B z f y).length ≤ 7 ∧ ∀ r ∈ ssX A B z f y, r.length ≤ 3 := by
  unfold ssX
  split
  · rename_i h
    obtain ⟨hT, hF, hl, hy⟩ := stE_ok h
    have z1 := hF.lo
    have z3 := hF.hi
    obtain ⟨e1, e2⟩ := ste_point (A := A) (B := B) (f := f) (by omega) hy
    exact ⟨by omega, fun r hr => by have := (e2 r hr).1; omega⟩
  · simp
end Go.Proofs.Ytjpeakcapddimaa

/- Contracts: flows from a point and from a vector series, the program's and the reference's. -/
namespace Go.Proofs.Ytjpeakcapddimaa
open Go.Abs
set_option linter.unusedVariables false
set_option linter.unusedSimpArgs false
set_option maxHeartbeats 1000000
/-- The flow from a point, its first numbers known. -/
def floS (f : List (List Mon)) (y : List Int) : Nat → List (List Int)
  | 0 => poS y
  | n + 1 => (List.range y.length).map fun i => ((floS f y n)[i]?.getD []).set (n + 1) (((fdS (floS f y n) f)[i]?.getD [])[n]?.getD 0 * pw ((n : Int) + 1) 10005 % 10007)
@[simp] theorem floS_len (f : List (List Mon)) (y : List Int) : ∀ n, (floS f y n).length = y.length
  | 0 => by simp [floS]
  | n + 1 => by simp [floS]
theorem set_N {a : List Int} (h : Ns a) {i : Nat} {x : Int} (hx : isN x) : Ns (a.set i x) := by
  intro z hz
  rcases List.mem_or_eq_of_mem_set hz with hz | rfl
  · exact h z hz
  · exact hx
theorem floS_row {f : List (List Mon)} {y : List Int} (hy : Ns y) : ∀ n, ∀ r ∈ floS f y n, r.length = 7 ∧ Ns r
  | 0 => poS_row hy
  | n + 1 => by
    intro r hr
    obtain ⟨i, hi, rfl⟩ := List.mem_map.1 hr
    have h := floS_row hy n _ (memD [] (show i < (floS f y n).length by rw [floS_len]; simpa using hi))
    exact ⟨by simp [h.1], set_N h.2 (isN_mod _)⟩
set_option maxRecDepth 100000 in
theorem flow_c {z : Int} (f : List (List Mon)) (y : List Int) (hf : FieldOk z f) (hs : Small f) (hl : (y.length : Int) = z) (hy : Ns y) :
    Con Try.prog 155 [.sl f.length (fpols f), .sl y.length (avs y)] (.own 38 y.length (omat (floS f y 6))) := by
  have fl := hs.1
  have z3 := hf.hi
  have fz := hf.len
  refine con_of_vc Try.mixed ⟨12, [], [], []⟩ Try.func155 (by decide) rfl (by simp) (by decide) (by simp [freshOK, freshL, go_sem]) ?_
  rw [Try.ntmps155]
  simp [go_sem]
  refine loop_inv (5 :: 7 :: 8 :: List.range' 15 13) (fun i : Nat => [(5, .own 38 i (omat (poS (y.take i)))), (15, .int i)]) (fun i => i ≤ y.length) (fun i => y.length - i) 0 (by simp) (by simp [go_sem, poS, omat_nil]) (by simp [go_sem]) ?_
  intro i hi
  simp [go_sem]
  refine ⟨fun h => ?_, fun h => ?_⟩ <;> simp at h
  · have ht := poS_take h
    simp [go_sem, avs_drop h]
    refine ⟨⟨h, by rintro rfl; simp at h⟩, ⟨by omega, by omega⟩, by omega, i + 1, by omega, by omega, Off_reset _ _ _ (by simp), ⟨rfl, ?_⟩, by omega⟩
    rw [ht]; rfl
  · have e : i = y.length := by omega
    subst e
    simp [go_sem]
    refine loop_inv (5 :: 9 :: 10 :: 11 :: List.range' 28 31) (fun k : Nat => [(5, .own 38 y.length (omat (floS f y k))), (9, .int ((k + 1 : Nat) : Int))]) (fun k => k ≤ 6) (fun k => 7 - k) 0 (by simp) (by simp [go_sem, floS]) (by simp [go_sem]) ?_
    intro k hk
    simp [go_sem]
    refine ⟨fun h => ?_, fun h => ?_⟩ <;> simp at h
    · have fr := floS_row (f := f) hy k
      have cF := fieldSeries_c (L := floS f y k) hf hs (by rw [floS_len]; exact hl) fr
      rw [floS_len] at cF
      simp [go_sem]
      refine CallVC.of (cF) (by decide) ?_
      simp [go_sem]
      refine loop_inv (5 :: 11 :: List.range' 37 22) (fun j : Nat => [(5, .own 38 y.length (omat (mxS (floS f y k) (floS f y (k + 1)) j))), (37, .int j)]) (fun j => j ≤ y.length) (fun j => y.length - j) 0 (by simp) (by simp [go_sem, mxS_zero]) (by simp [go_sem]) ?_
      intro j hj
      simp [go_sem]
      refine ⟨fun h => ?_, fun h => ?_⟩ <;> simp at h
      · have hjy := h
        have hM : j < (mxS (floS f y k) (floS f y (k + 1)) j).length := by rw [mxS_len, floS_len]; exact hjy
        have hj2 : j < (floS f y k).length := by rw [floS_len]; exact hjy
        have hg := omat_get hM
        rw [mxS_get hj2] at hg
        have hr := fr _ (memD [] hj2)
        have hV : j < (fdS (floS f y k) f).length := by rw [fdS_len]; omega
        have hgv := omat_get hV
        have hv := fdS_row (L := floS f y k) (f := f) _ (memD [] hV)
        have hset := omat_set (mxS (floS f y k) (floS f y (k + 1)) j) j ((floS f y (k + 1))[j]?.getD [])
        have hnext : (floS f y (k + 1))[j]?.getD [] = ((floS f y k)[j]?.getD []).set (k + 1) (((fdS (floS f y k) f)[j]?.getD [])[k]?.getD 0 * pw ((k : Int) + 1) 10005 % 10007) := by simp [floS, hjy]
        rw [mxS_set hj2] at hset
        have m1 : fits (((fdS (floS f y k) f)[j]?.getD [])[k]?.getD 0 * pw ((k : Int) + 1) 10005) := mul_fits (hv.2.get k) (isN_mod _)
        have hk7 : k < ((fdS (floS f y k) f)[j]?.getD []).length := by omega
        have hk8 : k + 1 < ((floS f y k)[j]?.getD []).length := by omega
        generalize mxS (floS f y k) (floS f y (k + 1)) j = M at *
        generalize (floS f y (k + 1))[j]?.getD [] = new at *
        generalize (floS f y k)[j]?.getD [] = old at *
        generalize (fdS (floS f y k) f)[j]?.getD [] = vs at *
        simp [go_sem, hg, hgv, avs_at hk7, avs_drop hk7]
        refine ⟨by kernel_rfl, hjy, by omega, by omega, hk7, ?_⟩
        refine CallD.of (inv_c _ ⟨by omega, by omega⟩) (by simp [roots, rootsL]) (by decide) ?_
        simp [go_sem]
        refine ⟨m1, ?_⟩
        refine CallD.of (num_c _ m1.1 m1.2) (by simp [roots, rootsL]) (by decide) ?_
        simp [go_sem]
        simp [go_sem, hg]
        refine ⟨⟨by omega, by omega⟩, hk8, ?_⟩
        refine ⟨by kernel_rfl, ?_⟩
        simp [go_sem]
        refine ⟨by omega, j + 1, by omega, by omega, Off_reset _ _ _ (by simp), ?_, by omega⟩
        rw [← hset, hnext, List.length_set, avs_set]
      · have e : j = y.length := by omega
        have hall := mxS_all (A := floS f y k) (C := floS f y (k + 1)) (by rw [floS_len, floS_len])
        rw [floS_len] at hall
        subst e
        simp [go_sem]
        exact ⟨by omega, k + 1, by omega, by omega, (Off.reset (by intro x hx; simp at hx ⊢; omega) (by simp) (by simp [go_sem, Off_reset])), by rw [hall], by omega⟩
    · have e : k = 6 := by omega
      subst e
      simp [go_sem]
/-- A series raised by n degrees, by the factorial of n. -/
def raiN (a : List Int) : Nat → List Int
  | 0 => a
  | j + 1 => rakS (raiN a j) (pw ((j : Int) + 1) 10005)
@[simp] theorem raiN_len (a : List Int) : ∀ j, (raiN a j).length = a.length
  | 0 => rfl
  | j + 1 => by simp [raiN, raiN_len a j]
theorem raiN_N {a : List Int} (h : Ns a) : ∀ j, Ns (raiN a j)
  | 0 => h
  | j + 1 => rakS_N _ _
/-- The derivative of order j of a variable along a field. -/
def alN (f : List (List Mon)) (n i : Nat) : Nat → List Mon
  | 0 => [(1, oneE n i)]
  | j + 1 => alongL f (alN f n i j)
theorem alongL_wok {n : Nat} {B : Int} {f : List (List Mon)} {p : List Mon} (hp : ∀ m ∈ p, WOk n B m) (hl : f.length ≤ n) (hf : ∀ F ∈ f, ∀ m ∈ F, WOk n 3 m) : ∀ m ∈ alongL f p, WOk n (3 + B) m := alongGo_wok hp f 0 [] (by omega) hf (by simp)
theorem FieldOk.wok {z : Int} {f : List (List Mon)} (hf : FieldOk z f) : ∀ F ∈ f, ∀ m ∈ F, WOk f.length 3 m := fun F hF m hm => by
  have h := partB_mem (hf.part F hF) hm
  have h1 := h.lo
  have h2 := h.hi
  have h3 := h.len
  have h4 := hf.len
  exact ⟨⟨by omega, by omega⟩, by omega, h.pw⟩
theorem alN_wok {z : Int} {f : List (List Mon)} (hf : FieldOk z f) (i : Nat) : ∀ j : Nat, ∀ m ∈ alN f f.length i j, WOk f.length (1 + 3 * (j : Int)) m
  | 0, m, hm => by
    simp only [alN, List.mem_singleton] at hm
    subst hm
    exact oneE_wok.le (by omega)
  | j + 1, m, hm => (alongL_wok (alN_wok hf i j) (Nat.le_refl _) hf.wok m hm).le (by omega)
theorem alN_len {z : Int} {f : List (List Mon)} (hf : FieldOk z f) (n i : Nat) : ∀ j : Nat, (alN f n i j).length ≤ 60 ^ j
  | 0 => by simp [alN]
  | j + 1 => by
    have z3 := hf.hi
    have zl := hf.len
    have ih := alN_len hf n i j
    have h := alongGo_len (p := alN f n i j) (N := 20) f 0 [] (fun F hF => part20 z3 (hf.part F hF))
    have h2 := Nat.mul_le_mul_right (20 * (alN f n i j).length) (show f.length ≤ 3 by omega)
    rw [alN, alongL, Nat.pow_succ]
    simp only [List.length_nil, Nat.zero_add] at h
    omega
theorem alN_small {z : Int} {f : List (List Mon)} (hf : FieldOk z f) (n i : Nat) {j : Nat} (hj : j ≤ 5) : (alN f n i j).length ≤ 777600000 :=
  Nat.le_trans (alN_len hf n i j) (Nat.le_trans (Nat.pow_le_pow_right (by omega) hj) (by decide))
theorem alN_small6 {z : Int} {f : List (List Mon)} (hf : FieldOk z f) (n i : Nat) {j : Nat} (hj : j ≤ 6) : (alN f n i j).length ≤ 46656000000 :=
  Nat.le_trans (alN_len hf n i j) (Nat.le_trans (Nat.pow_le_pow_right (by omega) hj) (by decide))
/-- All variables' derivatives of order n; i of them already of the next one. -/
def trS (f : List (List Mon)) (n i : Nat) : List (List Mon) := (List.range f.length).map fun k => if k < i then alN f f.length k (n + 1) else alN f f.length k n
@[simp] theorem trS_len (f : List (List Mon)) (n i : Nat) : (trS f n i).length = f.length := by simp [trS]
theorem trS_all (f : List (List Mon)) (n : Nat) : trS f n f.length = trS f (n + 1) 0 := by
  unfold trS
  refine List.map_congr_left fun k hk => ?_
  simp at hk
  simp [hk]
theorem trS_get {f : List (List Mon)} {n i : Nat} (h : i < f.length) : (trS f n i)[i]?.getD [] = alN f f.length i n := by simp [trS, h]
theorem trS_set {f : List (List Mon)} {n i : Nat} (h : i < f.length) : (trS f n i).set i (alN f f.length i (n + 1)) = trS f n (i + 1) := by
  refine List.ext_getElem (by simp) fun k h1 h2 => ?_
  simp at h1
  rw [List.getElem_set]
  by_cases e : i = k
  · subst e; simp [trS]
  · simp only [e, if_false, trS, List.getElem_map, List.getElem_range]
    by_cases h3 : k < i
    · simp [h3, show k < i + 1 by omega]
    · simp [h3, show ¬ k < i + 1 by omega]
theorem oprt_get {T : List (List Mon)} {k : Nat} (h : k < T.length) : (oprt T)[k]? = some (.own 111 (T[k]?.getD []).length (omons (T[k]?.getD []))) := by simp [oprt, h]
theorem oprt_set (T : List (List Mon)) (k : Nat) (p : List Mon) : (oprt T).set k (.own 111 p.length (omons p)) = oprt (T.set k p) := by simp [oprt, List.map_set]
/-- The sum of the first terms of the flow. -/
def flsS (f : List (List Mon)) (P : List (List Int)) : Nat → List (List Int)
  | 0 => P
  | n + 1 => (List.range P.length).map fun k => tb (fun m => (((flsS f P n)[k]?.getD [])[m]?.getD 0 + (raiN (evS P (alN f f.length k (n + 1))) (n + 1))[m]?.getD 0) % 10007) 7
@[simp] theorem flsS_len (f : List (List Mon)) (P : List (List Int)) : ∀ n, (flsS f P n).length = P.length
  | 0 => rfl
  | n + 1 => by simp [flsS]
theorem flsS_row {f : List (List Mon)} {P : List (List Int)} (h : ∀ r ∈ P, r.length = 7 ∧ Ns r) : ∀ n, ∀ r ∈ flsS f P n, r.length = 7 ∧ Ns r
  | 0 => h
  | n + 1 => by
    intro r hr
    obtain ⟨i, hi, rfl⟩ := List.mem_map.1 hr
    exact ⟨by simp, tb_N fun i _ => isN_mod _⟩
end Go.Proofs.Ytjpeakcapddimaa

/- The bracket of fields: its coefficients, the program's and the reference's. -/
namespace Go.Proofs.Ytjpeakcapddimaa
open Go.Abs
set_option linter.unusedVariables false
set_option linter.unusedSimpArgs false
set_option maxHeartbeats 1000000
def subK (a b : Key) : Key := (a.1 - b.1, a.2.1 - b.2.1, a.2.2 - b.2.2)
theorem addK_iff {K a b : Key} : K = addK a b ↔ subK K a = b := by
  obtain ⟨k0, k1, k2⟩ := K
  obtain ⟨a0, a1, a2⟩ := a
  obtain ⟨b0, b1, b2⟩ := b
  simp only [addK, subK, Prod.mk.injEq]
  omega
theorem coef_sub {α : Type} (K a : Key) (x : Int) (key : α → Key) (num : α → Int) (E : List α) : sumI (fun d => if K = addK a (key d) then x * num d else 0) E = x * coef key num E (subK K a) := by
  unfold coef
  rw [← sumI_mul]
  refine sumI_congr (fun d _ => ?_)
  by_cases h : subK K a = key d
  · rw [if_pos (addK_iff.2 h), if_pos h]
  · rw [if_neg (fun e => h (addK_iff.1 e)), if_neg h, Int.mul_zero]
theorem prod_cf {n : Nat} {P q : List Mon} {c' : Key → Option Int} {E : List (Key × Int)} (hn : n ≤ 3) (hP : ∀ m ∈ P, m.2.length = n) (hq : ∀ m ∈ q, m.2.length = n) (hE : Enum c' E)
    (h : ∀ K, gv c' K % 10007 = cfL q K % 10007) (K : Key) : cfT (prT (P.map keyM) E) K % 10007 = pcf P q K % 10007 := by
  rw [cfT_prT, sumI_map]
  unfold pcf
  refine sumI_mod (fun a ha => ?_)
  have e2 : sumI (fun b => if K = keyOf (addE a.2 b.2) then a.1 * b.1 else 0) q = a.1 * cfL q (subK K (keyOf a.2)) := by
    rw [cfL, ← coef_sub]
    refine sumI_congr (fun b hb => ?_)
    rw [keyOf_add (by rw [hP a ha, hq b hb]) (by rw [hP a ha]; exact hn)]
  have e1 : sumI (fun d : Key × Int => if K = addK (keyM a).1 d.1 then (keyM a).2 * d.2 else 0) E = a.1 * gv c' (subK K (keyOf a.2)) := by
    have := coef_enum hE (subK K (keyOf a.2))
    rw [gv, ← this]
    exact coef_sub K (keyOf a.2) a.1 Prod.fst Prod.snd E
  rw [e1, e2, Int.mul_emod, h, ← Int.mul_emod]
/-- A map with few keys can be listed. -/
theorem enum_exists : ∀ (L : List Key) (c : Key → Option Int), (∀ k x, c k = some x → k ∈ L) → ∃ es, Enum c es
  | [], c, h => ⟨[], .nil, by simp, fun k _ => by
      cases hc : c k with
      | none => rfl
      | some x => exact absurd (h k x hc) (by simp)⟩
  | a :: L, c, h => by
    obtain ⟨es, he⟩ := enum_exists L (fun k => if k = a then none else c k) (fun k x hk => by
      by_cases e : k = a
      · simp [e] at hk
      · simp [e] at hk
        rcases List.mem_cons.1 (h k x hk) with h1 | h1
        · exact absurd h1 e
        · exact h1)
    have hne : ∀ p ∈ es, p.1 ≠ a := fun p hp e => by
      have := he.val p hp
      simp [e] at this
    cases hc : c a with
    | none =>
      refine ⟨es, he.nd, fun p hp => ?_, fun k hk => ?_⟩
      · have := he.val p hp
        simpa [hne p hp] using this
      · by_cases e : k = a
        · rw [e]; exact hc
        · have := he.out k hk
          simpa [e] using this
    | some x =>
      refine ⟨(a, x) :: es, List.pairwise_cons.2 ⟨fun p hp e => hne p hp e.symm, he.nd⟩, fun p hp => ?_, fun k hk => ?_⟩
      · rcases List.mem_cons.1 hp with rfl | hp
        · exact hc
        · have := he.val p hp
          simpa [hne p hp] using this
      · have e : ¬ k = a := fun e => hk (a, x) (by simp) e.symm
        have := he.out k (fun p hp => hk p (by simp [hp]))
        simpa [e] using this
open Classical in
noncomputable def enE (c : Key → Option Int) : List (Key × Int) := if h : ∃ es, Enum c es then h.choose else []
theorem enE_is {c : Key → Option Int} (h : ∃ es, Enum c es) : Enum c (enE c) := by
  unfold enE
  rw [dif_pos h]
  exact h.choose_spec
theorem derM_listed {i : Nat} {p : List Mon} (h : p.Pairwise (fun a b => keyOf a.2 ≠ keyOf b.2)) : ∃ es, Enum (derM i (polF p)) es := by
  refine enum_exists (p.map fun m => dec i (keyOf m.2)) _ (fun k x hk => ?_)
  unfold derM at hk
  cases hc : polF p (inc i k) with
  | none => rw [hc] at hk; simp at hk
  | some a =>
    obtain ⟨m, hm, e⟩ := List.mem_map.1 ((polF_some h).1 hc)
    have e1 : keyOf m.2 = inc i k := congrArg Prod.fst e
    exact List.mem_map.2 ⟨m, hm, (inc_dec.1 e1.symm).symm⟩
theorem derM_all {n i : Nat} {p : List Mon} (hn : n ≤ 3) (hi : i < n) (hp : partB (n : Int) p = true) (K : Key) : gv (derM i (polF p)) K % 10007 = cfL (derL i p) K % 10007 := by
  have hv : ∀ m ∈ p, VOk n m := fun m hm => (partB_mem hp hm).vok
  by_cases h : 0 ≤ at3 i K
  · have e : gv (polF p) = cfL p := funext (polF_gv (keys_nd (by omega) hp))
    rw [derM_gv i _ h, derL_cf hi hn h hv, e]
  · have h1 : gv (derM i (polF p)) K = 0 := by
      unfold gv derM
      cases polF p (inc i K) with
      | none => rfl
      | some a => simp only; rw [if_neg (by omega)]; rfl
    have h2 : cfL (derL i p) K = 0 := by
      unfold cfL coef
      refine sumI_zero (fun m hm => if_neg (fun e => h ?_))
      rw [e]
      exact at3_box (((derL_ok hi hv) m hm).kok hn).1 i
    rw [h1, h2]
theorem derM_eok {n i : Nat} {p : List Mon} (hn : n ≤ 3) (hi : i < n) (hp : partB (n : Int) p = true) {k : Key} {x : Int} (h : derM i (polF p) k = some x) : EOk (k, x) := by
  obtain ⟨h1, h2, _⟩ := derM_ok hi hn (fun k x hk => by
    obtain ⟨m, hm, e⟩ := List.mem_map.1 ((polF_some (keys_nd (by omega) hp)).1 hk)
    have e1 : keyOf m.2 = k := congrArg Prod.fst e
    have e2 : m.1 = x := congrArg Prod.snd e
    subst e1 e2
    have hv := (partB_mem hp hm).vok
    exact ⟨hv.num, hv.kok hn⟩) k x h
  have := mem_box.1 h2
  obtain ⟨a, b, c⟩ := k
  simp only at this
  exact ⟨h1, this.1, by simp only; omega, this.2.2.1, by simp only; omega, this.2.2.2.2.1, by simp only; omega⟩
/-- A share of the program's sum. -/
noncomputable def shM (F p : List Mon) (k : Nat) : Key → Option Int := mapT (prT (F.map keyM) (enE (derM k (polF p))))
theorem mapT_MapN2 (T : List (Key × Int)) : MapN (mapT T) := fun k x h => by
  have := mapT_N (T := T) (k := k)
  rw [h] at this
  exact this
theorem shM_N (F p : List Mon) (k : Nat) : MapN (shM F p k) := mapT_MapN2 _
theorem shM_gv {n k : Nat} {F p : List Mon} (hn : n ≤ 3) (hk : k < n) (hF : partB (n : Int) F = true) (hp : partB (n : Int) p = true) (K : Key) : gv (shM F p k) K % 10007 = cfL (prodL F (derL k p)) K % 10007 := by
  have h : gv (shM F p k) K = cfT (prT (F.map keyM) (enE (derM k (polF p)))) K % 10007 := mapT_get _ K
  rw [h, Int.emod_emod_of_dvd _ (Int.dvd_refl _), prodL_cf]
  refine prod_cf hn (fun m hm => (partB_mem hF hm).vok.len) (fun m hm => (derL_ok hk (fun m hm => (partB_mem hp hm).vok) m hm).len) (enE_is (derM_listed (keys_nd (by omega) hp))) (fun K => derM_all hn hk hp K) K
theorem mzero_N2 : MapN mzero := fun k x h => by simp [mzero] at h
noncomputable def brM (f g : List (List Mon)) (i : Nat) : Nat → Key → Option Int
  | 0 => mzero
  | k + 1 => addM (addM (brM f g i k) (shM (f[k]?.getD []) (g[i]?.getD []) k) 1) (shM (g[k]?.getD []) (f[i]?.getD []) k) (-1)
theorem brM_N (f g : List (List Mon)) (i : Nat) : ∀ k, MapN (brM f g i k)
  | 0 => mzero_N2
  | k + 1 => addM_N (addM_N (brM_N f g i k))
theorem along_take (p : List Mon) {f : List (List Mon)} {k : Nat} (h : k < f.length) : alongGo [] p 0 (f.take (k + 1)) = plusL (alongGo [] p 0 (f.take k)) 1 (prodL (f[k]?.getD []) (derL k p)) := by
  rw [List.take_add_one, alongGo_app]; simp [h, alongGo, Nat.min_eq_left (Nat.le_of_lt h)]
theorem brM_gv {z : Int} {f g : List (List Mon)} (hF : FieldOk z f) (hG : FieldOk z g) {i : Nat} (hi : i < f.length) (K : Key) : ∀ k, k ≤ f.length →
    gv (brM f g i k) K % 10007 = (cfL (alongGo [] (g[i]?.getD []) 0 (f.take k)) K + 10006 * cfL (alongGo [] (f[i]?.getD []) 0 (g.take k)) K) % 10007
  | 0, _ => rfl
  | k + 1, h => by
    have zl := hF.len
    have zg := hG.len
    have z3 := hF.hi
    have ih := brM_gv hF hG hi K k (by omega)
    have hn : f.length ≤ 3 := by omega
    have pf : ∀ j, j < f.length → partB (f.length : Int) (f[j]?.getD []) = true := fun j hj => by rw [zl]; exact hF.part _ (memD [] hj)
    have pg : ∀ j, j < f.length → partB (f.length : Int) (g[j]?.getD []) = true := fun j hj => by rw [zl]; exact hG.part _ (memD [] (by omega))
    have s1 := shM_gv hn (show k < f.length by omega) (pf k (by omega)) (pg i hi) K
    have s2 := shM_gv hn (show k < f.length by omega) (pg k (by omega)) (pf i hi) K
    rw [brM, addM_gv, along_take _ (show k < f.length by omega), along_take _ (show k < g.length by omega)]
    have a1 := addM_gv (brM f g i k) (shM (f[k]?.getD []) (g[i]?.getD []) k) 1 K
    have c1 := plusL_cf 1 K (prodL (f[k]?.getD []) (derL k (g[i]?.getD []))) (alongGo [] (g[i]?.getD []) 0 (f.take k))
    have c2 := plusL_cf 1 K (prodL (g[k]?.getD []) (derL k (f[i]?.getD []))) (alongGo [] (f[i]?.getD []) 0 (g.take k))
    omega
def bkL (f g : List (List Mon)) : List (List Mon) := (List.range f.length).map fun i => plusL (alongL f (g[i]?.getD [])) 10006 (alongL g (f[i]?.getD []))
@[simp] theorem bkL_len (f g : List (List Mon)) : (bkL f g).length = f.length := by simp [bkL]
theorem bkL_at {f g : List (List Mon)} {i : Nat} (h : i < f.length) : (bkL f g)[i]?.getD [] = plusL (alongL f (g[i]?.getD [])) 10006 (alongL g (f[i]?.getD [])) := by simp [bkL, h]
theorem bk_gv {z : Int} {f g : List (List Mon)} (hF : FieldOk z f) (hG : FieldOk z g) {i : Nat} (hi : i < f.length) (K : Key) : gv (brM f g i f.length) K % 10007 = cfL ((bkL f g)[i]?.getD []) K % 10007 := by
  have zl := hF.len
  have zg := hG.len
  rw [brM_gv hF hG hi K _ (Nat.le_refl _), bkL_at hi, plusL_cf, List.take_length, List.take_of_length_le (by omega)]
  rfl
theorem alongGo_srt {n : Nat} {p : List Mon} (hp : ∀ m ∈ p, WOk n 3 m) : ∀ (f : List (List Mon)) (k : Nat) (acc : List Mon), k + f.length ≤ n → (∀ F ∈ f, ∀ m ∈ F, WOk n 3 m) → (∀ m ∈ acc, WOk n (3 + 3) m) → Srt acc ∧ Nzl acc → Srt (alongGo acc p k f) ∧ Nzl (alongGo acc p k f)
  | [], _, _, _, _, _, h => h
  | F :: f, k, acc, hk, hf, hw, h => by
    simp only [List.length_cons] at hk
    have w1 := prodL_wok (hf F (by simp)) (derL_wok (i := k) (by omega) hp)
    rw [alongGo]
    exact alongGo_srt hp f (k + 1) _ (by omega) (fun G hG => hf G (by simp [hG])) (plusL_wok _ _ w1 hw) (plusL_srt _ _ w1 hw h)
/-- What is known of the parts of a bracket. -/
theorem bk_ok {z : Int} {f g : List (List Mon)} (hF : FieldOk z f) (hG : FieldOk z g) {i : Nat} (hi : i < f.length) :
    (∀ m ∈ (bkL f g)[i]?.getD [], WOk f.length 6 m) ∧ Srt ((bkL f g)[i]?.getD []) ∧ Nzl ((bkL f g)[i]?.getD []) ∧ ((bkL f g)[i]?.getD []).length ≤ 2400 ∧
    (alongL f (g[i]?.getD [])).length ≤ 1200 ∧ (alongL g (f[i]?.getD [])).length ≤ 1200 ∧ (∀ m ∈ alongL f (g[i]?.getD []), WOk f.length 6 m) ∧ (∀ m ∈ alongL g (f[i]?.getD []), WOk f.length 6 m) := by
  have zl := hF.len
  have zg := hG.len
  have z3 := hF.hi
  have fg : g.length = f.length := by omega
  have wf : ∀ F ∈ f, ∀ m ∈ F, WOk f.length 3 m := fun F h => partWok hF h
  have wg : ∀ F ∈ g, ∀ m ∈ F, WOk f.length 3 m := fun F h => by have := partWok hG h; rwa [fg] at this
  have wi := wf _ (memD [] hi)
  have wj := wg (g[i]?.getD []) (memD [] (by omega))
  have l1 := part20 z3 (hF.part _ (memD [] hi))
  have l2 := part20 z3 (hG.part (g[i]?.getD []) (memD [] (by omega)))
  have a1 : ∀ m ∈ alongL f (g[i]?.getD []), WOk f.length (3 + 3) m := alongGo_wok wj f 0 [] (by omega) wf (by simp)
  have a2 : ∀ m ∈ alongL g (f[i]?.getD []), WOk f.length (3 + 3) m := alongGo_wok wi g 0 [] (by omega) wg (by simp)
  have s1 : Srt (alongL f (g[i]?.getD [])) ∧ Nzl (alongL f (g[i]?.getD [])) := alongGo_srt wj f 0 [] (by omega) wf (by simp) ⟨List.Pairwise.nil, by simp [Nzl]⟩
  have n1 := alongGo_len (N := 20) (p := g[i]?.getD []) f 0 [] (fun F h => part20 z3 (hF.part F h))
  have n2 := alongGo_len (N := 20) (p := f[i]?.getD []) g 0 [] (fun F h => part20 z3 (hG.part F h))
  have b1 : f.length * (20 * (g[i]?.getD []).length) ≤ 3 * (20 * 20) := Nat.mul_le_mul (by omega) (Nat.mul_le_mul (Nat.le_refl _) l2)
  have b2 : g.length * (20 * (f[i]?.getD []).length) ≤ 3 * (20 * 20) := Nat.mul_le_mul (by omega) (Nat.mul_le_mul (Nat.le_refl _) l1)
  simp only [List.length_nil] at n1 n2
  have n1' : (alongL f (g[i]?.getD [])).length ≤ 1200 := by unfold alongL; omega
  have n2' : (alongL g (f[i]?.getD [])).length ≤ 1200 := by unfold alongL; omega
  have s2 := plusL_srt (k := 10006) _ _ a2 a1 s1
  have n3 := plusL_len 10006 (alongL g (f[i]?.getD [])) (alongL f (g[i]?.getD []))
  rw [bkL_at hi]
  exact ⟨plusL_wok _ _ a2 a1, s2.1, s2.2, by omega, n1', n2', a1, a2⟩
def degB (p : List Mon) : Bool := p.all fun m => decide (degL m.2 0 ≤ 3)
def bkD (f g : List (List Mon)) : Bool := (bkL f g).all degB
theorem srt_at {p : List Mon} (h : Srt p) {j : Nat} (h0 : 0 < j) (hj : j < p.length) : ltL (p[j - 1]?.getD (0, [])).2 (p[j]?.getD (0, [])).2 = true := by
  have h1 := List.pairwise_iff_getElem.1 h (j - 1) j (by omega) hj (by omega)
  simpa [hj, show j - 1 < p.length by omega] using h1
theorem partB_deg {z : Int} {p : List Mon} (hw : ∀ m ∈ p, (m.2.length : Int) = z) (hs : Srt p) (hz : Nzl p) : partB z p = degB p := by
  cases hd : degB p with
  | true =>
    refine partB_yes (fun j hj => ?_)
    have hm : p[j]?.getD (0, []) ∈ p := memD _ hj
    have h1 := hz _ hm
    have h2 := hw _ hm
    have h3 := List.all_eq_true.1 hd _ hm
    simp only [decide_eq_true_eq] at h3
    unfold atB monB
    rw [decide_eq_true h1, decide_eq_true h2, decide_eq_true h3]
    by_cases h0 : j = 0
    · rw [decide_eq_true h0]; rfl
    · rw [decide_eq_false h0, srt_at hs (by omega) hj]; rfl
  | false =>
    obtain ⟨m, hm, h⟩ := List.all_eq_false.1 hd
    obtain ⟨j, hj, rfl⟩ := List.getElem_of_mem hm
    refine partB_no hj ?_
    unfold atB monB
    simp at h
    simp [hj]
    omega
theorem fieldB_deg {z : Int} {f g : List (List Mon)} (hF : FieldOk z f) (hG : FieldOk z g) : fieldB z (bkL f g) = bkD f g := by
  have zl := hF.len
  have z3 := hF.hi
  have z1 := hF.lo
  unfold fieldB bkD
  have e : ∀ p ∈ bkL f g, partB z p = degB p := fun p hp => by
    obtain ⟨i, hi, rfl⟩ := List.getElem_of_mem hp
    have hi2 : i < f.length := by simpa using hi
    have h := bk_ok hF hG hi2
    have e : (bkL f g)[i]?.getD [] = (bkL f g)[i] := by rw [List.getElem?_eq_getElem hi]; rfl
    rw [e] at h
    exact partB_deg (fun m hm => by have := (h.1 m hm).len; omega) h.2.1 h.2.2.1
  have e2 : (bkL f g).all (partB z) = (bkL f g).all degB := by
    rw [Bool.eq_iff_iff, List.all_eq_true, List.all_eq_true]
    exact ⟨fun h p hp => by rw [← e p hp]; exact h p hp, fun h p hp => by rw [e p hp]; exact h p hp⟩
  rw [e2, decide_eq_true ⟨z1, z3⟩, decide_eq_true (by simp [zl])]
  rfl
theorem bkPart {z : Int} {f g : List (List Mon)} (hF : FieldOk z f) (hG : FieldOk z g) {i : Nat} (hi : i < f.length) :
    Con Try.prog 170 [.fmp (brM f g i f.length), .int z] (.own 111 ((bkL f g)[i]?.getD []).length (omons ((bkL f g)[i]?.getD []))) := by
  have zl := hF.len
  have z3 := hF.hi
  have z1 := hF.lo
  have h := bk_ok hF hG hi
  rw [← zl]
  exact part_c2 (by omega) (by omega) (brM_N f g i _) h.2.1 h.2.2.1 (fun m hm => (h.1 m hm).len) (by have := h.2.2.2.1; omega) (fun K => bk_gv hF hG hi K)
theorem bk_tiny {z : Int} {f g : List (List Mon)} (hF : FieldOk z f) (hG : FieldOk z g) : Tiny (bkL f g) := by
  have zl := hF.len
  have z3 := hF.hi
  refine ⟨by simp; omega, fun p hp => ?_⟩
  obtain ⟨i, hi, rfl⟩ := List.getElem_of_mem hp
  have hi2 : i < f.length := by simpa using hi
  have h := bk_ok hF hG hi2
  have e : (bkL f g)[i]?.getD [] = (bkL f g)[i] := by rw [List.getElem?_eq_getElem hi]; rfl
  rw [e] at h
  exact ⟨by have := h.2.2.2.1; omega, fun m hm => by have := (h.1 m hm).len; omega⟩
end Go.Proofs.Ytjpeakcapddimaa

/- Contracts: the bracket of fields, the reference's. -/
namespace Go.Proofs.Ytjpeakcapddimaa
open Go.Abs
set_option linter.unusedVariables false
set_option linter.unusedSimpArgs false
set_option maxHeartbeats 1000000
def brE (z : Int) (f : List (List Mon)) (w : Int) (g : List (List Mon)) : Int := if ckE z f w g = 0 then if bkD f g = true then 0 else 3 else 1
def brX (z : Int) (f : List (List Mon)) (w : Int) (g : List (List Mon)) : List (List Mon) := if brE z f w g = 0 then bkL f g else []
def brR (z : Int) (f : List (List Mon)) (w : Int) (g : List (List Mon)) : AV := .tup [.agg [.int (if brE z f w g = 0 then z else 0), .own 95 (brX z f w g).length (oprt (brX z f w g))], .int (brE z f w g)]
theorem ckE_two (z : Int) (f : List (List Mon)) (w : Int) (g : List (List Mon)) : ckE z f w g = 0 ∨ ckE z f w g = 1 := by
  unfold ckE
  split
  · split
    · split <;> simp
    · simp
  · simp
theorem brX_tiny (z : Int) (f : List (List Mon)) (w : Int) (g : List (List Mon)) : Tiny (brX z f w g) := by
  unfold brX
  split
  · rename_i hE
    unfold brE at hE
    split at hE
    · rename_i hc
      obtain ⟨h1, h2, rfl⟩ := ckE_ok hc
      exact bk_tiny (fieldB_iff.1 h1) (fieldB_iff.1 h2)
    · simp at hE
  · exact ⟨by simp, by simp⟩
theorem degB_at {p : List Mon} (h : degB p = true) {j : Nat} (hj : j < p.length) : degL (p[j]?.getD (0, [])).2 0 ≤ 3 := by
  have := List.all_eq_true.1 h _ (memD (0, []) hj)
  simpa using this
theorem degB_all {p : List Mon} (h : ∀ j, j < p.length → degL (p[j]?.getD (0, [])).2 0 ≤ 3) : degB p = true := by
  refine List.all_eq_true.2 (fun m hm => ?_)
  obtain ⟨j, hj, rfl⟩ := List.getElem_of_mem hm
  have := h j hj
  simpa [hj] using this
theorem bkD_at {f g : List (List Mon)} (h : bkD f g = true) {i : Nat} (hi : i < f.length) : degB ((bkL f g)[i]?.getD []) = true := List.all_eq_true.1 h _ (memD [] (by simpa using hi))
theorem bkD_all {f g : List (List Mon)} (h : ∀ i, i < f.length → degB ((bkL f g)[i]?.getD []) = true) : bkD f g = true := by
  refine List.all_eq_true.2 (fun p hp => ?_)
  obtain ⟨i, hi, rfl⟩ := List.getElem_of_mem hp
  have := h i (by simpa using hi)
  rwa [List.getElem?_eq_getElem hi] at this
theorem omons_at1 : ∀ {p : List Mon} {j : Nat}, j < p.length → (omons p)[j * 2 + 1]? = some (.own 2 (p[j]?.getD (0, [])).2.length (avs (p[j]?.getD (0, [])).2))
  | [], j, h => by simp at h
  | m :: p, 0, _ => rfl
  | m :: p, j + 1, h => by
    rw [omons_cons]
    have e : (j + 1) * 2 + 1 = (j * 2 + 1) + 1 + 1 := by omega
    rw [e, List.getElem?_cons_succ, List.getElem?_cons_succ, omons_at1 (by simpa using h)]
    rfl
set_option maxRecDepth 100000 in
theorem specBracketFields_c (z : Int) (f : List (List Mon)) (w : Int) (g : List (List Mon)) (hs : Small f) (hs2 : Small g) :
    Con Try.prog 21 [.agg [.int z, .sl f.length (prt f)], .agg [.int w, .sl g.length (prt g)]] (brR z f w g) := by
  have cT := l13Is_c z f hs
  have cU := l13Is_c w g hs2
  unfold brR brX
  cases hT : fieldB z f with
  | false =>
    rw [hT] at cT
    have e : brE z f w g = 1 := by unfold brE ckE; rw [hT]; rfl
    rw [e]
    refine nF _ ?_
    refine con_of_vc Try.mixed ⟨10, [], [], []⟩ Try.func21 (by decide) rfl (by simp) (by decide) (by simp [freshOK, freshL, go_sem]) ?_
    rw [Try.ntmps21]
    simp [go_sem]
    refine CallVC.of (cT) (by decide) ?_
    simp [go_sem]
  | true =>
    rw [hT] at cT
    cases hU : fieldB w g with
    | false =>
      rw [hU] at cU
      have e : brE z f w g = 1 := by unfold brE ckE; rw [hT, hU]; rfl
      rw [e]
      refine nF _ ?_
      refine con_of_vc Try.mixed ⟨10, [], [], []⟩ Try.func21 (by decide) rfl (by simp) (by decide) (by simp [freshOK, freshL, go_sem]) ?_
      rw [Try.ntmps21]
      simp [go_sem]
      refine CallVC.of (cT) (by decide) ?_
      simp [go_sem]
      refine CallVC.of (cU) (by decide) ?_
      simp [go_sem]
    | true =>
      rw [hU] at cU
      by_cases hzw : z = w
      · have ec : ckE z f w g = 0 := by unfold ckE; rw [hT, hU, if_pos rfl, if_pos rfl, if_pos hzw]
        have hF := fieldB_iff.1 hT
        have hG := fieldB_iff.1 hU
        rw [← hzw] at hG
        have zl := hF.len
        have wl := hG.len
        have z3 := hF.hi
        have z1 := hF.lo
        have fg : f.length = g.length := by omega
        have fl := hs.1
        have step : ∀ i, i < f.length → Con Try.prog 88 [.agg [.int z, .sl f.length (prt f)], .sl (g[i]?.getD []).length (mons (g[i]?.getD []))] (.own 111 (alongL f (g[i]?.getD [])).length (omons (alongL f (g[i]?.getD []))))
            ∧ Con Try.prog 88 [.agg [.int z, .sl g.length (prt g)], .sl (f[i]?.getD []).length (mons (f[i]?.getD []))] (.own 111 (alongL g (f[i]?.getD [])).length (omons (alongL g (f[i]?.getD []))))
            ∧ Con Try.prog 76 [.sl (alongL f (g[i]?.getD [])).length (mons (alongL f (g[i]?.getD []))), .sl (alongL g (f[i]?.getD [])).length (mons (alongL g (f[i]?.getD []))), .int 10006] (.own 111 ((bkL f g)[i]?.getD []).length (omons ((bkL f g)[i]?.getD []))) := fun i hi => by
          have hig : i < g.length := by omega
          have hb := bk_ok hF hG hi
          have l1 := part20 z3 (hF.part _ (memD [] hi))
          have l2 := part20 z3 (hG.part (g[i]?.getD []) (memD [] hig))
          refine ⟨l13Along2_c f _ hF hs (fun F h => part20 z3 (hF.part F h)) (B := 3) (by omega) (by omega) (fun m hm => by have := partWok hG (memD [] hig) m hm; rwa [← fg] at this) (by omega), l13Along2_c g _ hG hs2 (fun F h => part20 z3 (hG.part F h)) (B := 3) (by omega) (by omega) (fun m hm => by have := partWok hF (memD [] hi) m hm; rwa [fg] at this) (by omega), ?_⟩
          rw [bkL_at hi]
          exact l13Plus_c _ _ (by omega) ⟨by omega, by omega⟩ hb.2.2.2.2.2.2.1 hb.2.2.2.2.2.2.2 (by have := hb.2.2.2.2.1; have := hb.2.2.2.2.2.1; omega)
        have sub : z - z = 0 := by omega
        cases hD : bkD f g with
        | true =>
          have e : brE z f w g = 0 := by unfold brE; rw [if_pos ec, hD]; rfl
          rw [e, if_pos rfl, if_pos rfl]
          subst hzw
          refine con_of_vc Try.mixed ⟨10, [], [], []⟩ Try.func21 (by decide) rfl (by simp) (by decide) (by simp [freshOK, freshL, go_sem]) ?_
          rw [Try.ntmps21]
          simp [go_sem]
          refine CallVC.of (cT) (by decide) ?_
          simp [go_sem]
          refine CallVC.of (cU) (by decide) ?_
          simp [go_sem]
          refine loop_inv (5 :: 6 :: 7 :: 8 :: 9 :: List.range' 29 42) (fun i : Nat => [(6, .box 28 [.int z, ptA (bkL f g) i]), (7, .int i)]) (fun i => i ≤ f.length) (fun i => f.length - i) 0 (by simp) (by simp [go_sem, ptA_zero]) (by simp [go_sem]) ?_
          intro i hi
          simp [go_sem]
          refine ⟨fun h => ?_, fun h => ?_⟩ <;> simp at h
          · have hif := h
            have hig : i < g.length := by omega
            obtain ⟨s1, s2, s3⟩ := step i hif
            have hb := bk_ok hF hG hif
            have hdg := bkD_at hD hif
            have hsn := oprt_snoc (bkL f g) (i := i) (by simpa using hif)
            have hpl := hb.2.2.2.1
            have hpw := hb.1
            simp [go_sem, prt_drop hif, prt_drop hig]
            refine ⟨by kernel_rfl, ⟨hig, fun e => by rw [e] at hig; simp at hig⟩, ?_⟩
            refine CallD.of (s1) (by simp [roots, rootsL]) (by decide) ?_
            simp [go_sem]
            simp [go_sem, prt_drop hif]
            refine ⟨⟨hif, fun e => by rw [e] at hif; simp at hif⟩, ?_⟩
            refine CallD.of (s2) (by simp [roots, rootsL]) (by decide) ?_
            simp [go_sem]
            refine CallD.of (s3) (by simp [roots, rootsL]) (by decide) ?_
            simp [go_sem]
            refine ⟨by kernel_rfl, ?_⟩
            simp [go_sem]
            generalize (bkL f g)[i]?.getD [] = B at *
            refine loop_inv (5 :: 9 :: List.range' 51 14) (fun j : Nat => [(9, .int j)]) (fun j => j ≤ B.length) (fun j => B.length - j) 0 (by simp) (by simp [go_sem]) (by simp [go_sem]) ?_
            intro j hj
            simp [go_sem]
            refine ⟨fun h => ?_, fun h => ?_⟩ <;> simp at h
            · have hjB := h
              have c3 := degB_at hdg hjB
              have c3' : ¬ 3 < degL (B[j]?.getD (0, [])).2 0 := by omega
              have hml := (hpw _ (memD (0, []) hjB)).len
              have cD := l13Degree_c (B[j]?.getD (0, [])).2 (by omega)
              have hA := omons_at1 hjB
              simp [go_sem, hA]
              generalize (B[j]?.getD (0, [])).2 = pwj at *
              refine ⟨hjB, fun e => by have := congrArg List.length e; rw [omons_len, List.length_nil] at this; omega, ?_⟩
              refine CallVC.of (cD) (by decide) ?_
              simp [go_sem]
              simp [go_sem, c3']
              exact ⟨by omega, j + 1, by omega, by omega, Off_reset _ _ _ (by simp), by omega⟩
            · have e2 : ptA (bkL f g) (i + 1) = .own 95 (i + 1) (oprt ((bkL f g).take i) ++ [.own 111 B.length (omons B)]) := by rw [ptA_succ, hsn]
              rcases i with _ | t
              · simp [go_sem, ptA_zero]
                refine ⟨1, by omega, by omega, (Off.reset (by intro x hx; simp at hx ⊢; omega) (by simp) (by simp [go_sem, Off_reset])), ?_, by simp⟩
                rw [ptA_succ, hsn]
                simp [oprt]
              · simp [go_sem, ptA_succ]
                refine ⟨⟨by omega, by omega, by omega⟩, by omega, t + 1 + 1, by omega, by omega, (Off.reset (by intro x hx; simp at hx ⊢; omega) (by simp) (by simp [go_sem, Off_reset])), ?_, by omega⟩
                rw [e2]
          · have e : i = f.length := by omega
            subst e
            obtain ⟨j, hj⟩ : ∃ j, f.length = j + 1 := ⟨f.length - 1, by omega⟩
            have e2 : ptA (bkL f g) f.length = .own 95 (bkL f g).length (oprt (bkL f g)) := by
              rw [hj, ptA_succ, ← hj, List.take_of_length_le (by simp), bkL_len]
            rw [e2]
            simp [go_sem]
        | false =>
          have e : brE z f w g = 3 := by unfold brE; rw [if_pos ec, hD]; rfl
          rw [e]
          refine nF _ ?_
          subst hzw
          refine con_of_vc Try.mixed ⟨10, [], [], []⟩ Try.func21 (by decide) rfl (by simp) (by decide) (by simp [freshOK, freshL, go_sem]) ?_
          rw [Try.ntmps21]
          simp [go_sem]
          refine CallVC.of (cT) (by decide) ?_
          simp [go_sem]
          refine CallVC.of (cU) (by decide) ?_
          simp [go_sem]
          refine loop_inv (5 :: 6 :: 7 :: 8 :: 9 :: List.range' 29 42) (fun i : Nat => [(6, .box 28 [.int z, ptA (bkL f g) i]), (7, .int i)]) (fun i => i ≤ f.length ∧ ∀ q, q < i → degB ((bkL f g)[q]?.getD []) = true) (fun i => f.length - i) 0 (by simp) (by simp [go_sem, ptA_zero]) (by simp [go_sem]) ?_
          rintro i ⟨hi, hq⟩
          simp [go_sem]
          refine ⟨fun h => ?_, fun h => ?_⟩ <;> simp at h
          · have hif := h
            have hig : i < g.length := by omega
            obtain ⟨s1, s2, s3⟩ := step i hif
            have hb := bk_ok hF hG hif
            have hsn := oprt_snoc (bkL f g) (i := i) (by simpa using hif)
            have hpl := hb.2.2.2.1
            have hpw := hb.1
            simp [go_sem, prt_drop hif, prt_drop hig]
            refine ⟨by kernel_rfl, ⟨hig, fun e => by rw [e] at hig; simp at hig⟩, ?_⟩
            refine CallD.of (s1) (by simp [roots, rootsL]) (by decide) ?_
            simp [go_sem]
            simp [go_sem, prt_drop hif]
            refine ⟨⟨hif, fun e => by rw [e] at hif; simp at hif⟩, ?_⟩
            refine CallD.of (s2) (by simp [roots, rootsL]) (by decide) ?_
            simp [go_sem]
            refine CallD.of (s3) (by simp [roots, rootsL]) (by decide) ?_
            simp [go_sem]
            refine ⟨by kernel_rfl, ?_⟩
            simp [go_sem]
            generalize hBe : (bkL f g)[i]?.getD [] = B at *
            refine loop_inv (5 :: 9 :: List.range' 51 14) (fun j : Nat => [(9, .int j)]) (fun j => j ≤ B.length ∧ ∀ q, q < j → degL (B[q]?.getD (0, [])).2 0 ≤ 3) (fun j => B.length - j) 0 (by simp) (by simp [go_sem]) (by simp [go_sem]) ?_
            rintro j ⟨hj, hdj⟩
            simp [go_sem]
            refine ⟨fun h => ?_, fun h => ?_⟩ <;> simp at h
            · have hjB := h
              have hnx : degL (B[j]?.getD (0, [])).2 0 ≤ 3 → ∀ q, q < j + 1 → degL (B[q]?.getD (0, [])).2 0 ≤ 3 := fun h3 q hq2 => by
                rcases Nat.lt_or_ge q j with h4 | h4
                · exact hdj q h4
                · have : q = j := by omega
                  rw [this]; exact h3
              have hml := (hpw _ (memD (0, []) hjB)).len
              have cD := l13Degree_c (B[j]?.getD (0, [])).2 (by omega)
              have hA := omons_at1 hjB
              simp [go_sem, hA]
              generalize (B[j]?.getD (0, [])).2 = pwj at *
              refine ⟨hjB, fun e => by have := congrArg List.length e; rw [omons_len, List.length_nil] at this; omega, ?_⟩
              refine CallVC.of (cD) (by decide) ?_
              simp [go_sem]
              by_cases c3 : 3 < degL pwj 0
              · simp [go_sem, c3]
              · simp [go_sem, c3]
                exact ⟨by omega, j + 1, ⟨by omega, hnx (by omega)⟩, by omega, Off_reset _ _ _ (by simp), by omega⟩
            · have hBd : degB B = true := degB_all (fun q hq2 => hdj q (by omega))
              have hq3 : ∀ q, q < i + 1 → degB ((bkL f g)[q]?.getD []) = true := fun q hq2 => by
                rcases Nat.lt_or_ge q i with h4 | h4
                · exact hq q h4
                · have : q = i := by omega
                  rw [this, hBe]; exact hBd
              have e2 : ptA (bkL f g) (i + 1) = .own 95 (i + 1) (oprt ((bkL f g).take i) ++ [.own 111 B.length (omons B)]) := by rw [ptA_succ, hsn]
              rcases i with _ | t
              · simp [go_sem, ptA_zero]
                refine ⟨1, ⟨by omega, hq3⟩, by omega, (Off.reset (by intro x hx; simp at hx ⊢; omega) (by simp) (by simp [go_sem, Off_reset])), ?_, by simp⟩
                rw [ptA_succ, hsn]
                simp [oprt]
              · simp [go_sem, ptA_succ]
                refine ⟨⟨by omega, by omega, by omega⟩, by omega, t + 1 + 1, ⟨by omega, hq3⟩, by omega, (Off.reset (by intro x hx; simp at hx ⊢; omega) (by simp) (by simp [go_sem, Off_reset])), ?_, by omega⟩
                rw [e2]
          · have e : i = f.length := by omega
            subst e
            have := bkD_all hq
            rw [hD] at this
            simp at this
      · have e : brE z f w g = 1 := by unfold brE ckE; rw [hT, hU, if_pos rfl, if_pos rfl, if_neg hzw]; rfl
        rw [e]
        refine nF _ ?_
        refine con_of_vc Try.mixed ⟨10, [], [], []⟩ Try.func21 (by decide) rfl (by simp) (by decide) (by simp [freshOK, freshL, go_sem]) ?_
        rw [Try.ntmps21]
        simp [go_sem]
        refine CallVC.of (cT) (by decide) ?_
        simp [go_sem]
        refine CallVC.of (cU) (by decide) ?_
        simp [go_sem]
        simp [go_sem, hzw]
end Go.Proofs.Ytjpeakcapddimaa

/- Contracts: the bracket of fields, the program's. -/
namespace Go.Proofs.Ytjpeakcapddimaa
open Go.Abs
set_option linter.unusedVariables false
set_option linter.unusedSimpArgs false
set_option maxHeartbeats 1000000
noncomputable def brL (f g : List (List Mon)) (i : Nat) : List (Key → Option Int) := (List.range i).map fun j => brM f g j f.length
@[simp] theorem brL_len (f g : List (List Mon)) (i : Nat) : (brL f g i).length = i := by simp [brL]
theorem brL_snoc (f g : List (List Mon)) (i : Nat) : (brL f g (i + 1)).map AV.mp = (brL f g i).map AV.mp ++ [.mp (brM f g i f.length)] := by simp [brL, List.range_succ]
theorem brL_at {f g : List (List Mon)} {i n : Nat} (h : i < n) : (brL f g n)[i]?.getD mzero = brM f g i f.length := by simp [brL, h]
set_option maxRecDepth 100000 in
theorem BracketFields_c (z : Int) (f : List (List Mon)) (w : Int) (g : List (List Mon)) (hs : Small f) (hs2 : Small g) :
    Con Try.prog 22 [.agg [.int z, .sl f.length (prt f)], .agg [.int w, .sl g.length (prt g)]] (brR z f w g) := by
  have cK := checkFields_c z f w g hs hs2
  unfold brR brX
  rcases ckE_two z f w g with hE | hE
  · rw [hE] at cK
    obtain ⟨hT, hU, hzw⟩ := ckE_ok hE
    subst hzw
    have hF := fieldB_iff.1 hT
    have hG := fieldB_iff.1 hU
    have zl := hF.len
    have wl := hG.len
    have z3 := hF.hi
    have z1 := hF.lo
    have fg : f.length = g.length := by omega
    have fl := hs.1
    have cP := polynomials_c z f hF hs
    have cQ := polynomials_c z g hG hs2
    have cF := fieldOf_c f.length (brL f g f.length) (bkL f g) (by simp) (by simp; omega) (by simp; omega) (fun i hi => by
      have hi2 : i < f.length := by simpa using hi
      rw [brL_at hi2, zl]; exact bkPart hF hG hi2)
    rw [zl] at cF
    have cI := IsField_c z (bkL f g) (bk_tiny hF hG).small
    rw [fieldB_deg hF hG] at cI
    have pf : ∀ j, j < f.length → partB (f.length : Int) (f[j]?.getD []) = true := fun j hj => by rw [zl]; exact hF.part _ (memD [] hj)
    have pg : ∀ j, j < f.length → partB (f.length : Int) (g[j]?.getD []) = true := fun j hj => by rw [zl]; exact hG.part _ (memD [] (by omega))
    have n3 : f.length ≤ 3 := by omega
    have dv : ∀ (p : List Mon), partB (f.length : Int) p = true → ∀ k x, polF p k = some x → isN x ∧ KOk f.length k := fun p hp k x hk => by
      obtain ⟨m, hm, e⟩ := List.mem_map.1 ((polF_some (keys_nd (by omega) hp)).1 hk)
      have e1 : keyOf m.2 = k := congrArg Prod.fst e
      have e2 : m.1 = x := congrArg Prod.snd e
      subst e1 e2
      have hv := (partB_mem hp hm).vok
      exact ⟨hv.num, hv.kok n3⟩
    cases hD : bkD f g with
    | true =>
      have e : brE z f z g = 0 := by unfold brE; rw [if_pos hE, hD]; rfl
      rw [e, if_pos rfl, if_pos rfl]
      rw [hD] at cI
      refine con_of_vc Try.mixed ⟨14, [22, 24, 48, 61], [80], []⟩ Try.func22 (by decide) rfl (by simp) (by decide) (by simp [freshOK, freshL, go_sem]) ?_
      rw [Try.ntmps22]
      simp [go_sem]
      refine CallVC.of (cK) (by decide) ?_
      simp [go_sem]
      refine ⟨by kernel_rfl, ?_⟩
      refine CallD.of (cP) (by simp [roots, rootsL, frz]) (by decide) ?_
      simp [go_sem]
      refine CallD.of (cQ) (by simp [roots, rootsL, frz]) (by decide) ?_
      simp [go_sem]
      refine ⟨by kernel_rfl, ?_⟩
      simp [go_sem]
      refine loop_inv (9 :: 10 :: 11 :: 12 :: List.range' 28 41) (fun i : Nat => [(9, .own 102 i ((brL f g i).map AV.mp)), (28, .int i)]) (fun i => i ≤ f.length) (fun i => f.length - i) 0 (by simp) (by simp [go_sem, brL]) (by simp [go_sem]) ?_
      intro i hi
      simp [go_sem]
      refine ⟨fun h => ?_, fun h => ?_⟩ <;> simp at h
      · have hif := h
        have hig : i < g.length := by omega
        simp [go_sem]
        refine loop_inv (11 :: 12 :: List.range' 34 30) (fun k : Nat => [(11, .mp (brM f g i k)), (34, .int k)]) (fun k => k ≤ f.length) (fun k => f.length - k) 0 (by simp) (by simp [go_sem, brM]) (by simp [go_sem]) ?_
        intro k hk
        simp [go_sem]
        refine ⟨fun h => ?_, fun h => ?_⟩ <;> simp at h
        · have hkf := h
          have hkg : k < g.length := by omega
          have d1 := derivative_c (polF (g[i]?.getD [])) k hkf n3 (dv _ (pg i hif))
          have d2 := derivative_c (polF (f[i]?.getD [])) k hkf n3 (dv _ (pf i hif))
          have x1 : Con Try.prog 90 [.fmp (polF (f[k]?.getD [])), .fmp (derM k (polF (g[i]?.getD [])))] (.mp (shM (f[k]?.getD []) (g[i]?.getD []) k)) :=
            product_c (polF_enum (keys_nd (by omega) (pf k hkf))) (enE_is (derM_listed (keys_nd (by omega) (pg i hif)))) (fun a x hk => part_entries (by omega) (pf k hkf) hk) (fun a x hk => derM_eok n3 hkf (pg i hif) hk)
          have x2 : Con Try.prog 90 [.fmp (polF (g[k]?.getD [])), .fmp (derM k (polF (f[i]?.getD [])))] (.mp (shM (g[k]?.getD []) (f[i]?.getD []) k)) :=
            product_c (polF_enum (keys_nd (by omega) (pg k hkf))) (enE_is (derM_listed (keys_nd (by omega) (pf i hif)))) (fun a x hk => part_entries (by omega) (pg k hkf) hk) (fun a x hk => derM_eok n3 hkf (pf i hif) hk)
          have a1 := add_c (brM f g i k) (shM (f[k]?.getD []) (g[i]?.getD []) k) 1 (brM_N f g i k) (shM_N _ _ _) ⟨by omega, by omega⟩
          have a2 := add_c (addM (brM f g i k) (shM (f[k]?.getD []) (g[i]?.getD []) k) 1) (shM (g[k]?.getD []) (f[i]?.getD []) k) (-1) (addM_N (brM_N f g i k)) (shM_N _ _ _) ⟨by omega, by omega⟩
          have hb : brM f g i (k + 1) = addM (addM (brM f g i k) (shM (f[k]?.getD []) (g[i]?.getD []) k) 1) (shM (g[k]?.getD []) (f[i]?.getD []) k) (-1) := rfl
          have f1 := fpols_drop hkf
          have f2 := fpols_drop hkg
          have f3 := fpols_drop hif
          have f4 := fpols_drop hig
          have nf : ¬ f = [] := by rintro rfl; simp at hkf
          have ng : ¬ g = [] := by rintro rfl; simp at hkg
          generalize hM2 : brM f g i (k + 1) = M2 at *
          generalize (addM (brM f g i k) (shM (f[k]?.getD []) (g[i]?.getD []) k) 1) = M1 at *
          generalize brM f g i k = M0 at *
          generalize shM (f[k]?.getD []) (g[i]?.getD []) k = H1 at *
          generalize shM (g[k]?.getD []) (f[i]?.getD []) k = H2 at *
          generalize derM k (polF (g[i]?.getD [])) = E1 at *
          generalize derM k (polF (f[i]?.getD [])) = E2 at *
          simp [go_sem, f1, f2, f3, f4]
          refine ⟨by kernel_rfl, ⟨hkf, nf⟩, ⟨hig, ng⟩, ?_⟩
          refine CallD.of (d1) (by simp [roots, rootsL]) (by decide) ?_
          simp [go_sem]
          refine CallD.of (x1) (by simp [roots, rootsL, frz]) (by decide) ?_
          simp [go_sem]
          refine ⟨_, _, a1.g, ?_⟩
          simp [go_sem]
          refine ⟨by kernel_rfl, ?_⟩
          simp [go_sem]
          simp [go_sem, f1, f2, f3, f4]
          refine ⟨by kernel_rfl, ⟨hkg, ng⟩, ⟨hif, nf⟩, ?_⟩
          refine CallD.of (d2) (by simp [roots, rootsL]) (by decide) ?_
          simp [go_sem]
          refine CallD.of (x2) (by simp [roots, rootsL, frz]) (by decide) ?_
          simp [go_sem]
          refine ⟨_, _, a2.g, ?_⟩
          simp [go_sem]
          refine ⟨by kernel_rfl, ?_⟩
          simp [go_sem]
          exact ⟨by omega, k + 1, by omega, by omega, Off_reset _ _ _ (by simp), by rw [hM2]; exact hb.symm, by omega⟩
        · have e : k = f.length := by omega
          subst e
          have hsn := brL_snoc f g i
          simp [go_sem]
          refine ⟨⟨by omega, by omega⟩, by omega, i + 1, by omega, by omega, (Off.reset (by intro x hx; simp at hx ⊢; omega) (by simp) (by simp [go_sem, Off_reset])), ?_, by omega⟩
          exact ⟨rfl, hsn.symm⟩
      · have e : i = f.length := by omega
        subst e
        simp [go_sem, mps_frz]
        simp only [brL_len, bkL_len] at cF cI
        refine CallVC.of (cF) (by decide) ?_
        simp [go_sem]
        refine CallVC.of (cI) (by decide) ?_
        simp [go_sem]
    | false =>
      have e : brE z f z g = 3 := by unfold brE; rw [if_pos hE, hD]; rfl
      rw [e]
      rw [hD] at cI
      refine nF _ ?_
      refine con_of_vc Try.mixed ⟨14, [22, 24, 48, 61], [80], []⟩ Try.func22 (by decide) rfl (by simp) (by decide) (by simp [freshOK, freshL, go_sem]) ?_
      rw [Try.ntmps22]
      simp [go_sem]
      refine CallVC.of (cK) (by decide) ?_
      simp [go_sem]
      refine ⟨by kernel_rfl, ?_⟩
      refine CallD.of (cP) (by simp [roots, rootsL, frz]) (by decide) ?_
      simp [go_sem]
      refine CallD.of (cQ) (by simp [roots, rootsL, frz]) (by decide) ?_
      simp [go_sem]
      refine ⟨by kernel_rfl, ?_⟩
      simp [go_sem]
      refine loop_inv (9 :: 10 :: 11 :: 12 :: List.range' 28 41) (fun i : Nat => [(9, .own 102 i ((brL f g i).map AV.mp)), (28, .int i)]) (fun i => i ≤ f.length) (fun i => f.length - i) 0 (by simp) (by simp [go_sem, brL]) (by simp [go_sem]) ?_
      intro i hi
      simp [go_sem]
      refine ⟨fun h => ?_, fun h => ?_⟩ <;> simp at h
      · have hif := h
        have hig : i < g.length := by omega
        simp [go_sem]
        refine loop_inv (11 :: 12 :: List.range' 34 30) (fun k : Nat => [(11, .mp (brM f g i k)), (34, .int k)]) (fun k => k ≤ f.length) (fun k => f.length - k) 0 (by simp) (by simp [go_sem, brM]) (by simp [go_sem]) ?_
        intro k hk
        simp [go_sem]
        refine ⟨fun h => ?_, fun h => ?_⟩ <;> simp at h
        · have hkf := h
          have hkg : k < g.length := by omega
          have d1 := derivative_c (polF (g[i]?.getD [])) k hkf n3 (dv _ (pg i hif))
          have d2 := derivative_c (polF (f[i]?.getD [])) k hkf n3 (dv _ (pf i hif))
          have x1 : Con Try.prog 90 [.fmp (polF (f[k]?.getD [])), .fmp (derM k (polF (g[i]?.getD [])))] (.mp (shM (f[k]?.getD []) (g[i]?.getD []) k)) :=
            product_c (polF_enum (keys_nd (by omega) (pf k hkf))) (enE_is (derM_listed (keys_nd (by omega) (pg i hif)))) (fun a x hk => part_entries (by omega) (pf k hkf) hk) (fun a x hk => derM_eok n3 hkf (pg i hif) hk)
          have x2 : Con Try.prog 90 [.fmp (polF (g[k]?.getD [])), .fmp (derM k (polF (f[i]?.getD [])))] (.mp (shM (g[k]?.getD []) (f[i]?.getD []) k)) :=
            product_c (polF_enum (keys_nd (by omega) (pg k hkf))) (enE_is (derM_listed (keys_nd (by omega) (pf i hif)))) (fun a x hk => part_entries (by omega) (pg k hkf) hk) (fun a x hk => derM_eok n3 hkf (pf i hif) hk)
          have a1 := add_c (brM f g i k) (shM (f[k]?.getD []) (g[i]?.getD []) k) 1 (brM_N f g i k) (shM_N _ _ _) ⟨by omega, by omega⟩
          have a2 := add_c (addM (brM f g i k) (shM (f[k]?.getD []) (g[i]?.getD []) k) 1) (shM (g[k]?.getD []) (f[i]?.getD []) k) (-1) (addM_N (brM_N f g i k)) (shM_N _ _ _) ⟨by omega, by omega⟩
          have hb : brM f g i (k + 1) = addM (addM (brM f g i k) (shM (f[k]?.getD []) (g[i]?.getD []) k) 1) (shM (g[k]?.getD []) (f[i]?.getD []) k) (-1) := rfl
          have f1 := fpols_drop hkf
          have f2 := fpols_drop hkg
          have f3 := fpols_drop hif
          have f4 := fpols_drop hig
          have nf : ¬ f = [] := by rintro rfl; simp at hkf
          have ng : ¬ g = [] := by rintro rfl; simp at hkg
          generalize hM2 : brM f g i (k + 1) = M2 at *
          generalize (addM (brM f g i k) (shM (f[k]?.getD []) (g[i]?.getD []) k) 1) = M1 at *
          generalize brM f g i k = M0 at *
          generalize shM (f[k]?.getD []) (g[i]?.getD []) k = H1 at *
          generalize shM (g[k]?.getD []) (f[i]?.getD []) k = H2 at *
          generalize derM k (polF (g[i]?.getD [])) = E1 at *
          generalize derM k (polF (f[i]?.getD [])) = E2 at *
          simp [go_sem, f1, f2, f3, f4]
          refine ⟨by kernel_rfl, ⟨hkf, nf⟩, ⟨hig, ng⟩, ?_⟩
          refine CallD.of (d1) (by simp [roots, rootsL]) (by decide) ?_
          simp [go_sem]
          refine CallD.of (x1) (by simp [roots, rootsL, frz]) (by decide) ?_
          simp [go_sem]
          refine ⟨_, _, a1.g, ?_⟩
          simp [go_sem]
          refine ⟨by kernel_rfl, ?_⟩
          simp [go_sem]
          simp [go_sem, f1, f2, f3, f4]
          refine ⟨by kernel_rfl, ⟨hkg, ng⟩, ⟨hif, nf⟩, ?_⟩
          refine CallD.of (d2) (by simp [roots, rootsL]) (by decide) ?_
          simp [go_sem]
          refine CallD.of (x2) (by simp [roots, rootsL, frz]) (by decide) ?_
          simp [go_sem]
          refine ⟨_, _, a2.g, ?_⟩
          simp [go_sem]
          refine ⟨by kernel_rfl, ?_⟩
          simp [go_sem]
          exact ⟨by omega, k + 1, by omega, by omega, Off_reset _ _ _ (by simp), by rw [hM2]; exact hb.symm, by omega⟩
        · have e : k = f.length := by omega
          subst e
          have hsn := brL_snoc f g i
          simp [go_sem]
          refine ⟨⟨by omega, by omega⟩, by omega, i + 1, by omega, by omega, (Off.reset (by intro x hx; simp at hx ⊢; omega) (by simp) (by simp [go_sem, Off_reset])), ?_, by omega⟩
          exact ⟨rfl, hsn.symm⟩
      · have e : i = f.length := by omega
        subst e
        simp [go_sem, mps_frz]
        simp only [brL_len, bkL_len] at cF cI
        refine CallVC.of (cF) (by decide) ?_
        simp [go_sem]
        refine CallVC.of (cI) (by decide) ?_
        simp [go_sem]
  · have e : brE z f w g = 1 := by unfold brE; rw [hE]; rfl
    rw [hE] at cK
    rw [e]
    refine nF _ ?_
    refine con_of_vc Try.mixed ⟨14, [22, 24, 48, 61], [80], []⟩ Try.func22 (by decide) rfl (by simp) (by decide) (by simp [freshOK, freshL, go_sem]) ?_
    rw [Try.ntmps22]
    simp [go_sem]
    refine CallVC.of (cK) (by decide) ?_
    simp [go_sem]
end Go.Proofs.Ytjpeakcapddimaa

/- The statement's function FnExactBracketFields, walked: it answers true. -/
namespace Go.Proofs.Ytjpeakcapddimaa
open Go.Abs
set_option linter.unusedVariables false
set_option linter.unusedSimpArgs false
set_option maxHeartbeats 4000000
set_option maxRecDepth 100000 in
theorem law34_c (z0 : Int) (f0 : List (List Mon)) (z1 : Int) (f1 : List (List Mon)) (hf0 : Fit f0) (hf1 : Fit f1) :
    Con Try.prog 5 [.agg [.int z0, .sl f0.length (prt f0)], .agg [.int z1, .sl f1.length (prt f1)]] (.bool true) := by
  refine con_of_vc Try.mixed ⟨17, [32, 99], [17], []⟩ Try.func5 (by decide) rfl (by simp) (by decide) (by simp [freshOK, freshL, go_sem]) ?_
  rw [Try.ntmps5]
  simp [go_sem]
  have cS0 := szField_c z0 f0 (1048576) hf0 (by omega) (by omega)
  refine CallVC.of (cS0) (by decide) ?_
  simp [go_sem]
  by_cases hs0 : szF (1048576) f0 < 0
  · simp [go_sem, hs0]
  simp [go_sem, hs0]
  have hc0 := szF_ok.ok (1048576) f0 (by omega) (by omega)
  have hh0 := szF_ok.hi (1048576) f0 (by omega)
  generalize hL0 : szF (1048576) f0 = L0 at *
  have cS1 := szField_c z1 f1 (L0) hf1 (by omega) (by omega)
  refine CallVC.of (cS1) (by decide) ?_
  simp [go_sem]
  by_cases hs1 : szF (L0) f1 < 0
  · simp [go_sem, hs1]
  simp [go_sem, hs1]
  have hc1 := szF_ok.ok (L0) f1 (by omega) (by omega)
  have hh1 := szF_ok.hi (L0) f1 (by omega)
  generalize hL1 : szF (L0) f1 = L1 at *
  have sm0 := small_of (f := f0) (by omega)
  have cT0 := toField_c z0 f0 sm0.1 sm0.2
  have cQ0 := eqField_c z0 f0 hf0
  have fl0 := sm0.1
  have ct0 : (sumC cP f0 : Int) ≤ 1048576 := by unfold cF at hc0; omega
  have sm1 := small_of (f := f1) (by omega)
  have cT1 := toField_c z1 f1 sm1.1 sm1.2
  have cQ1 := eqField_c z1 f1 hf1
  have fl1 := sm1.1
  have ct1 : (sumC cP f1 : Int) ≤ 1048576 := by unfold cF at hc1; omega
  have cSp := specBracketFields_c z0 f0 z1 f1 sm0 sm1
  have cIm := BracketFields_c z0 f0 z1 f1 sm0 sm1
  have xt : Tiny (brX z0 f0 z1 f1) := brX_tiny z0 f0 z1 f1
  unfold brR at cSp cIm
  generalize brX z0 f0 z1 f1 = xs at cSp cIm xt
  generalize (if brE z0 f0 z1 f1 = 0 then z0 else 0) = zz at cSp cIm
  generalize brE z0 f0 z1 f1 = e at cSp cIm
  have cM0 := markField_c z0 f0 (1) sm0.1 sm0.2 (by omega) (by omega)
  have cM1 := markField_c z1 f1 (1 + sumC cP f0) sm1.1 sm1.2 (by omega) (by omega)
  have p2 : ¬ (1 + (sumC cP f0 : Int) + (sumC cP f1 : Int) < 0) := by omega
  have xm := xt.small
  have xc := xt.count
  have cE := eqField_c zz xs xt.fit
  have cN := markField_c zz xs 1 xm.1 xm.2 (by omega) (by omega)
  have cH := heldField_c zz xs 1 xm.1 xm.2 (by omega) (by omega)
  have p1 : ¬ (1 + (sumC cP xs : Int) < 0) := by omega
  refine ⟨by kernel_rfl, ?_⟩
  refine CallD.of (cT0) (by simp [roots, rootsL]) (by decide) ?_
  simp [go_sem]
  refine CallD.of (cT1) (by simp [roots, rootsL]) (by decide) ?_
  simp [go_sem]
  refine CallD.of (cSp) (by simp [go_sem, roots, rootsL]) (by decide) ?_
  simp [go_sem]
  refine ⟨by kernel_rfl, ?_⟩
  simp [go_sem]
  refine CallVC.of (cT0) (by decide) ?_
  simp [go_sem]
  refine CallVC.of (cT1) (by decide) ?_
  simp [go_sem]
  refine CallVC.of (cIm) (by decide) ?_
  simp [go_sem]
  refine CallVC.of (cE) (by decide) ?_
  simp [go_sem]
  refine ⟨by kernel_rfl, ?_⟩
  refine CallD.of (cT0) (by simp [roots, rootsL]) (by decide) ?_
  simp [go_sem]
  refine CallD.of (cQ0) (by simp [roots, rootsL]) (by decide) ?_
  simp [go_sem]
  refine ⟨by kernel_rfl, ?_⟩
  simp [go_sem]
  refine ⟨by kernel_rfl, ?_⟩
  refine CallD.of (cT1) (by simp [roots, rootsL]) (by decide) ?_
  simp [go_sem]
  refine CallD.of (cQ1) (by simp [roots, rootsL]) (by decide) ?_
  simp [go_sem]
  refine ⟨by kernel_rfl, ?_⟩
  simp [go_sem]
  refine ⟨_, _, cM0, ?_⟩
  simp [go_sem]
  refine ⟨_, _, cM1, ?_⟩
  simp [go_sem]
  simp [go_sem, p2]
  refine CallVC.of (cE) (by decide) ?_
  simp [go_sem]
  refine ⟨_, _, cN, ?_⟩
  simp [go_sem]
  refine CallVC.of (cH) (by decide) ?_
  simp [go_sem]
  simp [go_sem, p1]
  refine ⟨by kernel_rfl, ?_⟩
  refine CallD.of (cT0) (by simp [roots, rootsL]) (by decide) ?_
  simp [go_sem]
  refine CallD.of (cT1) (by simp [roots, rootsL]) (by decide) ?_
  simp [go_sem]
  refine CallD.of (cIm) (by simp [go_sem, roots, rootsL]) (by decide) ?_
  simp [go_sem]
  refine ⟨by kernel_rfl, ?_⟩
  simp [go_sem]
  refine CallVC.of (cE) (by decide) ?_
  simp [go_sem]
  refine CallVC.of (cH) (by decide) ?_
  simp [go_sem]
  simp [go_sem, p1]
end Go.Proofs.Ytjpeakcapddimaa

/- What comes in at the statements of this part: tableaus, vectors, matrices. -/
namespace Go.Proofs.Ytjpeakcapddimaa
open Go.ChangeShapes Go.WideShapes Go.ChangeAt Go.RowKit Go.Abs Go.Deep
set_option linter.unusedVariables false
section
variable {H : Type} {enc : TypeId × Value → H} {w : World} {sp : Nat → Bool} {held : Bool} {base : Nat}
theorem kids : Kids Try.prog (· < Try.prog.types.size) := kids_rows (by kernel_rfl) (by kernel_rfl)
theorem full : ∀ t e, t < Try.prog.types.size → Try.prog.underlying t = some (.slice e) → 0 < Try.prog.cellsOf e := slices_full_of Try.prog (by kernel_rfl)

theorem flat1 {α β : Type} (g : α → β) : ∀ qs : List α, qs.flatMap (fun a => [g a]) = qs.map g
  | [] => rfl
  | a :: qs => by rw [List.flatMap_cons, flat1 g qs]; rfl
theorem open_vec {n : Nat} {cs : List Value} {x : DataW H × List MemPlace} (h : DataW.trod enc Try.prog w base sp held n 38 cs = some x) :
    ∃ xs : List Int, (∀ z ∈ xs, (Lit.int .i64 z).wf = true) ∧ xs.length ≤ 9223372036854775807 ∧ RepL Try.prog w (fun b => b < w.heap.size) [.sl xs.length (avs xs)] cs [] ∧ cs.length = 1 := by
  obtain ⟨qs, h1, h2, h3, h4⟩ := open_sl (f := fun z : Int => [AV.int z]) (Good := fun z => (Lit.int .i64 z).wf = true) Try.underlying38 (s := 1) (by kernel_rfl) (by decide) (fun _ => rfl)
    (fun n cs y hy => by obtain ⟨z, k1, k2, _⟩ := open_i Try.underlying2 hy; exact ⟨z, k1, k2⟩) h
  exact ⟨qs, h1, h2, by rw [flat1] at h3; exact h3, h4⟩
theorem open_mat {n : Nat} {cs : List Value} {x : DataW H × List MemPlace} (h : DataW.trod enc Try.prog w base sp held n 37 cs = some x) :
    ∃ xs : List (List Int), (∀ r ∈ xs, (∀ z ∈ r, (Lit.int .i64 z).wf = true) ∧ r.length ≤ 9223372036854775807) ∧ xs.length ≤ 9223372036854775807 ∧ RepL Try.prog w (fun b => b < w.heap.size) [.sl xs.length (mat xs)] cs [] ∧ cs.length = 1 := by
  obtain ⟨qs, h1, h2, h3, h4⟩ := open_sl (f := fun r : List Int => [AV.sl r.length (avs r)]) (Good := fun r => (∀ z ∈ r, (Lit.int .i64 z).wf = true) ∧ r.length ≤ 9223372036854775807) Try.underlying37 (s := 1) (by kernel_rfl) (by decide) (fun _ => rfl)
    (fun n cs y hy => by obtain ⟨z, k1, k2, k3, _⟩ := open_vec hy; exact ⟨z, ⟨k1, k2⟩, k3⟩) h
  exact ⟨qs, h1, h2, by rw [flat1] at h3; exact h3, h4⟩
/-- A number's worth of cells of the tuple is what the walk takes. -/
theorem rep_one {F : Nat → Prop} {tm : Nat → Value} {oss : Nat → List Nat} {c : AV} {v : Value} (h : RepL Try.prog w F [c] [v] []) : RepT Try.prog w F tm oss c v [] := .cell _ _ _ (RepL.one h)
set_option maxRecDepth 100000 in
theorem repV {F : Nat → Prop} {tm : Nat → Value} {oss : Nat → List Nat} {t e : TypeId} {v : Value} {c : AV} {r : Reach} {b0 : Nat} (ht : Try.prog.underlying t = some (.slice e)) (hv : Value.okWide Try.prog w r b0 t v) (h : RepL Try.prog w F [c] v.cells.toList []) :
    RepT Try.prog w F tm oss c v [] := by
  have hc : v.cells.toList = [v] := by
    simp only [Value.okWide, ht] at hv
    cases v <;> simp_all [Value.cells, Cell.okWide, Cell.ok]
  rw [hc] at h
  exact rep_one h
set_option maxRecDepth 100000 in
/-- A tableau. -/
theorem open_tabl {r : Reach} {b0 : Nat} {v : Value} {d : DataW H} {p : List MemPlace} (hv : Value.okWide Try.prog w r b0 40 v) (h : DataW.Trod enc Try.prog w base sp held 40 v d p) :
    ∃ (xs : List (List Int)) (b : List Int), (∀ r ∈ xs, (∀ z ∈ r, (Lit.int .i64 z).wf = true) ∧ r.length ≤ 9223372036854775807) ∧ xs.length ≤ 9223372036854775807 ∧ (∀ z ∈ b, (Lit.int .i64 z).wf = true) ∧ b.length ≤ 9223372036854775807 ∧
      ∀ tm oss, RepT Try.prog w (fun b => b < w.heap.size) tm oss (.agg [.sl xs.length (mat xs), .sl b.length (avs b)]) v [] := by
  obtain ⟨v0, v1, y0, y1, n, rfl, rfl, rfl, k0, k1⟩ := Joins.open_agg2 Try.underlying40 (by kernel_rfl) (by kernel_rfl) hv h
  obtain ⟨xs, a1, a2, a3, _⟩ := open_mat k0
  obtain ⟨b, b1, b2, b3, _⟩ := open_vec k1
  exact ⟨xs, b, a1, a2, b1, b2, fun tm oss => .agg _ [v0, v1] [] rfl (.cons _ _ [] _ _ [] (rep_one a3) (.cons _ _ [] _ _ [] (rep_one b3) (.nil _)))⟩
end
end Go.Proofs.Ytjpeakcapddimaa

/- What comes in at the statements of this part: fields. -/
namespace Go.Proofs.Ytjpeakcapddimaa
open Go.ChangeShapes Go.WideShapes Go.ChangeAt Go.RowKit Go.Abs Go.Deep
set_option linter.unusedVariables false
section
variable {H : Type} {enc : TypeId × Value → H} {w : World} {sp : Nat → Bool} {held : Bool} {base : Nat}
set_option maxRecDepth 100000 in
theorem open_mons {n : Nat} {cs : List Value} {x : DataW H × List MemPlace} (h : DataW.trod enc Try.prog w base sp held n 168 cs = some x) :
    ∃ p : List Mon, (∀ m ∈ p, m.2.length ≤ 9223372036854775807) ∧ p.length ≤ 9223372036854775807 ∧ RepL Try.prog w (fun b => b < w.heap.size) [.sl p.length (mons p)] cs [] ∧ cs.length = 1 :=
  open_sl (f := fun m : Mon => [AV.int m.1, .sl m.2.length (avs m.2)]) (Good := fun m => m.2.length ≤ 9223372036854775807) Try.underlying168 (s := 2) (by kernel_rfl) (by decide) (fun _ => rfl)
    (fun n cs y hy => by
      obtain ⟨c0, c1, y0, y1, m, rfl, k0, k1⟩ := open_st2 Try.underlying209 (by kernel_rfl) (by kernel_rfl) hy
      obtain ⟨z, _, a1, _⟩ := open_i Try.underlying2 (F := fun b => b < w.heap.size) k0
      obtain ⟨xs, _, b1, b2, _⟩ := open_vec k1
      exact ⟨(z, xs), b1, RepL.two a1 b2⟩) h
set_option maxRecDepth 100000 in
theorem open_prt {n : Nat} {cs : List Value} {x : DataW H × List MemPlace} (h : DataW.trod enc Try.prog w base sp held n 22 cs = some x) :
    ∃ f : List (List Mon), Fit f ∧ RepL Try.prog w (fun b => b < w.heap.size) [.sl f.length (prt f)] cs [] ∧ cs.length = 1 := by
  obtain ⟨qs, h1, h2, h3, h4⟩ := open_sl (f := fun p : List Mon => [AV.sl p.length (mons p)]) (Good := fun p => p.length ≤ 9223372036854775807 ∧ ∀ q ∈ p, q.2.length ≤ 9223372036854775807) Try.underlying22 (s := 1) (by kernel_rfl) (by decide) (fun _ => rfl)
    (fun n cs y hy => by
      obtain ⟨p, a1, a2, a3, _⟩ := open_mons hy
      exact ⟨p, ⟨a2, a1⟩, a3⟩) h
  exact ⟨qs, ⟨h2, h1⟩, by rw [flat1] at h3; exact h3, h4⟩
set_option maxRecDepth 100000 in
/-- A field. -/
theorem open_fld {r : Reach} {b0 : Nat} {v : Value} {d : DataW H} {p : List MemPlace} (hv : Value.okWide Try.prog w r b0 24 v) (h : DataW.Trod enc Try.prog w base sp held 24 v d p) :
    ∃ (z : Int) (f : List (List Mon)), Fit f ∧ ∀ tm oss, RepT Try.prog w (fun b => b < w.heap.size) tm oss (.agg [.int z, .sl f.length (prt f)]) v [] := by
  obtain ⟨v0, v1, y0, y1, n, rfl, rfl, rfl, k0, k1⟩ := Joins.open_agg2 Try.underlying24 (by kernel_rfl) (by kernel_rfl) hv h
  obtain ⟨z, _, a1, _⟩ := open_i Try.underlying2 (F := fun b => b < w.heap.size) k0
  obtain ⟨f, b1, b2, _⟩ := open_prt k1
  exact ⟨z, f, b1, fun tm oss => .agg _ [v0, v1] [] rfl (.cons _ _ [] _ _ [] (rep_one a1) (.cons _ _ [] _ _ [] (rep_one b2) (.nil _)))⟩
end
end Go.Proofs.Ytjpeakcapddimaa
