/- Texts of the own layer and contracts, part 8: W56 W57 E48 Q34 W58 W12 W13 V2 V1 W1 W3 W14 W15 W6 W7 W9 W10 W19 W37 W38 W59 W60 W63 W64 W42 O W2 L50. -/
import Derived.Test.YtphccfabekdmnaaGreatRows
import Derived.WalkKit
import Derived.ProofKit
import Derived.OpenShut
import Derived.Test.YtphccfabekdmnaaGreatM7
set_option linter.unusedSectionVars false
set_option linter.unusedVariables false
set_option linter.unusedSimpArgs false
set_option maxHeartbeats 4000000
set_option maxRecDepth 100000
namespace Go.Proofs.YtphccfabekdmnaaGreat
open Go.Abs
theorem l03All_c (n : Nat) (hn : n ≤ 6) : Con Tryz.prog 163 [.int n] (.own 25 (trN n).length (omat (trN n))) := by
 refine con_of_vc Tryz.mixed ⟨5, [], [], []⟩ Tryz.func163 (by decide) rfl (by simp) (by decide) (by simp [freshOK, freshL, go_sem]) ?_
 rw [Tryz.ntmps163]
 simp [go_sem]
 refine loop_inv ([3, 4] ++ List.range' 6 9) (fun i : Nat => [(3, .own 25 (trN i).length (omat (trN i))), (4, .int (i + 1))]) (fun i => i ≤ n) (fun i => n - i) 0 (by simp) (by simp [go_sem, trN, omat]) (by simp [go_sem]) ?_
 intro i hi
 have l0 := trN_len i (by omega)
 by_cases hin : i < n
 ·have hii : (i : Int) + 1 ≤ n := by omega
  have cT := l03Trees_c (i + 1) (by omega) (by omega)
  have l1 := trN_len (i + 1) (by omega)
  have ts := trN_succ i
  have tl := congrArg List.length ts
  rw [List.length_append] at tl
  have ot : omat (trN (i + 1)) = omat (trN i) ++ omat (genT 200 (upTo (i + 1))) := by rw [ts]; simp [omat]
  have ec : ((i + 1 : Nat) : Int) = (i : Int) + 1 := by omega
  rw [ec] at cT
  generalize genT 200 (upTo (i + 1)) = G at *
  simp [go_sem, hii]
  refine CallVC.of (cT) (by decide) ?_
  simp [go_sem]
  exact ⟨⟨by omega, by omega⟩, ⟨by omega, by omega⟩, i + 1, by omega, by omega, Off_reset _ _ _ (by simp), by rw [tl, ot]; exact ⟨rfl, rfl⟩, by omega⟩
 ·have e : i = n := by omega
  subst e
  have hii : ¬ (i : Int) + 1 ≤ i := by omega
  simp [go_sem, hii]
def fdL : List (List Int) → List Int → Nat → Int
 | [], _, _ => -1
 | x :: L, t, i => if x = t then (i : Int) else fdL L t (i + 1)
theorem fdL_le : ∀ (L : List (List Int)) (t : List Int) (i : Nat), -1 ≤ fdL L t i ∧ fdL L t i ≤ L.length + i
 | [], _, i => by simp [fdL]
 | x :: L, t, i => by
  rw [fdL]
  split
  ·simp; omega
  ·have := fdL_le L t (i + 1)
   simp only [List.length_cons]; omega
theorem l03Find_c (L : List (List Int)) (t : List Int) (hL : L.length ≤ 1048576) (hr : ∀ r ∈ L, r.length ≤ 1048576) : Con Tryz.prog 217 [.sl L.length (mat L), .sl t.length (avs t)] (.int (fdL L t 0)) := by
 refine con_of_vc Tryz.mixed ⟨6, [], [], []⟩ Tryz.func217 (by decide) rfl (by simp) (by decide) (by simp [freshOK, freshL, go_sem]) ?_
 rw [Tryz.ntmps217]
 simp [go_sem]
 refine loop_inv (4 :: 5 :: List.range' 6 13) (fun i : Nat => [(5, .int i)]) (fun i => i ≤ L.length ∧ fdL L t 0 = fdL (L.drop i) t i) (fun i => L.length - i) 0 (by simp) (by simp [go_sem]) (by simp [go_sem]) ?_
 rintro i ⟨hi, he⟩
 by_cases h : i < L.length
 ·have hii : (i : Int) < L.length := by omega
  have ne : ¬ L = [] := by rintro rfl; simp at h
  have md := mat_drop h
  have cS := l01Same_c (L[i]?.getD []) t (by have := hr _ (memD [] h); omega)
  have dl : L.drop i = L[i]?.getD [] :: L.drop (i + 1) := by rw [List.drop_eq_getElem_cons h]; simp [h]
  rw [dl, fdL] at he
  generalize L[i]?.getD [] = r at *
  by_cases hrt : r = t
  ·rw [if_pos hrt] at he
   subst hrt
   simp only [decide_true] at cS
   simp [go_sem, hii, md]
   refine ⟨ne, ?_⟩
   refine CallVC.of (cS) (by decide) ?_
   simp [go_sem]
   exact he.symm
  ·rw [if_neg hrt] at he
   simp only [hrt, decide_false] at cS
   simp [go_sem, hii, md]
   refine ⟨ne, ?_⟩
   refine CallVC.of (cS) (by decide) ?_
   simp [go_sem]
   exact ⟨⟨by omega, by omega⟩, i + 1, ⟨by omega, he⟩, by omega, Off_reset _ _ _ (by simp), by omega⟩
 ·have e : i = L.length := by omega
  subst e
  have hii : ¬ (L.length : Int) < L.length := by omega
  rw [List.drop_length, fdL] at he
  rw [he]
  simp [go_sem, hii]
theorem l07Unit_c : Con Tryz.prog 234 [] (.own 2 38 (avs unitS)) := by
 have e : avs unitS = .int 1 :: List.replicate 37 (.int 0) := by kernel_rfl
 rw [e]
 refine con_of_vc Tryz.mixed ⟨2, [], [], []⟩ Tryz.func234 (by decide) rfl (by simp) (by decide) (by simp [freshOK, freshL, go_sem]) ?_
 rw [Tryz.ntmps234]
 simp [go_sem]
def adL (a b : List Int) (k : Int) : List Int := (List.range a.length).map fun i => (iat a i + k * iat b i % 10007) % 10007
theorem adL_len (a b : List Int) (k : Int) : (adL a b k).length = a.length := by simp [adL]
theorem adL_take {a b : List Int} {k : Int} {i : Nat} (h : i < a.length) : (adL a b k).take (i + 1) = (adL a b k).take i ++ [(iat a i + k * iat b i % 10007) % 10007] := by
 rw [List.take_succ_eq_append_getElem (by rw [adL_len]; exact h)]
 simp [adL]
theorem l08Add_c (a b : List Int) (k : Int) (ha : Ns a) (hb : Ns b) (hk : isN k) (hl : a.length ≤ 1048576) (hab : a.length ≤ b.length) :
  Con Tryz.prog 297 [.sl a.length (avs a), .sl b.length (avs b), .int k] (.own 2 a.length (avs (adL a b k))) := by
 have tk := fun i h => adL_take (a := a) (b := b) (k := k) (i := i) h
 have tl : (adL a b k).take a.length = adL a b k := List.take_of_length_le (by rw [adL_len]; exact Nat.le_refl _)
 have ll := adL_len a b k
 generalize adL a b k = O at *
 refine con_of_vc Tryz.mixed ⟨9, [], [], []⟩ Tryz.func297 (by decide) rfl (by simp) (by decide) (by simp [freshOK, freshL, go_sem]) ?_
 rw [Tryz.ntmps297]
 simp [go_sem]
 refine loop_inv (7 :: 8 :: List.range' 10 20) (fun i : Nat => [(7, .own 2 i (avs (O.take i))), (8, .int i)]) (fun i => i ≤ a.length) (fun i => a.length - i) 0 (by simp) (by simp [go_sem]) (by simp [go_sem]) ?_
 intro i hi
 by_cases hil : i < a.length
 ·have hii : (i : Int) < a.length := by omega
  have da := avs_dropI hil
  have db := avs_dropI (a := b) (v := i) (by omega)
  have na : ¬ a = [] := by rintro rfl; simp at hil
  have nb : ¬ b = [] := by rintro rfl; simp at hab; rw [hab] at hil; simp at hil
  have xN : isN (iat a i) := ha.get i
  have yN : isN (iat b i) := hb.get i
  have f1 := mul_fits hk yN
  have c1 := l01Mul_c k (iat b i) f1
  have m1 := isN_mod (k * iat b i)
  have q1 := m1.1; have q2 := m1.2; have q3 := xN.1; have q4 := xN.2
  have c2 := l01Add_c (iat a i) (k * iat b i % 10007) ⟨by omega, by omega⟩
  have t1 := tk i hil
  generalize iat a i = x at *
  generalize iat b i = y at *
  simp [go_sem, hii, da, db]
  refine ⟨by kernel_rfl, na, ⟨by omega, nb⟩, ?_⟩
  refine CallD.of (c1) (by simp [roots, rootsL]) (by decide) ?_
  simp [go_sem]
  refine CallD.of (c2) (by simp [roots, rootsL]) (by decide) ?_
  simp [go_sem]
  refine ⟨⟨by omega, by omega, by omega⟩, ?_⟩
  refine ⟨by kernel_rfl, ?_⟩
  simp [go_sem]
  refine ⟨⟨by omega, by omega⟩, i + 1, by omega, by omega, Off_reset _ _ _ (by simp), ?_⟩
  have em : (x + k * y % 10007) % 10007 = (x + k * y) % 10007 := by omega
  rw [t1, avs_snoc, em]
  exact ⟨⟨rfl, rfl⟩, by omega⟩
 ·have e : i = a.length := by omega
  subst e
  have hii : ¬ (a.length : Int) < a.length := by omega
  rw [tl]
  simp [go_sem, hii]
theorem l07Scale_c (a : List Int) (k : Int) (ha : N38 a) (hk : isN k) : Con Tryz.prog 236 [.sl a.length (avs a), .int k] (.own 2 38 (avs (scS k a))) := by
 have cA := l03All_c 6 (by omega)
 have l6 := trN_len6
 have e6 : ((6 : Nat) : Int) = 6 := rfl
 rw [e6, l6] at cA
 have tk := fun i (h : i < 38) => scS_take k a h
 have ta := (scS_N k a).take
 have lo := (scS_N k a).1
 have la := ha.1
 have t1 := tk 0 (by omega)
 have na := ha.ne
 have r0 := ha.at 0
 have e0 : iat a 0 * k ^ nd 0 % 10007 = iat a 0 := by
  show iat a 0 * k ^ 0 % 10007 = iat a 0
  rw [Int.pow_zero, Int.mul_one, Int.emod_eq_of_lt r0.1 r0.2]
 rw [e0, List.take_zero, List.nil_append] at t1
 have a0 := avs_dropI (a := a) (v := 0) (by omega)
 rw [List.drop_zero, List.drop_one] at a0
 generalize scS k a = O at *
 refine con_of_vc Tryz.mixed ⟨8, [], [], []⟩ Tryz.func236 (by decide) rfl (by simp) (by decide) (by simp [freshOK, freshL, go_sem]) ?_
 rw [Tryz.ntmps236]
 simp [go_sem]
 refine ⟨by kernel_rfl, ?_⟩
 refine CallD.of (cA) (by simp [roots, rootsL]) (by decide) ?_
 simp [go_sem]
 simp [go_sem, a0]
 refine ⟨⟨by omega, na⟩, ?_⟩
 refine ⟨by kernel_rfl, ?_⟩
 simp [go_sem]
 refine loop_inv (6 :: 7 :: List.range' 13 22) (fun i : Nat => [(6, .own 2 (i + 1) (avs (O.take (i + 1)))), (7, .int i)]) (fun i => i ≤ 37) (fun i => 37 - i) 0 (by simp) (by simp [go_sem, t1, avs]) (by simp [go_sem]) ?_
 intro i hi
 by_cases hil : i < 37
 ·have hii : (i : Int) < 37 := by omega
  have dr := avs_dropI (a := a) (v := i + 1) (by omega)
  rw [a0, List.drop_succ_cons] at dr
  have ht : i < (trN 6).length := by omega
  have og := omat_get ht
  have e := trN_nd hil
  rw [e] at og
  have n6 := nd_le (i := i + 1) (by omega)
  have c2 := l01Pow_c k (nd (i + 1)) hk (by omega) (by omega)
  have pN := pw_N k (nd (i + 1))
  have xN : isN (iat a (i + 1)) := ha.Ns.get (i + 1)
  have f1 := mul_fits xN pN
  have c3 := l01Mul_c (iat a (i + 1)) (pw k (nd (i + 1))) f1
  have e2 : iat a (i + 1) * k ^ nd (i + 1) % 10007 = iat a (i + 1) * pw k (nd (i + 1)) % 10007 := by
   refine mod_mul' rfl ?_
   unfold pw
   rw [Int.emod_emod_of_dvd _ (Int.dvd_refl _)]; rfl
  have t2 := tk (i + 1) (by omega)
  rw [e2] at t2
  generalize iat a (i + 1) = x at *
  generalize pw k (nd (i + 1)) = y at *
  generalize nd (i + 1) = m at *
  generalize (trN 6)[i]?.getD [] = t at *
  have ei : ((i : Int) + 1) = ((i + 1 : Nat) : Int) := by omega
  simp [go_sem, hii, og, dr]
  refine ⟨by kernel_rfl, ⟨by omega, by omega⟩, ⟨by omega, by omega⟩, ?_⟩
  refine CallD.of (c2) (by simp [roots, rootsL]) (by decide) ?_
  simp [go_sem]
  refine CallD.of (c3) (by simp [roots, rootsL]) (by decide) ?_
  simp [go_sem]
  refine ⟨⟨by omega, by omega, by omega⟩, ?_⟩
  refine ⟨by kernel_rfl, ?_⟩
  simp [go_sem]
  refine ⟨⟨by omega, by omega⟩, i + 1, by omega, by omega, Off_reset _ _ _ (by simp), ?_⟩
  rw [t2, avs_snoc]
  exact ⟨⟨rfl, rfl⟩, by omega⟩
 ·have e : i = 37 := by omega
  subst e
  rw [ta]
  simp [go_sem]
end Go.Proofs.YtphccfabekdmnaaGreat


namespace Go.Proofs.YtphccfabekdmnaaGreat
open Go.Abs
def cp7 (s : Spl) : List Int := s.1.map fun c => fdL (trN 6) c 0 + 1
def tp7 (s : Spl) : Int := fdL (trN 6) (tkL s) 0 + 1
theorem tab7_all : (List.range 37).all (fun i => decide ((cut5 ((trN 6)[i]?.getD [])).map (fun s => (s.2.2 % 10007, cp7 s, tp7 s)) = (cutT[i]?.getD []).map fun c => ((c.1 : Int), nvs c.2.1, (c.2.2 : Int)))) = true := by decide +kernel
def cr7 (s : Spl) (j : Nat) : AV := if j = 0 then .val (.slice none 0 0) else .own 2 j (avs ((cp7 s).take j))
def mc7 (s : Spl) : List AV := [.int (s.2.2 % 10007), if s.1 = [] then .val (.slice none 0 0) else .own 2 s.1.length (avs (cp7 s)), .int (tp7 s)]
def rwS7 (t : List Int) : AV := .own 195 (cut5 t).length ((cut5 t).flatMap mc7)
theorem l07Cuts_x : GCon Tryz.prog 137 [] (.own 193 38 (.own 195 0 [] :: (trN 6).map rwS7)) [] := by
 have cT := l03All_c 6 (by omega)
 have l6 := trN_len6
 have at6 := fun t h => trN_at (t := t) h
 have e6 : ((6 : Nat) : Int) = 6 := rfl
 rw [e6, l6] at cT
 have tl : (trN 6).take 37 = trN 6 := List.take_of_length_le (by omega)
 refine gcon_of_vc Tryz.mixed ⟨9, [9, 22], [1000000 + 237], []⟩ [0] [] Tryz.func137 (by decide) rfl rfl (by simp) (by simp) (by decide) ?_
 rw [Tryz.ntmps137]
 simp [go_sem]
 refine CallVC.of (cT) (by decide) ?_
 simp [go_sem]
 refine loop_inv (List.range' 2 7 ++ List.range' 12 67) (fun i : Nat => [(2, .own 193 (i + 1) (.own 195 0 [] :: ((trN 6).take i).map rwS7)), (3, .int i)]) (fun i => i ≤ 37) (fun i => 37 - i) 0 (by simp) (by simp [go_sem]) (by simp [go_sem]) ?_
 intro i hi
 by_cases hil : i < 37
 ·have hii : (i : Int) < 37 := by omega
  have hl : i < (trN 6).length := by omega
  have dm := mat_drop hl
  have hm := memD [] hl
  have cC := l05Cuts_c hm
  obtain ⟨b1, b2⟩ := cut5_at hm
  have nm := trN_ne
  have tki : (trN 6).take (i + 1) = (trN 6).take i ++ [(trN 6)[i]?.getD []] := by
   rw [List.take_succ_eq_append_getElem hl, List.getElem?_eq_getElem hl]; rfl
  have hrw : rwS7 ((trN 6)[i]?.getD []) = .own 195 (cut5 ((trN 6)[i]?.getD [])).length ((cut5 ((trN 6)[i]?.getD [])).flatMap mc7) := rfl
  have lti : (((trN 6).take i).map rwS7).length = i := by rw [List.length_map, List.length_take]; omega
  have cFd := fun t => l03Find_c (trN 6) t (by omega) (fun r hr => by have := (at6 r hr).2.1; omega)
  rw [l6] at cFd
  generalize (trN 6)[i]?.getD [] = t at *
  generalize cut5 t = L at *
  simp [go_sem, hii, dm]
  refine ⟨nm, ?_⟩
  refine ⟨_, _, cC, ?_⟩
  simp [go_sem]
  refine loop_inv (5 :: 6 :: 7 :: 8 :: List.range' 24 51) (fun j : Nat => [(5, .own 195 j ((L.take j).flatMap mc7)), (6, .int j)]) (fun j => j ≤ L.length) (fun j => L.length - j) 0 (by simp) (by simp [go_sem]) (by simp [go_sem]) ?_
  intro j hj
  by_cases hjl : j < L.length
  ·have hji : (j : Int) < L.length := by omega
   have dr := flat3_drop cuF (fun _ => rfl) ([], [], 0) hjl
   have nL : ¬ L.flatMap cuF = [] := by intro e; have := flat3_len cuF (fun _ => rfl) L; rw [e] at this; simp at this; omega
   have lL := flat3_len cuF (fun _ => rfl) L
   have hms := memD ([], [], 0) hjl
   obtain ⟨c1, c2, c3, c4, c5, c6⟩ := b2 _ hms
   have tkj : L.take (j + 1) = L.take j ++ [L[j]?.getD ([], [], 0)] := by
    rw [List.take_succ_eq_append_getElem hjl, List.getElem?_eq_getElem hjl]; rfl
   have clj := flat3_len mc7 (fun _ => rfl) (L.take j)
   rw [List.length_take, Nat.min_eq_left (by omega)] at clj
   generalize L[j]?.getD ([], [], 0) = s at *
   obtain ⟨sa, sb, sc⟩ := s
   simp only [cuF] at dr
   simp only at c1 c2 c3 c4 c5 c6
   have hMX : mc7 (sa, sb, sc) = [.int (sc % 10007), if sa = [] then .val (.slice none 0 0) else .own 2 sa.length (avs (cp7 (sa, sb, sc))), .int (tp7 (sa, sb, sc))] := rfl
   have htp : tp7 (sa, sb, sc) = fdL (trN 6) (tkL (sa, sb, sc)) 0 + 1 := rfl
   have hcp : cp7 (sa, sb, sc) = sa.map fun c => fdL (trN 6) c 0 + 1 := rfl
   have hcr : ∀ k, cr7 (sa, sb, sc) k = if k = 0 then .val (.slice none 0 0) else .own 2 k (avs ((cp7 (sa, sb, sc)).take k)) := fun k => rfl
   have hcl : (cp7 (sa, sb, sc)).length = sa.length := by rw [hcp, List.length_map]
   have cPt := cFd (tkL (sa, sb, sc))
   have btp := fdL_le (trN 6) (tkL (sa, sb, sc)) 0
   rw [l6] at btp
   have cM := l01Mod_c sc (by omega) (by omega)
   generalize tkL (sa, sb, sc) = tk at *
   generalize hCP : cp7 (sa, sb, sc) = cps at *
   generalize hMC : L.flatMap cuF = MC at *
   generalize hC : (L.take j).flatMap mc7 = C at *
   have dr1 : MC.drop (j * 3 + 1) = AV.sl tk.length (avs tk) :: AV.int sc :: (L.drop (j + 1)).flatMap cuF := by
    have := congrArg (List.drop 1) dr
    rw [List.drop_drop] at this
    exact this
   have dr2 : MC.drop (j * 3 + 2) = AV.int sc :: (L.drop (j + 1)).flatMap cuF := by
    have := congrArg (List.drop 2) dr
    rw [List.drop_drop] at this
    exact this
   simp [go_sem, hji, dr2]
   refine ⟨by kernel_rfl, nL, ?_⟩
   refine CallD.of (cM) (by simp [roots, rootsL]) (by decide) ?_
   simp [go_sem]
   simp [go_sem, dr1]
   refine ⟨⟨hjl, nL⟩, ?_⟩
   refine CallD.of (cPt) (by simp [roots, rootsL]) (by decide) ?_
   simp [go_sem]
   refine ⟨⟨by omega, by omega⟩, ?_⟩
   refine ⟨by kernel_rfl, ?_⟩
   simp [go_sem]
   refine loop_inv (7 :: 8 :: List.range' 45 26) (fun k : Nat => [(7, .box 195 [.int (sc % 10007), cr7 (sa, sb, sc) k, .int (tp7 (sa, sb, sc))]), (8, .int k)]) (fun k => k ≤ sa.length) (fun k => sa.length - k) 0 (by simp) (by simp [go_sem, cr7, htp]) (by simp [go_sem, cr7]) ?_
   intro k hk
   by_cases hkl : k < sa.length
   ·have hki : (k : Int) < sa.length := by omega
    have dk := mat_drop hkl
    have na : ¬ sa = [] := by rintro rfl; simp at hkl
    have cP := cFd (sa[k]?.getD [])
    have bp := fdL_le (trN 6) (sa[k]?.getD []) 0
    rw [l6] at bp
    have tkk : cps.take (k + 1) = cps.take k ++ [fdL (trN 6) (sa[k]?.getD []) 0 + 1] := by
     rw [List.take_succ_eq_append_getElem (by omega)]
     congr 2
     subst hcp
     rw [List.getElem_map, List.getElem?_eq_getElem hkl]; rfl
    have lk : (cps.take k).length = k := by rw [List.length_take]; omega
    have x1 : cr7 (sa, sb, sc) (k + 1) = .own 2 (k + 1) (avs (cps.take k ++ [fdL (trN 6) (sa[k]?.getD []) 0 + 1])) := by rw [hcr, if_neg (by omega), tkk]
    generalize sa[k]?.getD [] = r at *
    generalize fdL (trN 6) r 0 = v at *
    by_cases k0 : k = 0
    ·have x0 : cr7 (sa, sb, sc) k = .val (.slice none 0 0) := by rw [hcr, if_pos k0]
     rw [x0]
     simp [go_sem, dr, hki, dk]
     refine ⟨⟨hjl, nL⟩, by kernel_rfl, ⟨hjl, nL⟩, na, ?_⟩
     refine CallD.of (cP) (by simp [roots, rootsL]) (by decide) ?_
     simp [go_sem]
     refine ⟨⟨by omega, by omega⟩, ?_⟩
     refine ⟨by kernel_rfl, ?_⟩
     simp [go_sem]
     refine ⟨⟨by omega, by omega⟩, k + 1, by omega, by omega, Off_reset _ _ _ (by simp), ?_⟩
     rw [x1]
     subst k0
     exact ⟨by simp [avs], by omega⟩
    ·have x0 : cr7 (sa, sb, sc) k = .own 2 k (avs (cps.take k)) := by rw [hcr, if_neg k0]
     rw [x0]
     simp [go_sem, dr, hki, dk]
     refine ⟨⟨hjl, nL⟩, by kernel_rfl, ⟨hjl, nL⟩, na, ?_⟩
     refine CallD.of (cP) (by simp [roots, rootsL]) (by decide) ?_
     simp [go_sem]
     refine ⟨⟨by omega, by omega⟩, ⟨by omega, by omega, by omega⟩, ?_⟩
     refine ⟨by kernel_rfl, ?_⟩
     simp [go_sem]
     refine ⟨⟨by omega, by omega⟩, k + 1, by omega, by omega, Off_reset _ _ _ (by simp), ?_⟩
     rw [x1, avs_snoc]
     exact ⟨rfl, by omega⟩
   ·have e : k = sa.length := by omega
    subst e
    have hki : ¬ (sa.length : Int) < sa.length := by omega
    by_cases s0 : sa = []
    ·have x0 : cr7 (sa, sb, sc) sa.length = .val (.slice none 0 0) := by rw [hcr, if_pos (by rw [s0]; rfl)]
     rw [x0]
     rw [if_pos s0] at hMX
     simp [go_sem, dr, hki]
     refine ⟨⟨hjl, nL⟩, ⟨by rw [clj], by omega, by omega⟩, ⟨by omega, by omega⟩, j + 1, by omega, by omega, (Off.reset (by intro x hx; simp at hx ⊢; omega) (by simp) (by simp [go_sem, Off_reset])), ?_⟩
     rw [tkj, List.flatMap_append, hC]
     refine ⟨⟨by omega, ?_⟩, by omega⟩
     simp [hMX]
    ·have x0 : cr7 (sa, sb, sc) sa.length = .own 2 sa.length (avs cps) := by
      rw [hcr, if_neg (by intro e; exact s0 (List.length_eq_zero_iff.1 e)), List.take_of_length_le (by omega)]
     rw [x0]
     rw [if_neg s0] at hMX
     simp [go_sem, dr, hki]
     refine ⟨⟨hjl, nL⟩, ⟨by rw [clj], by omega, by omega⟩, ⟨by omega, by omega⟩, j + 1, by omega, by omega, (Off.reset (by intro x hx; simp at hx ⊢; omega) (by simp) (by simp [go_sem, Off_reset])), ?_⟩
     rw [tkj, List.flatMap_append, hC]
     refine ⟨⟨by omega, ?_⟩, by omega⟩
     simp [hMX]
  ·have e : j = L.length := by omega
   subst e
   have hji : ¬ (L.length : Int) < L.length := by omega
   rw [List.take_length]
   simp [go_sem, hji]
   refine ⟨⟨by omega, by omega, by omega⟩, ⟨by omega, by omega⟩, i + 1, by omega, by omega, (by repeat (first | exact Off_reset _ _ _ (by simp) | (refine Off.reset (by intro x hx; simp at hx ⊢; omega) (by simp) ?_; simp -failIfUnchanged [go_sem, Off_reset]))), ?_⟩
   rw [← List.map_take, ← List.map_take, tki, List.map_append, ← hrw]
   exact ⟨⟨rfl, rfl⟩, by omega⟩
 ·have e : i = 37 := by omega
  subst e
  rw [tl]
  simp [go_sem]
theorem row7_nx : ∀ L : List Spl, NXL (frzL (L.flatMap mc7)) ((L.map fun s => (s.2.2 % 10007, cp7 s, tp7 s)).flatMap fun x => [.int x.1, .sl x.2.1.length (avs x.2.1), .int x.2.2])
 | [] => .nil
 | s :: L => by
  rw [List.map_cons, List.flatMap_cons, List.flatMap_cons, frzLapp]
  refine NXL.app (row7_nx L) ?_
  by_cases h : s.1 = []
  ·have e : mc7 s = [.int (s.2.2 % 10007), .val (.slice none 0 0), .int (tp7 s)] := by unfold mc7; rw [if_pos h]
   have e2 : cp7 s = [] := by unfold cp7; rw [h]; rfl
   rw [e, e2]
   exact .cons (.same _) (.cons .nil (.cons (.same _) .nil))
  ·have e : mc7 s = [.int (s.2.2 % 10007), .own 2 s.1.length (avs (cp7 s)), .int (tp7 s)] := by unfold mc7; rw [if_neg h]
   have e2 : (cp7 s).length = s.1.length := by simp [cp7]
   rw [e]
   show NXL [.int (s.2.2 % 10007), .sl s.1.length (frzL (avs (cp7 s))), .int (tp7 s)] [.int (s.2.2 % 10007), .sl (cp7 s).length (avs (cp7 s)), .int (tp7 s)]
   rw [avs_frz, e2]
   exact NXL.same _
theorem tab7_nx : ∀ T : List (List Int), NXL (frzL (T.map rwS7)) (T.map fun t => trG ((cut5 t).map fun s => (s.2.2 % 10007, cp7 s, tp7 s)))
 | [] => .nil
 | t :: T => by
  rw [List.map_cons, List.map_cons]
  refine .cons ?_ (tab7_nx T)
  show NX (.sl (cut5 t).length (frzL ((cut5 t).flatMap mc7))) (trG _)
  unfold trG
  rw [List.length_map]
  exact .sl _ (row7_nx _)
theorem fcF_tab7 : ((trN 6).map fun t => trG ((cut5 t).map fun s => (s.2.2 % 10007, cp7 s, tp7 s))) = fcF := by
 have l6 := trN_len6
 have lc := cutT_len
 show _ = cutT.map fun r => AV.sl r.length (r.flatMap ctF)
 refine List.ext_getElem (by rw [List.length_map, List.length_map, l6, lc]) fun i h1 h2 => ?_
 have hi : i < 37 := by rw [List.length_map, l6] at h1; exact h1
 have e := of_decide_eq_true (List.all_eq_true.1 tab7_all i (List.mem_range.2 hi))
 rw [List.getElem?_eq_getElem (show i < (trN 6).length by omega), List.getElem?_eq_getElem (show i < cutT.length by omega), Option.getD_some, Option.getD_some] at e
 rw [List.getElem_map, e]
 unfold trG
 rw [List.getElem_map, List.length_map, List.flatMap_map]
 show AV.sl _ (List.flatMap (fun c : Ctp => [AV.int c.1, AV.sl (nvs c.2.1).length (avs (nvs c.2.1)), AV.int c.2.2]) _) = _
 simp only [nvs_len]
 rfl
theorem l07Cuts_c : GCon Tryz.prog 137 [] (.sl 38 (.sl 0 [] :: fcF)) [] := by
 refine GCon.nx (.sl 38 (.cons (.same _) ?_)) (GCon.frzR l07Cuts_x rfl)
 rw [← fcF_tab7]
 exact tab7_nx _
end Go.Proofs.YtphccfabekdmnaaGreat


namespace Go.Proofs.YtphccfabekdmnaaGreat
def c1R (i : Nat) : List Ctp := (ctR i).filter fun c => decide (c.2.1.length = 1)
def acI (B X : Nat → Int) (i : Nat) : Int := if i = 0 then 0 else rowI B X (c1R i)
theorem c1R_sub {i : Nat} : ∀ c ∈ c1R i, c ∈ ctR i := fun c hc => (List.mem_filter.1 hc).1
theorem ac_mod {A A' B B' : Nat → Int} {i : Nat} (hi : i < 38) (ha : ∀ i, i < 38 → A i % 10007 = A' i % 10007) (hb : ∀ i, i < 38 → B i % 10007 = B' i % 10007) : acI A B i % 10007 = acI A' B' i % 10007 := by
 unfold acI
 split
 ·rfl
 ·exact rowI_mod fun c hc => ⟨fun v hv => ha v ((ctR_ok hi c (c1R_sub c hc)).1 v hv), hb _ (ctR_ok hi c (c1R_sub c hc)).2⟩
def unJ (i : Nat) : Int := if i = 0 then 1 else 0
def xpI (B : Nat → Int) : Nat → Nat → Int
 | 0 => unJ
 | k + 1 => acI B (xpI B k)
def ifT : List Nat := [1, 1, 5004, 1668, 417, 8089, 3016]
def ifI (k : Nat) : Int := ((ifT[k]?.getD 0 : Nat) : Int)
def expI (B : Nat → Int) (i : Nat) : Int := xpI B 0 i + xpI B 1 i * ifI 1 + xpI B 2 i * ifI 2 + xpI B 3 i * ifI 3 + xpI B 4 i * ifI 4 + xpI B 5 i * ifI 5 + xpI B 6 i * ifI 6
def expS (b : List Int) : List Int := mk38 (expI (iat b))
theorem expI_zero (B : Nat → Int) : expI B 0 = 1 := by
 have : ∀ k, xpI B (k + 1) 0 = 0 := fun k => by rw [xpI, acI, if_pos rfl]
 unfold expI
 rw [this 0, this 1, this 2, this 3, this 4, this 5]
 simp [xpI, unJ]
theorem expS_ch (b : List Int) : Ch (expS b) := ⟨mk38_N _, by unfold expS; rw [mk38_at _ (by decide), expI_zero]; rfl⟩
theorem expS_mod (b : List Int) {i : Nat} (hi : i < 38) : iat (expS b) i % 10007 = expI (iat b) i % 10007 := mk38_mod _ hi
end Go.Proofs.YtphccfabekdmnaaGreat


namespace Go.Proofs.YtphccfabekdmnaaGreat
open Go.Abs
theorem l03Factorial_c (n : Nat) (h : n ≤ 20) : Con Tryz.prog 298 [.int n] (.int (fact n)) := by
 refine con_of_vc Tryz.mixed ⟨5, [], [], []⟩ Tryz.func298 (by decide) rfl (by simp) (by decide) (by simp [freshOK, freshL, go_sem]) ?_
 rw [Tryz.ntmps298]
 simp [go_sem]
 refine loop_inv (List.range' 2 20) (fun k : Nat => [(3, .int (fact (k + 1))), (4, .int (k + 2))]) (fun k => k ≤ n - 1) (fun k => n - k) 0 (by simp) (by simp [go_sem]; decide) (by simp [go_sem]) ?_
 intro k hk
 simp [go_sem]
 refine ⟨fun h => ?_, fun h => ?_⟩ <;> simp at h
 ·have e : fact (k + 1) * ((k : Int) + 2) = fact (k + 1 + 1) := by simp only [fact]; rw [show ((k + 1 : Nat) : Int) + 1 = (k : Int) + 2 by omega]
  have b := fact_20 (show k + 1 + 1 ≤ 20 by omega)
  simp [go_sem, e]
  refine ⟨by omega, by omega, k + 1, by omega, by omega, Off_reset _ _ _ (by simp), rfl, by omega⟩
 ·simp [go_sem]
  rcases (show k = 0 ∧ n ≤ 1 ∨ k + 1 = n by omega) with ⟨rfl, _⟩ | hk
  ·have : n = 0 ∨ n = 1 := by omega
   rcases this with rfl | rfl <;> rfl
  ·rw [hk]
theorem fact_6 {n : Nat} (h : n ≤ 6) : 0 ≤ fact n ∧ fact n ≤ 720 := ⟨by have := fact_pos n; omega, Int.le_trans (fact_le h) (by decide)⟩
end Go.Proofs.YtphccfabekdmnaaGreat


namespace Go.Proofs.YtphccfabekdmnaaGreat
open Go.Abs
def s7F : List AV := .sl 0 [] :: fcF
theorem s7F_drop {i : Nat} (h0 : 0 < i) (h : i < 38) : s7F.drop i = .sl (ctR i).length ((ctR i).flatMap ctF) :: s7F.drop (i + 1) := by
 obtain ⟨j, rfl⟩ : ∃ j, i = j + 1 := ⟨i - 1, by omega⟩
 unfold s7F
 rw [List.drop_succ_cons, List.drop_succ_cons, fcF_drop (by omega)]
def pr7 (a : List Int) (x : Int) (l : List Nat) : Int := l.foldl (fun o v => o * iat a v % 10007) x
theorem pr7_snoc (a : List Int) (x : Int) (l : List Nat) (v : Nat) : pr7 a x (l ++ [v]) = pr7 a x l * iat a v % 10007 := by simp [pr7]
theorem pr7_N (a : List Int) {x : Int} (hx : isN x) (l : List Nat) : isN (pr7 a x l) := by
 rcases List.eq_nil_or_concat l with rfl | ⟨h, y, rfl⟩
 ·exact hx
 ·rw [List.concat_eq_append, pr7_snoc]; exact isN_mod _
theorem pr7_mod (a : List Int) (x : Int) (l : List Nat) : pr7 a x l % 10007 = x * prI (iat a) l % 10007 := by
 generalize hn : l.length = n
 induction n generalizing l with
 | zero => rw [List.length_eq_zero_iff.1 hn]; simp [pr7, prI]
 | succ n ih =>
  rcases List.eq_nil_or_concat l with rfl | ⟨h, y, rfl⟩
  ·simp at hn
  ·rw [List.concat_eq_append] at hn ⊢
   rw [pr7_snoc, prI_snoc, Int.emod_emod_of_dvd _ (Int.dvd_refl _), ← Int.mul_assoc]
   exact mod_mul' (ih h (by simpa using hn)) rfl
def rs7 (a b : List Int) (L : List Ctp) : Int := L.foldl (fun s c => (s + pr7 a ((c.1 : Int) * iat b c.2.2 % 10007) c.2.1) % 10007) 0
theorem rs7_snoc (a b : List Int) (L : List Ctp) (c : Ctp) : rs7 a b (L ++ [c]) = (rs7 a b L + pr7 a ((c.1 : Int) * iat b c.2.2 % 10007) c.2.1) % 10007 := by simp [rs7]
theorem rs7_N (a b : List Int) (L : List Ctp) : isN (rs7 a b L) := by
 rcases List.eq_nil_or_concat L with rfl | ⟨h, y, rfl⟩
 ·show isN 0; exact ⟨by decide, by decide⟩
 ·rw [List.concat_eq_append, rs7_snoc]; exact isN_mod _
theorem rs7_mod (a b : List Int) (L : List Ctp) : rs7 a b L % 10007 = rowI (iat a) (iat b) L % 10007 := by
 generalize hn : L.length = n
 induction n generalizing L with
 | zero => rw [List.length_eq_zero_iff.1 hn]; rfl
 | succ n ih =>
  rcases List.eq_nil_or_concat L with rfl | ⟨h, c, rfl⟩
  ·simp at hn
  ·rw [List.concat_eq_append] at hn ⊢
   rw [rs7_snoc, rowI_snoc, Int.emod_emod_of_dvd _ (Int.dvd_refl _)]
   refine mod_add' (ih h (by simpa using hn)) ?_
   rw [pr7_mod, show (c.1 : Int) * (prI (iat a) c.2.1 * iat b c.2.2) = (c.1 : Int) * iat b c.2.2 * prI (iat a) c.2.1 by ac_rfl]
   exact mod_mul' (Int.emod_emod_of_dvd _ (Int.dvd_refl _)) rfl
theorem l07Conv_c (a b : List Int) (m : Nat) (hm : 1 ≤ m) (hm2 : m ≤ 38) (ha : N38 a) (hb : N38 b) (ha1 : iat a 0 = 1) (FC : List AV) (hF : ∀ i, 0 < i → i < m → FC.drop i = .sl (ctR i).length ((ctR i).flatMap ctF) :: FC.drop (i + 1)) (nF : ¬ FC = []) :
  Con Tryz.prog 235 [.sl m FC, .sl a.length (avs a), .sl b.length (avs b)] (.own 2 m (avs ((cvS a b).take m))) := by
 have a0 := avs_dropI (a := a) (v := 0) (by rw [ha.1]; omega)
 have b0 := avs_dropI (a := b) (v := 0) (by rw [hb.1]; omega)
 rw [List.drop_zero, List.drop_one, ha1] at a0
 rw [List.drop_zero, List.drop_one] at b0
 have t1 := mk38_take (cvI (iat a) (iat b)) (i := 0) (by omega)
 rw [List.take_zero, List.nil_append, cvI, if_pos rfl, Int.emod_eq_of_lt (hb.at 0).1 (hb.at 0).2] at t1
 have tk := fun i (h : i < 38) => mk38_take (cvI (iat a) (iat b)) h
 have la := ha.1
 have lb := hb.1
 have na := ha.ne
 have nb := hb.ne
 have bN0 : isN (iat b 0) := hb.Ns.get 0
 have c0 := l01Mul_c 1 (iat b 0) (mul_fits (show isN 1 from ⟨by decide, by decide⟩) bN0)
 have e0 : (1 * iat b 0) % 10007 = iat b 0 := by rw [Int.one_mul, Int.emod_eq_of_lt (hb.at 0).1 (hb.at 0).2]
 rw [e0] at c0
 show Con Tryz.prog _ _ (.own _ m (avs ((mk38 (cvI (iat a) (iat b))).take m)))
 have lo : (mk38 (cvI (iat a) (iat b))).length = 38 := (mk38_N _).1
 generalize hO : mk38 (cvI (iat a) (iat b)) = O at *
 refine con_of_vc Tryz.mixed ⟨13, [], [], []⟩ Tryz.func235 (by decide) rfl (by simp) (by decide) (by simp [freshOK, freshL, go_sem]) ?_
 rw [Tryz.ntmps235]
 simp [go_sem]
 refine ⟨by kernel_rfl, ?_⟩
 simp [go_sem, a0, b0]
 refine ⟨⟨by omega, na⟩, by omega, ?_⟩
 refine CallD.of (c0) (by simp [roots, rootsL]) (by decide) ?_
 simp [go_sem]
 refine ⟨by kernel_rfl, ?_⟩
 simp [go_sem]
 have dra : ∀ v, v < 38 → (AV.int 1 :: avs a.tail).drop v = .int (iat a v) :: avs (a.drop (v + 1)) := fun v hv => by rw [← a0]; exact avs_dropI (by omega)
 have drb : ∀ v, v < 38 → (AV.int (iat b 0) :: avs b.tail).drop v = .int (iat b v) :: avs (b.drop (v + 1)) := fun v hv => by rw [← b0]; exact avs_dropI (by omega)
 refine loop_inv (List.range' 7 6 ++ List.range' 21 71) (fun i : Nat => [(7, .own 2 i (avs (O.take i))), (8, .int i)]) (fun i => 1 ≤ i ∧ i ≤ m) (fun i => m - i) 1 (by simp; omega) (by simp [go_sem, t1, avs]) (by simp [go_sem]) ?_
 rintro i ⟨hi1, hi⟩
 by_cases hil : i < m
 ·have hii : (i : Int) < m := by omega
  have dr := hF i hi1 hil
  obtain ⟨r1, r2⟩ := ctR_le (i := i) (by omega)
  have rk := ctR_ok (i := i) (by omega)
  have tk1 := tk i (by omega)
  have cv : cvI (iat a) (iat b) i = rowI (iat a) (iat b) (ctR i) := by unfold cvI; rw [if_neg (by omega)]
  rw [cv, ← rs7_mod] at tk1
  generalize ctR i = R at *
  simp [go_sem, hii]
  refine loop_inv (9 :: 10 :: 11 :: 12 :: List.range' 27 61) (fun j : Nat => [(9, .int (rs7 a b (R.take j))), (10, .int j)]) (fun j => j ≤ R.length) (fun j => R.length - j) 0 (by simp) (by simp [go_sem, rs7]) (by simp [go_sem]) ?_
  intro j hj
  by_cases hjl : j < R.length
  ·have hji : (j : Int) < R.length := by omega
   have cd := ctF_drop hjl
   have hmm := memD (0, [], 0) hjl
   obtain ⟨q1, q2⟩ := r2 _ hmm
   obtain ⟨k1, k2⟩ := rk _ hmm
   have tj : R.take (j + 1) = R.take j ++ [R[j]?.getD (0, [], 0)] := by
    rw [List.take_succ_eq_append_getElem hjl, List.getElem?_eq_getElem hjl]; rfl
   have rs := rs7_snoc a b (R.take j) (R[j]?.getD (0, [], 0))
   rw [← tj] at rs
   have sN := rs7_N a b (R.take j)
   have nR : ¬ R.flatMap ctF = [] := by intro e; have := ctF_len R; rw [e] at this; simp at this; omega
   have lR := ctF_len R
   generalize R[j]?.getD (0, [], 0) = c at *
   obtain ⟨n, l, t⟩ := c
   simp only [ctF] at cd q1 q2 k1 k2 rs
   have bN : isN (iat b t) := hb.Ns.get t
   have c1 := l01Mul_c (n : Int) (iat b t) (mul_fits (show isN (n : Int) from ⟨by omega, by omega⟩) bN)
   have xN := isN_mod ((n : Int) * iat b t)
   have dbt := drb t k2
   generalize rs7 a b (R.take j) = s at *
   generalize hMC : R.flatMap ctF = MC at *
   have cd1 : MC.drop (j * 3 + 1) = AV.sl l.length (avs (nvs l)) :: AV.int t :: (R.drop (j + 1)).flatMap ctF := by
    have := congrArg (List.drop 1) cd
    rw [List.drop_drop] at this
    exact this
   have cd2 : MC.drop (j * 3 + 2) = AV.int t :: (R.drop (j + 1)).flatMap ctF := by
    have := congrArg (List.drop 2) cd
    rw [List.drop_drop] at this
    exact this
   generalize hx : (n : Int) * iat b t % 10007 = x at *
   generalize iat b t = y at *
   simp [go_sem, dr, hji, cd, cd2, dbt]
   refine ⟨⟨hil, nF⟩, by kernel_rfl, ⟨hil, nF⟩, nR, ⟨hil, nF⟩, nR, by omega, ?_⟩
   refine CallD.of (c1) (by simp [roots, rootsL]) (by decide) ?_
   simp [go_sem]
   refine ⟨by kernel_rfl, ?_⟩
   simp [go_sem]
   rw [hx] at *
   refine loop_inv (11 :: 12 :: List.range' 56 29) (fun k : Nat => [(11, .int (pr7 a x (l.take k))), (12, .int k)]) (fun k => k ≤ l.length) (fun k => l.length - k) 0 (by simp) (by simp [go_sem, pr7]) (by simp [go_sem]) ?_
   intro k hk
   by_cases hkl : k < l.length
   ·have hki : (k : Int) < l.length := by omega
    have hv := k1 _ (memD 0 hkl)
    have tl : l.take (k + 1) = l.take k ++ [l[k]?.getD 0] := by
     rw [List.take_succ_eq_append_getElem hkl, List.getElem?_eq_getElem hkl]; rfl
    have ps := pr7_snoc a x (l.take k) (l[k]?.getD 0)
    rw [← tl] at ps
    have pN := pr7_N a xN (l.take k)
    have aN : isN (iat a (l[k]?.getD 0)) := ha.Ns.get _
    have c2 := l01Mul_c (pr7 a x (l.take k)) (iat a (l[k]?.getD 0)) (mul_fits pN aN)
    have dl := avs_drop (show k < (nvs l).length by rw [nvs_len]; exact hkl)
    rw [nvs_at hkl] at dl
    have nl : ¬ nvs l = [] := by intro e; have := nvs_len l; rw [e] at this; simp at this; omega
    have dav := dra _ hv
    generalize l[k]?.getD 0 = v at *
    generalize pr7 a x (l.take k) = p at *
    generalize iat a v = w at *
    simp [go_sem, dr, cd1, hki, dl, dav]
    refine ⟨⟨hil, nF⟩, ⟨hjl, nR⟩, ⟨hil, nF⟩, ⟨hjl, nR⟩, nl, by omega, ?_⟩
    refine CallVC.of (c2) (by decide) ?_
    simp [go_sem]
    exact ⟨⟨by omega, by omega⟩, k + 1, by omega, by omega, Off_reset _ _ _ (by simp), by rw [ps], by omega⟩
   ·have e : k = l.length := by omega
    subst e
    have hki : ¬ (l.length : Int) < l.length := by omega
    have pN := pr7_N a xN l
    have q1 := pN.1; have q2 := pN.2; have q3 := sN.1; have q4 := sN.2
    have c3 := l01Add_c s (pr7 a x l) ⟨by omega, by omega⟩
    rw [List.take_length]
    generalize pr7 a x l = p at *
    simp [go_sem, dr, cd1, hki]
    refine ⟨⟨hil, nF⟩, ⟨hjl, nR⟩, ?_⟩
    refine CallVC.of (c3) (by decide) ?_
    simp [go_sem]
    exact ⟨⟨by omega, by omega⟩, j + 1, by omega, by omega, (Off.reset (by intro x hx; simp at hx ⊢; omega) (by simp) (by simp [go_sem, Off_reset])), by rw [rs], by omega⟩
  ·have e : j = R.length := by omega
   subst e
   have hji : ¬ (R.length : Int) < R.length := by omega
   have sN := rs7_N a b R
   rw [Int.emod_eq_of_lt sN.1 sN.2] at tk1
   rw [List.take_length]
   generalize rs7 a b R = s at *
   simp [go_sem, dr, hji]
   refine ⟨⟨hil, nF⟩, ⟨by omega, by omega, by omega⟩, ⟨by omega, by omega⟩, i + 1, ⟨by omega, by omega⟩, by omega, (Off.reset (by intro x hx; simp at hx ⊢; omega) (by simp) (by simp [go_sem, Off_reset])), ?_⟩
   rw [tk1, avs_snoc]
   exact ⟨⟨rfl, rfl⟩, by omega⟩
 ·have e : i = m := by omega
  subst e
  have hii : ¬ (i : Int) < i := by omega
  simp [go_sem, hii]
theorem s7F_ne : ¬ s7F = [] := by unfold s7F; simp
theorem l07Conv_k (a b : List Int) (ha : Ch a) (hb : N38 b) : Con Tryz.prog 235 [.sl 38 s7F, .sl a.length (avs a), .sl b.length (avs b)] (.own 2 38 (avs (cvS a b))) := by
 have c := l07Conv_c a b 38 (by omega) (by omega) ha.1 hb ha.2 s7F (fun i h0 h => s7F_drop h0 h) s7F_ne
 rw [show (cvS a b).take 38 = cvS a b from (cvS_N a b).take] at c
 exact c
def ra7 (b x : List Int) (L : List Ctp) : Int := L.foldl (fun s c => (s + (c.1 : Int) * (iat b (c.2.1.headD 0) * iat x c.2.2 % 10007) % 10007) % 10007) 0
theorem ra7_snoc (b x : List Int) (L : List Ctp) (c : Ctp) : ra7 b x (L ++ [c]) = (ra7 b x L + (c.1 : Int) * (iat b (c.2.1.headD 0) * iat x c.2.2 % 10007) % 10007) % 10007 := by simp [ra7]
theorem ra7_N (b x : List Int) (L : List Ctp) : isN (ra7 b x L) := by
 rcases List.eq_nil_or_concat L with rfl | ⟨h, y, rfl⟩
 ·show isN 0; exact ⟨by decide, by decide⟩
 ·rw [List.concat_eq_append, ra7_snoc]; exact isN_mod _
theorem ra7_mod (b x : List Int) (L : List Ctp) : (∀ c ∈ L, c.2.1.length = 1) → ra7 b x L % 10007 = rowI (iat b) (iat x) L % 10007 := by
 generalize hn : L.length = n
 induction n generalizing L with
 | zero => intro _; rw [List.length_eq_zero_iff.1 hn]; rfl
 | succ n ih =>
  intro hL
  rcases List.eq_nil_or_concat L with rfl | ⟨h, c, rfl⟩
  ·simp at hn
  ·rw [List.concat_eq_append] at hn hL ⊢
   rw [ra7_snoc, rowI_snoc, Int.emod_emod_of_dvd _ (Int.dvd_refl _)]
   refine mod_add' (ih h (by simpa using hn) fun d hd => hL d (by simp [hd])) ?_
   obtain ⟨n, l, t⟩ := c
   have h1 : l.length = 1 := hL (n, l, t) (by simp)
   obtain ⟨v, rfl⟩ : ∃ v, l = [v] := List.length_eq_one_iff.1 h1
   rw [Int.emod_emod_of_dvd _ (Int.dvd_refl _)]
   refine mod_mul' rfl ?_
   rw [Int.emod_emod_of_dvd _ (Int.dvd_refl _)]
   simp [prI]
theorem l08Act_c (b x : List Int) (hb : N38 b) (hx : N38 x) :
  Con Tryz.prog 296 [.sl 38 s7F, .sl b.length (avs b), .sl x.length (avs x)] (.own 2 38 (avs (mk38 (acI (iat b) (iat x))))) := by
 have t1 := mk38_take (acI (iat b) (iat x)) (i := 0) (by omega)
 have e0 : acI (iat b) (iat x) 0 % 10007 = 0 := by unfold acI; rw [if_pos rfl]; rfl
 rw [List.take_zero, List.nil_append, e0] at t1
 have tk := fun i (h : i < 38) => mk38_take (acI (iat b) (iat x)) h
 have ta := mk38_all (acI (iat b) (iat x))
 have lo : (mk38 (acI (iat b) (iat x))).length = 38 := (mk38_N _).1
 have lb := hb.1
 have lx := hx.1
 have nb := hb.ne
 have nx := hx.ne
 have nF := s7F_ne
 have hF := fun i h0 h => s7F_drop (i := i) h0 h
 generalize hO : mk38 (acI (iat b) (iat x)) = O at *
 generalize s7F = FC at *
 refine con_of_vc Tryz.mixed ⟨12, [], [], []⟩ Tryz.func296 (by decide) rfl (by simp) (by decide) (by simp [freshOK, freshL, go_sem]) ?_
 rw [Tryz.ntmps296]
 simp [go_sem]
 refine loop_inv (List.range' 7 5 ++ List.range' 13 48) (fun i : Nat => [(7, .own 2 i (avs (O.take i))), (8, .int i)]) (fun i => 1 ≤ i ∧ i ≤ 38) (fun i => 38 - i) 1 (by simp) (by simp [go_sem, t1, avs]) (by simp [go_sem]) ?_
 rintro i ⟨hi1, hi⟩
 by_cases hil : i < 38
 ·have hii : (i : Int) < 38 := by omega
  have dr := hF i hi1 hil
  obtain ⟨r1, r2⟩ := ctR_le (i := i) (by omega)
  have rk := ctR_ok (i := i) (by omega)
  have tk1 := tk i (by omega)
  have cv : acI (iat b) (iat x) i = rowI (iat b) (iat x) (c1R i) := by unfold acI; rw [if_neg (by omega)]
  rw [cv] at tk1
  have hc1 : c1R i = (ctR i).filter fun c => decide (c.2.1.length = 1) := rfl
  rw [hc1] at tk1
  generalize ctR i = R at *
  simp [go_sem, hii]
  refine loop_inv (9 :: 10 :: 11 :: List.range' 19 38) (fun j : Nat => [(9, .int (ra7 b x ((R.take j).filter fun c => decide (c.2.1.length = 1)))), (10, .int j)]) (fun j => j ≤ R.length) (fun j => R.length - j) 0 (by simp) (by simp [go_sem, ra7]) (by simp [go_sem]) ?_
  intro j hj
  by_cases hjl : j < R.length
  ·have hji : (j : Int) < R.length := by omega
   have cd := ctF_drop hjl
   have hmm := memD (0, [], 0) hjl
   obtain ⟨q1, q2⟩ := r2 _ hmm
   obtain ⟨k1, k2⟩ := rk _ hmm
   have tj : (R.take (j + 1)).filter (fun c => decide (c.2.1.length = 1)) = (R.take j).filter (fun c => decide (c.2.1.length = 1)) ++ [R[j]?.getD (0, [], 0)].filter (fun c => decide (c.2.1.length = 1)) := by
    rw [← List.filter_append, List.take_succ_eq_append_getElem hjl, List.getElem?_eq_getElem hjl]; rfl
   have rs := ra7_snoc b x ((R.take j).filter fun c => decide (c.2.1.length = 1)) (R[j]?.getD (0, [], 0))
   have sN := ra7_N b x ((R.take j).filter fun c => decide (c.2.1.length = 1))
   have nR : ¬ R.flatMap ctF = [] := by intro e; have := ctF_len R; rw [e] at this; simp at this; omega
   have lR := ctF_len R
   generalize (R.take j).filter (fun c => decide (c.2.1.length = 1)) = X at *
   generalize R[j]?.getD (0, [], 0) = c at *
   obtain ⟨n, l, t⟩ := c
   simp only [ctF] at cd q1 q2 k1 k2 rs
   generalize hMC : R.flatMap ctF = MC at *
   by_cases hl1 : l.length = 1
   ·rw [List.filter_cons, if_pos (by simpa using hl1), List.filter_nil] at tj
    rw [← tj] at rs
    obtain ⟨v, rfl⟩ : ∃ v, l = [v] := List.length_eq_one_iff.1 hl1
    have hv : v < 38 := k1 v (by simp)
    have bN : isN (iat b v) := hb.Ns.get v
    have xN : isN (iat x t) := hx.Ns.get t
    have dbv := avs_dropI (a := b) (v := v) (by omega)
    have dxt := avs_dropI (a := x) (v := t) (by omega)
    have c1 := l01Mul_c (iat b v) (iat x t) (mul_fits bN xN)
    have m1 := isN_mod (iat b v * iat x t)
    have c2 := l01Mul_c (n : Int) (iat b v * iat x t % 10007) (mul_fits (show isN (n : Int) from ⟨by omega, by omega⟩) m1)
    have m2 := isN_mod ((n : Int) * (iat b v * iat x t % 10007))
    have w1 := m2.1; have w2 := m2.2; have w3 := sN.1; have w4 := sN.2
    have c3 := l01Add_c (ra7 b x X) ((n : Int) * (iat b v * iat x t % 10007) % 10007) ⟨by omega, by omega⟩
    have en : nvs [v] = [(v : Int)] := rfl
    have en2 : avs [(v : Int)] = [AV.int v] := rfl
    rw [en, en2] at cd
    simp only [List.headD_cons] at rs
    generalize ra7 b x X = s at *
    generalize hp1 : iat b v * iat x t % 10007 = p1 at *
    generalize hp2 : (n : Int) * p1 % 10007 = p2 at *
    generalize iat b v = y at *
    generalize iat x t = z at *
    simp [go_sem, dr, hji, cd]
    refine ⟨⟨hii, nF⟩, nR, by kernel_rfl, ?_⟩
    simp [go_sem, dbv, dxt]
    refine ⟨⟨by omega, nb⟩, ⟨by omega, nx⟩, ?_⟩
    refine CallD.of (c1) (by simp [roots, rootsL]) (by decide) ?_
    simp [go_sem]
    refine CallD.of (c2) (by simp [roots, rootsL]) (by decide) ?_
    simp [go_sem]
    refine CallD.of (c3) (by simp [roots, rootsL]) (by decide) ?_
    simp [go_sem]
    refine ⟨by kernel_rfl, ?_⟩
    simp [go_sem]
    refine ⟨⟨by omega, by omega⟩, j + 1, by omega, by omega, Off_reset _ _ _ (by simp), ?_⟩
    rw [rs]
    exact ⟨rfl, by omega⟩
   ·rw [List.filter_cons, if_neg (by simpa using hl1), List.filter_nil, List.append_nil] at tj
    have hli : ¬ (l.length : Int) = 1 := by omega
    simp [go_sem, dr, hji, cd, hl1, hli]
    refine ⟨⟨hii, nF⟩, nR, ⟨by omega, by omega⟩, j + 1, by omega, by omega, Off_reset _ _ _ (by simp), ?_⟩
    rw [tj]
    exact ⟨rfl, by omega⟩
  ·have e : j = R.length := by omega
   subst e
   have hji : ¬ (R.length : Int) < R.length := by omega
   have rm := ra7_mod b x (R.filter fun c => decide (c.2.1.length = 1)) (fun c hc => by simpa using (List.mem_filter.1 hc).2)
   have sN := ra7_N b x (R.filter fun c => decide (c.2.1.length = 1))
   rw [← rm, Int.emod_eq_of_lt sN.1 sN.2] at tk1
   rw [List.take_length]
   generalize ra7 b x (R.filter fun c => decide (c.2.1.length = 1)) = s at *
   simp [go_sem, dr, hji]
   refine ⟨⟨hii, nF⟩, ⟨by omega, by omega, by omega⟩, ⟨by omega, by omega⟩, i + 1, ⟨by omega, by omega⟩, by omega, (Off.reset (by intro x hx; simp at hx ⊢; omega) (by simp) (by simp [go_sem, Off_reset])), ?_⟩
   rw [tk1, avs_snoc]
   exact ⟨⟨rfl, rfl⟩, by omega⟩
 ·have e : i = 38 := by omega
  subst e
  rw [ta]
  simp [go_sem]
def xs7 (b : List Int) : Nat → List Int
 | 0 => unitS
 | k + 1 => mk38 (acI (iat b) (iat (xs7 b k)))
def ex7 (b : List Int) : Nat → List Int
 | 0 => unitS
 | k + 1 => adL (ex7 b k) (xs7 b (k + 1)) (ifI (k + 1))
theorem adL_N {a b : List Int} (k : Int) (ha : a.length = 38) : N38 (adL a b k) := ⟨by rw [adL_len, ha], fun x hx => by
 obtain ⟨i, _, rfl⟩ := List.mem_map.1 hx
 have := isN_mod (iat a i + k * iat b i % 10007)
 exact ⟨this.1, by have := this.2; omega⟩⟩
theorem xs7_N (b : List Int) : ∀ k, N38 (xs7 b k)
 | 0 => unitS_ch.1
 | k + 1 => mk38_N _
theorem ex7_N (b : List Int) : ∀ k, N38 (ex7 b k)
 | 0 => unitS_ch.1
 | k + 1 => adL_N _ (ex7_N b k).1
theorem xs7_mod (b : List Int) : ∀ k i, i < 38 → iat (xs7 b k) i % 10007 = xpI (iat b) k i % 10007
 | 0, i, hi => by
  show iat unitS i % 10007 = unJ i % 10007
  rw [un_at hi]; rfl
 | k + 1, i, hi => by
  rw [xs7, mk38_mod _ hi, xpI]
  exact ac_mod hi (fun _ _ => rfl) (fun j hj => xs7_mod b k j hj)
theorem adL_at {a b : List Int} (k : Int) {i : Nat} (h : i < a.length) : iat (adL a b k) i = (iat a i + k * iat b i % 10007) % 10007 := by
 show (adL a b k)[i]?.getD 0 = _
 simp [adL, h]
theorem ex7_step (b : List Int) (k : Nat) {i : Nat} (hi : i < 38) : iat (ex7 b (k + 1)) i % 10007 = (iat (ex7 b k) i + xpI (iat b) (k + 1) i * ifI (k + 1)) % 10007 := by
 rw [ex7, adL_at _ (by rw [(ex7_N b k).1]; exact hi), Int.emod_emod_of_dvd _ (Int.dvd_refl _)]
 refine mod_add' rfl ?_
 rw [Int.emod_emod_of_dvd _ (Int.dvd_refl _), Int.mul_comm]
 exact mod_mul' (xs7_mod b (k + 1) i hi) rfl
theorem ex7_exp (b : List Int) : ex7 b 6 = expS b := by
 refine (ex7_N b 6).ext (expS_ch b).1 fun i hi => ?_
 rw [expS_mod b hi]
 have s1 := ex7_step b 0 hi
 have s2 := ex7_step b 1 hi
 have s3 := ex7_step b 2 hi
 have s4 := ex7_step b 3 hi
 have s5 := ex7_step b 4 hi
 have s6 := ex7_step b 5 hi
 have s0 : iat (ex7 b 0) i % 10007 = xpI (iat b) 0 i % 10007 := xs7_mod b 0 i hi
 unfold expI
 simp only [Nat.zero_add, Nat.reduceAdd] at s1 s2 s3 s4 s5 s6
 generalize xpI (iat b) 1 i * ifI 1 = x1 at *
 generalize xpI (iat b) 2 i * ifI 2 = x2 at *
 generalize xpI (iat b) 3 i * ifI 3 = x3 at *
 generalize xpI (iat b) 4 i * ifI 4 = x4 at *
 generalize xpI (iat b) 5 i * ifI 5 = x5 at *
 generalize xpI (iat b) 6 i * ifI 6 = x6 at *
 omega
theorem fr7 {k : Nat} (hk : k ≤ 6) : 1 % 10007 * pw (fact k % 10007) 10005 % 10007 = ifI k := by
 have ok : (List.range 7).all (fun k => decide (1 % 10007 * ((fp 15 (fact k % 10007).toNat 10005 : Nat) : Int) % 10007 = ifI k) && decide (0 ≤ fact k % 10007)) = true := by decide +kernel
 have h := List.all_eq_true.1 ok k (List.mem_range.2 (by omega))
 simp only [Bool.and_eq_true, decide_eq_true_eq] at h
 have e := fp_pw (fact k % 10007).toNat
 rw [Int.toNat_of_nonneg h.2] at e
 rw [← e]
 exact h.1
theorem l08Exp_c (b : List Int) (hb : N38 b) : Con Tryz.prog 240 [.sl 38 s7F, .sl b.length (avs b)] (.own 2 38 (avs (expS b))) := by
 have cU := l07Unit_c
 have e0 : ex7 b 0 = unitS := rfl
 have e1 : xs7 b 0 = unitS := rfl
 have cA := fun k => l08Act_c b (xs7 b k) hb (xs7_N b k)
 have eA : ∀ k, mk38 (acI (iat b) (iat (xs7 b k))) = xs7 b (k + 1) := fun k => rfl
 have iN : ∀ k, k ≤ 6 → isN (ifI k) := fun k hk => by rw [← fr7 hk]; exact isN_mod _
 have cS := fun k (hk : k + 1 ≤ 6) => l08Add_c (ex7 b k) (xs7 b (k + 1)) (ifI (k + 1)) (ex7_N b k).Ns (xs7_N b (k + 1)).Ns (iN _ hk) (by rw [(ex7_N b k).1]; omega) (by rw [(ex7_N b k).1, (xs7_N b (k + 1)).1]; omega)
 have eS : ∀ k, adL (ex7 b k) (xs7 b (k + 1)) (ifI (k + 1)) = ex7 b (k + 1) := fun k => rfl
 have lx := fun k => (xs7_N b k).1
 have le := fun k => (ex7_N b k).1
 have lb := hb.1
 simp only [eA, lx] at cA
 simp only [eS, le, lx] at cS
 rw [← ex7_exp]
 generalize ex7 b = E at *
 generalize xs7 b = X at *
 generalize s7F = FC at *
 have cU1 := cU
 rw [← e0] at cU
 rw [← e1] at cU1
 refine con_of_vc Tryz.mixed ⟨8, [], [], []⟩ Tryz.func240 (by decide) rfl (by simp) (by decide) (by simp [freshOK, freshL, go_sem]) ?_
 rw [Tryz.ntmps240]
 simp [go_sem]
 refine CallVC.of (cU) (by decide) ?_
 simp [go_sem]
 refine CallVC.of (cU1) (by decide) ?_
 simp [go_sem]
 refine loop_inv (5 :: 6 :: 7 :: List.range' 10 14) (fun k : Nat => [(5, .own 2 38 (avs (E k))), (6, .own 2 38 (avs (X k))), (7, .int (k + 1))]) (fun k => k ≤ 6) (fun k => 6 - k) 0 (by simp) (by simp [go_sem]) (by simp [go_sem]) ?_
 intro k hk
 by_cases hk6 : k < 6
 ·have hki : (k : Int) + 1 ≤ 6 := by omega
  have c1 := cA k
  have c2 := cS k (by omega)
  have cF := l03Factorial_c (k + 1) (by omega)
  have f6 := fact_6 (n := k + 1) (by omega)
  have cR := l01Frac_c 1 (fact (k + 1)) ⟨by omega, by omega⟩ ⟨by omega, by omega⟩
  rw [fr7 (k := k + 1) (by omega)] at cR
  have ek : ((k + 1 : Nat) : Int) = (k : Int) + 1 := by omega
  rw [ek] at cF
  generalize fact (k + 1) = w at *
  generalize ifI (k + 1) = q at *
  simp [go_sem, hki]
  refine CallVC.of (c1) (by decide) ?_
  simp [go_sem]
  refine CallVC.of (cF) (by decide) ?_
  simp [go_sem]
  refine CallVC.of (cR) (by decide) ?_
  simp [go_sem]
  refine CallVC.of (c2) (by decide) ?_
  simp [go_sem]
  exact ⟨⟨by omega, by omega⟩, k + 1, by omega, by omega, Off_reset _ _ _ (by simp), rfl, rfl, by omega⟩
 ·have e : k = 6 := by omega
  subst e
  simp [go_sem]
end Go.Proofs.YtphccfabekdmnaaGreat


namespace Go.Proofs.YtphccfabekdmnaaGreat
open Go.Abs
theorem l01Root_r (a k : Int) (hk : 0 ≤ k) (hk2 : k ≤ 9223372036854775807) : RCon Tryz.prog 247 [.int a, .int k] (fun r o => o = [.any, .any] ∧ ∃ x : Int, -1 ≤ x ∧ x ≤ 10006 ∧ r = .int x) := by
 refine rcon_of_vcH Tryz.mixed ⟨6, [], [], []⟩ [] Tryz.func247 (by decide) rfl (by simp) (by simp) (by decide) ?_
 rw [Tryz.ntmps247]
 simp [go_sem]
 refine loop_inv (List.range' 4 12) (fun i : Nat => [(5, .int i)]) (fun i => i ≤ 10007) (fun i => 10007 - i) 0 (by simp) (by simp [go_sem]) (by simp [go_sem]) ?_
 intro i hi
 by_cases h : i < 10007
 ·have hii : (i : Int) < 10007 := by omega
  have cP := l01Pow_c i k ⟨by omega, by omega⟩ hk hk2
  simp [go_sem, hii]
  refine CallVC.of (cP) (by decide) ?_
  simp [go_sem]
  refine ⟨fun h => ?_, fun h => ?_⟩ <;> simp at h
  ·simp [go_sem]
   omega
  ·simp [go_sem]
   exact ⟨⟨by omega, by omega⟩, i + 1, by omega, by omega, Off_reset _ _ _ (by simp), by omega⟩
 ·have hii : ¬ (i : Int) < 10007 := by omega
  simp [go_sem, hii]
end Go.Proofs.YtphccfabekdmnaaGreat


namespace Go.Proofs.YtphccfabekdmnaaGreat
open Go.Abs
end Go.Proofs.YtphccfabekdmnaaGreat


namespace Go.Proofs.YtphccfabekdmnaaGreat
open Go.Abs
end Go.Proofs.YtphccfabekdmnaaGreat


namespace Go.Proofs.YtphccfabekdmnaaGreat
open Go.Abs
end Go.Proofs.YtphccfabekdmnaaGreat


namespace Go.Proofs.YtphccfabekdmnaaGreat
open Go.Abs
def DrP (n : Nat) (p : List Mon) : Prop := p.length ≤ 3 ∧ ∀ m ∈ p, WOk n 3 m
def DrS (z : Int) (f : List (List Mon)) : Prop := -1 ≤ z ∧ z ≤ 4 ∧ f.length ≤ 4 ∧ ∀ p ∈ f, p.length ≤ 4 ∧ ∀ m ∈ p, m.2.length ≤ 3
theorem DrS.of {n : Nat} {f : List (List Mon)} (hn : n ≤ 3) (hl : f.length ≤ 3) (h : ∀ p ∈ f, DrP n p) {z : Int} (h1 : -1 ≤ z) (h2 : z ≤ 4) : DrS z f :=
 ⟨h1, h2, by omega, fun p hp => ⟨by have := (h p hp).1; omega, fun m hm => by have := ((h p hp).2 m hm).len; omega⟩⟩
end Go.Proofs.YtphccfabekdmnaaGreat


namespace Go.Proofs.YtphccfabekdmnaaGreat
open Go.Abs
theorem RCon.fz {P : Program} {f : FuncId} {args : List AV} {R : AV → List AV → Prop} (h : RCon P f args R) : RCon P f args (fun r o => ∃ r0, R r0 o ∧ r = frz r0) := by
 refine ⟨h.1, fun w vs os F0 hl hn ho hF hr => (h.2 w vs os F0 hl hn ho hF hr).mono ?_⟩
 rintro e w' ⟨r, o, hR, v, orr, oo, F', k1, k2, k3, k4, k5, k6, k7, k8, k9⟩
 refine ⟨frz r, o, ⟨r, hR, rfl⟩, v, [], oo, fun b => F' b ∨ b ∈ orr, k1, k2, fun b hb => .inl (k3 b hb), fun b hb => hb.elim (k4 b) (fun hb => .inr ⟨(k9 b (.inl hb)).1, (k9 b (.inl hb)).2.1⟩), fun tm oss => (k5 tm oss).frz (fun b h => .inl h) (fun b h => .inr h), fun tm oss => ?_, k7, ?_, fun b hb => ?_⟩
 ·have := RepTL.kl (w' := w') (F' := fun b => F' b ∨ b ∈ orr) (tm' := tm) (oss' := oss) [] (fun b hb => .inl hb) (fun _ _ _ _ h => h) (k6 tm oss) (fun _ _ => rfl)
  rwa [klL_nil] at this
 ·simpa using (List.nodup_append.1 k8).2.1
 ·rcases hb with hb | hb
  ·simp at hb
  ·obtain ⟨j1, j2, j3⟩ := k9 b (.inr hb)
   exact ⟨j1, j2, fun hf => hf.elim j3 (fun hf => (List.nodup_append.1 k8).2.2 b hf b hb rfl)⟩
end Go.Proofs.YtphccfabekdmnaaGreat


namespace Go.Proofs.YtphccfabekdmnaaGreat
open Go.Abs
theorem Ns.set {l : List Int} (h : Ns l) (k : Nat) {x : Int} (hx : isN x) : Ns (l.set k x) := fun y hy => by
 rcases List.mem_or_eq_of_mem_set hy with hy | rfl
 ·exact h y hy
 ·exact hx
end Go.Proofs.YtphccfabekdmnaaGreat


namespace Go.Proofs.YtphccfabekdmnaaGreat
open Go.Abs
theorem RCon.rep {P : Program} {f : FuncId} {args : List AV} {R R' : AV → List AV → Prop} (h : RCon P f args R)
  (hR : ∀ r o, R r o → ∃ r', R' r' o ∧ ∀ (w : World) (F : Nat → Prop) (tm : Nat → Value) (oss : Nat → List Nat) (v : Value) (os : List Nat), RepT P w F tm oss r v os → RepT P w F tm oss r' v os) : RCon P f args R' := by
 refine ⟨h.1, fun w vs os F0 hl hn ho hF hr => (h.2 w vs os F0 hl hn ho hF hr).mono ?_⟩
 rintro e w' ⟨r, o, hr0, v, orr, oo, F', k1, k2, k3, k4, k5, k6⟩
 obtain ⟨r', h1, h2⟩ := hR r o hr0
 exact ⟨r', o, h1, v, orr, oo, F', k1, k2, k3, k4, fun tm oss => h2 _ _ _ _ _ _ (k5 tm oss), k6⟩
end Go.Proofs.YtphccfabekdmnaaGreat


namespace Go.Proofs.YtphccfabekdmnaaGreat
open Go.Abs
end Go.Proofs.YtphccfabekdmnaaGreat


namespace Go.Proofs.YtphccfabekdmnaaGreat
open Go.Abs
end Go.Proofs.YtphccfabekdmnaaGreat


namespace Go.Proofs.YtphccfabekdmnaaGreat
open Go.Abs
end Go.Proofs.YtphccfabekdmnaaGreat


namespace Go.Proofs.YtphccfabekdmnaaGreat
open Go.Abs
end Go.Proofs.YtphccfabekdmnaaGreat


namespace Go.Proofs.YtphccfabekdmnaaGreat
open Go.Abs
end Go.Proofs.YtphccfabekdmnaaGreat


namespace Go.Proofs.YtphccfabekdmnaaGreat
open Go.Abs
end Go.Proofs.YtphccfabekdmnaaGreat


namespace Go.Proofs.YtphccfabekdmnaaGreat
open Go.Abs
def spV (c : List Int) (σ : Src) : Int × Src :=
 if nx1 c σ 30 = 0 then (pk c (nx2 c σ 30) [-1, 10007, 1099511627776, -4611686018427387904], nx2 c (nx2 c σ 30) 4) else nbV c (nx2 c σ 30)
theorem spV_ok {c : List Int} (hc : Byt c) {σ : Src} (hs : SOk σ) : SOk (spV c σ).2 := by
 have s1 := nx2_ok hc hs 30
 unfold spV
 split
 ·exact nx2_ok hc s1 4
 ·exact (nbV_ok hc s1).2
theorem l01Spoil_c (c : List Int) (σ : Src) (hc : Byt c) (hs : SOk σ) : GCon Tryz.prog 293 [srcA c σ] (.int (spV c σ).1) [srcA c (spV c σ).2] := by
 have s1 := nx2_ok hc hs 30
 have c1 := l01Next_c c σ 30 hc hs
 have c2 := l01Pick_c c (nx2 c σ 30) [-1, 10007, 1099511627776, -4611686018427387904] hc s1 (by simp) (by simp)
 have c3 := l01Number_c c (nx2 c σ 30) hc s1
 unfold spV
 have e3 : (([-1, 10007, 1099511627776, -4611686018427387904] : List Int).length : Int) = 4 := rfl
 rw [e3] at c2
 generalize pk c (nx2 c σ 30) [-1, 10007, 1099511627776, -4611686018427387904] = pv at *
 generalize nbV c (nx2 c σ 30) = nv at *
 generalize nx2 c (nx2 c σ 30) 4 = t4 at *
 generalize nx2 c σ 30 = t1 at *
 generalize nx1 c σ 30 = v1 at *
 unfold srcA at *
 by_cases h0 : v1 = 0
 ·rw [if_pos h0]
  refine gcon_of_vc Tryz.mixed ⟨3, [], [1000000 + 142, 1000000 + 115, 1000000 + 212], []⟩ [2] [0] Tryz.func293 (by decide) rfl rfl (by simp) (by simp) (by decide) ?_
  rw [Tryz.ntmps293]
  simp [go_sem]
  refine ⟨_, _, c1, ?_⟩
  simp [go_sem]
  simp [go_sem, h0]
  refine ⟨_, _, c2, ?_⟩
  simp [go_sem]
 ·rw [if_neg h0]
  refine gcon_of_vc Tryz.mixed ⟨3, [], [1000000 + 142, 1000000 + 115, 1000000 + 212], []⟩ [2] [0] Tryz.func293 (by decide) rfl rfl (by simp) (by simp) (by decide) ?_
  rw [Tryz.ntmps293]
  simp [go_sem]
  refine ⟨_, _, c1, ?_⟩
  simp [go_sem]
  simp [go_sem, h0]
  refine ⟨_, _, c3, ?_⟩
  simp [go_sem]
end Go.Proofs.YtphccfabekdmnaaGreat


namespace Go.Proofs.YtphccfabekdmnaaGreat
open Go.Abs
theorem l03Density_c : ∀ (n : Nat) (t : List Int), Lv t → t.length ≤ 1048576 → denOk n t = true → Con Tryz.prog 245 [.sl t.length (avs t)] (.int (denF n t))
 | 0, t, hL, hl, hd => by simp [denOk] at hd
 | n + 1, t, hL, hl, hd => by
  have cB := l03Parts_c t hl hL
  rw [denOk, Bool.and_eq_true] at hd
  obtain ⟨hd1, hd2⟩ := hd
  have ih := fun b (hb : b ∈ brs t) => l03Density_c n b (brs_ok hL hb).1 (by have := (brs_ok hL hb).2; omega) (List.all_eq_true.1 hd1 b hb)
  have bd : ∀ j, j ≤ (brs t).length → 0 ≤ denK n t j ∧ denK n t j ≤ 1000000 := fun j hj => by
   have := List.all_eq_true.1 hd2 j (by simp; omega)
   simpa using this
  have hs := fun j (h : j < (brs t).length) => denK_succ n h
  have k0 : denK n t 0 = t.length := by simp [denK]
  have ke : denK n t (brs t).length = denF (n + 1) t := by rw [denK, List.take_length, denF]
  have hcnt : (brs t).length < t.length := brs_cnt hL
  rw [← ke]
  generalize denK n t = K at *
  generalize brs t = L at *
  refine con_of_vc Tryz.mixed ⟨6, [], [], []⟩ Tryz.func245 (by decide) rfl (by simp) (by decide) (by simp [freshOK, freshL, go_sem]) ?_
  rw [Tryz.ntmps245]
  simp [go_sem]
  refine CallVC.of (cB) (by decide) ?_
  simp [go_sem]
  refine loop_inv (3 :: 5 :: List.range' 10 13) (fun i : Nat => [(3, .int (K i)), (5, .int i)]) (fun i => i ≤ L.length) (fun i => L.length - i) 0 (by simp) (by simp [go_sem, k0]) (by simp [go_sem]) ?_
  intro i hi
  by_cases hiL : i < L.length
  ·have hii : (i : Int) < L.length := by omega
   have hb : L[i]?.getD [] ∈ L := by simp [hiL]
   have cD := ih _ hb
   have hg := omat_get hiL
   have b0 := bd i hi
   have b1 := bd (i + 1) hiL
   have h1 := hs i hiL
   generalize denF n (L[i]?.getD []) = d at *
   generalize hk1 : K (i + 1) = k1 at *
   generalize K i = k at *
   simp [go_sem, hii, hg]
   refine CallVC.of (cD) (by decide) ?_
   simp [go_sem]
   rw [← h1]
   exact ⟨⟨by omega, by omega⟩, ⟨by omega, by omega⟩, i + 1, by omega, by omega, Off_reset _ _ _ (by simp), hk1.symm, by omega⟩
  ·have e : i = L.length := by omega
   subst e
   have hii : ¬ (L.length : Int) < L.length := by omega
   simp [go_sem, hii]
theorem l07Exact_c : Con Tryz.prog 148 [] (.own 2 38 (avs exaS)) := by
 have cA := l03All_c 6 (by omega)
 have l6 := trN_len6
 have e6 : ((6 : Nat) : Int) = 6 := rfl
 rw [e6, l6] at cA
 have tk : ∀ i, i < 37 → exaS.take (i + 2) = exaS.take (i + 1) ++ [iat exaS (i + 1)] := fun i hi => by
  have l := exaS_ch.1.1
  rw [List.take_succ_eq_append_getElem (by omega)]
  unfold iat
  rw [List.getElem?_eq_getElem (by omega)]; rfl
 have ta : exaS.take 38 = exaS := exaS_ch.1.take
 have t1 : exaS.take 1 = [1] := by kernel_rfl
 have lo := exaS_ch.1.1
 have at6 := fun t h => trN_at (t := t) h
 have xa := fun p h => exa_at (p := p) h
 generalize exaS = O at *
 refine con_of_vc Tryz.mixed ⟨4, [], [], []⟩ Tryz.func148 (by decide) rfl (by simp) (by decide) (by simp [freshOK, freshL, go_sem]) ?_
 rw [Tryz.ntmps148]
 simp [go_sem]
 refine CallVC.of (cA) (by decide) ?_
 simp [go_sem]
 refine loop_inv (2 :: 3 :: List.range' 6 15) (fun i : Nat => [(2, .own 2 (i + 1) (avs (O.take (i + 1)))), (3, .int i)]) (fun i => i ≤ 37) (fun i => 37 - i) 0 (by simp) (by simp [go_sem, t1, avs]) (by simp [go_sem]) ?_
 intro i hi
 by_cases hil : i < 37
 ·have hii : (i : Int) < 37 := by omega
  have hl : i < (trN 6).length := by omega
  have og := omat_get hl
  have hm := memD [] hl
  obtain ⟨d1, d2, d3⟩ := at6 _ hm
  have cD := l03Density_c 8 _ d1 (by omega) d3
  obtain ⟨w1, w2⟩ := den_le hm
  have cF := l01Frac_c 1 (denF 8 ((trN 6)[i]?.getD [])) ⟨by omega, by omega⟩ ⟨by omega, by omega⟩
  have pN := pw_N (denF 8 ((trN 6)[i]?.getD []) % 10007) 10005
  have e : (1 : Int) % 10007 * pw (denF 8 ((trN 6)[i]?.getD []) % 10007) 10005 % 10007 = iat O (i + 1) := by
   rw [← xa i hil]
   have := pN.1; have := pN.2
   generalize pw (denF 8 ((trN 6)[i]?.getD []) % 10007) 10005 = v at *
   omega
  rw [e] at cF
  have t2 := tk i hil
  generalize iat O (i + 1) = v at *
  generalize (trN 6)[i]?.getD [] = t at *
  generalize denF 8 t = d at *
  simp [go_sem, hii, og]
  refine CallVC.of (cD) (by decide) ?_
  simp [go_sem]
  refine CallVC.of (cF) (by decide) ?_
  simp [go_sem]
  refine ⟨⟨by omega, by omega, by omega⟩, ⟨by omega, by omega⟩, i + 1, by omega, by omega, Off_reset _ _ _ (by simp), ?_⟩
  rw [t2, avs_snoc]
  exact ⟨⟨rfl, rfl⟩, by omega⟩
 ·have e : i = 37 := by omega
  subst e
  rw [ta]
  simp [go_sem]
def DrM (first : Int) (a : List Int) : Prop := a.length = 38 ∧ iat a 0 = first ∧ ∀ i, 1 ≤ i → isN (iat a i)
theorem DrM.set {first : Int} {a : List Int} (h : DrM first a) {i : Nat} {x : Int} (hi : 1 ≤ i) (hx : isN x) : DrM first (a.set i x) := by
 obtain ⟨h1, h2, h3⟩ := h
 refine ⟨by rw [List.length_set, h1], ?_, fun j hj => ?_⟩
 ·unfold iat at *
  rw [List.getElem?_set_ne (by omega)]; exact h2
 ·unfold iat at *
  by_cases e : i = j
  ·subst e
   by_cases hl : i < a.length
   ·rw [List.getElem?_set_self hl]; exact hx
   ·rw [List.getElem?_eq_none (by rw [List.length_set]; omega)]; exact ⟨by decide, by decide⟩
  ·rw [List.getElem?_set_ne e]; exact h3 j hj
theorem DrM.first {f g : Int} {a : List Int} (h : DrM f a) : DrM g (a.set 0 g) := by
 obtain ⟨h1, h2, h3⟩ := h
 refine ⟨by rw [List.length_set, h1], ?_, fun j hj => ?_⟩
 ·unfold iat
  rw [List.getElem?_set_self (by omega)]; rfl
 ·unfold iat at *
  rw [List.getElem?_set_ne (by omega)]; exact h3 j hj
theorem N38.drm {a : List Int} (h : N38 a) : DrM (iat a 0) a := ⟨h.1, rfl, fun i _ => h.Ns.get i⟩
theorem DrM.n38 {first : Int} {a : List Int} (hf : isN first) (h : DrM first a) : N38 a := ⟨h.1, fun x hx => by
 obtain ⟨i, hi, rfl⟩ := List.getElem_of_mem hx
 rcases Nat.eq_zero_or_pos i with rfl | h0
 ·have e := h.2.1
  unfold iat at e
  rw [List.getElem?_eq_getElem hi, Option.getD_some] at e
  rw [e]; exact ⟨hf.1, by have := hf.2; omega⟩
 ·have e := h.2.2 i h0
  unfold iat at e
  rw [List.getElem?_eq_getElem hi, Option.getD_some] at e
  exact ⟨e.1, by have := e.2; omega⟩⟩
def zlM (first : Int) : List Int := first :: List.replicate 37 0
theorem zlM_d (first : Int) : DrM first (zlM first) := ⟨rfl, rfl, fun i hi => by
 obtain ⟨j, rfl⟩ : ∃ j, i = j + 1 := ⟨i - 1, by omega⟩
 unfold zlM iat
 rw [List.getElem?_cons_succ]
 by_cases h : j < 37
 ·rw [List.getElem?_replicate_of_lt h]; exact ⟨by decide, by decide⟩
 ·rw [List.getElem?_eq_none (by simp; omega)]; exact ⟨by decide, by decide⟩⟩
theorem DrM.cons {first : Int} {l : List Int} (hl : l.length = 37) (hN : Ns l) : DrM first (first :: l) := ⟨by rw [List.length_cons, hl], rfl, fun i hi => by
 obtain ⟨j, rfl⟩ : ∃ j, i = j + 1 := ⟨i - 1, by omega⟩
 unfold iat
 rw [List.getElem?_cons_succ]
 exact hN.get j⟩
theorem l07Draw_r (c : List Int) (σ : Src) (first : Int) (hc : Byt c) (hs : SOk σ) (hf : isN first) :
  RCon Tryz.prog 239 [srcA c σ, .int first] (fun r o => ∃ (τ : Src) (a : List Int), SOk τ ∧ o = [srcA c τ, .any] ∧ DrM first a ∧ r = .own 2 38 (avs a)) := by
 have c1 := l01Next_c c σ 6 hc hs
 have s1 := nx2_ok hc hs 6
 have b1 := nx1_b hc σ (n := 6) (by omega)
 simp only [srcA_eq] at *
 refine rcon_of_vcH Tryz.mixed ⟨8, [], [1000000 + 142, 1000000 + 212, 1000000 + 232], []⟩ [0] Tryz.func239 (by decide) rfl (by simp) (by simp) (by decide) ?_
 rw [Tryz.ntmps239]
 simp [go_sem]
 refine ⟨_, _, c1, ?_⟩
 simp [go_sem]
 generalize nx1 c σ 6 = v at *
 generalize nx2 c σ 6 = τ0 at *
 by_cases v0 : v = 0
 ·subst v0
  simp [go_sem]
  refine CallVC.of (l07Exact_c) (by decide) ?_
  simp [go_sem]
  refine ⟨by rw [exaS_ch.1.1]; omega, ?_⟩
  rw [avs_set]
  have d1 : DrM first (exaS.set 0 first) := exaS_ch.1.drm.first
  have c2 := l01Next_c c τ0 2 hc s1
  have s2 := nx2_ok hc s1 2
  simp only [srcA_eq] at c2
  generalize exaS.set 0 first = a at *
  refine ⟨_, _, c2, ?_⟩
  simp [go_sem]
  generalize nx1 c τ0 2 = v2 at *
  generalize nx2 c τ0 2 = τ2 at *
  by_cases w : v2 = 0
  ·have c3 := l01Number_c c τ2 hc s2
   obtain ⟨n3, s3⟩ := nbV_ok hc s2
   simp only [srcA_eq] at c3
   have c4 := l07Scale_c a (nbV c τ2).1 (d1.n38 hf) n3
   generalize nbV c τ2 = q at *
   rw [d1.1] at c4
   simp [go_sem, w]
   refine ⟨_, _, c3, ?_⟩
   simp [go_sem]
   refine CallVC.of (c4) (by decide) ?_
   simp [go_sem]
   have d4 : DrM first (scS q.1 a) := by
    have := (scS_N q.1 a).drm
    have e : iat (scS q.1 a) 0 = first := by
     unfold scS
     rw [mk38_at _ (by decide), d1.2.1]
     show first * q.1 ^ 0 % 10007 = first
     rw [Int.pow_zero, Int.mul_one, Int.emod_eq_of_lt hf.1 (by have := hf.2; omega)]
    rw [e] at this
    exact this
   generalize scS q.1 a = a3 at *
   have cN := l01Next_c c q.2 3 hc s3
   have sN := nx2_ok hc s3 3
   have bN := nx1_b hc q.2 (n := 3) (by omega)
   simp only [srcA_eq] at cN
   refine ⟨_, _, cN, ?_⟩
   simp [go_sem]
   obtain ⟨k0, hk0⟩ : ∃ k : Nat, nx1 c q.2 3 = k := ⟨(nx1 c q.2 3).toNat, by omega⟩
   rw [hk0] at bN ⊢
   generalize nx2 c q.2 3 = τ3 at *
   refine loop_inv (0 :: 5 :: 6 :: List.range' 27 11) (fun x : Src × List Int × Nat => [(0, .box 171 [.sl c.length (bys c), .int x.1.1, .val (.int .u64 x.1.2)]), (5, .own 2 38 (avs x.2.1)), (6, .int x.2.2)]) (fun x => SOk x.1 ∧ DrM first x.2.1 ∧ x.2.2 ≤ 10) (fun x => x.2.2) (τ3, a3, k0) ⟨sN, d4, by simp only; omega⟩ (by simp [go_sem]) (by simp [go_sem]) ?_
   rintro ⟨τ4, a4, k⟩ ⟨h1, h2, h3⟩
   simp only at h1 h2 h3
   by_cases hk : 0 < k
   ·have hki : (0 : Int) < k := by omega
    have c6 := l01Next_c c τ4 37 hc h1
    have s6 := nx2_ok hc h1 37
    have b6 := nx1_b hc τ4 (n := 37) (by omega)
    obtain ⟨u, hu⟩ : ∃ u : Nat, nx1 c τ4 37 = u := ⟨(nx1 c τ4 37).toNat, by omega⟩
    rw [hu] at c6 b6
    generalize nx2 c τ4 37 = τ6 at *
    have c7 := l01Number_c c τ6 hc s6
    obtain ⟨n7, s7⟩ := nbV_ok hc s6
    simp only [srcA_eq] at c6 c7
    generalize nbV c τ6 = q7 at *
    have d7 := h2.set (i := u + 1) (x := q7.1) (by omega) n7
    have l4 := h2.1
    simp [go_sem, hk]
    refine ⟨_, _, c6, ?_⟩
    simp [go_sem]
    refine ⟨⟨by omega, by omega⟩, ?_⟩
    refine ⟨_, _, c7, ?_⟩
    simp [go_sem]
    have eu : (1 + (u : Int)).toNat = u + 1 := by omega
    rw [eu]
    refine ⟨⟨by omega, by omega⟩, by omega, ⟨by omega, by omega⟩, q7.2.1, q7.2.2, a4.set (u + 1) q7.1, k - 1, ⟨s7, d7, by omega⟩, by omega, Off_reset _ _ _ (by simp), ?_⟩
    have ek : (k : Int) - 1 = ((k - 1 : Nat) : Int) := by omega
    exact ⟨⟨rfl, rfl⟩, avs_set _ _ _, ek⟩
   ·have e : k = 0 := by omega
    subst e
    simp [go_sem]
    exact ⟨τ4.1, τ4.2, h1, ⟨rfl, rfl⟩, h2⟩
  ·simp [go_sem, w]
   have cN := l01Next_c c τ2 3 hc s2
   have sN := nx2_ok hc s2 3
   have bN := nx1_b hc τ2 (n := 3) (by omega)
   simp only [srcA_eq] at cN
   refine ⟨_, _, cN, ?_⟩
   simp [go_sem]
   obtain ⟨k0, hk0⟩ : ∃ k : Nat, nx1 c τ2 3 = k := ⟨(nx1 c τ2 3).toNat, by omega⟩
   rw [hk0] at bN ⊢
   generalize nx2 c τ2 3 = τ3 at *
   refine loop_inv (0 :: 5 :: 6 :: List.range' 27 11) (fun x : Src × List Int × Nat => [(0, .box 171 [.sl c.length (bys c), .int x.1.1, .val (.int .u64 x.1.2)]), (5, .own 2 38 (avs x.2.1)), (6, .int x.2.2)]) (fun x => SOk x.1 ∧ DrM first x.2.1 ∧ x.2.2 ≤ 10) (fun x => x.2.2) (τ3, a, k0) ⟨sN, d1, by simp only; omega⟩ (by simp [go_sem]) (by simp [go_sem]) ?_
   rintro ⟨τ4, a4, k⟩ ⟨h1, h2, h3⟩
   simp only at h1 h2 h3
   by_cases hk : 0 < k
   ·have hki : (0 : Int) < k := by omega
    have c6 := l01Next_c c τ4 37 hc h1
    have s6 := nx2_ok hc h1 37
    have b6 := nx1_b hc τ4 (n := 37) (by omega)
    obtain ⟨u, hu⟩ : ∃ u : Nat, nx1 c τ4 37 = u := ⟨(nx1 c τ4 37).toNat, by omega⟩
    rw [hu] at c6 b6
    generalize nx2 c τ4 37 = τ6 at *
    have c7 := l01Number_c c τ6 hc s6
    obtain ⟨n7, s7⟩ := nbV_ok hc s6
    simp only [srcA_eq] at c6 c7
    generalize nbV c τ6 = q7 at *
    have d7 := h2.set (i := u + 1) (x := q7.1) (by omega) n7
    have l4 := h2.1
    simp [go_sem, hk]
    refine ⟨_, _, c6, ?_⟩
    simp [go_sem]
    refine ⟨⟨by omega, by omega⟩, ?_⟩
    refine ⟨_, _, c7, ?_⟩
    simp [go_sem]
    have eu : (1 + (u : Int)).toNat = u + 1 := by omega
    rw [eu]
    refine ⟨⟨by omega, by omega⟩, by omega, ⟨by omega, by omega⟩, q7.2.1, q7.2.2, a4.set (u + 1) q7.1, k - 1, ⟨s7, d7, by omega⟩, by omega, Off_reset _ _ _ (by simp), ?_⟩
    have ek : (k : Int) - 1 = ((k - 1 : Nat) : Int) := by omega
    exact ⟨⟨rfl, rfl⟩, avs_set _ _ _, ek⟩
   ·have e : k = 0 := by omega
    subst e
    simp [go_sem]
    exact ⟨τ4.1, τ4.2, h1, ⟨rfl, rfl⟩, h2⟩
 ·by_cases v1 : v = 1
  ·subst v1
   simp [go_sem]
   have cN := l01Next_c c τ0 4 hc s1
   have sN := nx2_ok hc s1 4
   have bN := nx1_b hc τ0 (n := 4) (by omega)
   simp only [srcA_eq] at cN
   refine ⟨_, _, cN, ?_⟩
   simp [go_sem]
   obtain ⟨k0, hk0⟩ : ∃ k : Nat, nx1 c τ0 4 = k := ⟨(nx1 c τ0 4).toNat, by omega⟩
   rw [hk0] at bN ⊢
   generalize nx2 c τ0 4 = τ3 at *
   have ek0 : 1 + (k0 : Int) = ((k0 + 1 : Nat) : Int) := by omega
   refine ⟨⟨by omega, by omega⟩, ?_⟩
   refine loop_inv (0 :: 5 :: 7 :: List.range' 48 11) (fun x : Src × List Int × Nat => [(0, .box 171 [.sl c.length (bys c), .int x.1.1, .val (.int .u64 x.1.2)]), (5, .own 2 38 (avs x.2.1)), (7, .int x.2.2)]) (fun x => SOk x.1 ∧ DrM first x.2.1 ∧ x.2.2 ≤ 10) (fun x => x.2.2) (τ3, zlM first, k0 + 1) ⟨sN, zlM_d first, by simp only; omega⟩ (by simp [go_sem]; exact ⟨rfl, by omega⟩) (by simp [go_sem]) ?_
   rintro ⟨τ4, a4, k⟩ ⟨h1, h2, h3⟩
   simp only at h1 h2 h3
   by_cases hk : 0 < k
   ·have hki : (0 : Int) < k := by omega
    have c6 := l01Next_c c τ4 8 hc h1
    have s6 := nx2_ok hc h1 8
    have b6 := nx1_b hc τ4 (n := 8) (by omega)
    obtain ⟨u, hu⟩ : ∃ u : Nat, nx1 c τ4 8 = u := ⟨(nx1 c τ4 8).toNat, by omega⟩
    rw [hu] at c6 b6
    generalize nx2 c τ4 8 = τ6 at *
    have c7 := l01Number_c c τ6 hc s6
    obtain ⟨n7, s7⟩ := nbV_ok hc s6
    simp only [srcA_eq] at c6 c7
    generalize nbV c τ6 = q7 at *
    have d7 := h2.set (i := u + 1) (x := q7.1) (by omega) n7
    have l4 := h2.1
    simp [go_sem, hk]
    refine ⟨_, _, c6, ?_⟩
    simp [go_sem]
    refine ⟨⟨by omega, by omega⟩, ?_⟩
    refine ⟨_, _, c7, ?_⟩
    simp [go_sem]
    have eu : (1 + (u : Int)).toNat = u + 1 := by omega
    rw [eu]
    refine ⟨⟨by omega, by omega⟩, by omega, ⟨by omega, by omega⟩, q7.2.1, q7.2.2, a4.set (u + 1) q7.1, k - 1, ⟨s7, d7, by omega⟩, by omega, Off_reset _ _ _ (by simp), ?_⟩
    have ek : (k : Int) - 1 = ((k - 1 : Nat) : Int) := by omega
    exact ⟨⟨rfl, rfl⟩, avs_set _ _ _, ek⟩
   ·have e : k = 0 := by omega
    subst e
    simp [go_sem]
    exact ⟨τ4.1, τ4.2, h1, ⟨rfl, rfl⟩, h2⟩
  ·simp [go_sem, v0, v1]
   have c5 := l01List_c c τ0 37 hc s1 (by omega)
   obtain ⟨g1, g2, g3⟩ := lsV_ok (f := nbV c) (fun σ h => nbV_ok hc h) 37 τ0 s1
   simp only [srcA_eq] at c5
   generalize lsV (nbV c) 37 τ0 = q at *
   refine ⟨_, _, c5, ?_⟩
   simp [go_sem]
   exact ⟨g1, q.2.1, q.2.2, g3, ⟨rfl, rfl⟩, first :: q.1, DrM.cons g1 g2, rfl⟩
def DrA (a : List Int) : Prop := 37 ≤ a.length ∧ a.length ≤ 38 ∧ ∀ x ∈ a, fits x
theorem DrM.dra {f : Int} {a : List Int} (hf : isN f) (h : DrM f a) : DrA a := ⟨by have := h.1; omega, by have := h.1; omega, fun x hx => by
 have := (h.n38 hf).2 x hx
 exact ⟨by omega, by omega⟩⟩
theorem DrA.set {a : List Int} {i : Nat} {x : Int} (h : DrA a) (hx : fits x) : DrA (a.set i x) := ⟨by rw [List.length_set]; exact h.1, by rw [List.length_set]; exact h.2.1, fun y hy => by
 rcases List.mem_or_eq_of_mem_set hy with hy | rfl
 ·exact h.2.2 y hy
 ·exact hx⟩
theorem spV_fits {c : List Int} (hc : Byt c) {σ : Src} (hs : SOk σ) : fits (spV c σ).1 := by
 have s1 := nx2_ok hc hs 30
 unfold spV
 split
 ·have b := nx1_b hc (nx2 c σ 30) (n := 4) (by omega)
  obtain ⟨k, hk⟩ : ∃ k : Nat, nx1 c (nx2 c σ 30) 4 = k := ⟨(nx1 c (nx2 c σ 30) 4).toNat, by omega⟩
  have e : pk c (nx2 c σ 30) [-1, 10007, 1099511627776, -4611686018427387904] = ([-1, 10007, 1099511627776, -4611686018427387904] : List Int)[(nx1 c (nx2 c σ 30) 4).toNat]?.getD 0 := rfl
  simp only
  rw [e, hk]
  have : k = 0 ∨ k = 1 ∨ k = 2 ∨ k = 3 := by omega
  rcases this with rfl | rfl | rfl | rfl <;> exact ⟨by decide, by decide⟩
 ·have := (nbV_ok hc s1).1
  exact ⟨by have := this.1; omega, by have := this.2; omega⟩
theorem l07DrawAny_r (c : List Int) (σ : Src) (hc : Byt c) (hs : SOk σ) :
  RCon Tryz.prog 231 [srcA c σ] (fun r o => ∃ (τ : Src) (a : List Int), SOk τ ∧ o = [srcA c τ] ∧ DrA a ∧ (r = .sl a.length (avs a) ∨ r = .own 2 a.length (avs a))) := by
 have c1 := l07Draw_r c σ 1 hc hs ⟨by decide, by decide⟩
 simp only [srcA_eq] at *
 refine rcon_of_vcH Tryz.mixed ⟨4, [25], [1000000 + 142, 1000000 + 293, 2000000 + 239], []⟩ [0] Tryz.func231 (by decide) rfl (by simp) (by simp) (by decide) ?_
 rw [Tryz.ntmps231]
 simp [go_sem]
 refine ⟨_, c1, ?_⟩
 rintro _ _ ⟨τ0, a, s1, rfl, d1, rfl⟩
 have l1 := d1.1
 have dA := d1.dra ⟨by decide, by decide⟩
 have c2 := l01Next_c c τ0 24 hc s1
 have s2 := nx2_ok hc s1 24
 simp only [srcA_eq] at *
 simp [go_sem]
 refine ⟨_, _, c2, ?_⟩
 simp [go_sem]
 generalize nx1 c τ0 24 = v at *
 generalize nx2 c τ0 24 = τ2 at *
 by_cases v0 : v = 0
 ·subst v0
  have c3 := l01Next_c c τ2 3 hc s2
  have s3 := nx2_ok hc s2 3
  have b3 := nx1_b hc τ2 (n := 3) (by omega)
  simp only [srcA_eq] at *
  simp [go_sem]
  refine ⟨_, _, c3, ?_⟩
  simp [go_sem]
  exact ⟨by omega, (nx2 c τ2 3).1, (nx2 c τ2 3).2, s3, ⟨rfl, rfl⟩, a.set 0 (nx1 c τ2 3), dA.set ⟨by omega, by omega⟩, by rw [List.length_set]; omega, avs_set _ _ _⟩
 ·by_cases v1 : v = 1
  ·subst v1
   have c3 := l01Next_c c τ2 38 hc s2
   have s3 := nx2_ok hc s2 38
   have b3 := nx1_b hc τ2 (n := 38) (by omega)
   obtain ⟨u, hu⟩ : ∃ u : Nat, nx1 c τ2 38 = u := ⟨(nx1 c τ2 38).toNat, by omega⟩
   rw [hu] at c3 b3
   generalize nx2 c τ2 38 = τ3 at *
   have c4 := l01Spoil_c c τ3 hc s3
   have s4 := spV_ok hc s3
   have hs3 := s3
   simp only [srcA_eq] at *
   simp [go_sem]
   refine ⟨_, _, c3, ?_⟩
   simp [go_sem]
   refine ⟨_, _, c4, ?_⟩
   simp [go_sem]
   exact ⟨by omega, by omega, (spV c τ3).2.1, (spV c τ3).2.2, s4, ⟨rfl, rfl⟩, a.set u (spV c τ3).1, dA.set (spV_fits hc hs3), by rw [List.length_set]; omega, avs_set _ _ _⟩
  ·by_cases v2 : v = 2
   ·subst v2
    simp [go_sem]
    refine ⟨τ2.1, τ2.2, s2, ⟨rfl, rfl⟩, a.tail, ⟨by rw [List.length_tail]; omega, by rw [List.length_tail]; omega, fun x hx => dA.2.2 x (List.mem_of_mem_tail hx)⟩, by rw [List.length_tail]; omega, ?_⟩
    have e : (avs a).tail = avs a.tail := by unfold avs; rw [List.map_tail]
    rw [e, List.take_of_length_le (by rw [avs_len, List.length_tail]; omega)]
   ·simp [go_sem, v0, v1, v2]
    exact ⟨τ2.1, τ2.2, s2, ⟨rfl, rfl⟩, dA, l1.symm⟩
theorem DrM.n0 {a : List Int} (h : DrM 0 a) : N38 a := h.n38 ⟨by decide, by decide⟩
theorem l18Symmetric_r (c : List Int) (σ : Src) (hc : Byt c) (hs : SOk σ) :
  RCon Tryz.prog 143 [srcA c σ] (fun r o => ∃ (τ : Src) (b : List Int), SOk τ ∧ o = [srcA c τ] ∧ DrM 0 b ∧ r = .own 2 38 (avs (expS b))) := by
 have cA := l03All_c 6 (by omega)
 have l6 := trN_len6
 have e6 : ((6 : Nat) : Int) = 6 := rfl
 rw [e6, l6] at cA
 have c1 := l07Draw_r c σ 0 hc hs ⟨by decide, by decide⟩
 have cC := l07Cuts_c
 have h7 : AV.sl 38 (AV.sl 0 [] :: fcF) = .sl 38 s7F := rfl
 rw [h7] at cC
 generalize hFC : s7F = FC at *
 simp only [srcA_eq] at *
 refine rcon_of_vcH Tryz.mixed ⟨7, [], [1000000 + 142, 1000000 + 137, 2000000 + 239], []⟩ [0] Tryz.func143 (by decide) rfl (by simp) (by simp) (by decide) ?_
 rw [Tryz.ntmps143]
 simp [go_sem]
 refine CallVC.of (cA) (by decide) ?_
 simp [go_sem]
 refine ⟨_, c1, ?_⟩
 rintro _ _ ⟨τ0, a, s1, rfl, d1, rfl⟩
 have c2 := l01Next_c c τ0 4 hc s1
 have s2 := nx2_ok hc s1 4
 simp only [srcA_eq] at *
 simp [go_sem]
 refine ⟨_, _, c2, ?_⟩
 simp [go_sem]
 generalize nx1 c τ0 4 = v at *
 generalize nx2 c τ0 4 = τ2 at *
 refine loop_inv (4 :: 6 :: List.range' 12 29) (fun x : List Int × Nat => [(4, .own 2 38 (avs x.1)), (6, .int x.2)]) (fun x => DrM 0 x.1 ∧ x.2 ≤ 37) (fun x => 37 - x.2) (a, 0) ⟨d1, by simp only; omega⟩ (by simp [go_sem]) (by simp [go_sem]) ?_
 rintro ⟨b, i⟩ ⟨h1, h2⟩
 simp only at h1 h2
 by_cases hil : i < 37
 ·have hii : (i : Int) < 37 := by omega
  have hl : i < (trN 6).length := by omega
  have og := omat_get hl
  have e := trN_nd hil
  have n1 := nd_pos (i := i + 1) (by omega) (by omega)
  have n6 := nd_le (i := i + 1) (by omega)
  have d0 := h1.set (i := i + 1) (x := 0) (by omega) ⟨by decide, by decide⟩
  have lb := h1.1
  rw [e] at og
  generalize nd (i + 1) = m at *
  generalize (trN 6)[i]?.getD [] = t at *
  by_cases hm : m % 2 = 0
  ·have hmi : (m : Int).tmod 2 = 0 := by rw [Int.tmod_eq_emod_of_nonneg (by omega)]; omega
   simp -implicitDefEqProofs [go_sem, hii, og, hmi]
   refine ⟨⟨by omega, by omega⟩, ⟨by omega, by omega⟩, by omega, ⟨by omega, by omega⟩, b.set (i + 1) 0, i + 1, ⟨d0, by omega⟩, by omega, Off_reset _ _ _ (by simp), ?_⟩
   exact ⟨avs_set _ _ _, by omega⟩
  ·have hmi : ¬ (m : Int).tmod 2 = 0 := by rw [Int.tmod_eq_emod_of_nonneg (by omega)]; omega
   by_cases hv : v = 1
   ·by_cases hm3 : m = 3
    ·subst hm3
     simp -implicitDefEqProofs [go_sem, hii, og, hmi, hv]
     refine ⟨⟨by omega, by omega⟩, ⟨by omega, by omega⟩, by omega, ⟨by omega, by omega⟩, b.set (i + 1) 0, i + 1, ⟨d0, by omega⟩, by omega, Off_reset _ _ _ (by simp), ?_⟩
     exact ⟨avs_set _ _ _, by omega⟩
    ·have hm3i : ¬ (m : Int) = 3 := by omega
     simp -implicitDefEqProofs [go_sem, hii, og, hmi, hv, hm3i, hm3]
     exact ⟨⟨by omega, by omega⟩, b, i + 1, ⟨h1, by omega⟩, by omega, Off_reset _ _ _ (by simp), rfl, by omega⟩
   ·simp -implicitDefEqProofs [go_sem, hii, og, hmi, hv]
    exact ⟨⟨by omega, by omega⟩, b, i + 1, ⟨h1, by omega⟩, by omega, Off_reset _ _ _ (by simp), rfl, by omega⟩
 ·have ei : i = 37 := by omega
  subst ei
  by_cases hv : 0 < v
  ·have d0 := h1.set (i := 1) (x := 1) (by omega) ⟨by decide, by decide⟩
   have lb := h1.1
   have cE := l08Exp_c (b.set 1 1) d0.n0
   rw [d0.1, hFC] at cE
   simp [go_sem, hv]
   refine ⟨by omega, ?_⟩
   rw [avs_set]
   refine ⟨_, _, cC, ?_⟩
   simp [go_sem]
   refine CallVC.of (cE) (by decide) ?_
   simp [go_sem]
   exact ⟨τ2.1, τ2.2, s2, ⟨rfl, rfl⟩, b.set 1 1, d0, rfl⟩
  ·have cE := l08Exp_c b h1.n0
   rw [h1.1, hFC] at cE
   simp [go_sem, hv]
   refine ⟨_, _, cC, ?_⟩
   simp [go_sem]
   refine CallVC.of (cE) (by decide) ?_
   simp [go_sem]
   exact ⟨τ2.1, τ2.2, s2, ⟨rfl, rfl⟩, b, h1, rfl⟩
theorem l18Draw_r (c : List Int) (σ : Src) (hc : Byt c) (hs : SOk σ) :
  RCon Tryz.prog 130 [srcA c σ] (fun r o => ∃ (τ : Src) (a : List Int), SOk τ ∧ o = [srcA c τ] ∧ DrA a ∧ (r = .sl a.length (avs a) ∨ r = .own 2 a.length (avs a))) := by
 have c1 := l01Next_c c σ 2 hc hs
 have s1 := nx2_ok hc hs 2
 simp only [srcA_eq] at *
 refine rcon_of_vcH Tryz.mixed ⟨3, [], [1000000 + 142, 2000000 + 143, 2000000 + 231], []⟩ [0] Tryz.func130 (by decide) rfl (by simp) (by simp) (by decide) ?_
 rw [Tryz.ntmps130]
 simp [go_sem]
 refine ⟨_, _, c1, ?_⟩
 simp [go_sem]
 generalize nx1 c σ 2 = v at *
 generalize nx2 c σ 2 = τ0 at *
 by_cases h0 : v = 0
 ·have c2 := l18Symmetric_r c τ0 hc s1
  simp only [srcA_eq] at *
  simp [go_sem, h0]
  refine ⟨_, c2, ?_⟩
  rintro _ _ ⟨τ, b, s2, rfl, d, rfl⟩
  have dE : DrA (expS b) := ((expS_ch b).1.drm).dra ⟨by rw [(expS_ch b).2]; decide, by rw [(expS_ch b).2]; decide⟩
  simp [go_sem]
  exact ⟨τ.1, τ.2, s2, ⟨rfl, rfl⟩, dE, (expS_ch b).1.1.symm⟩
 ·have c2 := l07DrawAny_r c τ0 hc s1
  simp only [srcA_eq] at *
  simp [go_sem, h0]
  refine ⟨_, c2, ?_⟩
  rintro _ _ ⟨τ, a, s2, rfl, d, rfl | rfl⟩
  ·simp [go_sem]
   exact ⟨τ.1, τ.2, s2, ⟨rfl, rfl⟩, d⟩
  ·simp [go_sem]
   exact ⟨τ.1, τ.2, s2, ⟨rfl, rfl⟩, d⟩
theorem l18Jump_r (p : Int) (s : Nat) (hp : 0 ≤ p) (hp2 : p ≤ 10) (hs : s ≤ 2) :
  RCon Tryz.prog 151 [.int p, .int s] (fun r o => o = [.any, .any] ∧ ∃ g : List Int, Ns g ∧ g.length ≤ 5 ∧ r = .own 2 g.length (avs g)) := by
 have c1 := l01Root_r (2 * s) (p + 1) (by omega) (by omega)
 refine rcon_of_vcH Tryz.mixed ⟨10, [], [2000000 + 247], []⟩ [] Tryz.func151 (by decide) rfl (by simp) (by simp) (by decide) ?_
 rw [Tryz.ntmps151]
 simp [go_sem]
 refine ⟨⟨by omega, by omega⟩, ⟨by omega, by omega⟩, ?_⟩
 refine ⟨_, c1, ?_⟩
 rintro _ _ ⟨rfl, x, x1, x2, rfl⟩
 have c2 := l01Sub_c (2 * s) x ⟨by omega, by omega⟩
 have c3 := l01Inv_c ((2 * (s : Int) - x) % 10007) (isN_mod _)
 have gN := pw_N ((2 * (s : Int) - x) % 10007) 10005
 simp [go_sem]
 refine ⟨⟨by omega, by omega⟩, ?_⟩
 refine CallVC.of (c2) (by decide) ?_
 simp [go_sem]
 refine CallVC.of (c3) (by decide) ?_
 simp [go_sem]
 generalize pw ((2 * (s : Int) - x) % 10007) 10005 = q at *
 have rN : ∀ i, Ns (List.replicate i q) := fun i y hy => by rw [(List.mem_replicate.1 hy).2]; exact gN
 have ar : ∀ i, avs (List.replicate (i + 1) q) = avs (List.replicate i q) ++ [.val (.int .i64 q)] := fun i => by rw [List.replicate_succ', avs_snoc]
 refine loop_inv (7 :: 8 :: List.range' 21 9) (fun i : Nat => [(7, .own 2 i (avs (List.replicate i q))), (8, .int i)]) (fun i => i ≤ s) (fun i => s - i) 0 (by simp) (by simp [go_sem]) (by simp [go_sem]) ?_
 intro i hi
 by_cases his : i < s
 ·have hii : (i : Int) < s := by omega
  simp [go_sem, hii]
  refine ⟨⟨by omega, by omega⟩, ⟨by omega, by omega⟩, i + 1, by omega, by omega, Off_reset _ _ _ (by simp), ?_⟩
  rw [ar]
  exact ⟨⟨rfl, rfl⟩, by omega⟩
 ·have e : i = s := by omega
  subst e
  have hii : ¬ (i : Int) < i := by omega
  have c4 := l01Mul_c (2 * i) q (mul_fits (show isN (2 * (i : Int)) from ⟨by omega, by omega⟩) gN)
  have m4 := isN_mod (2 * (i : Int) * q)
  have c5 := l01Sub_c 1 (2 * (i : Int) * q % 10007) ⟨by have := m4.2; omega, by have := m4.1; omega⟩
  have m5 := isN_mod (1 - 2 * (i : Int) * q % 10007)
  generalize 2 * (i : Int) * q % 10007 = w at *
  generalize (1 - w) % 10007 = z at *
  simp [go_sem, hii]
  refine ⟨⟨by omega, by omega⟩, ?_⟩
  refine CallVC.of (c4) (by decide) ?_
  simp [go_sem]
  refine CallVC.of (c5) (by decide) ?_
  simp [go_sem]
  refine ⟨⟨by omega, by omega⟩, ?_⟩
  have e0 : avs (List.replicate i q) ++ [AV.val (.int .i64 z)] = avs (List.replicate i q ++ [z] ++ List.replicate 0 q) := by rw [List.replicate_zero, List.append_nil, avs_snoc]
  refine loop_inv (7 :: 9 :: List.range' 38 9) (fun k : Nat => [(7, .own 2 (i + 1 + k) (avs (List.replicate i q ++ [z] ++ List.replicate k q))), (9, .int k)]) (fun k => k ≤ i) (fun k => i - k) 0 (by simp) (by simp [go_sem]; first | exact avs_snoc _ _ | rw [avs_snoc]) (by simp [go_sem]) ?_
  intro k hk
  by_cases hks : k < i
  ·have hki : (k : Int) < i := by omega
   have ak : avs (List.replicate i q ++ [z] ++ List.replicate (k + 1) q) = avs (List.replicate i q ++ [z] ++ List.replicate k q) ++ [.val (.int .i64 q)] := by rw [List.replicate_succ', ← List.append_assoc, avs_snoc]
   simp [go_sem, hki]
   refine ⟨⟨by omega, by omega, by omega⟩, ⟨by omega, by omega⟩, k + 1, by omega, by omega, Off_reset _ _ _ (by simp), ?_⟩
   have e1 : List.replicate i q ++ z :: List.replicate (k + 1) q = (List.replicate i q ++ z :: List.replicate k q) ++ [q] := by rw [List.replicate_succ']; simp
   rw [e1, avs_snoc]
   exact ⟨⟨by omega, rfl⟩, by omega⟩
  ·have e : k = i := by omega
   subst e
   have hki : ¬ (k : Int) < k := by omega
   simp [go_sem, hki]
   refine ⟨List.replicate k q ++ z :: List.replicate k q, fun y hy => ?_, by simp; omega, by simp; omega, rfl⟩
   rcases List.mem_append.1 hy with hy | hy
   ·exact rN k y hy
   ·rcases List.mem_cons.1 hy with rfl | hy
    ·exact m5
    ·exact rN k y hy
end Go.Proofs.YtphccfabekdmnaaGreat


namespace Go.Proofs.YtphccfabekdmnaaGreat
open Go.Abs
theorem l18Compose_c (a g : List Int) (ha : Ch a) (hg : Ns g) (hl : g.length ≤ 1000) :
  Con Tryz.prog 136 [.sl 38 s7F, .sl a.length (avs a), .sl g.length (avs g)] (.own 2 38 (avs (cmS a g))) := by
 have cU := l07Unit_c
 have cS := fun k hk => l07Scale_c a k ha.1 hk
 have cC := fun x y hx hy => l07Conv_k x y hx hy
 have mN := fun h => cmS_ch (a := a) ha h
 have e0 : cmS a [] = unitS := rfl
 generalize s7F = FC at *
 refine con_of_vc Tryz.mixed ⟨9, [], [], []⟩ Tryz.func136 (by decide) rfl (by simp) (by decide) (by simp [freshOK, freshL, go_sem]) ?_
 rw [Tryz.ntmps136]
 simp [go_sem]
 refine CallVC.of (cU) (by decide) ?_
 simp [go_sem]
 refine loop_inv (7 :: 8 :: List.range' 10 15) (fun i : Nat => [(7, .own 2 38 (avs (cmS a (g.take i)))), (8, .int i)]) (fun i => i ≤ g.length) (fun i => g.length - i) 0 (by simp) (by simp [go_sem, e0]) (by simp [go_sem]) ?_
 intro i hi
 by_cases hil : i < g.length
 ·have hii : (i : Int) < g.length := by omega
  have dr := avs_dropI hil
  have ng : ¬ g = [] := by rintro rfl; simp at hil
  have tk : g.take (i + 1) = g.take i ++ [iat g i] := by
   rw [List.take_succ_eq_append_getElem hil]
   unfold iat
   rw [List.getElem?_eq_getElem hil]; rfl
  have sn := cmS_snoc a (g.take i) (iat g i)
  rw [← tk] at sn
  have c1 := cS (iat g i) (hg.get i)
  have c2 := cC (cmS a (g.take i)) (scS (iat g i) a) (mN _) (scS_N _ _)
  rw [(mN (g.take i)).1.1, (scS_N (iat g i) a).1] at c2
  have l1 := (mN (g.take i)).1.1
  have l2 := (scS_N (iat g i) a).1
  generalize cmS a (g.take i) = X at *
  generalize scS (iat g i) a = Y at *
  generalize iat g i = x at *
  simp [go_sem, hii, dr]
  refine ⟨ng, ?_⟩
  refine CallVC.of (c1) (by decide) ?_
  simp [go_sem]
  refine CallVC.of (c2) (by decide) ?_
  simp [go_sem]
  refine ⟨⟨by omega, by omega⟩, i + 1, by omega, by omega, Off_reset _ _ _ (by simp), ?_⟩
  rw [sn]
  exact ⟨rfl, by omega⟩
 ·have e : i = g.length := by omega
  subst e
  have hii : ¬ (g.length : Int) < g.length := by omega
  rw [List.take_length]
  simp [go_sem, hii]
end Go.Proofs.YtphccfabekdmnaaGreat


namespace Go.Proofs.YtphccfabekdmnaaGreat
open Go.Abs
theorem l07Code_c (a : List Int) (ha : a.length ≤ 9223372036854775807) : Con Tryz.prog 146 [.sl a.length (avs a), .sl a.length (avs a)] (.int (ckC a)) := by
 have cM := l07Is_c a ha
 unfold ckC
 by_cases hm : mapB a = true
 ·rw [if_pos hm]
  rw [hm] at cM
  have hl := (N38_of hm).1
  have na : ¬ a = [] := by rintro rfl; simp at hl
  have a0 := avs_dropI (a := a) (v := 0) (by omega)
  rw [List.drop_zero] at a0
  by_cases h1 : iat a 0 = 1
  ·rw [if_pos h1]
   rw [h1] at a0
   refine con_of_vc Tryz.mixed ⟨5, [], [], []⟩ Tryz.func146 (by decide) rfl (by simp) (by decide) (by simp [freshOK, freshL, go_sem]) ?_
   rw [Tryz.ntmps146]
   simp [go_sem]
   refine CallVC.of (cM) (by decide) ?_
   simp [go_sem]
   refine CallVC.of (cM) (by decide) ?_
   simp [go_sem]
   simp [go_sem, a0]
   exact ⟨by omega, na⟩
  ·rw [if_neg h1]
   generalize iat a 0 = x at *
   refine con_of_vc Tryz.mixed ⟨5, [], [], []⟩ Tryz.func146 (by decide) rfl (by simp) (by decide) (by simp [freshOK, freshL, go_sem]) ?_
   rw [Tryz.ntmps146]
   simp [go_sem]
   refine CallVC.of (cM) (by decide) ?_
   simp [go_sem]
   refine CallVC.of (cM) (by decide) ?_
   simp [go_sem]
   simp [go_sem, a0, h1]
   exact ⟨by omega, na⟩
 ·rw [if_neg hm]
  have hf : mapB a = false := by simpa using hm
  rw [hf] at cM
  refine con_of_vc Tryz.mixed ⟨5, [], [], []⟩ Tryz.func146 (by decide) rfl (by simp) (by decide) (by simp [freshOK, freshL, go_sem]) ?_
  rw [Tryz.ntmps146]
  simp [go_sem]
  refine CallVC.of (cM) (by decide) ?_
  simp [go_sem]
theorem l07Agree_c (a b : List Int) (ha : Ch a) (hb : Ch b) :
  Con Tryz.prog 147 [.sl a.length (avs a), .sl b.length (avs b)] (.int (agS a b)) := by
 have la := ha.1.1
 have lb := hb.1.1
 have cA := l03All_c 6 (by omega)
 have l6 := trN_len6
 have e6 : ((6 : Nat) : Int) = 6 := rfl
 rw [e6, l6] at cA
 have a0 := ha.cons
 have b0 := hb.cons
 have na := ha.1.ne
 have nb := hb.1.ne
 have hA : agS a b = agI a b 37 1 := by
  unfold agS
  rw [agI, if_pos (ha.2.trans hb.2.symm)]
 refine con_of_vc Tryz.mixed ⟨7, [], [], []⟩ Tryz.func147 (by decide) rfl (by simp) (by decide) (by simp [freshOK, freshL, go_sem]) ?_
 rw [Tryz.ntmps147]
 simp [go_sem]
 simp [go_sem, a0, b0]
 refine ⟨by kernel_rfl, ⟨by omega, na⟩, by omega, ?_⟩
 refine ⟨by kernel_rfl, ?_⟩
 simp [go_sem]
 refine CallVC.of (cA) (by decide) ?_
 simp [go_sem]
 refine loop_inv (4 :: 6 :: List.range' 15 23) (fun i : Nat => [(6, .int i)]) (fun i => i ≤ 37 ∧ agS a b = agI a b (37 - i) (i + 1)) (fun i => 37 - i) 0 (by simp [hA]) (by simp [go_sem]) (by simp [go_sem]) ?_
 rintro i ⟨hi, hag⟩
 by_cases hil : i < 37
 ·have hii : (i : Int) < 37 := by omega
  have da := avs_dropI (a := a) (v := i + 1) (by omega)
  have db := avs_dropI (a := b) (v := i + 1) (by omega)
  rw [a0, List.drop_succ_cons] at da
  rw [b0, List.drop_succ_cons] at db
  have og := omat_get (A := trN 6) (k := i) (by omega)
  rw [trN_nd hil] at og
  have n6 := nd_le (i := i + 1) (by omega)
  obtain ⟨m, hm⟩ : ∃ m, 37 - i = m + 1 := ⟨36 - i, by omega⟩
  rw [hm, agI] at hag
  have hm2 : 37 - (i + 1) = m := by omega
  by_cases he : iat a (i + 1) = iat b (i + 1)
  ·rw [if_pos he, ← hm2] at hag
   rw [he] at da
   generalize iat b (i + 1) = x at *
   simp [go_sem, hii, da, db]
   refine ⟨by kernel_rfl, ⟨by omega, by omega⟩, by omega, ⟨by omega, by omega⟩, by omega, ?_⟩
   refine ⟨by kernel_rfl, ?_⟩
   simp [go_sem]
   refine ⟨⟨by omega, by omega⟩, i + 1, ⟨by omega, hag⟩, by omega, Off_reset _ _ _ (by simp), by omega⟩
  ·rw [if_neg he] at hag
   generalize iat a (i + 1) = x at *
   generalize iat b (i + 1) = y at *
   generalize nd (i + 1) = k at *
   simp [go_sem, hii, da, db]
   refine ⟨by kernel_rfl, ⟨by omega, by omega⟩, by omega, ⟨by omega, by omega⟩, by omega, ?_⟩
   refine ⟨by kernel_rfl, ?_⟩
   simp [go_sem]
   simp [go_sem, he, og]
   exact ⟨hii, ⟨by omega, by omega⟩, hag.symm⟩
 ·have e : i = 37 := by omega
  subst e
  simp [go_sem]
  exact hag.symm
def rvN (a : List Int) : Nat → List Int
 | 0 => unitS
 | k + 1 => (rvN a k).set (k + 1) ((0 - iat (cvS a (rvN a k)) (k + 1)) % 10007)
theorem N38.set {a : List Int} (h : N38 a) (i : Nat) (x : Int) : N38 (a.set i (x % 10007)) := ⟨by rw [List.length_set]; exact h.1, fun y hy => by
 rcases List.mem_or_eq_of_mem_set hy with hy | rfl
 ·exact h.2 y hy
 ·exact ⟨Int.emod_nonneg _ (by decide), Int.emod_lt_of_pos _ (by decide)⟩⟩
theorem rvN_N (a : List Int) : ∀ k, N38 (rvN a k)
 | 0 => unitS_ch.1
 | k + 1 => (rvN_N a k).set _ _
theorem iat_set_ne {a : List Int} {i j : Nat} (x : Int) (h : i ≠ j) : iat (a.set i x) j = iat a j := by
 unfold iat
 rw [List.getElem?_set_ne h]
theorem iat_set_eq {a : List Int} {i : Nat} (x : Int) (h : i < a.length) : iat (a.set i x) i = x := by
 unfold iat
 rw [List.getElem?_set_self h]; rfl
theorem rv_one : (List.range 37).all (fun j => decide ((ctR (j + 1)).filter (fun c => decide (c.2.2 = j + 1)) = [(1, [], j + 1)]) && ((ctR (j + 1)).filter fun c => !decide (c.2.2 = j + 1)).all fun c => decide (c.2.2 < j + 1)) = true := by decide +kernel
theorem cv_last (A B : Nat → Int) {i : Nat} (hi : i < 38) (h0 : 0 < i) : cvI A B i = B i + rowI A B ((ctR i).filter fun c => !decide (c.2.2 = i)) ∧ ∀ c ∈ (ctR i).filter (fun c => !decide (c.2.2 = i)), c.2.2 < i := by
 obtain ⟨j, rfl⟩ : ∃ j, i = j + 1 := ⟨i - 1, by omega⟩
 have h := List.all_eq_true.1 rv_one j (List.mem_range.2 (by omega))
 simp only [Bool.and_eq_true, List.all_eq_true, decide_eq_true_eq] at h
 refine ⟨?_, h.2⟩
 unfold cvI
 rw [if_neg (by omega), rowI_split A B (fun c => decide (c.2.2 = j + 1)), h.1]
 simp [rowI, prI]
theorem rv_inv (a : List Int) : ∀ k, k ≤ 37 → iat (rvN a k) 0 = 1 ∧ ∀ j, 0 < j → j < 38 → (j ≤ k → cvI (iat a) (iat (rvN a k)) j % 10007 = 0) ∧ (k < j → iat (rvN a k) j = 0)
 | 0, _ => ⟨unitS_ch.2, fun j h0 hj => ⟨fun h => by omega, fun _ => by
   show iat unitS j = 0
   rw [un_at hj, if_neg (by omega)]⟩⟩
 | k + 1, hk => by
  obtain ⟨i1, i2⟩ := rv_inv a k (by omega)
  have lr := (rvN_N a k).1
  refine ⟨by rw [rvN, iat_set_ne _ (by omega)]; exact i1, fun j h0 hj => ⟨fun h => ?_, fun h => ?_⟩⟩
  ·obtain ⟨c1, c2⟩ := cv_last (iat a) (iat (rvN a (k + 1))) hj h0
   obtain ⟨d1, _⟩ := cv_last (iat a) (iat (rvN a k)) hj h0
   have e : rowI (iat a) (iat (rvN a (k + 1))) ((ctR j).filter fun c => !decide (c.2.2 = j)) % 10007 = rowI (iat a) (iat (rvN a k)) ((ctR j).filter fun c => !decide (c.2.2 = j)) % 10007 := rowI_mod fun c hc => ⟨fun _ _ => rfl, by
    have := c2 c hc
    rw [rvN, iat_set_ne _ (by omega)]⟩
   by_cases hjk : j = k + 1
   ·subst hjk
    have z := (i2 (k + 1) h0 hj).2 (by omega)
    have m := cvS_mod a (rvN a k) hj
    have s : iat (rvN a (k + 1)) (k + 1) = (0 - iat (cvS a (rvN a k)) (k + 1)) % 10007 := by rw [rvN, iat_set_eq _ (by omega)]
    rw [c1, s]
    rw [d1, z] at m
    omega
   ·have h2 := (i2 j h0 hj).1 (by omega)
    have s : iat (rvN a (k + 1)) j = iat (rvN a k) j := by rw [rvN, iat_set_ne _ (by omega)]
    rw [c1, s]
    rw [d1] at h2
    omega
  ·rw [rvN, iat_set_ne _ (by omega)]
   exact (i2 j h0 hj).2 (by omega)
theorem rvN_inv {a : List Int} (ha : Ch a) : rvN a 37 = invS a := by
 obtain ⟨h0, h1⟩ := rv_inv a 37 (Nat.le_refl _)
 have rC : Ch (rvN a 37) := ⟨rvN_N a 37, h0⟩
 have e : cvS a (rvN a 37) = unitS := by
  refine mk38_of unitS_ch.1 fun i hi => ?_
  rw [un_at hi]
  by_cases hi0 : i = 0
  ·subst hi0; rw [if_pos rfl, cvI, if_pos rfl, h0]
  ·rw [if_neg hi0, (h1 i (by omega) hi).1 (by omega)]; rfl
 have f : cvS (cvS (invS a) a) (rvN a 37) = cvS (invS a) (cvS a (rvN a 37)) := cvS_asc (invS_ch _) ha
 rw [inv_l ha, unitS_l rC.1, e, unitS_r (invS_ch _)] at f
 exact f
theorem l07Inverse_c (a : List Int) (ha : Ch a) : Con Tryz.prog 246 [.sl 38 s7F, .sl a.length (avs a)] (.own 2 38 (avs (invS a))) := by
 rw [← rvN_inv ha]
 have cU := l07Unit_c
 have e0 : rvN a 0 = unitS := rfl
 have cC := fun m (h1 : 1 ≤ m) (h2 : m ≤ 38) b hb => l07Conv_c a b m h1 h2 ha.1 hb ha.2 (s7F.take m) (fun i h0 h => by
  rw [List.drop_take, s7F_drop h0 (by omega), show m - i = (m - (i + 1)) + 1 by omega, List.take_succ_cons, List.drop_take]) (by
  intro e
  have h := congrArg List.length e
  rw [List.length_take] at h
  have h2 : s7F.length = 38 := by decide +kernel
  rw [h2, List.length_nil] at h; omega)
 have nN := rvN_N a
 have es : ∀ k, rvN a (k + 1) = (rvN a k).set (k + 1) ((0 - iat (cvS a (rvN a k)) (k + 1)) % 10007) := fun k => rfl
 have vN := cvS_N a
 rw [← e0] at cU
 generalize rvN a = X at *
 have nF := s7F_ne
 generalize s7F = FC at *
 refine con_of_vc Tryz.mixed ⟨7, [], [], []⟩ Tryz.func246 (by decide) rfl (by simp) (by decide) (by simp [freshOK, freshL, go_sem]) ?_
 rw [Tryz.ntmps246]
 simp [go_sem]
 refine CallVC.of (cU) (by decide) ?_
 simp [go_sem]
 refine loop_inv (6 :: 5 :: List.range' 8 20) (fun k : Nat => [(5, .own 2 38 (avs (X k))), (6, .int (k + 1))]) (fun k => k ≤ 37) (fun k => 37 - k) 0 (by simp) (by simp [go_sem]) (by simp [go_sem]) ?_
 intro k hk
 by_cases hk7 : k < 37
 ·have hki : (k : Int) + 1 < 38 := by omega
  have c1 := cC (k + 2) (by omega) (by omega) (X k) (nN k)
  rw [(nN k).1] at c1
  have lx := (nN k).1
  have lv := (vN (X k)).1
  have r := (vN (X k)).at (k + 1)
  have dv := avs_dropI (a := (cvS a (X k)).take (k + 2)) (v := k + 1) (by rw [List.length_take]; omega)
  have ev : iat ((cvS a (X k)).take (k + 2)) (k + 1) = iat (cvS a (X k)) (k + 1) := by
   unfold iat
   rw [List.getElem?_take_of_lt (by omega)]
  rw [ev] at dv
  have nv : ¬ (cvS a (X k)).take (k + 2) = [] := by intro e; have := congrArg List.length e; rw [List.length_take, lv] at this; simp at this
  have c2 := l01Sub_c 0 (iat (cvS a (X k)) (k + 1)) ⟨by omega, by omega⟩
  have sx := es k
  have gv : (avs ((cvS a (X k)).take (k + 2)))[k + 1]? = some (.int (iat (cvS a (X k)) (k + 1))) := by
   have := List.getElem?_drop (xs := avs ((cvS a (X k)).take (k + 2))) (i := k + 1) (j := 0)
   rw [dv] at this
   simpa using this.symm
  generalize iat (cvS a (X k)) (k + 1) = v at *
  generalize (cvS a (X k)).take (k + 2) = V at *
  have ek : ((k : Int) + 1 + 1).toNat = k + 2 := by omega
  simp [go_sem, hki, ek]
  refine ⟨⟨by omega, by omega⟩, by omega, ?_⟩
  refine CallVC.of (c1) (by decide) ?_
  simp [go_sem]
  simp [go_sem, gv]
  refine ⟨by omega, ?_⟩
  refine CallVC.of (c2) (by decide) ?_
  simp [go_sem]
  refine ⟨⟨by omega, by omega⟩, by omega, ⟨by omega, by omega⟩, k + 1, by omega, by omega, Off_reset _ _ _ (by simp), ?_, by omega⟩
  rw [sx, ← avs_set, Int.zero_sub]
 ·have e : k = 37 := by omega
  subst e
  simp [go_sem]
theorem l18Adjoint_c (a : List Int) (ha : Ch a) : Con Tryz.prog 150 [.sl 38 s7F, .sl a.length (avs a)] (.own 2 38 (avs (invS (scS (-1) a)))) := by
 have c1 := l07Scale_c a 10006 ha.1 ⟨by decide, by decide⟩
 rw [scS_mod (k := 10006) (l := -1) (by decide)] at c1
 have c2 := l07Inverse_c (scS (-1) a) (scS_ch (-1) ha)
 rw [(scS_N (-1) a).1] at c2
 generalize scS (-1) a = X at *
 generalize invS X = Y at *
 generalize s7F = FC at *
 refine con_of_vc Tryz.mixed ⟨5, [], [], []⟩ Tryz.func150 (by decide) rfl (by simp) (by decide) (by simp [freshOK, freshL, go_sem]) ?_
 rw [Tryz.ntmps150]
 simp [go_sem]
 refine CallVC.of (c1) (by decide) ?_
 simp [go_sem]
 refine CallVC.of (c2) (by decide) ?_
 simp [go_sem]
end Go.Proofs.YtphccfabekdmnaaGreat


namespace Go.Proofs.YtphccfabekdmnaaGreat
open Go.Abs
theorem RCon.wk {P : Program} {f : FuncId} {args : List AV} {R R' : AV → List AV → Prop} (h : RCon P f args R) (hR : ∀ r o, R r o → ∃ cs ds, r = .tup cs ∧ WkL cs ds ∧ R' (.tup ds) o) : RCon P f args R' := by
 refine ⟨h.1, fun w vs os F0 hl hn ho hF hr => (h.2 w vs os F0 hl hn ho hF hr).mono ?_⟩
 rintro e w' ⟨r, outs, k, v, orr, oo, F', he, hb, h1, h2, h3, h4⟩
 obtain ⟨cs, ds, rfl, hw, k'⟩ := hR r outs k
 refine ⟨_, outs, k', v, orr, oo, F', he, hb, h1, h2, fun tm oss => ?_, h4⟩
 have := h3 tm oss
 generalize hc : AV.tup cs = c at this
 cases this with
 | cell c v os h => subst hc; cases h
 | tup cs' vs os hl h =>
  injection hc with hc; subst hc
  exact .tup _ _ _ (by rw [← hl, hw.len]) (hw.rep h)
 | _ => simp at hc
theorem sRaiseOrder_x (a : List Int) (ha : a.length ≤ 9223372036854775807) :
  RCon Tryz.prog 54 [.sl a.length (avs a)] (fun r o => o = [.any] ∧ ∃ X : List Int, r = .tup [.own 2 X.length (avs X), .int (roC a)] ∨ r = .tup [.val (.slice none 0 0), .int (roC a)]) := by
 have cK := l07Code_c a ha
 by_cases hk : ckC a = 0
 ·have hA := ckC_ch hk
  rw [hk] at cK
  have cF := l07Cuts_c
  have es : .sl 0 [] :: fcF = s7F := rfl
  rw [es] at cF
  have cE := l07Exact_c
  have cG := l07Agree_c a exaS hA exaS_ch
  rw [exaS_ch.1.1] at cG
  have cJ := l18Adjoint_c a hA
  have cQ := l01Same_c (invS (scS (-1) a)) a (by rw [(invS_ch _).1.1]; omega)
  rw [(invS_ch (scS (-1) a)).1.1] at cQ
  unfold roC roB
  rw [if_pos hk]
  by_cases hq : invS (scS (-1) a) = a
  ·rw [hq] at cQ cJ
   simp only [decide_true] at cQ
   by_cases hp : agS a exaS = 2 ∨ agS a exaS = 4
   ·have cS := l18Jump_r (agS a exaS) 1 (by omega) (by omega) (by omega)
    rw [show ((1 : Nat) : Int) = 1 from rfl] at cS
    have cC := fun g hN hl => l18Compose_c a g hA hN hl
    have lX := fun g => (cmS_N (a := a) g).1
    simp only [hp, hq, decide_true, Bool.and_true, if_true]
    generalize cmS a = X at *
    generalize agS a exaS = p at *
    generalize exaS = E at *
    generalize s7F = FC at *
    refine rcon_of_vcH Tryz.mixed ⟨7, [], [1000000 + 137, 2000000 + 151], []⟩ [] Tryz.func54 (by decide) rfl (by simp) (by simp) (by decide) ?_
    rw [Tryz.ntmps54]
    simp [go_sem]
    refine CallVC.of (cK) (by decide) ?_
    simp [go_sem]
    refine ⟨_, _, cF, ?_⟩
    simp [go_sem]
    refine CallVC.of (cE) (by decide) ?_
    simp [go_sem]
    refine CallVC.of (cG) (by decide) ?_
    simp [go_sem]
    refine CallVC.of (cJ) (by decide) ?_
    simp [go_sem]
    refine CallVC.of (cQ) (by decide) ?_
    have hpn : ¬ (¬ p = 2 ∧ ¬ p = 4) := by omega
    rcases hp with rfl | rfl
    ·simp -implicitDefEqProofs [go_sem]
     refine ⟨_, cS, ?_⟩
     rintro _ _ ⟨rfl, g, gN, gl, rfl⟩
     simp [go_sem]
     refine CallVC.of ((cC g gN (by omega))) (by decide) ?_
     simp [go_sem]
     exact (lX g).symm
    ·simp -implicitDefEqProofs [go_sem]
     refine ⟨_, cS, ?_⟩
     rintro _ _ ⟨rfl, g, gN, gl, rfl⟩
     simp [go_sem]
     refine CallVC.of ((cC g gN (by omega))) (by decide) ?_
     simp [go_sem]
     exact (lX g).symm
   ·simp only [hp, hq, decide_true, decide_false, Bool.false_and, Bool.false_eq_true, if_false]
    have h2 : ¬ agS a exaS = 2 := fun e => hp (.inl e)
    have h4 : ¬ agS a exaS = 4 := fun e => hp (.inr e)
    generalize agS a exaS = p at *
    generalize exaS = E at *
    generalize s7F = FC at *
    refine rcon_of_vcH Tryz.mixed ⟨7, [], [1000000 + 137, 2000000 + 151], []⟩ [] Tryz.func54 (by decide) rfl (by simp) (by simp) (by decide) ?_
    rw [Tryz.ntmps54]
    simp [go_sem]
    refine CallVC.of (cK) (by decide) ?_
    simp [go_sem]
    refine ⟨_, _, cF, ?_⟩
    simp [go_sem]
    refine CallVC.of (cE) (by decide) ?_
    simp [go_sem]
    refine CallVC.of (cG) (by decide) ?_
    simp [go_sem]
    refine CallVC.of (cJ) (by decide) ?_
    simp [go_sem]
    refine CallVC.of (cQ) (by decide) ?_
    simp -implicitDefEqProofs [go_sem, h2, h4]
  ·simp only [hq, decide_false, Bool.and_false, Bool.false_eq_true, if_false]
   simp only [hq, decide_false] at cQ
   generalize agS a exaS = p at *
   generalize invS (scS (-1) a) = Z at *
   generalize exaS = E at *
   generalize s7F = FC at *
   refine rcon_of_vcH Tryz.mixed ⟨7, [], [1000000 + 137, 2000000 + 151], []⟩ [] Tryz.func54 (by decide) rfl (by simp) (by simp) (by decide) ?_
   rw [Tryz.ntmps54]
   simp [go_sem]
   refine CallVC.of (cK) (by decide) ?_
   simp [go_sem]
   refine ⟨_, _, cF, ?_⟩
   simp [go_sem]
   refine CallVC.of (cE) (by decide) ?_
   simp [go_sem]
   refine CallVC.of (cG) (by decide) ?_
   simp [go_sem]
   refine CallVC.of (cJ) (by decide) ?_
   simp [go_sem]
   refine CallVC.of (cQ) (by decide) ?_
   simp -implicitDefEqProofs [go_sem]
 ·unfold roC
  rw [if_neg hk]
  generalize ckC a = k at *
  refine rcon_of_vcH Tryz.mixed ⟨7, [], [1000000 + 137, 2000000 + 151], []⟩ [] Tryz.func54 (by decide) rfl (by simp) (by simp) (by decide) ?_
  rw [Tryz.ntmps54]
  simp [go_sem]
  refine CallVC.of (cK) (by decide) ?_
  simp [go_sem]
  simp [go_sem, hk]
theorem sRaiseOrder_r (a : List Int) (ha : a.length ≤ 9223372036854775807) :
  RCon Tryz.prog 54 [.sl a.length (avs a)] (fun r o => o = [.any] ∧ ∃ X : List Int, r = .tup [.own 2 X.length (avs X), .int (roC a)]) := by
 refine RCon.wk (sRaiseOrder_x a ha) ?_
 rintro r o ⟨rfl, X, rfl | rfl⟩
 ·exact ⟨_, _, rfl, .same _ _ _ (.same _ _ _ .nil), rfl, X, rfl⟩
 ·exact ⟨_, _, rfl, .own 2 _ _ (.same _ _ _ .nil), rfl, [], rfl⟩
theorem DrawRaiseOrder_x (c : List Int) (hc : Byt c) :
  RCon Tryz.prog 52 [.sl c.length (bys c)] (fun r o => o = [.any] ∧ ∃ a : List Int, DrA a ∧ (r = .sl a.length (avs a) ∨ r = .own 2 a.length (avs a))) := by
 have c0 := l01From_r c hc
 simp only [srcA_eq] at *
 refine rcon_of_vcH Tryz.mixed ⟨4, [], [1000000 + 142, 2000000 + 113, 2000000 + 130, 2000000 + 143], []⟩ [] Tryz.func52 (by decide) rfl (by simp) (by simp) (by decide) ?_
 rw [Tryz.ntmps52]
 simp [go_sem]
 refine ⟨_, c0, ?_⟩
 rintro _ _ ⟨rfl, h, rfl⟩
 have s0 : SOk ((0, h) : Src) := by unfold SOk; simp
 have cN := l01Next_c c (0, h) 3 hc s0
 have sN := nx2_ok hc s0 3
 simp only [srcA_eq] at *
 simp [go_sem]
 refine ⟨_, _, cN, ?_⟩
 simp [go_sem]
 generalize nx1 c (0, h) 3 = v at *
 generalize nx2 c (0, h) 3 = τ0 at *
 by_cases hv : 0 < v
 ·have c1 := l18Symmetric_r c τ0 hc sN
  simp only [srcA_eq] at *
  simp [go_sem, hv]
  refine ⟨_, c1, ?_⟩
  rintro _ _ ⟨τ, b, s2, rfl, d, rfl⟩
  have dE : DrA (expS b) := ((expS_ch b).1.drm).dra ⟨by rw [(expS_ch b).2]; decide, by rw [(expS_ch b).2]; decide⟩
  simp [go_sem]
  exact ⟨dE, (expS_ch b).1.1.symm⟩
 ·have c1 := l18Draw_r c τ0 hc sN
  simp only [srcA_eq] at *
  simp [go_sem, hv]
  refine ⟨_, c1, ?_⟩
  rintro _ _ ⟨τ, a, s2, rfl, d, rfl | rfl⟩
  ·simp [go_sem]
   exact d
  ·simp [go_sem]
   exact d
theorem DrawRaiseOrder_r (c : List Int) (hc : Byt c) :
  RCon Tryz.prog 52 [.sl c.length (bys c)] (fun r o => o = [.any] ∧ ∃ a : List Int, DrA a ∧ r = .sl a.length (avs a)) := by
 refine (RCon.fz (DrawRaiseOrder_x c hc)).mono ?_
 rintro r o ⟨r0, ⟨ho, a, h1, hr⟩, rfl⟩
 refine ⟨ho, a, h1, ?_⟩
 rcases hr with rfl | rfl <;> simp [frz, frzL]
end Go.Proofs.YtphccfabekdmnaaGreat


namespace Go.Proofs.YtphccfabekdmnaaGreat
open Go.Abs
def rlH (c : List Int) (sd : Int) : Nat → Int
 | 0 => IntKind.u64.wrap (IntKind.u64.wrap (sd * 8111) + IntKind.u64.wrap c.length)
 | i + 1 => IntKind.u64.wrap (IntKind.u64.wrap (IntKind.u64.wrap (rlH c sd i * 1099511628211) + IntKind.u64.wrap (c[i]?.getD 0)) + 5)
theorem roll_g (c : List Int) (sd : Int) (hc : Byt c) : GCon Tryz.prog 37 [.sl c.length (bys c), .val (.int .u64 sd)] (dicA c (0, rlH c sd c.length)) [.any, .any] := by
 have hcl := hc.1
 unfold dicA
 refine gcon_of_vc Tryz.mixed ⟨7, [], [], []⟩ [4] [] Tryz.func37 (by decide) rfl rfl (by simp) (by simp) (by decide) ?_
 rw [Tryz.ntmps37]
 simp [go_sem]
 refine loop_inv (5 :: 6 :: List.range' 16 21) (fun i : Nat => [(5, .box 118 [.sl c.length (bys c), .int 0, .val (.int .u64 (rlH c sd i))]), (6, .int i)]) (fun i => i ≤ c.length) (fun i => c.length - i) 0 (by simp) (by simp [go_sem, rlH]) (by simp [go_sem]) ?_
 intro i hi
 by_cases hic : i < c.length
 ·have h4 : (i : Int) < 4096 := by omega
  have hne : ¬ c = [] := by rintro rfl; simp at hic
  have hD := bys_drop hic
  have hb := hc.get i
  simp [go_sem, hic, hD]
  refine ⟨by kernel_rfl, by intro e; exact hne (by simpa [bys] using e), ?_⟩
  refine ⟨by kernel_rfl, ?_⟩
  simp [go_sem]
  exact ⟨⟨by omega, by omega⟩, i + 1, by omega, by omega, Off_reset _ _ _ (by simp), by simp [rlH, hic], by omega⟩
 ·have e : i = c.length := by omega
  subst e
  simp [go_sem]
end Go.Proofs.YtphccfabekdmnaaGreat


namespace Go.Proofs.YtphccfabekdmnaaGreat
open Go.ChangeShapes Go.WideShapes Go.ChangeAt Go.RowKit Go.Abs Go.Deep
section
variable {H : Type} {enc : TypeId × Value → H} {w : World} {sp : Nat → Bool} {held : Bool} {base : Nat}
theorem kids : Kids Tryz.prog (· < Tryz.prog.types.size) := kids_rows (by kernel_rfl) (by kernel_rfl)
theorem full : ∀ t e, t < Tryz.prog.types.size → Tryz.prog.underlying t = some (.slice e) → 0 < Tryz.prog.cellsOf e := slices_full_of Tryz.prog (by kernel_rfl)
theorem flat1 {α β : Type} (g : α → β) : ∀ qs : List α, qs.flatMap (fun a => [g a]) = qs.map g
 | [] => rfl
 | a :: qs => by rw [List.flatMap_cons, flat1 g qs]; rfl
theorem rep_one {F : Nat → Prop} {tm : Nat → Value} {oss : Nat → List Nat} {c : AV} {v : Value} (h : RepL Tryz.prog w F [c] [v] []) : RepT Tryz.prog w F tm oss c v [] := .cell _ _ _ (RepL.one h)
theorem repV {F : Nat → Prop} {tm : Nat → Value} {oss : Nat → List Nat} {t e : TypeId} {v : Value} {c : AV} {r : Reach} {b0 : Nat} (ht : Tryz.prog.underlying t = some (.slice e)) (hv : Value.okWide Tryz.prog w r b0 t v) (h : RepL Tryz.prog w F [c] v.cells.toList []) :
  RepT Tryz.prog w F tm oss c v [] := by
 have hc : v.cells.toList = [v] := by
  simp only [Value.okWide, ht] at hv
  cases v <;> simp_all [Value.cells, Cell.okWide, Cell.ok]
 rw [hc] at h
 exact rep_one h
end
end Go.Proofs.YtphccfabekdmnaaGreat


namespace Go.Proofs.YtphccfabekdmnaaGreat
open Go.Abs
open Go.ChangeShapes Go.WideShapes Go.ChangeAt Go.RowKit Go.Deep
theorem big_c (c : List Int) (hl : c.length ≤ 9223372036854775807) : Con Tryz.prog 10 [.sl c.length (bys c)] (.bool (decide (4096 < c.length))) := by
 refine con_of_vc Tryz.mixed ⟨3, [], [], []⟩ Tryz.func10 (by decide) rfl (by simp) (by decide) (by simp [freshOK, freshL, go_sem]) ?_
 rw [Tryz.ntmps10]
 simp [go_sem]
 omega
section
variable {H : Type} {enc : TypeId × Value → H} {w : World} {sp : Nat → Bool} {held : Bool} {base : Nat}
theorem open_bys {n : Nat} {cs : List Value} {x : DataW H × List MemPlace} (h : DataW.trod enc Tryz.prog w base sp held n 22 cs = some x) :
  ∃ xs : List Int, (∀ z ∈ xs, 0 ≤ z ∧ z ≤ 255) ∧ xs.length ≤ 9223372036854775807 ∧ RepL Tryz.prog w (fun b => b < w.heap.size) [.sl xs.length (bys xs)] cs [] ∧ cs.length = 1 := by
 obtain ⟨qs, h1, h2, h3, h4⟩ := open_sl (f := fun z : Int => [AV.val (.int .u8 z)]) (Good := fun z => (Lit.int .u8 z).wf = true) Tryz.underlying22 (s := 1) (by kernel_rfl) (by decide) (fun _ => rfl)
  (fun n cs y hy => by obtain ⟨z, k1, k2, _⟩ := open_i Tryz.underlying5 hy; exact ⟨z, k1, k2⟩) h
 refine ⟨qs, fun z hz => ?_, h2, by rw [flat1] at h3; exact h3, h4⟩
 have := h1 z hz
 simp [Lit.wf, IntKind.min, IntKind.max, IntKind.signed, IntKind.bits] at this
 omega
end
end Go.Proofs.YtphccfabekdmnaaGreat


namespace Go.Proofs.YtphccfabekdmnaaGreat
open Go.Abs
theorem jm_sums : (List.all [jmL 2 1, jmL 2 2] fun g => decide (g.reverse = g) && decide (sumG g % 10007 = 1) && decide (sumPw 3 g % 10007 = 0)) = true ∧ (List.all [jmL 4 1, jmL 4 2] fun g => decide (g.reverse = g) && decide (sumG g % 10007 = 1) && decide (sumPw 5 g % 10007 = 0)) = true := ⟨by decide +kernel, by decide +kernel⟩
theorem jm_at {p : Int} {s : Nat} (hp : p = 2 ∨ p = 4) (hs : s = 1 ∨ s = 2) : (jmL p s).reverse = jmL p s ∧ sumG (jmL p s) % 10007 = 1 ∧ sumPw (p.toNat + 1) (jmL p s) % 10007 = 0 := by
 obtain ⟨h2, h4⟩ := jm_sums
 simp only [List.all_cons, List.all_nil, Bool.and_true, Bool.and_eq_true, decide_eq_true_eq] at h2 h4
 rcases hp with rfl | rfl <;> rcases hs with rfl | rfl
 ·exact ⟨h2.1.1.1, h2.1.1.2, h2.1.2⟩
 ·exact ⟨h2.2.1.1, h2.2.1.2, h2.2.2⟩
 ·exact ⟨h4.1.1.1, h4.1.1.2, h4.1.2⟩
 ·exact ⟨h4.2.1.1, h4.2.1.2, h4.2.2⟩
theorem sumPw_1 (g : List Int) : sumPw 1 g = sumG g := by
 induction g with
 | nil => rfl
 | cons x g ih => simp only [sumPw, sumG, ih, Int.pow_succ, Int.pow_zero, Int.one_mul]
theorem ssL_at (g : List Int) {k : Nat} (h : k < 6) : iat (ssL g) k = sumPw (k + 1) g % 10007 := by
 unfold iat ssL
 simp [h]
theorem jm_raise {a : List Int} (hA : Ch a) (hS : Sym a) (hp : agS a exaS = 2 ∨ agS a exaS = 4) {s : Nat} (hs : s = 1 ∨ s = 2) : Sym (cmS a (jmL (agS a exaS) s)) ∧ agS a exaS + 2 ≤ agS (cmS a (jmL (agS a exaS) s)) exaS := by
 obtain ⟨j1, j2, j3⟩ := jm_at hp hs
 obtain ⟨n, hn⟩ : ∃ n : Nat, agS a exaS = n := ⟨(agS a exaS).toNat, by omega⟩
 have hg : Agr a exaS n := agS_agr (by omega)
 rw [hn] at j1 j2 j3 ⊢
 rw [Int.toNat_natCast] at j3
 obtain ⟨k1, k2⟩ := cm_jump hA hS (p := n) (by omega) hg j2 j3 j1
 exact ⟨k1, by have := agS_le k2 (by omega); omega⟩
theorem FnJumps_c (c : List Int) (hl : c.length ≤ 9223372036854775807) (hb : ∀ x ∈ c, 0 ≤ x ∧ x ≤ 255) : Con Tryz.prog 7 [.sl c.length (bys c)] (.bool true) := by
 have cB := big_c c hl
 by_cases hc4 : 4096 < c.length
 ·refine con_of_vc Tryz.mixed ⟨31, [], [1000000 + 37, 1000000 + 47, 2000000 + 52, 2000000 + 54], []⟩ Tryz.func7 (by decide) rfl (by simp) (by decide) (by simp [freshOK, freshL, go_sem]) ?_
  rw [Tryz.ntmps7]
  simp [go_sem]
  refine CallVC.of (cB) (by decide) ?_
  simp [go_sem]
  simp [go_sem, hc4]
 ·have hc : Byt c := ⟨by omega, hb⟩
  have cD := DrawRaiseOrder_r c hc
  have cR := roll_g c 1181 hc
  have s0 : SOk ((0, rlH c 1181 c.length) : Src) := by unfold SOk; simp
  generalize (rlH c 1181 c.length) = R0 at *
  have cK := below_c c (0, R0) 2 hc s0
  have bK := nx1_b hc (0, R0) (n := 2) (by omega)
  generalize nx2 c (0, R0) 2 = T2 at *
  unfold dicA at *
  refine con_of_vc Tryz.mixed ⟨31, [], [1000000 + 37, 1000000 + 47, 2000000 + 52, 2000000 + 54], []⟩ Tryz.func7 (by decide) rfl (by simp) (by decide) (by simp [freshOK, freshL, go_sem]) ?_
  rw [Tryz.ntmps7]
  simp [go_sem]
  refine CallVC.of (cB) (by decide) ?_
  simp [go_sem]
  simp [go_sem, hc4]
  refine ⟨_, cD, ?_⟩
  rintro _ _ ⟨rfl, a, hDa, rfl⟩
  have la := hDa.2.1
  have c1 := RaiseOrder_c a (by omega)
  have c2 := sRaiseOrder_r a (by omega)
  simp [go_sem]
  refine CallVC.of (c1) (by decide) ?_
  simp [go_sem]
  refine ⟨_, c2, ?_⟩
  rintro _ _ ⟨rfl, XX, rfl⟩
  by_cases hk : ckC a = 0
  ·have hA := ckC_ch hk
   have cI := IsSymmetricMap_k a hA
   have cO := OrderOfMap_k a hA
   have ob := agS_ch hA exaS_ch
   have hroC : roC a = if roB a = true then 0 else 5 := by unfold roC; rw [if_pos hk]
   by_cases hro : roB a = true
   ·rw [if_pos hro] at hroC
    have hro2 := hro
    unfold roB at hro2
    simp only [Bool.and_eq_true, decide_eq_true_eq] at hro2
    obtain ⟨hp4, hsy⟩ := hro2
    have hS := (sym_iff hA).1 hsy
    have ev := sym_ord hA hS
    have eX : roX a = cmS a (jmL (agS a exaS) 1) := by unfold roX; rw [if_pos hroC]
    obtain ⟨r1, r2⟩ := jm_raise hA hS hp4 (s := 1) (.inl rfl)
    obtain ⟨r3, r4⟩ := jm_raise hA hS hp4 (s := 2) (.inr rfl)
    have x1 := cmS_ch hA (jmL (agS a exaS) 1)
    have x2 := cmS_ch hA (jmL (agS a exaS) 2)
    have cO1 := OrderOfMap_k _ x1
    have cI1 := IsSymmetricMap_k _ x1
    rw [(sym_iff x1).2 r1] at cI1
    simp only [decide_true] at cI1
    have cL2 := LongJumpSteps_c _ hp4
    have nJ := jmL_N 2 hp4
    have lJ : (jmL (agS a exaS) 2).length = 5 := by rcases hp4 with e | e <;> rw [e] <;> rfl
    have cC := ComposeSteps_c a (jmL (agS a exaS) 2) (by omega) (by omega)
    have sB : stB (jmL (agS a exaS) 2) = true := by
     unfold stB
     rw [numsB_N.2 nJ.1, lJ]; rfl
    have eC : cpC a (jmL (agS a exaS) 2) = 0 := by unfold cpC; rw [if_pos hA.1.mapB, if_pos sB, if_pos hA.2]
    have eY : cpX a (jmL (agS a exaS) 2) = cmS a (jmL (agS a exaS) 2) := by unfold cpX; rw [if_pos eC]
    rw [eC, eY, lJ, x2.1.1] at cC
    have cO2 := OrderOfMap_k _ x2
    rw [x2.1.1] at cO2
    rw [x1.1.1] at cO1 cI1
    rw [hsy] at cI
    simp only [decide_true] at cI
    rw [eX, x1.1.1, hroC]
    have b1 := agS_ch x1 exaS_ch
    have b2 := agS_ch x2 exaS_ch
    have evt : (agS a exaS).tmod 2 = 0 := by rw [Int.tmod_eq_emod_of_nonneg ob.1]; exact ev
    clear eX eY eC sB x1 x2 r1 r3 hS ev hro hroC c1 c2
    generalize cmS a (jmL (agS a exaS) 1) = X1 at *
    generalize cmS a (jmL (agS a exaS) 2) = X2 at *
    generalize jmL (agS a exaS) 2 = JJ at *
    generalize agS a exaS = p0 at *
    generalize agS X1 exaS = p1 at *
    generalize agS X2 exaS = p2 at *
    rcases hp4 with hp4 | hp4
    ·subst hp4
     simp [go_sem]
     refine CallVC.of (cI) (by decide) ?_
     simp [go_sem]
     refine CallVC.of (cO) (by decide) ?_
     simp -implicitDefEqProofs [go_sem, evt]
     refine ⟨_, _, cR, ?_⟩
     simp [go_sem]
     refine ⟨_, _, cK, ?_⟩
     simp [go_sem]
     generalize hnx : nx1 c (0, R0) 2 = k at *
     have hp : 2 + 2 * k = 2 ∨ 2 + 2 * k = 4 := by omega
     have cJ := JumpSteps_c (2 + 2 * k) hp
     have cL := LongJumpSteps_c (2 + 2 * k) hp
     have l1 : (jmL (2 + 2 * k) 1).length = 3 := by rcases hp with e | e <;> rw [e] <;> rfl
     have l2 : (jmL (2 + 2 * k) 2).length = 5 := by rcases hp with e | e <;> rw [e] <;> rfl
     have j1 := jm_at hp (s := 1) (.inl rfl)
     have j2 := jm_at hp (s := 2) (.inr rfl)
     have n1 := jmL_N 1 hp
     have n2 := jmL_N 2 hp
     have cS1 := StepSums_k (jmL (2 + 2 * k) 1) n1.1 (by omega) (by omega)
     have cS2 := StepSums_k (jmL (2 + 2 * k) 2) n2.1 (by omega) (by omega)
     rw [l1] at cS1
     rw [l2] at cS2
     obtain ⟨q, hq⟩ : ∃ q : Nat, 2 + 2 * k = q := ⟨(2 + 2 * k).toNat, by omega⟩
     have hq4 : q = 2 ∨ q = 4 := by omega
     rw [hq] at hp cJ cL j1 j2 cS1 cS2 ⊢
     rw [Int.toNat_natCast] at j1 j2
     have s1 := ssL_len (jmL q 1)
     have s2 := ssL_len (jmL q 2)
     have o1 := avs_dropI (a := ssL (jmL q 1)) (v := 0) (by omega)
     have o2 := avs_dropI (a := ssL (jmL q 2)) (v := 0) (by omega)
     have o3 := avs_dropI (a := ssL (jmL q 1)) (v := q) (by omega)
     have o4 := avs_dropI (a := ssL (jmL q 2)) (v := q) (by omega)
     rw [ssL_at _ (by omega), sumPw_1, j1.2.1, List.drop_zero] at o1
     rw [ssL_at _ (by omega), sumPw_1, j2.2.1, List.drop_zero] at o2
     rw [ssL_at _ (by omega), j1.2.2] at o3
     rw [ssL_at _ (by omega), j2.2.2] at o4
     rw [Nat.zero_add, List.drop_one] at o1 o2
     have g3 : (AV.int 1 :: avs (ssL (jmL q 1)).tail)[q]? = some (.int 0) := by
      have h := List.getElem?_drop (xs := avs (ssL (jmL q 1))) (i := q) (j := 0)
      rw [o3] at h
      rw [← o1]
      simpa using h.symm
     have g4 : (AV.int 1 :: avs (ssL (jmL q 2)).tail)[q]? = some (.int 0) := by
      have h := List.getElem?_drop (xs := avs (ssL (jmL q 2))) (i := q) (j := 0)
      rw [o4] at h
      rw [← o2]
      simpa using h.symm
     have hq6 : (q : Int) < 6 := by omega
     have nS1 : ¬ ssL (jmL q 1) = [] := by intro e; rw [e] at s1; simp at s1
     have nS2 : ¬ ssL (jmL q 2) = [] := by intro e; rw [e] at s2; simp at s2
     generalize ssL (jmL q 1) = S1 at *
     generalize ssL (jmL q 2) = S2 at *
     generalize jmL q 1 = J1 at *
     generalize jmL q 2 = J2 at *
     refine ⟨⟨by omega, by omega⟩, ⟨by omega, by omega⟩, ?_⟩
     refine CallVC.of (cJ) (by decide) ?_
     simp [go_sem]
     refine CallVC.of (cL) (by decide) ?_
     simp [go_sem]
     refine CallVC.of (cS1) (by decide) ?_
     simp [go_sem]
     refine CallVC.of (cS2) (by decide) ?_
     simp -implicitDefEqProofs [go_sem, o1, o2, g3, g4, hq6]
     refine CallVC.of (cO1) (by decide) ?_
     simp [go_sem]
     refine CallVC.of (cI1) (by decide) ?_
     simp [go_sem]
     refine CallVC.of (cL2) (by decide) ?_
     simp [go_sem]
     refine CallVC.of (cC) (by decide) ?_
     simp [go_sem]
     simp only [Int.reduceAdd] at r2 r4
     refine CallVC.of (cO2) (by decide) ?_
     simp -implicitDefEqProofs [go_sem, r2, r4]
    ·subst hp4
     simp [go_sem]
     refine CallVC.of (cI) (by decide) ?_
     simp [go_sem]
     refine CallVC.of (cO) (by decide) ?_
     simp -implicitDefEqProofs [go_sem, evt]
     refine ⟨_, _, cR, ?_⟩
     simp [go_sem]
     refine ⟨_, _, cK, ?_⟩
     simp [go_sem]
     generalize hnx : nx1 c (0, R0) 2 = k at *
     have hp : 2 + 2 * k = 2 ∨ 2 + 2 * k = 4 := by omega
     have cJ := JumpSteps_c (2 + 2 * k) hp
     have cL := LongJumpSteps_c (2 + 2 * k) hp
     have l1 : (jmL (2 + 2 * k) 1).length = 3 := by rcases hp with e | e <;> rw [e] <;> rfl
     have l2 : (jmL (2 + 2 * k) 2).length = 5 := by rcases hp with e | e <;> rw [e] <;> rfl
     have j1 := jm_at hp (s := 1) (.inl rfl)
     have j2 := jm_at hp (s := 2) (.inr rfl)
     have n1 := jmL_N 1 hp
     have n2 := jmL_N 2 hp
     have cS1 := StepSums_k (jmL (2 + 2 * k) 1) n1.1 (by omega) (by omega)
     have cS2 := StepSums_k (jmL (2 + 2 * k) 2) n2.1 (by omega) (by omega)
     rw [l1] at cS1
     rw [l2] at cS2
     obtain ⟨q, hq⟩ : ∃ q : Nat, 2 + 2 * k = q := ⟨(2 + 2 * k).toNat, by omega⟩
     have hq4 : q = 2 ∨ q = 4 := by omega
     rw [hq] at hp cJ cL j1 j2 cS1 cS2 ⊢
     rw [Int.toNat_natCast] at j1 j2
     have s1 := ssL_len (jmL q 1)
     have s2 := ssL_len (jmL q 2)
     have o1 := avs_dropI (a := ssL (jmL q 1)) (v := 0) (by omega)
     have o2 := avs_dropI (a := ssL (jmL q 2)) (v := 0) (by omega)
     have o3 := avs_dropI (a := ssL (jmL q 1)) (v := q) (by omega)
     have o4 := avs_dropI (a := ssL (jmL q 2)) (v := q) (by omega)
     rw [ssL_at _ (by omega), sumPw_1, j1.2.1, List.drop_zero] at o1
     rw [ssL_at _ (by omega), sumPw_1, j2.2.1, List.drop_zero] at o2
     rw [ssL_at _ (by omega), j1.2.2] at o3
     rw [ssL_at _ (by omega), j2.2.2] at o4
     rw [Nat.zero_add, List.drop_one] at o1 o2
     have g3 : (AV.int 1 :: avs (ssL (jmL q 1)).tail)[q]? = some (.int 0) := by
      have h := List.getElem?_drop (xs := avs (ssL (jmL q 1))) (i := q) (j := 0)
      rw [o3] at h
      rw [← o1]
      simpa using h.symm
     have g4 : (AV.int 1 :: avs (ssL (jmL q 2)).tail)[q]? = some (.int 0) := by
      have h := List.getElem?_drop (xs := avs (ssL (jmL q 2))) (i := q) (j := 0)
      rw [o4] at h
      rw [← o2]
      simpa using h.symm
     have hq6 : (q : Int) < 6 := by omega
     have nS1 : ¬ ssL (jmL q 1) = [] := by intro e; rw [e] at s1; simp at s1
     have nS2 : ¬ ssL (jmL q 2) = [] := by intro e; rw [e] at s2; simp at s2
     generalize ssL (jmL q 1) = S1 at *
     generalize ssL (jmL q 2) = S2 at *
     generalize jmL q 1 = J1 at *
     generalize jmL q 2 = J2 at *
     refine ⟨⟨by omega, by omega⟩, ⟨by omega, by omega⟩, ?_⟩
     refine CallVC.of (cJ) (by decide) ?_
     simp [go_sem]
     refine CallVC.of (cL) (by decide) ?_
     simp [go_sem]
     refine CallVC.of (cS1) (by decide) ?_
     simp [go_sem]
     refine CallVC.of (cS2) (by decide) ?_
     simp -implicitDefEqProofs [go_sem, o1, o2, g3, g4, hq6]
     refine CallVC.of (cO1) (by decide) ?_
     simp [go_sem]
     refine CallVC.of (cI1) (by decide) ?_
     simp [go_sem]
     refine CallVC.of (cL2) (by decide) ?_
     simp [go_sem]
     refine CallVC.of (cC) (by decide) ?_
     simp [go_sem]
     simp only [Int.reduceAdd] at r2 r4
     refine CallVC.of (cO2) (by decide) ?_
     simp -implicitDefEqProofs [go_sem, r2, r4]
   ·rw [if_neg hro] at hroC
    have eX : roX a = [] := by unfold roX; rw [if_neg (by omega)]
    rw [eX, hroC]
    clear c1 c2 eX hroC
    by_cases hsy : invS (scS (-1) a) = a
    ·have hS := (sym_iff hA).1 hsy
     have ev := sym_ord hA hS
     rw [hsy] at cI
     simp only [decide_true] at cI
     have h24 : ¬ agS a exaS = 2 ∧ ¬ agS a exaS = 4 := by
      unfold roB at hro
      simp only [hsy, decide_true, Bool.and_true, decide_eq_true_eq] at hro
      exact ⟨fun e => hro (.inl e), fun e => hro (.inr e)⟩
     have evt : (agS a exaS).tmod 2 = 0 := by rw [Int.tmod_eq_emod_of_nonneg ob.1]; exact ev
     generalize agS a exaS = p0 at *
     simp [go_sem]
     refine CallVC.of (cI) (by decide) ?_
     simp [go_sem]
     refine CallVC.of (cO) (by decide) ?_
     simp -implicitDefEqProofs [go_sem, evt, h24]
     refine ⟨_, _, cR, ?_⟩
     simp [go_sem]
     refine ⟨_, _, cK, ?_⟩
     simp [go_sem]
     generalize hnx : nx1 c (0, R0) 2 = k at *
     have hp : 2 + 2 * k = 2 ∨ 2 + 2 * k = 4 := by omega
     have cJ := JumpSteps_c (2 + 2 * k) hp
     have cL := LongJumpSteps_c (2 + 2 * k) hp
     have l1 : (jmL (2 + 2 * k) 1).length = 3 := by rcases hp with e | e <;> rw [e] <;> rfl
     have l2 : (jmL (2 + 2 * k) 2).length = 5 := by rcases hp with e | e <;> rw [e] <;> rfl
     have j1 := jm_at hp (s := 1) (.inl rfl)
     have j2 := jm_at hp (s := 2) (.inr rfl)
     have n1 := jmL_N 1 hp
     have n2 := jmL_N 2 hp
     have cS1 := StepSums_k (jmL (2 + 2 * k) 1) n1.1 (by omega) (by omega)
     have cS2 := StepSums_k (jmL (2 + 2 * k) 2) n2.1 (by omega) (by omega)
     rw [l1] at cS1
     rw [l2] at cS2
     obtain ⟨q, hq⟩ : ∃ q : Nat, 2 + 2 * k = q := ⟨(2 + 2 * k).toNat, by omega⟩
     have hq4 : q = 2 ∨ q = 4 := by omega
     rw [hq] at hp cJ cL j1 j2 cS1 cS2 ⊢
     rw [Int.toNat_natCast] at j1 j2
     have s1 := ssL_len (jmL q 1)
     have s2 := ssL_len (jmL q 2)
     have o1 := avs_dropI (a := ssL (jmL q 1)) (v := 0) (by omega)
     have o2 := avs_dropI (a := ssL (jmL q 2)) (v := 0) (by omega)
     have o3 := avs_dropI (a := ssL (jmL q 1)) (v := q) (by omega)
     have o4 := avs_dropI (a := ssL (jmL q 2)) (v := q) (by omega)
     rw [ssL_at _ (by omega), sumPw_1, j1.2.1, List.drop_zero] at o1
     rw [ssL_at _ (by omega), sumPw_1, j2.2.1, List.drop_zero] at o2
     rw [ssL_at _ (by omega), j1.2.2] at o3
     rw [ssL_at _ (by omega), j2.2.2] at o4
     rw [Nat.zero_add, List.drop_one] at o1 o2
     have g3 : (AV.int 1 :: avs (ssL (jmL q 1)).tail)[q]? = some (.int 0) := by
      have h := List.getElem?_drop (xs := avs (ssL (jmL q 1))) (i := q) (j := 0)
      rw [o3] at h
      rw [← o1]
      simpa using h.symm
     have g4 : (AV.int 1 :: avs (ssL (jmL q 2)).tail)[q]? = some (.int 0) := by
      have h := List.getElem?_drop (xs := avs (ssL (jmL q 2))) (i := q) (j := 0)
      rw [o4] at h
      rw [← o2]
      simpa using h.symm
     have hq6 : (q : Int) < 6 := by omega
     have nS1 : ¬ ssL (jmL q 1) = [] := by intro e; rw [e] at s1; simp at s1
     have nS2 : ¬ ssL (jmL q 2) = [] := by intro e; rw [e] at s2; simp at s2
     generalize ssL (jmL q 1) = S1 at *
     generalize ssL (jmL q 2) = S2 at *
     generalize jmL q 1 = J1 at *
     generalize jmL q 2 = J2 at *
     refine ⟨⟨by omega, by omega⟩, ⟨by omega, by omega⟩, ?_⟩
     refine CallVC.of (cJ) (by decide) ?_
     simp [go_sem]
     refine CallVC.of (cL) (by decide) ?_
     simp [go_sem]
     refine CallVC.of (cS1) (by decide) ?_
     simp [go_sem]
     refine CallVC.of (cS2) (by decide) ?_
     simp -implicitDefEqProofs [go_sem, o1, o2, g3, g4, hq6]
    ·simp only [hsy, decide_false] at cI
     generalize agS a exaS = p0 at *
     simp [go_sem]
     refine CallVC.of (cI) (by decide) ?_
     simp [go_sem]
     refine CallVC.of (cO) (by decide) ?_
     simp -implicitDefEqProofs [go_sem]
     refine ⟨_, _, cR, ?_⟩
     simp [go_sem]
     refine ⟨_, _, cK, ?_⟩
     simp [go_sem]
     generalize hnx : nx1 c (0, R0) 2 = k at *
     have hp : 2 + 2 * k = 2 ∨ 2 + 2 * k = 4 := by omega
     have cJ := JumpSteps_c (2 + 2 * k) hp
     have cL := LongJumpSteps_c (2 + 2 * k) hp
     have l1 : (jmL (2 + 2 * k) 1).length = 3 := by rcases hp with e | e <;> rw [e] <;> rfl
     have l2 : (jmL (2 + 2 * k) 2).length = 5 := by rcases hp with e | e <;> rw [e] <;> rfl
     have j1 := jm_at hp (s := 1) (.inl rfl)
     have j2 := jm_at hp (s := 2) (.inr rfl)
     have n1 := jmL_N 1 hp
     have n2 := jmL_N 2 hp
     have cS1 := StepSums_k (jmL (2 + 2 * k) 1) n1.1 (by omega) (by omega)
     have cS2 := StepSums_k (jmL (2 + 2 * k) 2) n2.1 (by omega) (by omega)
     rw [l1] at cS1
     rw [l2] at cS2
     obtain ⟨q, hq⟩ : ∃ q : Nat, 2 + 2 * k = q := ⟨(2 + 2 * k).toNat, by omega⟩
     have hq4 : q = 2 ∨ q = 4 := by omega
     rw [hq] at hp cJ cL j1 j2 cS1 cS2 ⊢
     rw [Int.toNat_natCast] at j1 j2
     have s1 := ssL_len (jmL q 1)
     have s2 := ssL_len (jmL q 2)
     have o1 := avs_dropI (a := ssL (jmL q 1)) (v := 0) (by omega)
     have o2 := avs_dropI (a := ssL (jmL q 2)) (v := 0) (by omega)
     have o3 := avs_dropI (a := ssL (jmL q 1)) (v := q) (by omega)
     have o4 := avs_dropI (a := ssL (jmL q 2)) (v := q) (by omega)
     rw [ssL_at _ (by omega), sumPw_1, j1.2.1, List.drop_zero] at o1
     rw [ssL_at _ (by omega), sumPw_1, j2.2.1, List.drop_zero] at o2
     rw [ssL_at _ (by omega), j1.2.2] at o3
     rw [ssL_at _ (by omega), j2.2.2] at o4
     rw [Nat.zero_add, List.drop_one] at o1 o2
     have g3 : (AV.int 1 :: avs (ssL (jmL q 1)).tail)[q]? = some (.int 0) := by
      have h := List.getElem?_drop (xs := avs (ssL (jmL q 1))) (i := q) (j := 0)
      rw [o3] at h
      rw [← o1]
      simpa using h.symm
     have g4 : (AV.int 1 :: avs (ssL (jmL q 2)).tail)[q]? = some (.int 0) := by
      have h := List.getElem?_drop (xs := avs (ssL (jmL q 2))) (i := q) (j := 0)
      rw [o4] at h
      rw [← o2]
      simpa using h.symm
     have hq6 : (q : Int) < 6 := by omega
     have nS1 : ¬ ssL (jmL q 1) = [] := by intro e; rw [e] at s1; simp at s1
     have nS2 : ¬ ssL (jmL q 2) = [] := by intro e; rw [e] at s2; simp at s2
     generalize ssL (jmL q 1) = S1 at *
     generalize ssL (jmL q 2) = S2 at *
     generalize jmL q 1 = J1 at *
     generalize jmL q 2 = J2 at *
     refine ⟨⟨by omega, by omega⟩, ⟨by omega, by omega⟩, ?_⟩
     refine CallVC.of (cJ) (by decide) ?_
     simp [go_sem]
     refine CallVC.of (cL) (by decide) ?_
     simp [go_sem]
     refine CallVC.of (cS1) (by decide) ?_
     simp [go_sem]
     refine CallVC.of (cS2) (by decide) ?_
     simp -implicitDefEqProofs [go_sem, o1, o2, g3, g4, hq6]
  ·have cI := IsSymmetricMap_n a (by omega) hk
   have cO := OrderOfMap_n a (by omega) hk
   have hroC : roC a = ckC a := by unfold roC; rw [if_neg hk]
   have eX : roX a = [] := by unfold roX; rw [if_neg (by omega)]
   rw [eX, hroC]
   clear hroC eX c1 c2
   generalize ckC a = e at *
   simp [go_sem]
   refine CallVC.of (cI) (by decide) ?_
   simp [go_sem]
   refine CallVC.of (cO) (by decide) ?_
   simp -implicitDefEqProofs [go_sem, hk]
   refine ⟨_, _, cR, ?_⟩
   simp [go_sem]
   refine ⟨_, _, cK, ?_⟩
   simp [go_sem]
   generalize hnx : nx1 c (0, R0) 2 = k at *
   have hp : 2 + 2 * k = 2 ∨ 2 + 2 * k = 4 := by omega
   have cJ := JumpSteps_c (2 + 2 * k) hp
   have cL := LongJumpSteps_c (2 + 2 * k) hp
   have l1 : (jmL (2 + 2 * k) 1).length = 3 := by rcases hp with e | e <;> rw [e] <;> rfl
   have l2 : (jmL (2 + 2 * k) 2).length = 5 := by rcases hp with e | e <;> rw [e] <;> rfl
   have j1 := jm_at hp (s := 1) (.inl rfl)
   have j2 := jm_at hp (s := 2) (.inr rfl)
   have n1 := jmL_N 1 hp
   have n2 := jmL_N 2 hp
   have cS1 := StepSums_k (jmL (2 + 2 * k) 1) n1.1 (by omega) (by omega)
   have cS2 := StepSums_k (jmL (2 + 2 * k) 2) n2.1 (by omega) (by omega)
   rw [l1] at cS1
   rw [l2] at cS2
   obtain ⟨q, hq⟩ : ∃ q : Nat, 2 + 2 * k = q := ⟨(2 + 2 * k).toNat, by omega⟩
   have hq4 : q = 2 ∨ q = 4 := by omega
   rw [hq] at hp cJ cL j1 j2 cS1 cS2 ⊢
   rw [Int.toNat_natCast] at j1 j2
   have s1 := ssL_len (jmL q 1)
   have s2 := ssL_len (jmL q 2)
   have o1 := avs_dropI (a := ssL (jmL q 1)) (v := 0) (by omega)
   have o2 := avs_dropI (a := ssL (jmL q 2)) (v := 0) (by omega)
   have o3 := avs_dropI (a := ssL (jmL q 1)) (v := q) (by omega)
   have o4 := avs_dropI (a := ssL (jmL q 2)) (v := q) (by omega)
   rw [ssL_at _ (by omega), sumPw_1, j1.2.1, List.drop_zero] at o1
   rw [ssL_at _ (by omega), sumPw_1, j2.2.1, List.drop_zero] at o2
   rw [ssL_at _ (by omega), j1.2.2] at o3
   rw [ssL_at _ (by omega), j2.2.2] at o4
   rw [Nat.zero_add, List.drop_one] at o1 o2
   have g3 : (AV.int 1 :: avs (ssL (jmL q 1)).tail)[q]? = some (.int 0) := by
    have h := List.getElem?_drop (xs := avs (ssL (jmL q 1))) (i := q) (j := 0)
    rw [o3] at h
    rw [← o1]
    simpa using h.symm
   have g4 : (AV.int 1 :: avs (ssL (jmL q 2)).tail)[q]? = some (.int 0) := by
    have h := List.getElem?_drop (xs := avs (ssL (jmL q 2))) (i := q) (j := 0)
    rw [o4] at h
    rw [← o2]
    simpa using h.symm
   have hq6 : (q : Int) < 6 := by omega
   have nS1 : ¬ ssL (jmL q 1) = [] := by intro e; rw [e] at s1; simp at s1
   have nS2 : ¬ ssL (jmL q 2) = [] := by intro e; rw [e] at s2; simp at s2
   generalize ssL (jmL q 1) = S1 at *
   generalize ssL (jmL q 2) = S2 at *
   generalize jmL q 1 = J1 at *
   generalize jmL q 2 = J2 at *
   refine ⟨⟨by omega, by omega⟩, ⟨by omega, by omega⟩, ?_⟩
   refine CallVC.of (cJ) (by decide) ?_
   simp [go_sem]
   refine CallVC.of (cL) (by decide) ?_
   simp [go_sem]
   refine CallVC.of (cS1) (by decide) ?_
   simp [go_sem]
   refine CallVC.of (cS2) (by decide) ?_
   simp -implicitDefEqProofs [go_sem, o1, o2, g3, g4, hq6, hk]
end Go.Proofs.YtphccfabekdmnaaGreat

