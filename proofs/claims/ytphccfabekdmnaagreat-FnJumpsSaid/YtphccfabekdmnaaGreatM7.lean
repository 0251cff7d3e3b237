/- Texts of the own layer and contracts, part 7: W47 N10 W49 E43 E44 E45 E46 E47 V15 W51 W50 W52 W53 W62 W33 W54 W55 Q15 Q16 Q17 Q18 Q19 Q20 Q21 Q22 Q23 Q24 Q25 Q26 Q30 Q31 Q32 Q33 Q44 W0. -/
import Derived.Test.YtphccfabekdmnaaGreatM6
set_option linter.unusedSectionVars false
set_option linter.unusedVariables false
set_option linter.unusedSimpArgs false
set_option maxHeartbeats 4000000
set_option maxRecDepth 100000
namespace Go.Proofs.YtphccfabekdmnaaGreat
open Go.Abs
theorem spFs_frz : ∀ X : List Spl, frzL (X.flatMap spF) = X.flatMap spF
 | [] => rfl
 | s :: X => by
  have := spFs_frz X
  simp only [List.flatMap_cons, spF, List.cons_append, List.nil_append]
  simp [frzL, frz, this]
theorem spF_drop {L : List Spl} {i : Nat} (h : i < L.length) : (L.flatMap spF).drop (i * 3) = spF (L[i]?.getD ([], [], 0)) ++ (L.drop (i + 1)).flatMap spF := by
 have e1 : ((L.take i).flatMap spF).length = i * 3 := by rw [spF_len, List.length_take, Nat.min_eq_left (by omega)]
 have e2 : L.drop i = L[i]?.getD ([], [], 0) :: L.drop (i + 1) := by rw [List.drop_eq_getElem_cons h]; simp [h]
 have e3 : L.flatMap spF = (L.take i).flatMap spF ++ (L.drop i).flatMap spF := by rw [← List.flatMap_append, List.take_append_drop]
 rw [e3, List.drop_append_of_le_length (by omega), e2, List.flatMap_cons, List.drop_eq_nil_of_le (by omega), List.nil_append]
def xS (n : Nat) (bs : List (List Int)) (i : Nat) : AV := if i = 0 then .own 208 1 [.val (.slice none 0 0), .val (.slice none 0 0), .int 0] else .own 208 (fldS n (bs.take i)).length ((fldS n (bs.take i)).flatMap spF)
def mxT (n : Nat) (L : List Spl) (j : Nat) : List AV := ((L.take j).map (canS n)).flatMap spF ++ (L.drop j).flatMap spF
theorem mxT_zero (n : Nat) (L : List Spl) : mxT n L 0 = L.flatMap spF := by simp [mxT]
theorem mxT_all (n : Nat) (L : List Spl) : mxT n L L.length = (L.map (canS n)).flatMap spF := by simp [mxT]
theorem mxT_len (n : Nat) (L : List Spl) {j : Nat} (h : j ≤ L.length) : (mxT n L j).length = L.length * 3 := by
 unfold mxT
 rw [List.length_append, spF_len, spF_len, List.length_map, List.length_take, List.length_drop, Nat.min_eq_left h]; omega
theorem mxT_drop (n : Nat) {L : List Spl} {j : Nat} (h : j < L.length) : (mxT n L j).drop (j * 3) = spF (L[j]?.getD ([], [], 0)) ++ (L.drop (j + 1)).flatMap spF := by
 have e1 : (((L.take j).map (canS n)).flatMap spF).length = j * 3 := by rw [spF_len, List.length_map, List.length_take, Nat.min_eq_left (by omega)]
 have e2 : L.drop j = L[j]?.getD ([], [], 0) :: L.drop (j + 1) := by rw [List.drop_eq_getElem_cons h]; simp [h]
 unfold mxT
 rw [List.drop_append_of_le_length (by omega), e2, List.flatMap_cons, List.drop_eq_nil_of_le (by omega), List.nil_append]
theorem set1 (R : List AV) (x1 x2 y : AV) : ∀ P : List AV, (P ++ x1 :: x2 :: R).set (P.length + 1) y = P ++ x1 :: y :: R
 | [] => rfl
 | p :: P => by
  have := set1 R x1 x2 y P
  simp only [List.cons_append, List.length_cons, List.set_cons_succ]
  rw [this]
theorem mxT_set (n : Nat) {L : List Spl} {j : Nat} (h : j < L.length) : (mxT n L j).set (j * 3 + 1) (.sl 1 (mat [canF (n + 1) (rootL (L[j]?.getD ([], [], 0)).2.1)])) = mxT n L (j + 1) := by
 have e1 : (((L.take j).map (canS n)).flatMap spF).length = j * 3 := by rw [spF_len, List.length_map, List.length_take, Nat.min_eq_left (by omega)]
 have e2 : L.drop j = L[j]?.getD ([], [], 0) :: L.drop (j + 1) := by rw [List.drop_eq_getElem_cons h]; simp [h]
 have e3 : L.take (j + 1) = L.take j ++ [L[j]?.getD ([], [], 0)] := by
  rw [List.take_succ_eq_append_getElem h, List.getElem?_eq_getElem h]; rfl
 unfold mxT
 rw [e2, e3, List.flatMap_cons, List.map_append, List.flatMap_append, ← e1]
 refine (set1 _ _ _ _ _).trans ?_
 simp [canS, spF]
def zS (M : List Spl) (j : Nat) : AV := if j = 0 then .own 208 0 [] else .own 208 M.length (M.flatMap spF)
theorem splitTree_c : ∀ (n : Nat) (t : List Int), splOk n t = true →
  GCon Tryz.prog 273 [.sl t.length (avs t)] (.own 208 (spl n t).length ((spl n t).flatMap spF)) [.any] := by
 intro n
 induction n with
 | zero => intro t h; simp [splOk] at h
 | succ n ih =>
  intro t h
  obtain ⟨h1, h2, h3, h4, h5, h6⟩ := splOk_spec h
  have cB := branchesOf_c t (by omega) h2
  by_cases hb : brs t = []
  ·exact splitTree_leaf h1 h2 h3 hb
  rw [spl_succ]
  refine GCon.nwRes (cs := ((fldS n (brs t)).map (canS n)).flatMap spF ++ [.sl 1 (mat [canF (n + 1) t]), .val (.slice none 0 0), .int 0]) (by rw [List.flatMap_append]; exact NWL.app (.cons (.same _) (.cons .nil (.cons (.same _) .nil))) _) ?_
  have cT := canonical_c (n + 1) t h1 h2 h3
  refine gcon_of_vc Tryz.mixed ⟨6, [16, 23, 42, 48, 69, 76], [1000000 + 273, 1000000 + 319], []⟩ [2] [] Tryz.func273 (by decide) rfl rfl (by simp) (by simp) (by decide) ?_
  rw [Tryz.ntmps273]
  simp [go_sem]
  refine CallVC.of (cB) (by decide) ?_
  simp [go_sem]
  have bl : (brs t).length < t.length := brs_cnt h2
  generalize brs t = bs at *
  refine loop_inv (3 :: 5 :: 6 :: 8 :: 10 :: List.range' 18 38) (fun i : Nat => [(3, xS n bs i), (18, .int i)]) (fun i => i ≤ bs.length) (fun i => bs.length - i) 0 (by simp) (by simp [go_sem, xS]) (by simp [go_sem, xS]) ?_
  intro i hi
  by_cases hib : i < bs.length
  ·have hii : (i : Int) < bs.length := by omega
   have hm : bs[i]?.getD [] ∈ bs := memD [] hib
   obtain ⟨b1, b2, b3⟩ := h4 _ hm
   have cI := ih _ b1
   have md := mat_drop hib
   have sn : fldS n (bs.take (i + 1)) = mulSp (fldS n (bs.take i)) (spl n (bs[i]?.getD [])) := by
    rw [List.take_succ_eq_append_getElem hib, fldS_snoc, List.getElem?_eq_getElem hib]; rfl
   obtain ⟨l1, l2⟩ := h5 i hi
   obtain ⟨l3, l4⟩ := h5 (i + 1) (by omega)
   rw [sn] at l3 l4
   generalize bs[i]?.getD [] = b at *
   generalize spl n b = M at *
   by_cases hi0 : i = 0
   ·have hx : xS n bs i = .own 208 1 [.val (.slice none 0 0), .val (.slice none 0 0), .int 0] := by unfold xS; rw [if_pos hi0]
    rw [hx]
    have L0 : fldS n (bs.take i) = [([], [], 0)] := by rw [hi0]; simp [fldS]
    have M0 : mulSp [([], [], 0)] M = M := by
     have e : mulSp [([], [], 0)] M = M.map fun c => (c.1, c.2.1, (0 : Int)) := by simp [mulSp]
     rw [e]
     refine (List.map_congr_left (g := id) fun c hc => ?_).trans (List.map_id _)
     obtain ⟨_, _, c3⟩ := smS_spec (b3 c hc)
     obtain ⟨a, b, c⟩ := c
     simp only at c3
     subst c3; rfl
    rw [L0, M0] at sn
    have hx1 : xS n bs (i + 1) = .own 208 M.length (M.flatMap spF) := by unfold xS; rw [if_neg (by omega), sn]
    simp [go_sem, hii, md, frzL, frz]
    refine ⟨hb, ?_⟩
    refine loop_inv (6 :: 8 :: 10 :: List.range' 25 29) (fun j : Nat => [(6, zS M j), (25, .int j)]) (fun j => j ≤ 1) (fun j => 1 - j) 0 (by simp) (by simp [go_sem, zS]) (by simp [go_sem, zS]) ?_
    intro j hj
    have hj01 : j = 0 ∨ j = 1 := by omega
    rcases hj01 with rfl | rfl
    ·simp [go_sem, zS]
     refine ⟨_, _, cI, ?_⟩
     simp [go_sem]
     refine loop_inv (6 :: 10 :: List.range' 32 21) (fun k : Nat => [(6, .own 208 k ((M.take k).flatMap spF)), (32, .int k)]) (fun k => k ≤ M.length) (fun k => M.length - k) 0 (by simp) (by simp [go_sem]) (by simp [go_sem]) ?_
     intro k hk
     by_cases hkm : k < M.length
     ·have hki : (k : Int) < M.length := by omega
      have dr2 := spF_drop hkm
      have nM : ¬ M.flatMap spF = [] := by intro e; have := spF_len M; rw [e] at this; simp at this; omega
      obtain ⟨c1, c2, c3⟩ := smS_spec (b3 _ (memD ([], [], 0) hkm))
      have tk : M.take (k + 1) = M.take k ++ [M[k]?.getD ([], [], 0)] := by
       rw [List.take_succ_eq_append_getElem hkm, List.getElem?_eq_getElem hkm]; rfl
      have cA := Concat2_z (M[k]?.getD ([], [], 0)).1 (by omega)
      have cC := Concat2_z (M[k]?.getD ([], [], 0)).2.1 (by omega)
      generalize M[k]?.getD ([], [], 0) = c at *
      obtain ⟨ca, cb, cc⟩ := c
      simp only [spF] at dr2
      simp only at c1 c2 c3 tk cA cC
      subst c3
      have cl := spF_len (M.take k)
      rw [List.length_take, Nat.min_eq_left (by omega)] at cl
      have lM := spF_len M
      generalize hC : (M.take k).flatMap spF = C at *
      generalize hMC : M.flatMap spF = MC at *
      simp [go_sem, hki, dr2]
      refine ⟨⟨nM, by omega⟩, by kernel_rfl, ?_⟩
      refine ⟨_, _, cA, ?_⟩
      simp [go_sem]
      refine ⟨_, _, cC, ?_⟩
      simp [go_sem]
      refine ⟨⟨by rw [cl], by omega, by omega⟩, ?_⟩
      refine ⟨by kernel_rfl, ?_⟩
      simp [go_sem]
      refine ⟨⟨by omega, by omega⟩, k + 1, by omega, by omega, Off_reset _ _ _ (by simp), ?_⟩
      refine ⟨⟨by omega, ?_⟩, by omega⟩
      rw [tk, List.flatMap_append, hC]
      simp [spF]
     ·have e : k = M.length := by omega
      subst e
      have hki : ¬ (M.length : Int) < M.length := by omega
      rw [List.take_length]
      simp [go_sem, hki]
      exact ⟨1, by omega, by omega, (Off.reset (by intro x hx; simp at hx ⊢; omega) (by simp) (by simp [go_sem, Off_reset])), by simp [zS], by simp [zS, go_sem]⟩
    ·simp [go_sem, zS]
     exact ⟨⟨by omega, by omega⟩, i + 1, by omega, by omega, (Off.reset (by intro x hx; simp at hx ⊢; omega) (by simp) (by simp [go_sem, Off_reset])), ⟨by rw [hx1], by omega⟩, by simp [hx1, go_sem]⟩
   ·have hx : xS n bs i = .own 208 (fldS n (bs.take i)).length ((fldS n (bs.take i)).flatMap spF) := by unfold xS; rw [if_neg hi0]
    rw [hx]
    generalize fldS n (bs.take i) = L at *
    simp [go_sem, hii, md, spFs_frz]
    refine ⟨hb, ?_⟩
    refine loop_inv (6 :: 8 :: 10 :: List.range' 25 29) (fun j : Nat => [(6, .own 208 (mulSp (L.take j) M).length ((mulSp (L.take j) M).flatMap spF)), (25, .int j)]) (fun j => j ≤ L.length) (fun j => L.length - j) 0 (by simp) (by simp [go_sem, mulSp]) (by simp [go_sem]) ?_
    intro j hj
    by_cases hjl : j < L.length
    ·have hji : (j : Int) < L.length := by omega
     have dr := spF_drop hjl
     have ms : mulSp (L.take (j + 1)) M = mulSp (L.take j) M ++ M.map fun c => ((L[j]?.getD ([], [], 0)).1 ++ c.1, (L[j]?.getD ([], [], 0)).2.1 ++ c.2.1, (0 : Int)) := by
      rw [List.take_succ_eq_append_getElem hjl, mulSp_snoc, List.getElem?_eq_getElem hjl]; rfl
     have nL : ¬ L.flatMap spF = [] := by intro e; have := spF_len L; rw [e] at this; simp at this; omega
     have lL := spF_len L
     obtain ⟨s1, s2, s3⟩ := smS_spec (l2 _ (memD ([], [], 0) hjl))
     have ml : (mulSp (L.take j) M).length + M.length ≤ 10000 := by
      rw [mulSp_len, List.length_take, Nat.min_eq_left (by omega)]
      have := Nat.mul_le_mul (show j ≤ 99 by omega) b2
      omega
     generalize L[j]?.getD ([], [], 0) = s at *
     obtain ⟨sa, sb, sc⟩ := s
     simp only [spF] at dr
     simp only at s1 s2 s3 ms
     subst s3
     generalize mulSp (L.take j) M = A at *
     generalize L.flatMap spF = LC at *
     simp [go_sem, hji, dr]
     refine ⟨nL, ?_⟩
     refine ⟨_, _, cI, ?_⟩
     simp [go_sem]
     refine loop_inv (6 :: 10 :: List.range' 32 21) (fun k : Nat => [(6, .own 208 (A.length + k) ((A ++ (M.take k).map fun c => (sa ++ c.1, sb ++ c.2.1, (0 : Int))).flatMap spF)), (32, .int k)]) (fun k => k ≤ M.length) (fun k => M.length - k) 0 (by simp) (by simp [go_sem]) (by simp [go_sem]) ?_
     intro k hk
     by_cases hkm : k < M.length
     ·have hki : (k : Int) < M.length := by omega
      have dr2 := spF_drop hkm
      have nM : ¬ M.flatMap spF = [] := by intro e; have := spF_len M; rw [e] at this; simp at this; omega
      obtain ⟨c1, c2, c3⟩ := smS_spec (b3 _ (memD ([], [], 0) hkm))
      have tk : (M.take (k + 1)).map (fun c => (sa ++ c.1, sb ++ c.2.1, (0 : Int))) = (M.take k).map (fun c => (sa ++ c.1, sb ++ c.2.1, (0 : Int))) ++ [(sa ++ (M[k]?.getD ([], [], 0)).1, sb ++ (M[k]?.getD ([], [], 0)).2.1, 0)] := by
       rw [List.take_succ_eq_append_getElem hkm, List.map_append, List.getElem?_eq_getElem hkm]; rfl
      have cA := ConcatR_c sa (M[k]?.getD ([], [], 0)).1 (by omega)
      have cC := ConcatR_c sb (M[k]?.getD ([], [], 0)).2.1 (by omega)
      generalize M[k]?.getD ([], [], 0) = c at *
      obtain ⟨ca, cb, cc⟩ := c
      simp only [spF] at dr2
      simp only at c1 c2 c3 tk cA cC
      subst c3
      have al : (A ++ (M.take k).map fun c => (sa ++ c.1, sb ++ c.2.1, (0 : Int))).length = A.length + k := by rw [List.length_append, List.length_map, List.length_take]; omega
      have cl := spF_len (A ++ (M.take k).map fun c => (sa ++ c.1, sb ++ c.2.1, (0 : Int)))
      generalize hC : (A ++ (M.take k).map fun c => (sa ++ c.1, sb ++ c.2.1, (0 : Int))).flatMap spF = C at *
      have lM := spF_len M
      generalize hMC : M.flatMap spF = MC at *
      simp [go_sem, hki, dr2]
      refine ⟨⟨nM, by omega⟩, by kernel_rfl, ?_⟩
      refine ⟨_, _, cA, ?_⟩
      simp [go_sem]
      refine ⟨_, _, cC, ?_⟩
      simp [go_sem]
      refine ⟨⟨by rw [cl, al], by omega, by omega⟩, ?_⟩
      refine ⟨by kernel_rfl, ?_⟩
      simp [go_sem]
      refine ⟨⟨by omega, by omega⟩, k + 1, by omega, by omega, Off_reset _ _ _ (by simp), ?_⟩
      refine ⟨⟨by omega, ?_⟩, by omega⟩
      rw [← List.map_take, tk, List.flatMap_append, ← List.append_assoc, ← List.flatMap_append, hC]
      simp [spF]
     ·have e : k = M.length := by omega
      subst e
      have hki : ¬ (M.length : Int) < M.length := by omega
      rw [List.take_length]
      simp [go_sem, hki]
      refine ⟨⟨by omega, by omega⟩, j + 1, by omega, by omega, (Off.reset (by intro x hx; simp at hx ⊢; omega) (by simp) (by simp [go_sem, Off_reset])), ?_⟩
      rw [ms]
      exact ⟨⟨by simp, by rw [List.flatMap_append]⟩, by omega⟩
    ·have e : j = L.length := by omega
     subst e
     have hji : ¬ (L.length : Int) < L.length := by omega
     rw [List.take_length]
     have hx1 : xS n bs (i + 1) = .own 208 (mulSp L M).length ((mulSp L M).flatMap spF) := by unfold xS; rw [if_neg (by omega), sn]
     simp [go_sem, hji]
     exact ⟨⟨by omega, by omega⟩, i + 1, by omega, by omega, (Off.reset (by intro x hx; simp at hx ⊢; omega) (by simp) (by simp [go_sem, Off_reset])), ⟨by rw [hx1], by omega⟩, by simp [hx1, go_sem]⟩
  ·have e : i = bs.length := by omega
   subst e
   have hl0 : ¬ bs.length = 0 := by intro e; exact hb (List.length_eq_zero_iff.1 e)
   have hx : xS n bs bs.length = .own 208 (fldS n bs).length ((fldS n bs).flatMap spF) := by unfold xS; rw [if_neg hl0, List.take_length]
   have hii : ¬ (bs.length : Int) < bs.length := by omega
   obtain ⟨l1, l2⟩ := h5 bs.length (Nat.le_refl _)
   rw [List.take_length] at l1 l2
   rw [hx]
   generalize fldS n bs = L at *
   simp [go_sem, hii]
   refine loop_invA (3 :: 11 :: 12 :: 56 :: List.range' 58 15) (11 :: 12 :: List.range' 59 14) (fun j : Nat => [(3, .own 208 L.length (mxT n L j)), (56, .bor 3 []), (58, .int j)]) (fun j => j ≤ L.length) (fun j => L.length - j) 0 (by intro x i h1 h2; have : i = 3 ∨ i = 56 ∨ i = 58 := (by simp at h1 h2; omega); rcases this with rfl | rfl | rfl <;> rfl) (by intro i h; simp at h ⊢; omega) (by simp) (by simp [go_sem, mxT_zero]) (by simp [go_sem, kl]) ?_
   intro j hj
   by_cases hjl : j < L.length
   ·have hji : (j : Int) < L.length := by omega
    obtain ⟨s1, s2, s3⟩ := smS_spec (l2 _ (memD ([], [], 0) hjl))
    obtain ⟨r1, r2, r3⟩ := rtS_spec (h6 _ (memD ([], [], 0) hjl))
    have dr := mxT_drop n hjl
    have st := mxT_set n hjl
    have ml := mxT_len n L hj
    have nm : ¬ mxT n L j = [] := by intro e; rw [e] at ml; simp at ml; omega
    have cR := rootOn_c (L[j]?.getD ([], [], 0)).2.1 (by omega) (fun b hb => ⟨by have := (r3 b hb).1; omega, fun x hx => by have := (r3 b hb).2 x hx; omega⟩)
    have cK := canonical_c (n + 1) _ h1 r1 r2
    generalize L[j]?.getD ([], [], 0) = s at *
    obtain ⟨sa, sb, sc⟩ := s
    simp only [spF] at dr
    simp only at s1 s2 s3 cR cK st
    simp [go_sem, hji, dr]
    refine ⟨⟨nm, by omega⟩, ?_⟩
    refine CallVC.of (cR) (by decide) ?_
    simp [go_sem]
    refine CallVC.of (cK) (by decide) ?_
    simp [go_sem]
    simp only at r1 r2
    have e : mat [canF (n + 1) (rootL sb)] = [.sl (rootL sb).length (avs (canF (n + 1) (rootL sb)))] := by simp [mat, canF_len (n + 1) (rootL sb) r1 r2]
    rw [e] at st
    refine ⟨hjl, nm, by omega, ⟨by omega, by omega⟩, j + 1, by omega, by omega, Off_reset _ _ _ (by simp), ?_⟩
    first
     | exact ⟨st, by omega⟩
     | (refine ⟨?_, by omega⟩; simpa using st)
     | simp [st]
   ·have e : j = L.length := by omega
    subst e
    have hji : ¬ (L.length : Int) < L.length := by omega
    rw [mxT_all]
    simp [go_sem, hji]
    refine CallVC.of (cT) (by decide) ?_
    simp [go_sem]
    refine ⟨⟨?_, by omega, by omega⟩, by simp [mat, canF_len (n + 1) t h2 h3]⟩
    have := spF_len (L.map (canS n))
    simpa using this
end Go.Proofs.YtphccfabekdmnaaGreat


namespace Go.Proofs.YtphccfabekdmnaaGreat
open Go.Abs
mutual
inductive NX : AV → AV → Prop
 | same (c : AV) : NX c c
 | nil : NX (.val (.slice none 0 0)) (.sl 0 [])
 | sl (n : Nat) {cs cs' : List AV} (h : NXL cs cs') : NX (.sl n cs) (.sl n cs')
 | own (e : TypeId) (n : Nat) {cs cs' : List AV} (h : NXL cs cs') : NX (.own e n cs) (.own e n cs')
inductive NXL : List AV → List AV → Prop
 | nil : NXL [] []
 | cons {c c' : AV} {cs cs' : List AV} (h : NX c c') (t : NXL cs cs') : NXL (c :: cs) (c' :: cs')
end
theorem NXL.same : ∀ l : List AV, NXL l l
 | [] => .nil
 | c :: l => .cons (.same c) (NXL.same l)
theorem NXL.app {a b : List AV} (h : NXL a b) : ∀ {p q : List AV}, NXL p q → NXL (p ++ a) (q ++ b)
 | _, _, .nil => h
 | _, _, .cons k t => .cons k (NXL.app h t)
theorem NXL.ne {a b : List AV} (h : NXL a b) (e : b = []) : a = [] := by
 cases h with
 | nil => rfl
 | cons => simp at e
section
variable {P : Program} {w : World} {F : Nat → Prop}
mutual
theorem NX.rep {c c' : AV} {v : Value} {os : List Nat} (h : NX c c') (hr : RepC P w F c v os) : RepC P w F c' v os := by
 cases h with
 | same => exact hr
 | nil => cases hr with
  | val _ _ => exact .sl0 none 0
 | sl n h => cases hr with
  | sl0 base cap => cases h; exact .sl0 base cap
  | sl b off n cap c e fr cs hF hb hl hn => exact .sl b off n cap c e fr _ hF hb (NXL.rep h hl) hn
 | own e n h => cases hr with
  | own0 => cases h; exact .own0 _
  | own b _ _ cap c _ os3 hb hn hc hl => exact .own b _ _ cap c _ os3 hb hn hc (NXL.rep h hl)
theorem NXL.rep {cs cs' : List AV} {vs : List Value} {os : List Nat} (h : NXL cs cs') (hr : RepL P w F cs vs os) : RepL P w F cs' vs os := by
 cases h with
 | nil => exact hr
 | cons h t => cases hr with
  | cons _ v os _ vs os' h1 h2 => exact .cons _ _ _ _ _ _ (NX.rep h h1) (NXL.rep t h2)
end
theorem NX.repT {tm : Nat → Value} {oss : Nat → List Nat} {c c' : AV} {v : Value} {os : List Nat} (h : NX c c') (hr : RepT P w F tm oss c v os) : RepT P w F tm oss c' v os := by
 cases h with
 | same => exact hr
 | nil => cases hr with
  | cell _ _ _ hc => exact .cell _ _ _ (NX.rep .nil hc)
 | sl n h => cases hr with
  | cell _ _ _ hc => exact .cell _ _ _ (NX.rep (.sl n h) hc)
 | own e n h => cases hr with
  | cell _ _ _ hc => exact .cell _ _ _ (NX.rep (.own e n h) hc)
theorem NXL.len {cs cs' : List AV} (h : NXL cs cs') : cs'.length = cs.length := by
 induction cs generalizing cs' with
 | nil => cases h; rfl
 | cons c cs ih => cases h with
  | cons h t => rw [List.length_cons, List.length_cons, ih t]
theorem NXL.repT {tm : Nat → Value} {oss : Nat → List Nat} {cs cs' : List AV} {vs : List Value} {os : List Nat} (h : NXL cs cs') (hr : RepTL P w F tm oss cs vs os) : RepTL P w F tm oss cs' vs os := by
 induction cs generalizing cs' vs os with
 | nil => cases h; exact hr
 | cons c cs ih => cases h with
  | cons h t => cases hr with
   | cons _ v os _ vs os' h1 h2 => exact .cons _ _ _ _ _ _ (h.repT h1) (ih t h2)
end
theorem GCon.nx [DrawK] {P : Program} {f : FuncId} {args : List AV} {r r' : AV} {outs : List AV} (hw : NX r r') (h : GCon P f args r outs) : GCon P f args r' outs := by
 refine ⟨h.1, fun w vs os F0 hl hn ho hF hr => (h.2 w vs os F0 hl hn ho hF hr).mono ?_⟩
 rintro x w' ⟨v, orr, oo, F', h1, h2, h3, h4, h5, h6⟩
 exact ⟨v, orr, oo, F', h1, h2, h3, h4, fun tm oss => hw.repT (h5 tm oss), h6⟩
theorem GCon.nxA [DrawK] {P : Program} {f : FuncId} {args : List AV} {cs cs' : List AV} {outs : List AV} (hw : NXL cs cs') (h : GCon P f args (.agg cs) outs) : GCon P f args (.agg cs') outs := by
 refine ⟨h.1, fun w vs os F0 hl hn ho hF hr => (h.2 w vs os F0 hl hn ho hF hr).mono ?_⟩
 rintro x w' ⟨v, orr, oo, F', h1, h2, h3, h4, h5, h6⟩
 refine ⟨v, orr, oo, F', h1, h2, h3, h4, fun tm oss => ?_, h6⟩
 have k := h5 tm oss
 cases k with
 | cell _ _ _ hc => cases hc
 | agg _ vs2 os2 hl2 hc => exact .agg _ _ _ (by rw [hw.len]; exact hl2) (hw.repT hc)
theorem RCon.toG [DrawK] {P : Program} {f : FuncId} {args : List AV} {r : AV} {outs : List AV} (h : RCon P f args fun x o => x = r ∧ o = outs) : GCon P f args r outs := by
 refine ⟨h.1, fun w vs os F0 hl hn ho hF hr => (h.2 w vs os F0 hl hn ho hF hr).mono ?_⟩
 rintro x w' ⟨_, _, ⟨rfl, rfl⟩, k⟩
 exact k
theorem GCon.nxL [DrawK] {P : Program} {f : FuncId} {args args' : List AV} {r : AV} {outs : List AV} (hw : NXL args args') (h : GCon P f args' r outs) : GCon P f args r outs :=
 ⟨h.1, fun w vs os F0 hl hn ho hF hr => h.2 w vs os F0 (by rw [hw.len]; exact hl) hn ho hF fun tm oss => hw.repT (hr tm oss)⟩
theorem GCon.frzA [DrawK] {P : Program} {f : FuncId} {args : List AV} {r : AV} {outs : List AV} (h : GCon P f (frzL args) r outs) : GCon P f args r (args.map fun _ => .any) := by
 refine ⟨h.1, fun w vs os F0 hl hn ho hF hr => ?_⟩
 have outs : ∀ (w' : World) (F' : Nat → Prop) (vs : List Value) (args : List AV), args.length = vs.length → ∀ tm oss, RepTL P w' F' tm oss (args.map fun _ => AV.any) vs [] := by
  intro w' F' vs
  induction vs with
  | nil => intro args hl tm oss; rw [List.length_eq_zero_iff.1 hl]; exact .nil _
  | cons v vs ih => intro args hl tm oss; cases args with
   | nil => simp at hl
   | cons c args => exact .cons _ _ [] _ _ [] (.any _) (ih args (by simpa using hl) tm oss)
 refine (h.2 w vs [] (fun b => F0 b ∨ b ∈ os) (by rw [frzL_eq, List.length_map]; exact hl) List.nodup_nil (by simp) (fun b hb => hb.elim (hF b) fun hx => (ho b hx).1) (fun tm oss => RepTL.frz (fun b hb => .inl hb) (hr tm oss) (fun b hb => .inr hb))).mono ?_
 rintro x w' ⟨v, orr, oo, F', h1, h2, h3, h4, h5, h6, h7, h8, h9⟩
 have h10 := fun b hb => h9 b (.inl hb)
 refine ⟨v, orr, [], F', h1, ⟨h2.os, h2.tape, h2.output, h2.size, fun k hk => h2.block k ⟨hk.1, by simp⟩, h2.drawn⟩, fun b hb => h3 b (.inl hb), fun b hb => ?_, h5, fun tm oss => outs w' F' vs args hl tm oss, by rw [List.length_map]; exact hl, ?_, fun b hb => ?_⟩
 ·rcases h4 b hb with (hx | hx) | ⟨hx, hy⟩
  ·exact .inl hx
  ·have k1 := (ho b hx).1
   have k2 := h2.size
   exact .inr ⟨.inl hx, Nat.lt_of_lt_of_le k1 k2⟩
  ·exact .inr ⟨.inr (by simpa using hx), hy⟩
 ·rw [List.append_nil]; exact (List.nodup_append.1 h8).1
 ·have hb : b ∈ orr := by simpa using hb
  obtain ⟨k1, k2, k3⟩ := h10 b hb
  exact ⟨.inr (by simpa using k1), k2, k3⟩
theorem GCon.frzR [DrawK] {P : Program} {f : FuncId} {args : List AV} {r r' : AV} {outs : List AV} (h : GCon P f args r outs) (e : frz r = r') : GCon P f args r' outs := by
 subst e
 refine ⟨h.1, fun w vs os F0 hl hn ho hF hr => (h.2 w vs os F0 hl hn ho hF hr).mono ?_⟩
 rintro x w' ⟨v, orr, oo, F', h1, h2, h3, h4, h5, h6, h7, h8, h9⟩
 refine ⟨v, [], oo, fun b => F' b ∨ b ∈ orr, h1, h2, fun b hb => .inl (h3 b hb), fun b hb => ?_, fun tm oss => (h5 tm oss).frz (fun b hb => .inl hb) (fun b hb => .inr hb), fun tm oss => ?_, h7, ?_, fun b hb => ?_⟩
 ·rcases hb with hb | hb
  ·exact h4 b hb
  ·have := h9 b (.inl hb)
   exact .inr ⟨this.1, this.2.1⟩
 ·have := RepTL.kl (w' := w') (F' := fun b => F' b ∨ b ∈ orr) (tm' := tm) (oss' := oss) [] (fun b hb => .inl hb) (fun _ _ _ _ h => h) (h6 tm oss) (fun _ _ => rfl)
  rwa [klL_nil] at this
 ·exact (List.nodup_append.1 h8).2.1
 ·have hb : b ∈ oo := by simpa using hb
  obtain ⟨k1, k2, k3⟩ := h9 b (.inr hb)
  refine ⟨k1, k2, fun hf => ?_⟩
  rcases hf with hf | hf
  ·exact k3 hf
  ·exact (List.nodup_append.1 h8).2.2 b hf b hb rfl
end Go.Proofs.YtphccfabekdmnaaGreat


namespace Go.Proofs.YtphccfabekdmnaaGreat
open Go.Abs
def gokS (s : Spl) : Bool := (decide (s.1.length ≤ 19) && s.1.all fun r => decide (r.length ≤ 100)) && (decide (s.2.1.length ≤ 19) && s.2.1.all fun r => decide (r.length ≤ 100))
def cutL (t : List Int) : List Spl := gthS (srtS ((spl 6 t).map cntF))
theorem gok_all : (trN 6).all (fun t => decide ((spl 6 t).length ≤ 1000) && (spl 6 t).all gokS) = true := by kernel_rfl
theorem cutL_all : (trN 6).all (fun t => decide ((cutL t).length ≤ 100) && (cutL t).all fun s => decide (s.1.length ≤ 6) && (s.1.all (fun r => decide (r.length ≤ 6)) && (decide (s.2.1.length ≤ 1) && (s.2.1.all (fun r => decide (1 ≤ r.length) && decide (r.length ≤ 6)) && (decide (0 ≤ s.2.2) && decide (s.2.2 ≤ 100)))))) = true := by kernel_rfl
theorem gok_at {t : List Int} (h : t ∈ trN 6) : (∀ s ∈ spl 6 t, (s.1.length ≤ 19 ∧ ∀ r ∈ s.1, r.length ≤ 100) ∧ (s.2.1.length ≤ 19 ∧ ∀ r ∈ s.2.1, r.length ≤ 100)) ∧ (spl 6 t).length ≤ 1000 := by
 have k := List.all_eq_true.1 gok_all t h
 simp only [Bool.and_eq_true, decide_eq_true_eq, List.all_eq_true, gokS] at k
 exact ⟨fun s hs => k.2 s hs, k.1⟩
theorem cutL_at {t : List Int} (h : t ∈ trN 6) : (cutL t).length ≤ 100 ∧ ∀ s ∈ cutL t, s.1.length ≤ 6 ∧ (∀ r ∈ s.1, r.length ≤ 6) ∧ s.2.1.length ≤ 1 ∧ (∀ r ∈ s.2.1, 1 ≤ r.length ∧ r.length ≤ 6) ∧ 0 ≤ s.2.2 ∧ s.2.2 ≤ 100 := by
 have k := List.all_eq_true.1 cutL_all t h
 simp only [Bool.and_eq_true, decide_eq_true_eq, List.all_eq_true] at k
 exact k
def tkL (s : Spl) : List Int := s.2.1.headD []
def cuX (s : Spl) : List AV := [.sl s.1.length (mat s.1), if s.2.1 = [] then .val (.slice none 0 0) else .sl (tkL s).length (avs (tkL s)), .int s.2.2]
def cuF (s : Spl) : List AV := [.sl s.1.length (mat s.1), .sl (tkL s).length (avs (tkL s)), .int s.2.2]
theorem cu_nx : ∀ L : List Spl, NXL (L.flatMap cuX) (L.flatMap cuF)
 | [] => .nil
 | s :: L => by
  rw [List.flatMap_cons, List.flatMap_cons]
  refine NXL.app (cu_nx L) (.cons (.same _) (.cons ?_ (.cons (.same _) .nil)))
  by_cases h : s.2.1 = []
  ·rw [if_pos h]
   have e : tkL s = [] := by unfold tkL; rw [h]; rfl
   rw [e]
   exact .nil
  ·rw [if_neg h]; exact .same _
theorem cuX_len (X : List Spl) : (X.flatMap cuX).length = X.length * 3 := by
 induction X with
 | nil => rfl
 | cons s X ih => rw [List.flatMap_cons, List.length_append, ih]; simp [cuX]; omega
theorem cutsOf_c {t : List Int} (h : t ∈ trN 6) : GCon Tryz.prog 192 [.sl t.length (avs t)] (.own 157 (cutL t).length ((cutL t).flatMap cuF)) [.any] := by
 have cS := splitTree_c 6 t (List.all_eq_true.1 splOk_all t h)
 have cG := gathered_c (spl 6 t) (gok_at h).1 (gok_at h).2
 obtain ⟨b1, b2⟩ := cutL_at h
 refine GCon.nx (.own _ _ (cu_nx _)) ?_
 unfold cutL at *
 generalize spl 6 t = Z at *
 generalize gthS (srtS (Z.map cntF)) = L at *
 refine gcon_of_vc Tryz.mixed ⟨7, [], [1000000 + 273, 1000000 + 272], []⟩ [2] [] Tryz.func192 (by decide) rfl rfl (by simp) (by simp) (by decide) ?_
 rw [Tryz.ntmps192]
 simp [go_sem]
 refine ⟨_, _, cS, ?_⟩
 simp [go_sem]
 refine ⟨_, _, cG, ?_⟩
 simp [go_sem]
 refine loop_inv (3 :: 5 :: 6 :: List.range' 12 23) (fun i : Nat => [(3, .own 157 i ((L.take i).flatMap cuX)), (12, .int i)]) (fun i => i ≤ L.length) (fun i => L.length - i) 0 (by simp) (by simp [go_sem]) (by simp [go_sem]) ?_
 intro i hi
 by_cases hib : i < L.length
 ·have hii : (i : Int) < L.length := by omega
  have dr := spF_drop hib
  have nL : ¬ L.flatMap spF = [] := by intro e; have := spF_len L; rw [e] at this; simp at this; omega
  have hm := memD ([], [], 0) hib
  obtain ⟨c1, c2, c3, c4, c5, c6⟩ := b2 _ hm
  have tk : L.take (i + 1) = L.take i ++ [L[i]?.getD ([], [], 0)] := by
   rw [List.take_succ_eq_append_getElem hib, List.getElem?_eq_getElem hib]; rfl
  have cl := cuX_len (L.take i)
  rw [List.length_take, Nat.min_eq_left (by omega)] at cl
  have lL := spF_len L
  generalize L[i]?.getD ([], [], 0) = s at *
  obtain ⟨a, b, k⟩ := s
  simp only [spF] at dr
  simp only at c1 c2 c3 c4 c5 c6
  generalize hC : (L.take i).flatMap cuX = C at *
  generalize hMC : L.flatMap spF = MC at *
  cases b with
  | nil =>
   simp [go_sem, hii, dr]
   refine ⟨⟨nL, by omega⟩, ?_⟩
   refine ⟨⟨by rw [cl], by omega, by omega⟩, ⟨by omega, by omega⟩, i + 1, by omega, by omega, Off_reset _ _ _ (by simp), ?_⟩
   rw [tk, List.flatMap_append, hC]
   refine ⟨⟨by omega, ?_⟩, by omega⟩
   simp [cuX, tkL]
  | cons r b =>
   have e : b = [] := List.length_eq_zero_iff.1 (by simpa using c3)
   subst e
   simp [go_sem, hii, dr, mat]
   refine ⟨⟨nL, by omega⟩, ?_⟩
   refine ⟨⟨by rw [cl], by omega, by omega⟩, ⟨by omega, by omega⟩, i + 1, by omega, by omega, Off_reset _ _ _ (by simp), ?_⟩
   rw [tk, List.flatMap_append, hC]
   refine ⟨⟨by omega, ?_⟩, by omega⟩
   simp [cuX, tkL, mat]
 ·have e : i = L.length := by omega
  subst e
  have hii : ¬ (L.length : Int) < L.length := by omega
  rw [List.take_length]
  simp [go_sem, hii]
end Go.Proofs.YtphccfabekdmnaaGreat


namespace Go.Proofs.YtphccfabekdmnaaGreat
abbrev Mo := Nat × List Nat
abbrev Py := List Mo
def evm (r : Nat → Int) : List Nat → Int
 | [] => 1
 | v :: m => r v * evm r m
def evp (r : Nat → Int) : Py → Int
 | [] => 0
 | t :: P => (t.1 : Int) * evm r t.2 + evp r P
def insM (v : Nat) : List Nat → List Nat
 | [] => [v]
 | w :: m => if Nat.ble v w then v :: w :: m else w :: insM v m
def mulMo : List Nat → List Nat → List Nat
 | [], n => n
 | v :: m, n => insM v (mulMo m n)
def cmM : List Nat → List Nat → Nat
 | [], [] => 1
 | [], _ :: _ => 0
 | _ :: _, [] => 2
 | v :: m, w :: n => if Nat.beq v w then cmM m n else if Nat.ble v w then 0 else 2
def addT (t : Mo) : Py → Py
 | [] => [t]
 | u :: P => match cmM t.2 u.2 with
  | 0 => t :: u :: P
  | 1 => let c := (t.1 + u.1) % 10007; if Nat.beq c 0 then P else (c, u.2) :: P
  | _ => u :: addT t P
def addP : Py → Py → Py
 | [], Q => Q
 | t :: P, Q => addT t (addP P Q)
def mulT (t : Mo) : Py → Py → Py
 | [], R => R
 | u :: P, R => addT ((t.1 * u.1) % 10007, mulMo t.2 u.2) (mulT t P R)
def mulP : Py → Py → Py
 | [], _ => []
 | t :: P, Q => mulT t Q (mulP P Q)
theorem evm_ins (r : Nat → Int) (v : Nat) : ∀ m, evm r (insM v m) = r v * evm r m
 | [] => rfl
 | w :: m => by
  unfold insM
  split
  ·rfl
  ·rw [evm, evm_ins r v m, evm, Int.mul_left_comm]
theorem evm_mul (r : Nat → Int) : ∀ m n, evm r (mulMo m n) = evm r m * evm r n
 | [], n => by simp [mulMo, evm]
 | v :: m, n => by rw [mulMo, evm_ins, evm_mul r m n, evm, Int.mul_assoc]
theorem cmM_eq : ∀ {m n : List Nat}, cmM m n = 1 → m = n
 | [], [], _ => rfl
 | [], _ :: _, h => by simp [cmM] at h
 | _ :: _, [], h => by simp [cmM] at h
 | v :: m, w :: n, h => by
  unfold cmM at h
  by_cases e : Nat.beq v w = true
  ·rw [if_pos e] at h
   rw [Nat.eq_of_beq_eq_true e, cmM_eq h]
  ·rw [if_neg e] at h
   split at h <;> simp at h
theorem mod_add' {a b c d : Int} (h : a % 10007 = b % 10007) (k : c % 10007 = d % 10007) : (a + c) % 10007 = (b + d) % 10007 := by omega
theorem mod_mul' {a b c d : Int} (h : a % 10007 = b % 10007) (k : c % 10007 = d % 10007) : (a * c) % 10007 = (b * d) % 10007 := by
 rw [Int.mul_emod, h, k, ← Int.mul_emod]
theorem evp_addT (r : Nat → Int) (t : Mo) : ∀ P, evp r (addT t P) % 10007 = ((t.1 : Int) * evm r t.2 + evp r P) % 10007
 | [] => rfl
 | u :: P => by
  unfold addT
  split
  ·rfl
  ·rename_i h
   have e := cmM_eq h
   have h1 : (((t.1 + u.1) % 10007 : Nat) : Int) * evm r u.2 % 10007 = ((t.1 : Int) + u.1) * evm r u.2 % 10007 := by
    refine mod_mul' ?_ rfl
    omega
   rw [Int.add_mul] at h1
   show evp r (if Nat.beq ((t.1 + u.1) % 10007) 0 = true then P else ((t.1 + u.1) % 10007, u.2) :: P) % 10007 = _
   rw [e, evp]
   split
   ·rename_i h0
    have h0 := Nat.eq_of_beq_eq_true h0
    rw [h0] at h1
    simp only [Int.natCast_zero, Int.zero_mul] at h1
    omega
   ·rw [evp]
    simp only
    omega
  ·rw [evp, evp]
   have := evp_addT r t P
   omega
theorem evp_add (r : Nat → Int) : ∀ P Q, evp r (addP P Q) % 10007 = (evp r P + evp r Q) % 10007
 | [], Q => by simp [addP, evp]
 | t :: P, Q => by
  rw [addP, evp_addT, evp]
  have := evp_add r P Q
  omega
theorem evp_mulT (r : Nat → Int) (t : Mo) : ∀ P R, evp r (mulT t P R) % 10007 = ((t.1 : Int) * evm r t.2 * evp r P + evp r R) % 10007
 | [], R => by simp [mulT, evp]
 | u :: P, R => by
  rw [mulT, evp_addT, evp]
  have h := evp_mulT r t P R
  have h1 : (((t.1 * u.1) % 10007 : Nat) : Int) * evm r (mulMo t.2 u.2) % 10007 = (t.1 : Int) * evm r t.2 * ((u.1 : Int) * evm r u.2) % 10007 := by
   rw [evm_mul, show (t.1 : Int) * evm r t.2 * ((u.1 : Int) * evm r u.2) = ((t.1 : Int) * u.1) * (evm r t.2 * evm r u.2) by ac_rfl]
   refine mod_mul' ?_ rfl
   omega
  rw [Int.mul_add]
  generalize (t.1 : Int) * evm r t.2 * ((u.1 : Int) * evm r u.2) = A at *
  generalize (t.1 : Int) * evm r t.2 * evp r P = B at *
  simp only
  omega
theorem evp_mul (r : Nat → Int) : ∀ P Q, evp r (mulP P Q) % 10007 = (evp r P * evp r Q) % 10007
 | [], Q => by simp [mulP, evp]
 | t :: P, Q => by
  rw [mulP, evp_mulT, evp, Int.add_mul]
  have := evp_mul r P Q
  omega
end Go.Proofs.YtphccfabekdmnaaGreat


namespace Go.Proofs.YtphccfabekdmnaaGreat
def cutT : List (List (Nat × List Nat × Nat)) := [[(1, [], 1), (1, [1], 0)],
 [(1, [], 2), (1, [1], 1), (1, [2], 0)],
 [(1, [], 3), (1, [1], 2), (1, [2], 1), (1, [3], 0)],
 [(1, [], 4), (2, [1], 2), (1, [1, 1], 1), (1, [4], 0)],
 [(1, [], 5), (1, [1], 3), (1, [2], 2), (1, [3], 1), (1, [5], 0)],
 [(1, [], 6), (2, [1], 3), (1, [1, 1], 2), (1, [4], 1), (1, [6], 0)],
 [(1, [], 7), (1, [1], 3), (1, [1], 4), (1, [2], 2), (1, [1, 1], 2), (1, [1, 2], 1), (1, [7], 0)],
 [(1, [], 8), (3, [1], 4), (3, [1, 1], 2), (1, [1, 1, 1], 1), (1, [8], 0)],
 [(1, [], 9), (1, [1], 5), (1, [2], 3), (1, [3], 2), (1, [5], 1), (1, [9], 0)],
 [(1, [], 10), (2, [1], 5), (1, [1, 1], 3), (1, [4], 2), (1, [6], 1), (1, [10], 0)],
 [(1, [], 11), (1, [1], 5), (1, [1], 6), (1, [2], 3), (1, [1, 1], 3), (1, [1, 2], 2), (1, [7], 1), (1, [11], 0)],
 [(1, [], 12), (1, [1], 5), (1, [1], 7), (1, [2], 4), (1, [1, 1], 3), (1, [3], 2), (1, [1, 2], 2), (1, [1, 3], 1), (1, [12], 0)],
 [(1, [], 13), (3, [1], 6), (3, [1, 1], 3), (1, [1, 1, 1], 2), (1, [8], 1), (1, [13], 0)],
 [(1, [], 14), (1, [1], 6), (2, [1], 7), (2, [1, 1], 3), (1, [1, 1], 4), (1, [4], 2), (1, [1, 1, 1], 2), (1, [1, 4], 1), (1, [14], 0)],
 [(1, [], 15), (2, [1], 7), (2, [2], 3), (1, [1, 1], 4), (2, [1, 2], 2), (1, [2, 2], 1), (1, [15], 0)],
 [(1, [], 16), (2, [1], 7), (1, [1], 8), (1, [2], 4), (1, [1, 1], 3), (2, [1, 1], 4), (2, [1, 2], 2), (1, [1, 1, 1], 2), (1, [1, 1, 2], 1), (1, [16], 0)],
 [(1, [], 17), (4, [1], 8), (6, [1, 1], 4), (4, [1, 1, 1], 2), (1, [1, 1, 1, 1], 1), (1, [17], 0)],
 [(1, [], 18), (1, [1], 9), (1, [2], 5), (1, [3], 3), (1, [5], 2), (1, [9], 1), (1, [18], 0)],
 [(1, [], 19), (2, [1], 9), (1, [1, 1], 5), (1, [4], 3), (1, [6], 2), (1, [10], 1), (1, [19], 0)],
 [(1, [], 20), (1, [1], 9), (1, [1], 10), (1, [2], 5), (1, [1, 1], 5), (1, [1, 2], 3), (1, [7], 2), (1, [11], 1), (1, [20], 0)],
 [(1, [], 21), (1, [1], 9), (1, [1], 11), (1, [2], 6), (1, [1, 1], 5), (1, [3], 3), (1, [1, 2], 3), (1, [1, 3], 2), (1, [12], 1), (1, [21], 0)],
 [(1, [], 22), (1, [1], 9), (1, [1], 12), (1, [2], 7), (1, [1, 1], 5), (1, [3], 4), (1, [1, 2], 3), (1, [5], 2), (1, [1, 3], 2), (1, [1, 5], 1), (1, [22], 0)],
 [(1, [], 23), (3, [1], 10), (3, [1, 1], 5), (1, [1, 1, 1], 3), (1, [8], 2), (1, [13], 1), (1, [23], 0)],
 [(1, [], 24), (1, [1], 10), (2, [1], 11), (2, [1, 1], 5), (1, [1, 1], 6), (1, [4], 3), (1, [1, 1, 1], 3), (1, [1, 4], 2), (1, [14], 1), (1, [24], 0)],
 [(1, [], 25), (1, [1], 10), (2, [1], 12), (2, [1, 1], 5), (1, [1, 1], 7), (1, [4], 4), (1, [1, 1, 1], 3), (1, [6], 2), (1, [1, 4], 2), (1, [1, 6], 1), (1, [25], 0)],
 [(1, [], 26), (2, [1], 11), (2, [2], 5), (1, [1, 1], 6), (2, [1, 2], 3), (1, [2, 2], 2), (1, [15], 1), (1, [26], 0)],
 [(1, [], 27), (2, [1], 11), (1, [1], 13), (1, [2], 6), (1, [1, 1], 5), (2, [1, 1], 6), (2, [1, 2], 3), (1, [1, 1, 1], 3), (1, [1, 1, 2], 2), (1, [16], 1), (1, [27], 0)],
 [(1, [], 28), (1, [1], 11), (1, [1], 12), (1, [1], 14), (1, [2], 7), (1, [1, 1], 5), (1, [1, 1], 6), (1, [1, 1], 7), (1, [1, 2], 3), (1, [1, 2], 4), (1, [1, 1, 1], 3), (1, [7], 2), (1, [1, 1, 2], 2), (1, [1, 7], 1), (1, [28], 0)],
 [(1, [], 29), (1, [1], 12), (1, [1], 15), (1, [2], 5), (1, [2], 7), (1, [1, 1], 7), (1, [3], 3), (1, [1, 2], 3), (1, [1, 2], 4), (1, [1, 3], 2), (1, [2, 2], 2), (1, [2, 3], 1), (1, [29], 0)],
 [(1, [], 30), (2, [1], 12), (1, [1], 16), (1, [2], 8), (1, [1, 1], 5), (2, [1, 1], 7), (1, [3], 4), (2, [1, 2], 4), (1, [1, 1, 1], 3), (2, [1, 3], 2), (1, [1, 1, 2], 2), (1, [1, 1, 3], 1), (1, [30], 0)],
 [(1, [], 31), (4, [1], 13), (6, [1, 1], 6), (4, [1, 1, 1], 3), (1, [1, 1, 1, 1], 2), (1, [17], 1), (1, [31], 0)],
 [(1, [], 32), (1, [1], 13), (3, [1], 14), (3, [1, 1], 6), (3, [1, 1], 7), (3, [1, 1, 1], 3), (1, [1, 1, 1], 4), (1, [8], 2), (1, [1, 1, 1, 1], 2), (1, [1, 8], 1), (1, [32], 0)],
 [(1, [], 33), (1, [1], 14), (2, [1], 15), (1, [2], 6), (3, [1, 1], 7), (1, [4], 3), (2, [1, 2], 3), (1, [1, 1, 1], 4), (1, [1, 4], 2), (1, [1, 1, 2], 2), (1, [2, 4], 1), (1, [33], 0)],
 [(1, [], 34), (2, [1], 14), (2, [1], 16), (1, [1, 1], 6), (4, [1, 1], 7), (1, [1, 1], 8), (1, [4], 4), (2, [1, 1, 1], 3), (2, [1, 1, 1], 4), (2, [1, 4], 2), (1, [1, 1, 1, 1], 2), (1, [1, 1, 4], 1), (1, [34], 0)],
 [(1, [], 35), (1, [1], 15), (2, [1], 16), (2, [2], 7), (2, [1, 1], 7), (1, [1, 1], 8), (2, [1, 2], 3), (2, [1, 2], 4), (1, [1, 1, 1], 4), (1, [2, 2], 2), (2, [1, 1, 2], 2), (1, [1, 2, 2], 1), (1, [35], 0)],
 [(1, [], 36), (3, [1], 16), (1, [1], 17), (1, [2], 8), (3, [1, 1], 7), (3, [1, 1], 8), (3, [1, 2], 4), (1, [1, 1, 1], 3), (3, [1, 1, 1], 4), (3, [1, 1, 2], 2), (1, [1, 1, 1, 1], 2), (1, [1, 1, 1, 2], 1), (1, [36], 0)],
 [(1, [], 37), (5, [1], 17), (10, [1, 1], 8), (10, [1, 1, 1], 4), (5, [1, 1, 1, 1], 2), (1, [1, 1, 1, 1, 1], 1), (1, [37], 0)]]
abbrev Ctp := Nat × List Nat × Nat
def prI (A : Nat → Int) : List Nat → Int
 | [] => 1
 | v :: m => A v * prI A m
def rowI (A B : Nat → Int) : List Ctp → Int
 | [] => 0
 | c :: L => (c.1 : Int) * (prI A c.2.1 * B c.2.2) + rowI A B L
def ctR (i : Nat) : List Ctp := cutT[i - 1]?.getD []
def cvI (A B : Nat → Int) (i : Nat) : Int := if i = 0 then B 0 else rowI A B (ctR i)
def prodP (A : Nat → Py) : List Nat → Py
 | [] => [(1, [])]
 | v :: m => mulP (A v) (prodP A m)
def rowP (A B : Nat → Py) : List Ctp → Py
 | [] => []
 | c :: L => addP (mulP [(c.1, [])] (mulP (prodP A c.2.1) (B c.2.2))) (rowP A B L)
def cvP (A B : Nat → Py) (i : Nat) : Py := if Nat.beq i 0 then B 0 else rowP A B (ctR i)
theorem evp_one (r : Nat → Int) : evp r [(1, [])] = 1 := by simp [evp, evm]
theorem evp_c (r : Nat → Int) (c : Nat) : evp r [(c, [])] = c := by simp [evp, evm]
theorem evp_v (r : Nat → Int) (v : Nat) : evp r [(1, [v])] = r v := by simp [evp, evm]
theorem prI_mod {A A' : Nat → Int} : ∀ {m : List Nat}, (∀ v ∈ m, A v % 10007 = A' v % 10007) → prI A m % 10007 = prI A' m % 10007
 | [], _ => rfl
 | v :: m, h => mod_mul' (h v (by simp)) (prI_mod fun w hw => h w (by simp [hw]))
theorem rowI_mod {A A' B B' : Nat → Int} : ∀ {L : List Ctp}, (∀ c ∈ L, (∀ v ∈ c.2.1, A v % 10007 = A' v % 10007) ∧ B c.2.2 % 10007 = B' c.2.2 % 10007) → rowI A B L % 10007 = rowI A' B' L % 10007
 | [], _ => rfl
 | c :: L, h => mod_add' (mod_mul' rfl (mod_mul' (prI_mod (h c (by simp)).1) (h c (by simp)).2)) (rowI_mod fun d hd => h d (by simp [hd]))
theorem evp_prod (r : Nat → Int) {A : Nat → Py} {A' : Nat → Int} : ∀ m, (∀ v ∈ m, evp r (A v) % 10007 = A' v % 10007) → evp r (prodP A m) % 10007 = prI A' m % 10007
 | [], _ => by rw [prodP, evp_one]; rfl
 | v :: m, h => by rw [prodP, evp_mul, prI]; exact mod_mul' (h v (by simp)) (evp_prod r m fun w hw => h w (by simp [hw]))
theorem evp_row (r : Nat → Int) {A B : Nat → Py} {A' B' : Nat → Int} : ∀ L : List Ctp, (∀ c ∈ L, (∀ v ∈ c.2.1, evp r (A v) % 10007 = A' v % 10007) ∧ evp r (B c.2.2) % 10007 = B' c.2.2 % 10007) → evp r (rowP A B L) % 10007 = rowI A' B' L % 10007
 | [], _ => rfl
 | c :: L, h => by
  rw [rowP, evp_add, rowI]
  refine mod_add' ?_ (evp_row r L fun d hd => h d (by simp [hd]))
  rw [evp_mul, evp_c]
  refine mod_mul' rfl ?_
  rw [evp_mul]
  exact mod_mul' (evp_prod r _ (h c (by simp)).1) (h c (by simp)).2
theorem ctR_ok {i : Nat} (hi : i < 38) : ∀ c ∈ ctR i, (∀ v ∈ c.2.1, v < 38) ∧ c.2.2 < 38 := by
 have ok : (List.range 38).all (fun i => (ctR i).all fun c => c.2.1.all (fun v => decide (v < 38)) && decide (c.2.2 < 38)) = true := by decide +kernel
 intro c hc
 have h := List.all_eq_true.1 (List.all_eq_true.1 ok i (List.mem_range.2 hi)) c hc
 simp only [Bool.and_eq_true, List.all_eq_true, decide_eq_true_eq] at h
 exact h
theorem evp_cv (r : Nat → Int) {A B : Nat → Py} {A' B' : Nat → Int} (h : ∀ v, v < 38 → evp r (A v) % 10007 = A' v % 10007) (k : ∀ v, v < 38 → evp r (B v) % 10007 = B' v % 10007) {i : Nat} (hi : i < 38) : evp r (cvP A B i) % 10007 = cvI A' B' i % 10007 := by
 unfold cvP cvI
 by_cases e : i = 0
 ·subst e; exact k 0 (by omega)
 ·rw [if_neg e, if_neg (by intro x; exact e (Nat.eq_of_beq_eq_true x))]
  exact evp_row r _ fun c hc => ⟨fun v hv => h v ((ctR_ok hi c hc).1 v hv), k _ (ctR_ok hi c hc).2⟩
def vr (k i : Nat) : Py := if Nat.beq i 0 then [(1, [])] else [(1, [k + i])]
def v0 (k i : Nat) : Py := [(1, [k + i])]
def en3 (A B C : Nat → Int) (v : Nat) : Int := if v < 40 then A v else if v < 80 then B (v - 40) else C (v - 80)
theorem evp_vr {r : Nat → Int} {k : Nat} {A : Nat → Int} (h0 : A 0 % 10007 = 1) (h : ∀ i, i < 38 → r (k + i) = A i) {i : Nat} (hi : i < 38) : evp r (vr k i) % 10007 = A i % 10007 := by
 unfold vr
 split
 ·rename_i e
  have e := Nat.eq_of_beq_eq_true e
  subst e
  rw [evp_one, h0]
  rfl
 ·rw [evp_v, h i hi]
theorem evp_v0 {r : Nat → Int} {k : Nat} {A : Nat → Int} (h : ∀ i, i < 38 → r (k + i) = A i) {i : Nat} (hi : i < 38) : evp r (v0 k i) % 10007 = A i % 10007 := by
 unfold v0
 rw [evp_v, h i hi]
theorem cv_mod {A A' B B' : Nat → Int} (ha : ∀ i, i < 38 → A i % 10007 = A' i % 10007) (hb : ∀ i, i < 38 → B i % 10007 = B' i % 10007) {i : Nat} (hi : i < 38) : cvI A B i % 10007 = cvI A' B' i % 10007 := by
 unfold cvI
 split
 ·exact hb 0 (by omega)
 ·exact rowI_mod fun c hc => ⟨fun v hv => ha v ((ctR_ok hi c hc).1 v hv), hb _ (ctR_ok hi c hc).2⟩
theorem asc_check : (List.range 38).all (fun i => decide (cvP (cvP (vr 0) (vr 40)) (v0 80) i = cvP (vr 0) (cvP (vr 40) (v0 80)) i)) = true := by decide +kernel
theorem cv_asc {A B C : Nat → Int} (ha : A 0 % 10007 = 1) (hb : B 0 % 10007 = 1) {i : Nat} (hi : i < 38) : cvI (cvI A B) C i % 10007 = cvI A (cvI B C) i % 10007 := by
 have e := of_decide_eq_true (List.all_eq_true.1 asc_check i (List.mem_range.2 hi))
 have hA : ∀ v, v < 38 → evp (en3 A B C) (vr 0 v) % 10007 = A v % 10007 := fun v hv => evp_vr ha (fun i hi => by unfold en3; rw [if_pos (by omega), Nat.zero_add]) hv
 have hB : ∀ v, v < 38 → evp (en3 A B C) (vr 40 v) % 10007 = B v % 10007 := fun v hv => evp_vr hb (fun i hi => by unfold en3; rw [if_neg (by omega), if_pos (by omega)]; congr 1; omega) hv
 have hC : ∀ v, v < 38 → evp (en3 A B C) (v0 80 v) % 10007 = C v % 10007 := fun v hv => evp_v0 (fun i hi => by unfold en3; rw [if_neg (by omega), if_neg (by omega)]; congr 1; omega) hv
 rw [← evp_cv (en3 A B C) (fun v hv => evp_cv (en3 A B C) hA hB hv) hC hi, e, evp_cv (en3 A B C) hA (fun v hv => evp_cv (en3 A B C) hB hC hv) hi]
def iat (a : List Int) (i : Nat) : Int := a[i]?.getD 0
def N38 (a : List Int) : Prop := a.length = 38 ∧ ∀ x ∈ a, 0 ≤ x ∧ x < 10007
def Ch (a : List Int) : Prop := N38 a ∧ iat a 0 = 1
theorem N38.at {a : List Int} (h : N38 a) (i : Nat) : 0 ≤ iat a i ∧ iat a i < 10007 := by
 unfold iat
 by_cases e : i < a.length
 ·rw [List.getElem?_eq_getElem e]; exact h.2 _ (List.getElem_mem e)
 ·rw [List.getElem?_eq_none (by omega)]; simp
theorem N38.ext {a b : List Int} (ha : N38 a) (hb : N38 b) (h : ∀ i, i < 38 → iat a i % 10007 = iat b i % 10007) : a = b := by
 refine List.ext_getElem (by rw [ha.1, hb.1]) fun i h1 h2 => ?_
 have k := h i (by rw [ha.1] at h1; exact h1)
 have a1 := ha.at i
 have b1 := hb.at i
 rw [Int.emod_eq_of_lt a1.1 a1.2, Int.emod_eq_of_lt b1.1 b1.2] at k
 unfold iat at k
 rw [List.getElem?_eq_getElem h1, List.getElem?_eq_getElem h2] at k
 exact k
def mk38 (f : Nat → Int) : List Int := (List.range 38).map fun i => f i % 10007
theorem mk38_N (f : Nat → Int) : N38 (mk38 f) := by
 refine ⟨by simp [mk38], fun x hx => ?_⟩
 obtain ⟨i, _, rfl⟩ := List.mem_map.1 hx
 exact ⟨Int.emod_nonneg _ (by decide), Int.emod_lt_of_pos _ (by decide)⟩
theorem mk38_at (f : Nat → Int) {i : Nat} (h : i < 38) : iat (mk38 f) i = f i % 10007 := by
 unfold iat mk38
 rw [List.getElem?_map, List.getElem?_range h]; rfl
theorem mk38_mod (f : Nat → Int) {i : Nat} (h : i < 38) : iat (mk38 f) i % 10007 = f i % 10007 := by
 rw [mk38_at f h, Int.emod_emod_of_dvd _ (Int.dvd_refl _)]
theorem mk38_eq {f g : Nat → Int} (h : ∀ i, i < 38 → f i % 10007 = g i % 10007) : mk38 f = mk38 g := List.map_congr_left fun i hi => h i (List.mem_range.1 hi)
theorem mk38_of {a : List Int} {f : Nat → Int} (ha : N38 a) (h : ∀ i, i < 38 → f i % 10007 = iat a i % 10007) : mk38 f = a :=
 (mk38_N f).ext ha fun i hi => by rw [mk38_mod f hi, h i hi]
def cvS (a b : List Int) : List Int := mk38 (cvI (iat a) (iat b))
def unitS : List Int := mk38 fun i => if i = 0 then 1 else 0
theorem cvS_N (a b : List Int) : N38 (cvS a b) := mk38_N _
theorem cvS_zero (a b : List Int) : iat (cvS a b) 0 = iat b 0 % 10007 := mk38_at _ (by decide)
theorem cvS_ch {a b : List Int} (hb : Ch b) : Ch (cvS a b) := ⟨cvS_N a b, by rw [cvS_zero, hb.2]; rfl⟩
theorem unitS_ch : Ch unitS := ⟨mk38_N _, mk38_at _ (by decide)⟩
theorem cvS_mod (a b : List Int) {i : Nat} (hi : i < 38) : iat (cvS a b) i % 10007 = cvI (iat a) (iat b) i % 10007 := mk38_mod _ hi
theorem cvS_asc {a b c : List Int} (ha : Ch a) (hb : Ch b) : cvS (cvS a b) c = cvS a (cvS b c) := by
 refine mk38_eq fun i hi => ?_
 rw [cv_mod (fun j hj => cvS_mod a b hj) (fun _ _ => rfl) hi, cv_asc (by rw [ha.2]; rfl) (by rw [hb.2]; rfl) hi]
 exact (cv_mod (fun _ _ => rfl) (fun j hj => cvS_mod b c hj) hi).symm
def u0 (i : Nat) : Py := if Nat.beq i 0 then [(1, [])] else []
theorem evp_u0 (r : Nat → Int) {i : Nat} (hi : i < 38) : evp r (u0 i) % 10007 = iat unitS i % 10007 := by
 unfold unitS
 rw [mk38_mod _ hi]
 unfold u0
 by_cases e : i = 0
 ·subst e; show evp r [(1, [])] % 10007 = 1 % 10007; rw [evp_one]
 ·rw [if_neg e, if_neg (by intro x; exact e (Nat.eq_of_beq_eq_true x))]; rfl
theorem un_check : (List.range 38).all (fun i => decide (cvP u0 (v0 0) i = v0 0 i) && decide (cvP (vr 0) u0 i = vr 0 i)) = true := by decide +kernel
theorem unitS_l {a : List Int} (ha : N38 a) : cvS unitS a = a := by
 refine mk38_of ha fun i hi => ?_
 have e := List.all_eq_true.1 un_check i (List.mem_range.2 hi)
 simp only [Bool.and_eq_true, decide_eq_true_eq] at e
 have hv : ∀ v, v < 38 → evp (iat a) (v0 0 v) % 10007 = iat a v % 10007 := fun v hv => evp_v0 (fun i _ => by rw [Nat.zero_add]) hv
 rw [← evp_cv (iat a) (fun v hv => evp_u0 (iat a) hv) hv hi, e.1, hv i hi]
theorem unitS_r {a : List Int} (ha : Ch a) : cvS a unitS = a := by
 refine mk38_of ha.1 fun i hi => ?_
 have e := List.all_eq_true.1 un_check i (List.mem_range.2 hi)
 simp only [Bool.and_eq_true, decide_eq_true_eq] at e
 have hv : ∀ v, v < 38 → evp (iat a) (vr 0 v) % 10007 = iat a v % 10007 := fun v hv => evp_vr (by rw [ha.2]; rfl) (fun i _ => by rw [Nat.zero_add]) hv
 rw [← evp_cv (iat a) hv (fun v hv => evp_u0 (iat a) hv) hi, e.2, hv i hi]
def nwR (i : Nat) : List Ctp := (ctR i).filter fun c => decide (0 < c.2.2)
def invN (a : List Int) : Nat → List Int
 | 0 => [1]
 | k + 1 => invN a k ++ [(-(rowI (iat (invN a k)) (iat a) (nwR (k + 1)))) % 10007]
theorem invN_len (a : List Int) : ∀ k, (invN a k).length = k + 1
 | 0 => rfl
 | k + 1 => by rw [invN, List.length_append, invN_len a k]; rfl
theorem invN_N (a : List Int) : ∀ k, ∀ x ∈ invN a k, 0 ≤ x ∧ x < 10007
 | 0, x, hx => by simp only [invN, List.mem_singleton] at hx; subst hx; exact ⟨by decide, by decide⟩
 | k + 1, x, hx => by
  rw [invN] at hx
  rcases List.mem_append.1 hx with hx | hx
  ·exact invN_N a k x hx
  ·rw [List.mem_singleton.1 hx]
   exact ⟨Int.emod_nonneg _ (by decide), Int.emod_lt_of_pos _ (by decide)⟩
theorem invN_keep (a : List Int) {i k : Nat} (h : i ≤ k) : ∀ d, iat (invN a (k + d)) i = iat (invN a k) i
 | 0 => rfl
 | d + 1 => by
  rw [← invN_keep a h d]
  show iat (invN a (k + d) ++ _) i = _
  unfold iat
  rw [List.getElem?_append_left (by rw [invN_len]; omega)]
def invS (a : List Int) : List Int := invN a 37
theorem invS_ch (a : List Int) : Ch (invS a) := by
 refine ⟨⟨invN_len a 37, invN_N a 37⟩, ?_⟩
 have := invN_keep a (i := 0) (k := 0) (Nat.le_refl 0) 37
 exact this
theorem nwR_ok {i : Nat} (hi : i < 38) (h0 : 0 < i) : (∀ c ∈ nwR i, ∀ v ∈ c.2.1, v < i) ∧ (ctR i).filter (fun c => !decide (0 < c.2.2)) = [(1, [i], 0)] := by
 have ok : (List.range 37).all (fun j => ((nwR (j + 1)).all fun c => c.2.1.all fun v => decide (v < j + 1)) && decide ((ctR (j + 1)).filter (fun c => !decide (0 < c.2.2)) = [(1, [j + 1], 0)])) = true := by decide +kernel
 obtain ⟨j, rfl⟩ : ∃ j, i = j + 1 := ⟨i - 1, by omega⟩
 have h := List.all_eq_true.1 ok j (List.mem_range.2 (by omega))
 simp only [Bool.and_eq_true, List.all_eq_true, decide_eq_true_eq] at h
 exact h
theorem rowI_split (A B : Nat → Int) (p : Ctp → Bool) : ∀ L, rowI A B L = rowI A B (L.filter p) + rowI A B (L.filter fun c => !p c)
 | [] => rfl
 | c :: L => by
  rw [rowI, rowI_split A B p L, List.filter_cons, List.filter_cons]
  by_cases h : p c = true
  ·simp only [h, if_true, Bool.not_true, rowI]; rw [if_neg (by decide)]; omega
  ·have h2 : p c = false := by simpa using h
   simp only [h2, Bool.not_false, if_true, rowI]; rw [if_neg (by decide)]; omega
theorem cvI_full (A B : Nat → Int) {i : Nat} (hi : i < 38) (h0 : 0 < i) : cvI A B i = rowI A B (nwR i) + A i * B 0 := by
 unfold cvI
 rw [if_neg (by omega), rowI_split A B (fun c => decide (0 < c.2.2)), (nwR_ok hi h0).2]
 simp [rowI, prI, nwR]
theorem inv_l {a : List Int} (ha : Ch a) : cvS (invS a) a = unitS := by
 refine mk38_of unitS_ch.1 fun i hi => ?_
 unfold unitS
 rw [mk38_mod _ hi]
 by_cases h0 : i = 0
 ·subst h0; rw [cvI, if_pos rfl, if_pos rfl, ha.2]
 ·rw [if_neg h0, cvI_full _ _ hi (by omega), ha.2, Int.mul_one]
  obtain ⟨j, rfl⟩ : ∃ j, i = j + 1 := ⟨i - 1, by omega⟩
  have e : iat (invS a) (j + 1) = (-(rowI (iat (invN a j)) (iat a) (nwR (j + 1)))) % 10007 := by
   have := invN_keep a (i := j + 1) (k := j + 1) (Nat.le_refl _) (36 - j)
   rw [show j + 1 + (36 - j) = 37 by omega] at this
   refine this.trans ?_
   unfold iat
   rw [invN, List.getElem?_append_right (by rw [invN_len]; omega), invN_len, Nat.sub_self]
   rfl
  have e2 : rowI (iat (invS a)) (iat a) (nwR (j + 1)) % 10007 = rowI (iat (invN a j)) (iat a) (nwR (j + 1)) % 10007 := by
   refine rowI_mod fun c hc => ⟨fun v hv => ?_, rfl⟩
   have hv := (nwR_ok hi (by omega)).1 c hc v hv
   have := invN_keep a (i := v) (k := j) (by omega) (37 - j)
   rw [show j + (37 - j) = 37 by omega] at this
   unfold invS
   rw [this]
  rw [e]
  omega
end Go.Proofs.YtphccfabekdmnaaGreat


namespace Go.Proofs.YtphccfabekdmnaaGreat
def ndT : List Nat := [0, 1, 2, 3, 3, 4, 4, 4, 4, 5, 5, 5, 5, 5, 5, 5, 5, 5, 6, 6, 6, 6, 6, 6, 6, 6, 6, 6, 6, 6, 6, 6, 6, 6, 6, 6, 6, 6]
def exT : List Nat := [1, 1, 5004, 1668, 3336, 417, 834, 1251, 2502, 8089, 6171, 4253, 2335, 8506, 4670, 8506, 7005, 4003, 3016, 6032, 9048, 2057, 5073, 8089, 4114, 139, 8089, 6171, 5212, 139, 278, 2335, 417, 278, 556, 417, 834, 1668]
def nd (i : Nat) : Nat := ndT[i]?.getD 0
def exI (i : Nat) : Int := ((exT[i]?.getD 0 : Nat) : Int)
def scS (k : Int) (a : List Int) : List Int := mk38 fun i => iat a i * k ^ nd i
theorem scS_N (k : Int) (a : List Int) : N38 (scS k a) := mk38_N _
theorem scS_at (k : Int) (a : List Int) {i : Nat} (h : i < 38) : iat (scS k a) i % 10007 = iat a i * k ^ nd i % 10007 := mk38_mod _ h
theorem scS_ch (k : Int) {a : List Int} (h : Ch a) : Ch (scS k a) := ⟨scS_N k a, by
 unfold scS
 rw [mk38_at _ (by decide)]
 show iat a 0 * k ^ 0 % 10007 = 1
 rw [h.2]; simp⟩
def sumN2 : List Nat → Nat
 | [] => 0
 | v :: m => nd v + sumN2 m
theorem nd_ok {i : Nat} (hi : i < 38) (h0 : 0 < i) : ∀ c ∈ ctR i, sumN2 c.2.1 + nd c.2.2 = nd i := by
 have ok : (List.range 37).all (fun j => (ctR (j + 1)).all fun c => decide (sumN2 c.2.1 + nd c.2.2 = nd (j + 1))) = true := by decide +kernel
 obtain ⟨j, rfl⟩ : ∃ j, i = j + 1 := ⟨i - 1, by omega⟩
 have h := List.all_eq_true.1 ok j (List.mem_range.2 (by omega))
 simp only [List.all_eq_true, decide_eq_true_eq] at h
 exact h
theorem prI_sc (A : Nat → Int) (k : Int) : ∀ m, prI (fun v => A v * k ^ nd v) m = prI A m * k ^ sumN2 m
 | [] => by simp [prI, sumN2]
 | v :: m => by rw [prI, prI_sc A k m, prI, sumN2, Int.pow_add]; ac_rfl
theorem rowI_sc (A B : Nat → Int) (k : Int) (n : Nat) : ∀ L : List Ctp, (∀ c ∈ L, sumN2 c.2.1 + nd c.2.2 = n) → rowI (fun v => A v * k ^ nd v) (fun v => B v * k ^ nd v) L = rowI A B L * k ^ n
 | [], _ => by simp [rowI]
 | c :: L, h => by
  rw [rowI, rowI_sc A B k n L fun d hd => h d (by simp [hd]), rowI, prI_sc, ← h c (by simp), Int.pow_add, Int.add_mul]
  congr 1
  ac_rfl
theorem cv_sc (A B : Nat → Int) (k : Int) {i : Nat} (hi : i < 38) : cvI (fun v => A v * k ^ nd v) (fun v => B v * k ^ nd v) i = cvI A B i * k ^ nd i := by
 unfold cvI
 by_cases h : i = 0
 ·subst h; rw [if_pos rfl, if_pos rfl]
 ·rw [if_neg h, if_neg h, rowI_sc A B k (nd i) _ (nd_ok hi (by omega))]
theorem scS_cv (k : Int) (a b : List Int) : cvS (scS k a) (scS k b) = scS k (cvS a b) := by
 refine mk38_eq fun i hi => ?_
 rw [cv_mod (fun j hj => scS_at k a hj) (fun j hj => scS_at k b hj) hi, cv_sc _ _ k hi]
 exact (mod_mul' (cvS_mod a b hi) rfl).symm
theorem scS_sc (k l : Int) (a : List Int) : scS k (scS l a) = scS (l * k) a := by
 refine mk38_eq fun i hi => ?_
 rw [Int.mul_pow, ← Int.mul_assoc]
 exact mod_mul' (scS_at l a hi) rfl
theorem pow_mod' {a b : Int} (h : a % 10007 = b % 10007) : ∀ n : Nat, a ^ n % 10007 = b ^ n % 10007
 | 0 => by simp
 | n + 1 => by rw [Int.pow_succ, Int.pow_succ]; exact mod_mul' (pow_mod' h n) h
theorem scS_mod {k l : Int} (h : k % 10007 = l % 10007) (a : List Int) : scS k a = scS l a := mk38_eq fun i _ => mod_mul' rfl (pow_mod' h _)
theorem scS_one {a : List Int} (h : N38 a) : scS 1 a = a := mk38_of h fun i _ => by rw [Int.one_pow, Int.mul_one]
theorem un_at {i : Nat} (hi : i < 38) : iat unitS i = if i = 0 then 1 else 0 := by
 unfold unitS
 rw [mk38_at _ hi]
 by_cases h : i = 0
 ·rw [if_pos h]; rfl
 ·rw [if_neg h]; rfl
theorem scS_un (k : Int) : scS k unitS = unitS := mk38_of unitS_ch.1 fun i hi => by
 rw [un_at hi]
 by_cases h : i = 0
 ·subst h; show 1 * k ^ 0 % 10007 = _; simp
 ·rw [if_neg h, Int.zero_mul]
theorem nd_pos {i : Nat} (hi : i < 38) (h0 : 0 < i) : 0 < nd i := by
 have ok : (List.range 37).all (fun j => decide (0 < nd (j + 1))) = true := by decide +kernel
 obtain ⟨j, rfl⟩ : ∃ j, i = j + 1 := ⟨i - 1, by omega⟩
 exact of_decide_eq_true (List.all_eq_true.1 ok j (List.mem_range.2 (by omega)))
theorem scS_zero {a : List Int} (ha : Ch a) : scS 0 a = unitS := mk38_of unitS_ch.1 fun i hi => by
 rw [un_at hi]
 by_cases h : i = 0
 ·subst h; rw [if_pos rfl, ha.2]; rfl
 ·rw [if_neg h, Int.zero_pow (Nat.pos_iff_ne_zero.1 (nd_pos hi (by omega))), Int.mul_zero]
def exaS : List Int := mk38 exI
theorem exaS_at {i : Nat} (h : i < 38) : iat exaS i % 10007 = exI i % 10007 := mk38_mod _ h
theorem exaS_ch : Ch exaS := ⟨mk38_N _, by unfold exaS; rw [mk38_at _ (by decide)]; decide⟩
def powP : Nat → Py
 | 0 => [(1, [])]
 | n + 1 => mulP [(1, [0]), (1, [1])] (powP n)
def exP (v i : Nat) : Py := [(exT[i]?.getD 0, List.replicate (nd i) v)]
theorem evm_rep (r : Nat → Int) (v : Nat) : ∀ n, evm r (List.replicate n v) = r v ^ n
 | 0 => by simp [evm]
 | n + 1 => by rw [List.replicate_succ, evm, evm_rep r v n, Int.pow_succ, Int.mul_comm]
theorem evp_exP (r : Nat → Int) (v i : Nat) : evp r (exP v i) = exI i * r v ^ nd i := by
 unfold exP exI
 rw [evp, evm_rep, evp, Int.add_zero]
theorem evp_powP (r : Nat → Int) : ∀ n, evp r (powP n) % 10007 = (r 0 + r 1) ^ n % 10007
 | 0 => by rw [powP, evp_one, Int.pow_zero]
 | n + 1 => by
  rw [powP, evp_mul, Int.pow_succ, Int.mul_comm _ (r 0 + r 1)]
  refine mod_mul' ?_ (evp_powP r n)
  simp [evp, evm]
theorem ex_check : (List.range 38).all (fun i => decide (cvP (exP 0) (exP 1) i = mulP [(exT[i]?.getD 0, [])] (powP (nd i)))) = true := by decide +kernel
theorem exa_add (s t : Int) : cvS (scS s exaS) (scS t exaS) = scS (s + t) exaS := by
 refine mk38_eq fun i hi => ?_
 have e := of_decide_eq_true (List.all_eq_true.1 ex_check i (List.mem_range.2 hi))
 have hs : ∀ u v : Int, ∀ i, i < 38 → iat (scS u exaS) i % 10007 = exI i * u ^ nd i % 10007 := fun u _ i hi => by
  rw [scS_at _ _ hi]; exact mod_mul' (exaS_at hi) rfl
 have h0 : ∀ v, v < 38 → evp (fun x => if x = 0 then s else t) (exP 0 v) % 10007 = iat (scS s exaS) v % 10007 := fun v hv => by
  rw [evp_exP, hs s 0 v hv, if_pos rfl]
 have h1 : ∀ v, v < 38 → evp (fun x => if x = 0 then s else t) (exP 1 v) % 10007 = iat (scS t exaS) v % 10007 := fun v hv => by
  rw [evp_exP, hs t 0 v hv, if_neg (by decide)]
 rw [← evp_cv _ h0 h1 hi, e, evp_mul, evp_c]
 exact mod_mul' (exaS_at hi).symm (evp_powP _ _)
def cmS (a : List Int) : List Int → List Int
 | g => g.foldl (fun o g => cvS o (scS g a)) unitS
theorem cmS_snoc (a g : List Int) (x : Int) : cmS a (g ++ [x]) = cvS (cmS a g) (scS x a) := by simp [cmS]
theorem cmS_ch {a : List Int} (ha : Ch a) (g : List Int) : Ch (cmS a g) := by
 rcases List.eq_nil_or_concat g with rfl | ⟨h, x, rfl⟩
 ·exact unitS_ch
 ·rw [List.concat_eq_append, cmS_snoc]; exact cvS_ch (scS_ch x ha)
def sumG : List Int → Int
 | [] => 0
 | x :: g => x + sumG g
theorem sumG_snoc (x : Int) : ∀ g, sumG (g ++ [x]) = sumG g + x
 | [] => by simp [sumG]
 | y :: g => by rw [List.cons_append, sumG, sumG_snoc x g, sumG]; omega
theorem cm_ex (g : List Int) : cmS exaS g = scS (sumG g) exaS := by
 generalize hn : g.length = n
 induction n generalizing g with
 | zero =>
  rw [List.length_eq_zero_iff.1 hn]
  exact (scS_zero exaS_ch).symm
 | succ n ih =>
  rcases List.eq_nil_or_concat g with rfl | ⟨h, x, rfl⟩
  ·simp at hn
  ·rw [List.concat_eq_append] at hn ⊢
   rw [cmS_snoc, ih h (by simpa using hn), exa_add, sumG_snoc]
end Go.Proofs.YtphccfabekdmnaaGreat


namespace Go.Proofs.YtphccfabekdmnaaGreat
def Agr (a b : List Int) (n : Nat) : Prop := ∀ i, i < 38 → nd i ≤ n → iat a i = iat b i
def mdR (i : Nat) : List Ctp := (nwR i).filter fun c => !decide (c.2.1 = [])
theorem mdR_ok {i : Nat} (hi : i < 38) (h0 : 0 < i) : (∀ c ∈ mdR i, (∀ v ∈ c.2.1, v < 38 ∧ nd v < nd i) ∧ c.2.2 < 38 ∧ nd c.2.2 < nd i) ∧ (nwR i).filter (fun c => decide (c.2.1 = [])) = [(1, [], i)] := by
 have ok : (List.range 37).all (fun j => ((mdR (j + 1)).all fun c => c.2.1.all (fun v => decide (v < 38) && decide (nd v < nd (j + 1))) && (decide (c.2.2 < 38) && decide (nd c.2.2 < nd (j + 1)))) && decide ((nwR (j + 1)).filter (fun c => decide (c.2.1 = [])) = [(1, [], j + 1)])) = true := by decide +kernel
 obtain ⟨j, rfl⟩ : ∃ j, i = j + 1 := ⟨i - 1, by omega⟩
 have h := List.all_eq_true.1 ok j (List.mem_range.2 (by omega))
 simp only [Bool.and_eq_true, List.all_eq_true, decide_eq_true_eq] at h
 exact h
theorem cvI_mid (A B : Nat → Int) {i : Nat} (hi : i < 38) (h0 : 0 < i) : cvI A B i = rowI A B (mdR i) + A i * B 0 + B i := by
 rw [cvI_full A B hi h0, rowI_split A B (fun c => decide (c.2.1 = [])) (nwR i), (mdR_ok hi h0).2]
 simp [rowI, prI, mdR]
 omega
theorem mid_mod {A A' B B' : Nat → Int} {i : Nat} (hi : i < 38) (h0 : 0 < i) (ha : ∀ j, j < 38 → nd j < nd i → A j % 10007 = A' j % 10007) (hb : ∀ j, j < 38 → nd j < nd i → B j % 10007 = B' j % 10007) : rowI A B (mdR i) % 10007 = rowI A' B' (mdR i) % 10007 :=
 rowI_mod fun c hc => by
  obtain ⟨h1, h2, h3⟩ := (mdR_ok hi h0).1 c hc
  exact ⟨fun v hv => ha v (h1 v hv).1 (h1 v hv).2, hb _ h2 h3⟩
def Sym (a : List Int) : Prop := cvS a (scS (-1) a) = unitS
theorem exa_sym : Sym exaS := by
 unfold Sym
 have h := exa_add 1 (-1)
 rw [scS_one exaS_ch.1] at h
 rw [h]
 exact scS_zero exaS_ch
theorem nd_le {i : Nat} (hi : i < 38) : nd i ≤ 6 := by
 have ok : (List.range 38).all (fun j => decide (nd j ≤ 6)) = true := by decide +kernel
 exact of_decide_eq_true (List.all_eq_true.1 ok i (List.mem_range.2 hi))
theorem neg_pow_even {n : Nat} (h : n % 2 = 0) : (-1 : Int) ^ n = 1 := by
 obtain ⟨m, rfl⟩ : ∃ m, n = 2 * m := ⟨n / 2, by omega⟩
 rw [Int.pow_mul]
 show (1 : Int) ^ m = 1
 exact Int.one_pow
theorem inv_mod {u x y : Int} (v : Int) (hu : v * u % 10007 = 1) (h : u * x % 10007 = u * y % 10007) : x % 10007 = y % 10007 := by
 have e : ∀ z : Int, z % 10007 = v * (u * z) % 10007 := fun z => by
  rw [← Int.mul_assoc, Int.mul_emod, hu, Int.one_mul, Int.emod_emod_of_dvd _ (Int.dvd_refl _)]
 rw [e x, e y, Int.mul_emod v (u * x), h, ← Int.mul_emod]
theorem two_eq {X Y x y : Int} (k1 : (X + x + x) % 10007 = 0) (k2 : (Y + y + y) % 10007 = 0) (m : X % 10007 = Y % 10007) (r1 : 0 ≤ x ∧ x < 10007) (r2 : 0 ≤ y ∧ y < 10007) : x = y := by
 rw [Int.add_assoc, ← Int.two_mul] at k1 k2
 have e : 2 * x % 10007 = 2 * y % 10007 := by
  clear r1 r2
  generalize 2 * x = z at *
  generalize 2 * y = w at *
  omega
 have := inv_mod 5004 (by decide) e
 rw [Int.emod_eq_of_lt r1.1 r1.2, Int.emod_eq_of_lt r2.1 r2.2] at this
 exact this
theorem sym_even {a b : List Int} (ha : Ch a) (hb : Ch b) (sa : Sym a) (sb : Sym b) {n : Nat} (hn : n % 2 = 0) (h : Agr a b (n - 1)) : Agr a b n := by
 intro i hi hni
 by_cases hl : nd i ≤ n - 1
 ·exact h i hi hl
 ·have e : nd i = n := by omega
  have h0 : 0 < i := by
   rcases Nat.eq_zero_or_pos i with rfl | h0
   ·exact (hl (show 0 ≤ n - 1 by omega)).elim
   ·exact h0
  have key : ∀ c : List Int, Ch c → Sym c → (rowI (iat c) (iat (scS (-1) c)) (mdR i) + iat c i + iat c i) % 10007 = 0 := fun c hc sc => by
   have u := un_at hi
   rw [if_neg (by omega), ← show cvS c (scS (-1) c) = unitS from sc] at u
   have m := cvS_mod c (scS (-1) c) hi
   rw [u, cvI_mid _ _ hi h0, (scS_ch (-1) hc).2, Int.mul_one] at m
   have s := scS_at (-1) c hi
   rw [e, neg_pow_even hn, Int.mul_one] at s
   omega
  have k1 := key a ha sa
  have k2 := key b hb sb
  have m := mid_mod (A := iat a) (A' := iat b) (B := iat (scS (-1) a)) (B' := iat (scS (-1) b)) hi h0 (fun j hj hl => by rw [h j hj (by omega)]) (fun j hj hl => by
   rw [scS_at _ _ hj, scS_at _ _ hj, h j hj (by omega)])
  have r1 := ha.1.at i
  have r2 := hb.1.at i
  exact two_eq k1 k2 m r1 r2
theorem cmS_cons {a : List Int} (ha : Ch a) (x : Int) (g : List Int) : cmS a (x :: g) = cvS (scS x a) (cmS a g) := by
 generalize hn : g.length = n
 induction n generalizing g with
 | zero =>
  rw [List.length_eq_zero_iff.1 hn]
  show cvS unitS (scS x a) = cvS (scS x a) unitS
  rw [unitS_l (scS_N _ _), unitS_r (scS_ch x ha)]
 | succ n ih =>
  rcases List.eq_nil_or_concat g with rfl | ⟨h, y, rfl⟩
  ·simp at hn
  ·rw [List.concat_eq_append] at hn ⊢
   rw [← List.cons_append, cmS_snoc, cmS_snoc, ih h (by simpa using hn), cvS_asc (scS_ch x ha) (cmS_ch ha h)]
theorem cmS_sc {a : List Int} (k : Int) (g : List Int) : scS k (cmS a g) = cmS a (g.map (· * k)) := by
 generalize hn : g.length = n
 induction n generalizing g with
 | zero =>
  rw [List.length_eq_zero_iff.1 hn]
  exact scS_un k
 | succ n ih =>
  rcases List.eq_nil_or_concat g with rfl | ⟨h, y, rfl⟩
  ·simp at hn
  ·rw [List.concat_eq_append] at hn ⊢
   rw [List.map_append, List.map_singleton, cmS_snoc, cmS_snoc, ← scS_cv, ih h (by simpa using hn), scS_sc]
theorem sym_sc {a : List Int} (sa : Sym a) (x : Int) : cvS (scS x a) (scS (x * -1) a) = unitS := by
 have e : scS (x * -1) a = scS x (scS (-1) a) := by rw [scS_sc]; congr 1; omega
 rw [e, scS_cv, show cvS a (scS (-1) a) = unitS from sa, scS_un]
theorem sym_rev {a : List Int} (ha : Ch a) (sa : Sym a) (g : List Int) : cvS (cmS a g) (cmS a (g.reverse.map (· * -1))) = unitS := by
 generalize hn : g.length = n
 induction n generalizing g with
 | zero =>
  rw [List.length_eq_zero_iff.1 hn]
  show cvS unitS unitS = unitS
  exact unitS_l unitS_ch.1
 | succ n ih =>
  rcases List.eq_nil_or_concat g with rfl | ⟨h, y, rfl⟩
  ·simp at hn
  ·rw [List.concat_eq_append] at hn ⊢
   rw [cmS_snoc, List.reverse_append, List.reverse_singleton, List.singleton_append, List.map_cons, cmS_cons ha, cvS_asc (cmS_ch ha h) (scS_ch y ha), ← cvS_asc (scS_ch y ha) (scS_ch _ ha), sym_sc sa, unitS_l (cmS_ch ha _).1]
   exact ih h (by simpa using hn)
theorem sym_cm {a : List Int} (ha : Ch a) (sa : Sym a) {g : List Int} (hg : g.reverse = g) : Sym (cmS a g) := by
 have h := sym_rev ha sa g
 rw [hg] at h
 unfold Sym
 rw [cmS_sc]
 exact h
def sumPw (n : Nat) : List Int → Int
 | [] => 0
 | x :: g => x ^ n + sumPw n g
theorem sumPw_snoc (n : Nat) (x : Int) : ∀ g, sumPw n (g ++ [x]) = sumPw n g + x ^ n
 | [] => by simp [sumPw]
 | y :: g => by rw [List.cons_append, sumPw, sumPw_snoc n x g, sumPw]; omega
theorem cm_agr {a b : List Int} (ha : Ch a) (hb : Ch b) {p : Nat} (h : Agr a b p) (g : List Int) :
  Agr (cmS a g) (cmS b g) p ∧ ∀ i, i < 38 → nd i = p + 1 → iat (cmS a g) i % 10007 = (iat (cmS b g) i + sumPw (p + 1) g * (iat a i - iat b i)) % 10007 := by
 generalize hn : g.length = n
 induction n generalizing g with
 | zero =>
  rw [List.length_eq_zero_iff.1 hn]
  exact ⟨fun i _ _ => rfl, fun i _ _ => by simp [sumPw, cmS]⟩
 | succ n ih =>
  rcases List.eq_nil_or_concat g with rfl | ⟨g, x, rfl⟩
  ·simp at hn
  ·rw [List.concat_eq_append] at hn ⊢
   obtain ⟨i1, i2⟩ := ih g (by simpa using hn)
   rw [cmS_snoc, cmS_snoc, sumPw_snoc]
   have sx : ∀ j, j < 38 → nd j ≤ p → iat (scS x a) j % 10007 = iat (scS x b) j % 10007 := fun j hj hl => by
    rw [scS_at _ _ hj, scS_at _ _ hj, h j hj hl]
   have main : ∀ i, i < 38 → 0 < i → nd i ≤ p + 1 → (rowI (iat (cmS a g)) (iat (scS x a)) (mdR i)) % 10007 = (rowI (iat (cmS b g)) (iat (scS x b)) (mdR i)) % 10007 := fun i hi h0 hl =>
    mid_mod hi h0 (fun j hj hl => by rw [i1 j hj (by omega)]) (fun j hj hl => sx j hj (by omega))
   refine ⟨fun i hi hl => ?_, fun i hi hl => ?_⟩
   ·have r1 := (cvS_N (cmS a g) (scS x a)).at i
    have r2 := (cvS_N (cmS b g) (scS x b)).at i
    have m1 := cvS_mod (cmS a g) (scS x a) hi
    have m2 := cvS_mod (cmS b g) (scS x b) hi
    rcases Nat.eq_zero_or_pos i with rfl | h0
    ·have h1 := (cvS_ch (a := cmS a g) (scS_ch x ha)).2
     have h2 := (cvS_ch (a := cmS b g) (scS_ch x hb)).2
     omega
    ·rw [cvI_mid _ _ hi h0, (scS_ch x ha).2, Int.mul_one] at m1
     rw [cvI_mid _ _ hi h0, (scS_ch x hb).2, Int.mul_one] at m2
     have h3 := main i hi h0 (by omega)
     have h4 := i1 i hi hl
     have h5 := sx i hi hl
     omega
   ·have h0 : 0 < i := by
     rcases Nat.eq_zero_or_pos i with rfl | h0
     ·exact absurd hl (by show ¬ 0 = p + 1; omega)
     ·exact h0
    rw [cvS_mod _ _ hi, cvI_mid _ _ hi h0, (scS_ch x ha).2, Int.mul_one]
    have m2 := cvS_mod (cmS b g) (scS x b) hi
    rw [cvI_mid _ _ hi h0, (scS_ch x hb).2, Int.mul_one] at m2
    have h3 := main i hi h0 (by omega)
    have h4 := i2 i hi hl
    have h5 := scS_at x a hi
    have h6 := scS_at x b hi
    rw [hl] at h5 h6
    have e : x ^ (p + 1) * (iat a i - iat b i) = iat a i * x ^ (p + 1) - iat b i * x ^ (p + 1) := by
     rw [Int.mul_sub, Int.mul_comm, Int.mul_comm (x ^ (p + 1)) (iat b i)]
    rw [Int.add_mul, e]
    generalize iat a i * x ^ (p + 1) = A at *
    generalize iat b i * x ^ (p + 1) = B at *
    generalize sumPw (p + 1) g * (iat a i - iat b i) = C at *
    omega
theorem cm_raise {a : List Int} (ha : Ch a) {p : Nat} (h : Agr a exaS p) {g : List Int} (h1 : sumG g % 10007 = 1) (h2 : sumPw (p + 1) g % 10007 = 0) : Agr (cmS a g) exaS (p + 1) := by
 obtain ⟨k1, k2⟩ := cm_agr ha exaS_ch h g
 have e : cmS exaS g = exaS := by
  rw [cm_ex, scS_mod (l := 1) (by rw [h1]; rfl), scS_one exaS_ch.1]
 rw [e] at k1 k2
 intro i hi hl
 by_cases hl2 : nd i ≤ p
 ·exact k1 i hi hl2
 ·have k3 := k2 i hi (by omega)
  have r1 := (cmS_ch ha g).1.at i
  have r2 := exaS_ch.1.at i
  have z : sumPw (p + 1) g * (iat a i - iat exaS i) % 10007 = 0 := by rw [Int.mul_emod, h2, Int.zero_mul]; rfl
  omega
theorem cm_jump {a : List Int} (ha : Ch a) (sa : Sym a) {p : Nat} (hp : p % 2 = 0) (h : Agr a exaS p) {g : List Int} (h1 : sumG g % 10007 = 1) (h2 : sumPw (p + 1) g % 10007 = 0) (hr : g.reverse = g) : Sym (cmS a g) ∧ Agr (cmS a g) exaS (p + 2) := by
 have s := sym_cm ha sa hr
 exact ⟨s, sym_even (cmS_ch ha g) exaS_ch s exa_sym (n := p + 2) (by omega) (cm_raise ha h h1 h2)⟩
def agI (a b : List Int) : Nat → Nat → Int
 | 0, _ => 6
 | m + 1, i => if iat a i = iat b i then agI a b m (i + 1) else (nd i : Int) - 1
def agS (a b : List Int) : Int := agI a b 38 0
theorem nd_mono {i j : Nat} (h : i ≤ j) (hj : j < 38) : nd i ≤ nd j := by
 have ok : (List.range 38).all (fun j => (List.range (j + 1)).all fun i => decide (nd i ≤ nd j)) = true := by decide +kernel
 exact of_decide_eq_true (List.all_eq_true.1 (List.all_eq_true.1 ok j (List.mem_range.2 hj)) i (List.mem_range.2 (by omega)))
theorem agI_spec (a b : List Int) : ∀ m i, m + i = 38 → (agI a b m i = 6 ∧ ∀ j, i ≤ j → j < 38 → iat a j = iat b j) ∨ ∃ j, i ≤ j ∧ j < 38 ∧ iat a j ≠ iat b j ∧ agI a b m i = (nd j : Int) - 1 ∧ ∀ k, i ≤ k → k < j → iat a k = iat b k
 | 0, i, h => .inl ⟨rfl, fun j h1 h2 => by omega⟩
 | m + 1, i, h => by
  by_cases e : iat a i = iat b i
  ·rw [agI, if_pos e]
   rcases agI_spec a b m (i + 1) (by omega) with ⟨h1, h2⟩ | ⟨j, h1, h2, h3, h4, h5⟩
   ·refine .inl ⟨h1, fun j k1 k2 => ?_⟩
    by_cases ej : j = i
    ·subst ej; exact e
    ·exact h2 j (by omega) k2
   ·refine .inr ⟨j, by omega, h2, h3, h4, fun k k1 k2 => ?_⟩
    by_cases ek : k = i
    ·subst ek; exact e
    ·exact h5 k (by omega) k2
  ·rw [agI, if_neg e]
   exact .inr ⟨i, Nat.le_refl _, by omega, e, rfl, fun k k1 k2 => by omega⟩
theorem agS_spec (a b : List Int) : (agS a b = 6 ∧ ∀ j, j < 38 → iat a j = iat b j) ∨ ∃ j, j < 38 ∧ iat a j ≠ iat b j ∧ agS a b = (nd j : Int) - 1 ∧ ∀ k, k < 38 → nd k < nd j → iat a k = iat b k := by
 rcases agI_spec a b 38 0 rfl with ⟨h1, h2⟩ | ⟨j, _, h2, h3, h4, h5⟩
 ·exact .inl ⟨h1, fun j hj => h2 j (by omega) hj⟩
 ·refine .inr ⟨j, h2, h3, h4, fun k hk hl => h5 k (by omega) ?_⟩
  rcases Nat.lt_or_ge k j with h | h
  ·exact h
  ·have := nd_mono h hk; omega
theorem agS_le {a b : List Int} {n : Nat} (h : Agr a b n) (h6 : n ≤ 6) : (n : Int) ≤ agS a b := by
 rcases agS_spec a b with ⟨h1, _⟩ | ⟨j, h2, h3, h4, _⟩
 ·omega
 ·rcases Nat.lt_or_ge n (nd j) with hl | hl
  ·omega
  ·exact (h3 (h j h2 hl)).elim
theorem agS_agr {a b : List Int} {n : Nat} (h : (n : Int) ≤ agS a b) : Agr a b n := by
 intro i hi hl
 rcases agS_spec a b with ⟨_, h2⟩ | ⟨j, h2, h3, h4, h5⟩
 ·exact h2 i hi
 ·exact h5 i hi (by omega)
theorem agS_ch {a b : List Int} (ha : Ch a) (hb : Ch b) : 0 ≤ agS a b ∧ agS a b ≤ 6 := by
 have h : Agr a b 0 := fun i hi hl => by
  rcases Nat.eq_zero_or_pos i with rfl | h0
  ·rw [ha.2, hb.2]
  ·have := nd_pos hi h0; omega
 refine ⟨by have := agS_le h (by omega); simpa using this, ?_⟩
 rcases agS_spec a b with ⟨h1, _⟩ | ⟨j, h2, h3, h4, _⟩
 ·omega
 ·have := nd_le h2; omega
theorem sym_ord {a : List Int} (ha : Ch a) (sa : Sym a) : agS a exaS % 2 = 0 := by
 obtain ⟨h1, h2⟩ := agS_ch ha exaS_ch
 obtain ⟨n, hn⟩ : ∃ n : Nat, agS a exaS = n := ⟨(agS a exaS).toNat, by omega⟩
 rcases Nat.mod_two_eq_zero_or_one n with h | h
 ·omega
 ·have k := sym_even ha exaS_ch sa exa_sym (n := n + 1) (by omega) (agS_agr (by rw [hn]; omega))
  have := agS_le k (by omega)
  omega
theorem sym_iff {a : List Int} (ha : Ch a) : invS (scS (-1) a) = a ↔ Sym a := by
 have hs := scS_ch (-1) ha
 constructor
 ·intro h
  unfold Sym
  have := inv_l hs
  rw [h] at this
  exact this
 ·intro h
  have e : cvS (scS (-1) a) a = unitS := by
   have h2 : scS (-1) (cvS a (scS (-1) a)) = unitS := by rw [show cvS a (scS (-1) a) = unitS from h, scS_un]
   rw [← scS_cv, scS_sc] at h2
   rw [show scS (-1 * -1) a = a from scS_one ha.1] at h2
   exact h2
  have f : cvS (cvS (invS (scS (-1) a)) (scS (-1) a)) a = cvS (invS (scS (-1) a)) (cvS (scS (-1) a) a) := cvS_asc (invS_ch _) hs
  rw [inv_l hs, unitS_l ha.1, e, unitS_r (invS_ch _)] at f
  exact f.symm
end Go.Proofs.YtphccfabekdmnaaGreat


namespace Go.Proofs.YtphccfabekdmnaaGreat
def T2 (n : Nat) (g : List Int) : Int := g.foldl (fun (p : Int × Int) x => (p.1 + p.2 * x ^ n, p.2 + x)) (0, 0) |>.1
end Go.Proofs.YtphccfabekdmnaaGreat


namespace Go.Proofs.YtphccfabekdmnaaGreat
open Go.Abs
def mapB (a : List Int) : Bool := decide (a.length = 38) && numsB a
theorem IsMap_c (a : List Int) (ha : a.length ≤ 9223372036854775807) : Con Tryz.prog 94 [.sl a.length (avs a)] (.bool (mapB a)) := by
 have cN := areNumbers_c a ha
 unfold mapB
 by_cases h : a.length = 38
 ·have hi : (a.length : Int) = 38 := by omega
  rw [decide_eq_true h]
  refine con_of_vc Tryz.mixed ⟨3, [], [], []⟩ Tryz.func94 (by decide) rfl (by simp) (by decide) (by simp [freshOK, freshL, go_sem]) ?_
  rw [Tryz.ntmps94]
  simp [go_sem, hi]
  refine CallVC.of (cN) (by decide) ?_
  simp [go_sem]
 ·have hi : ¬ (a.length : Int) = 38 := by omega
  rw [decide_eq_false h]
  refine con_of_vc Tryz.mixed ⟨3, [], [], []⟩ Tryz.func94 (by decide) rfl (by simp) (by decide) (by simp [freshOK, freshL, go_sem]) ?_
  rw [Tryz.ntmps94]
  simp [go_sem, hi]
theorem l07Is_c (a : List Int) (ha : a.length ≤ 9223372036854775807) : Con Tryz.prog 134 [.sl a.length (avs a)] (.bool (mapB a)) := by
 have cN := l01Numbers_c a ha
 unfold mapB
 by_cases h : a.length = 38
 ·have hi : (a.length : Int) = 38 := by omega
  rw [decide_eq_true h]
  refine con_of_vc Tryz.mixed ⟨3, [], [], []⟩ Tryz.func134 (by decide) rfl (by simp) (by decide) (by simp [freshOK, freshL, go_sem]) ?_
  rw [Tryz.ntmps134]
  simp [go_sem, hi]
  refine CallVC.of (cN) (by decide) ?_
  simp [go_sem]
 ·have hi : ¬ (a.length : Int) = 38 := by omega
  rw [decide_eq_false h]
  refine con_of_vc Tryz.mixed ⟨3, [], [], []⟩ Tryz.func134 (by decide) rfl (by simp) (by decide) (by simp [freshOK, freshL, go_sem]) ?_
  rw [Tryz.ntmps134]
  simp [go_sem, hi]
end Go.Proofs.YtphccfabekdmnaaGreat


namespace Go.Proofs.YtphccfabekdmnaaGreat
open Go.Abs
def nvs (l : List Nat) : List Int := l.map fun (v : Nat) => (v : Int)
theorem nvs_len (l : List Nat) : (nvs l).length = l.length := by simp [nvs]
theorem nvs_at {l : List Nat} {i : Nat} (h : i < l.length) : (nvs l).getD i 0 = ((l[i]?.getD 0 : Nat) : Int) := by rw [List.getD_eq_getElem?_getD]; simp [nvs, h]
theorem N38.Ns {a : List Int} (h : N38 a) : Ns a := fun x hx => by have := h.2 x hx; exact ⟨this.1, by have := this.2; omega⟩
theorem N38_of {a : List Int} (h : mapB a = true) : N38 a := by
 unfold mapB at h
 simp only [Bool.and_eq_true, decide_eq_true_eq] at h
 have hn := numsB_N.1 h.2
 exact ⟨by omega, fun x hx => by have := hn x hx; exact ⟨this.1, by have := this.2; omega⟩⟩
theorem N38.mapB {a : List Int} (h : N38 a) : mapB a = true := by
 unfold Go.Proofs.YtphccfabekdmnaaGreat.mapB
 rw [h.1, numsB_N.2 h.Ns]; rfl
theorem avs_dropI {a : List Int} {v : Nat} (h : v < a.length) : (avs a).drop v = .int (iat a v) :: avs (a.drop (v + 1)) := by
 rw [avs_drop h, List.getD_eq_getElem?_getD]; rfl
def vlN (a : List Int) (l : List Nat) : Int := l.foldl (fun o v => o * iat a v % 10007) 1
theorem vlN_snoc (a : List Int) (l : List Nat) (v : Nat) : vlN a (l ++ [v]) = vlN a l * iat a v % 10007 := by simp [vlN]
theorem vlN_N (a : List Int) (l : List Nat) : isN (vlN a l) := by
 rcases List.eq_nil_or_concat l with rfl | ⟨h, x, rfl⟩
 ·show isN 1; exact ⟨by decide, by decide⟩
 ·rw [List.concat_eq_append, vlN_snoc]; exact isN_mod _
theorem prI_snoc (A : Nat → Int) (v : Nat) : ∀ l, prI A (l ++ [v]) = prI A l * A v
 | [] => by simp [prI]
 | w :: l => by rw [List.cons_append, prI, prI_snoc A v l, prI, Int.mul_assoc]
theorem vlN_mod (a : List Int) (l : List Nat) : vlN a l % 10007 = prI (iat a) l % 10007 := by
 generalize hn : l.length = n
 induction n generalizing l with
 | zero => rw [List.length_eq_zero_iff.1 hn]; rfl
 | succ n ih =>
  rcases List.eq_nil_or_concat l with rfl | ⟨h, x, rfl⟩
  ·simp at hn
  ·rw [List.concat_eq_append] at hn ⊢
   rw [vlN_snoc, prI_snoc, Int.emod_emod_of_dvd _ (Int.dvd_refl _)]
   exact mod_mul' (ih h (by simpa using hn)) rfl
theorem valueOf_c (a : List Int) (l : List Nat) (ha : Ns a) (hal : a.length ≤ 1048576) (hl : l.length ≤ 100) (h : ∀ v ∈ l, v < a.length) :
  Con Tryz.prog 214 [.sl a.length (avs a), .sl l.length (avs (nvs l))] (.int (vlN a l)) := by
 refine con_of_vc Tryz.mixed ⟨8, [], [], []⟩ Tryz.func214 (by decide) rfl (by simp) (by decide) (by simp [freshOK, freshL, go_sem]) ?_
 rw [Tryz.ntmps214]
 simp [go_sem]
 refine loop_inv (5 :: 7 :: List.range' 10 12) (fun i : Nat => [(5, .int (vlN a (l.take i))), (10, .int i)]) (fun i => i ≤ l.length) (fun i => l.length - i) 0 (by simp) (by simp [go_sem, vlN]) (by simp [go_sem]) ?_
 intro i hi
 by_cases hil : i < l.length
 ·have hii : (i : Int) < l.length := by omega
  have hm := h _ (memD 0 hil)
  have tk : l.take (i + 1) = l.take i ++ [l[i]?.getD 0] := by
   rw [List.take_succ_eq_append_getElem hil, List.getElem?_eq_getElem hil]; rfl
  have hN := vlN_N a (l.take i)
  have hv : isN (iat a (l[i]?.getD 0)) := ha.get _
  have cN := num_c (vlN a (l.take i) * iat a (l[i]?.getD 0)) (mul_fits hN hv).1 (mul_fits hN hv).2
  have dr := avs_drop (show i < (nvs l).length by rw [nvs_len]; exact hil)
  rw [nvs_at hil] at dr
  have nl : ¬ nvs l = [] := by intro e; have := nvs_len l; rw [e] at this; simp at this; omega
  have ar := avs_dropI hm
  have na : ¬ a = [] := by intro e; rw [e] at hm; simp at hm
  have e := vlN_snoc a (l.take i) (l[i]?.getD 0)
  rw [← tk] at e
  have fm := mul_fits hN hv
  generalize l[i]?.getD 0 = v at *
  generalize iat a v = x at *
  simp [go_sem, hii, dr, ar]
  refine ⟨nl, ⟨hm, na⟩, ⟨fm.1, fm.2⟩, ?_⟩
  refine CallVC.of (cN) (by decide) ?_
  simp [go_sem]
  refine ⟨⟨by omega, by omega⟩, i + 1, by omega, by omega, Off_reset _ _ _ (by simp), ?_⟩
  rw [e]
  exact ⟨rfl, by omega⟩
 ·have e : i = l.length := by omega
  subst e
  have hii : ¬ (l.length : Int) < l.length := by omega
  rw [List.take_length]
  simp [go_sem, hii]
def ctF (c : Ctp) : List AV := [.int c.1, .sl c.2.1.length (avs (nvs c.2.1)), .int c.2.2]
def fcF : List AV := cutT.map fun r => .sl r.length (r.flatMap ctF)
theorem ctF_len (X : List Ctp) : (X.flatMap ctF).length = X.length * 3 := by
 induction X with
 | nil => rfl
 | cons s X ih => rw [List.flatMap_cons, List.length_append, ih]; simp [ctF]; omega
theorem ctF_drop {L : List Ctp} {i : Nat} (h : i < L.length) : (L.flatMap ctF).drop (i * 3) = ctF (L[i]?.getD (0, [], 0)) ++ (L.drop (i + 1)).flatMap ctF := by
 have e1 : ((L.take i).flatMap ctF).length = i * 3 := by rw [ctF_len, List.length_take, Nat.min_eq_left (by omega)]
 have e2 : L.drop i = L[i]?.getD (0, [], 0) :: L.drop (i + 1) := by rw [List.drop_eq_getElem_cons h]; simp [h]
 have e3 : L.flatMap ctF = (L.take i).flatMap ctF ++ (L.drop i).flatMap ctF := by rw [← List.flatMap_append, List.take_append_drop]
 rw [e3, List.drop_append_of_le_length (by omega), e2, List.flatMap_cons, List.drop_eq_nil_of_le (by omega), List.nil_append]
theorem cutT_len : cutT.length = 37 := by decide +kernel
theorem fcF_drop {i : Nat} (h : i < 37) : fcF.drop i = .sl (ctR (i + 1)).length ((ctR (i + 1)).flatMap ctF) :: fcF.drop (i + 1) := by
 have hl : i < cutT.length := by rw [cutT_len]; exact h
 unfold fcF ctR
 rw [← List.map_drop, List.drop_eq_getElem_cons hl, List.map_cons, ← List.map_drop]
 simp [hl]
theorem fcF_ne : ¬ fcF = [] := by
 have := congrArg List.length (show fcF = cutT.map fun r => .sl r.length (r.flatMap ctF) from rfl)
 rw [List.length_map, cutT_len] at this
 intro e
 rw [e] at this
 simp at this
theorem ctR_le {i : Nat} (hi : i < 38) : (ctR i).length ≤ 100 ∧ ∀ c ∈ ctR i, c.2.1.length ≤ 100 ∧ c.1 ≤ 100 := by
 have ok : (List.range 38).all (fun i => decide ((ctR i).length ≤ 100) && (ctR i).all fun c => decide (c.2.1.length ≤ 100) && decide (c.1 ≤ 100)) = true := by decide +kernel
 have h := List.all_eq_true.1 ok i (List.mem_range.2 hi)
 simp only [Bool.and_eq_true, List.all_eq_true, decide_eq_true_eq] at h
 exact h
def rsF (a b : List Int) (L : List Ctp) : Int := L.foldl (fun s c => s + (c.1 : Int) * (vlN a c.2.1 * iat b c.2.2 % 10007) % 10007) 0
theorem rsF_snoc (a b : List Int) (L : List Ctp) (c : Ctp) : rsF a b (L ++ [c]) = rsF a b L + (c.1 : Int) * (vlN a c.2.1 * iat b c.2.2 % 10007) % 10007 := by simp [rsF]
theorem rowI_snoc (A B : Nat → Int) (c : Ctp) : ∀ L, rowI A B (L ++ [c]) = rowI A B L + (c.1 : Int) * (prI A c.2.1 * B c.2.2)
 | [] => by simp [rowI]
 | d :: L => by rw [List.cons_append, rowI, rowI_snoc A B c L, rowI, Int.add_assoc]
theorem rsF_bd (a b : List Int) (L : List Ctp) : 0 ≤ rsF a b L ∧ rsF a b L ≤ 10006 * L.length := by
 generalize hn : L.length = n
 induction n generalizing L with
 | zero => rw [List.length_eq_zero_iff.1 hn]; exact ⟨Int.le_refl 0, by show (0 : Int) ≤ _; omega⟩
 | succ n ih =>
  rcases List.eq_nil_or_concat L with rfl | ⟨h, x, rfl⟩
  ·simp at hn
  ·rw [List.concat_eq_append] at hn ⊢
   rw [rsF_snoc]
   have := ih h (by simpa using hn)
   have m := isN_mod ((x.1 : Int) * (vlN a x.2.1 * iat b x.2.2 % 10007))
   have := m.1; have := m.2
   omega
theorem rsF_mod (a b : List Int) (L : List Ctp) : rsF a b L % 10007 = rowI (iat a) (iat b) L % 10007 := by
 generalize hn : L.length = n
 induction n generalizing L with
 | zero => rw [List.length_eq_zero_iff.1 hn]; rfl
 | succ n ih =>
  rcases List.eq_nil_or_concat L with rfl | ⟨h, x, rfl⟩
  ·simp at hn
  ·rw [List.concat_eq_append] at hn ⊢
   rw [rsF_snoc, rowI_snoc]
   refine mod_add' (ih h (by simpa using hn)) ?_
   rw [Int.emod_emod_of_dvd _ (Int.dvd_refl _)]
   refine mod_mul' rfl ?_
   rw [Int.emod_emod_of_dvd _ (Int.dvd_refl _)]
   exact mod_mul' (vlN_mod a _) rfl
theorem mk38_take (f : Nat → Int) {i : Nat} (h : i < 38) : (mk38 f).take (i + 1) = (mk38 f).take i ++ [f i % 10007] := by
 have hl : i < (mk38 f).length := by rw [(mk38_N f).1]; exact h
 rw [List.take_succ_eq_append_getElem hl]
 have := mk38_at f h
 unfold iat at this
 rw [List.getElem?_eq_getElem hl] at this
 rw [← this]; rfl
theorem mk38_all (f : Nat → Int) : (mk38 f).take 38 = mk38 f := List.take_of_length_le (by rw [(mk38_N f).1]; exact Nat.le_refl _)
theorem convolve_c (a b : List Int) (ha : N38 a) (hb : N38 b) :
  Con Tryz.prog 140 [.agg [.sl 37 (mat (trN 6)), .sl 37 fcF], .sl a.length (avs a), .sl b.length (avs b)] (.own 2 38 (avs (cvS a b))) := by
 have b0 := avs_dropI (a := b) (v := 0) (by rw [hb.1]; omega)
 rw [List.drop_zero] at b0
 have nb : ¬ b = [] := by intro e; have := hb.1; rw [e] at this; simp at this
 have t1 := mk38_take (cvI (iat a) (iat b)) (i := 0) (by omega)
 rw [List.take_zero, List.nil_append, cvI, if_pos rfl, Int.emod_eq_of_lt (hb.at 0).1 (hb.at 0).2] at t1
 have tk := fun i (h : i < 38) => mk38_take (cvI (iat a) (iat b)) h
 have ta := mk38_all (cvI (iat a) (iat b))
 have la := ha.1
 have lb := hb.1
 have nf := fcF_ne
 have fd := fun i h => fcF_drop (i := i) h
 show Con Tryz.prog _ _ (.own _ 38 (avs (mk38 (cvI (iat a) (iat b)))))
 generalize hO : mk38 (cvI (iat a) (iat b)) = O at *
 generalize fcF = FC at *
 have b0l : 0 < b.length := by omega
 refine con_of_vc Tryz.mixed ⟨13, [], [], []⟩ Tryz.func140 (by decide) rfl (by simp) (by decide) (by simp [freshOK, freshL, go_sem]) ?_
 rw [Tryz.ntmps140]
 simp [go_sem, b0]
 refine ⟨b0l, ?_⟩
 refine loop_inv (7 :: 9 :: 10 :: 12 :: List.range' 20 34) (fun i : Nat => [(7, .own 2 (i + 1) (avs (O.take (i + 1)))), (20, .int i)]) (fun i => i ≤ 37) (fun i => 37 - i) 0 (by simp) (by simp [go_sem, t1, avs]) (by simp [go_sem]) ?_
 intro i hi
 by_cases hil : i < 37
 ·have hii : (i : Int) < 37 := by omega
  have dr := fd i hil
  obtain ⟨r1, r2⟩ := ctR_le (i := i + 1) (by omega)
  have rk := ctR_ok (i := i + 1) (by omega)
  have tk1 := tk (i + 1) (by omega)
  have cv : cvI (iat a) (iat b) (i + 1) = rowI (iat a) (iat b) (ctR (i + 1)) := by unfold cvI; rw [if_neg (by omega)]
  rw [cv] at tk1
  have lo : O.length = 38 := by rw [← hO]; exact (mk38_N _).1
  generalize ctR (i + 1) = R at *
  simp [go_sem, hii, dr]
  refine ⟨nf, ?_⟩
  refine loop_inv (10 :: 12 :: List.range' 26 22) (fun j : Nat => [(10, .int (rsF a b (R.take j))), (26, .int j)]) (fun j => j ≤ R.length) (fun j => R.length - j) 0 (by simp) (by simp [go_sem, rsF]) (by simp [go_sem]) ?_
  intro j hj
  by_cases hjl : j < R.length
  ·have hji : (j : Int) < R.length := by omega
   have cd := ctF_drop hjl
   have hm := memD (0, [], 0) hjl
   obtain ⟨q1, q2⟩ := r2 _ hm
   obtain ⟨k1, k2⟩ := rk _ hm
   have tj : R.take (j + 1) = R.take j ++ [R[j]?.getD (0, [], 0)] := by
    rw [List.take_succ_eq_append_getElem hjl, List.getElem?_eq_getElem hjl]; rfl
   have rs := rsF_snoc a b (R.take j) (R[j]?.getD (0, [], 0))
   rw [← tj] at rs
   have bd := rsF_bd a b (R.take j)
   rw [List.length_take] at bd
   have nR : ¬ R.flatMap ctF = [] := by intro e; have := ctF_len R; rw [e] at this; simp at this; omega
   have lR := ctF_len R
   generalize R[j]?.getD (0, [], 0) = c at *
   obtain ⟨n, l, t⟩ := c
   simp only [ctF] at cd q1 q2 k1 k2 rs
   have cV := valueOf_c a l ha.Ns (by omega) q1 (fun v hv => by have := k1 v hv; omega)
   have vN := vlN_N a l
   have bN : isN (iat b t) := hb.Ns.get t
   have br := avs_dropI (a := b) (v := t) (by omega)
   rw [b0, List.drop_one] at br
   have f1 := mul_fits vN bN
   have c1 := num_c (vlN a l * iat b t) f1.1 f1.2
   have m1 := isN_mod (vlN a l * iat b t)
   have f2 : fits ((n : Int) * (vlN a l * iat b t % 10007)) := mul_fits (show isN (n : Int) from ⟨by omega, by omega⟩) m1
   have c2 := num_c ((n : Int) * (vlN a l * iat b t % 10007)) f2.1 f2.2
   have m2 := isN_mod ((n : Int) * (vlN a l * iat b t % 10007))
   generalize rsF a b (R.take j) = s at *
   generalize hMC : R.flatMap ctF = MC at *
   generalize vlN a l = v at *
   generalize iat b t = y at *
   simp [go_sem, hji, cd, br]
   refine ⟨nR, by kernel_rfl, ?_⟩
   refine CallD.of (cV) (by simp [roots, rootsL]) (by decide) ?_
   simp [go_sem]
   simp [go_sem, br]
   refine ⟨by omega, ⟨f1.1, f1.2⟩, ?_⟩
   refine CallD.of (c1) (by simp [roots, rootsL]) (by decide) ?_
   simp [go_sem]
   refine ⟨⟨f2.1, f2.2⟩, ?_⟩
   refine CallD.of (c2) (by simp [roots, rootsL]) (by decide) ?_
   simp [go_sem]
   refine ⟨⟨by omega, by omega⟩, ?_⟩
   refine ⟨by kernel_rfl, ?_⟩
   simp [go_sem]
   refine ⟨⟨by omega, by omega⟩, j + 1, by omega, by omega, Off_reset _ _ _ (by simp), ?_⟩
   rw [rs]
   exact ⟨rfl, by omega⟩
  ·have e : j = R.length := by omega
   subst e
   have hji : ¬ (R.length : Int) < R.length := by omega
   rw [List.take_length]
   have bd := rsF_bd a b R
   have rm := rsF_mod a b R
   rw [← rm] at tk1
   have c1 := num_c (rsF a b R) (by omega) (by omega)
   generalize rsF a b R = s at *
   simp [go_sem, hji]
   refine CallVC.of (c1) (by decide) ?_
   simp [go_sem]
   refine ⟨⟨by omega, by omega, by omega⟩, ⟨by omega, by omega⟩, i + 1, by omega, by omega, (Off.reset (by intro x hx; simp at hx ⊢; omega) (by simp) (by simp [go_sem, Off_reset])), ?_⟩
   rw [tk1, avs_snoc]
   exact ⟨⟨rfl, rfl⟩, by omega⟩
 ·have e : i = 37 := by omega
  subst e
  rw [ta]
  simp [go_sem]
end Go.Proofs.YtphccfabekdmnaaGreat


namespace Go.Proofs.YtphccfabekdmnaaGreat
open Go.Abs
def cp (s : Spl) : List Int := s.1.map fun c => ixT (trN 6) c + 1
def tp (s : Spl) : Int := if tkL s = [] then 0 else ixT (trN 6) (tkL s) + 1
theorem tab_eq : (trN 6).map (fun t => (cutL t).map fun s => (s.2.2, cp s, tp s)) = cutT.map fun r => r.map fun c => ((c.1 : Int), nvs c.2.1, (c.2.2 : Int)) := by kernel_rfl
def crX (s : Spl) (j : Nat) : AV := if j = 0 then .val (.slice none 0 0) else .own 3 j (avs ((cp s).take j))
def mcX (s : Spl) : List AV := [.int s.2.2, if s.1 = [] then .val (.slice none 0 0) else .own 3 s.1.length (avs (cp s)), .int (tp s)]
def rwX (t : List Int) : AV := .own 160 (cutL t).length ((cutL t).flatMap mcX)
def fcX (i : Nat) : AV := if i = 0 then .val (.slice none 0 0) else .own 153 i (((trN 6).take i).map rwX)
theorem flat3_len {α : Type} (F : α → List AV) (hF : ∀ s, (F s).length = 3) (X : List α) : (X.flatMap F).length = X.length * 3 := by
 induction X with
 | nil => rfl
 | cons s X ih => rw [List.flatMap_cons, List.length_append, ih, hF, List.length_cons]; omega
theorem flat3_drop {α : Type} (F : α → List AV) (hF : ∀ s, (F s).length = 3) (d : α) {L : List α} {i : Nat} (h : i < L.length) : (L.flatMap F).drop (i * 3) = F (L[i]?.getD d) ++ (L.drop (i + 1)).flatMap F := by
 have e1 : ((L.take i).flatMap F).length = i * 3 := by rw [flat3_len F hF, List.length_take, Nat.min_eq_left (by omega)]
 have e2 : L.drop i = L[i]?.getD d :: L.drop (i + 1) := by rw [List.drop_eq_getElem_cons h]; simp [h]
 have e3 : L.flatMap F = (L.take i).flatMap F ++ (L.drop i).flatMap F := by rw [← List.flatMap_append, List.take_append_drop]
 rw [e3, List.drop_append_of_le_length (by omega), e2, List.flatMap_cons, List.drop_eq_nil_of_le (by omega), List.nil_append]
theorem newForms_x : GCon Tryz.prog 88 [] (.agg [.sl 37 (mat (trN 6)), .own 153 37 ((trN 6).map rwX)]) [] := by
 have cT := treesTo_c 6 (by omega)
 have l6 := trN_len6
 have at6 := fun t h => trN_at (t := t) h
 have e6 : ((6 : Nat) : Int) = 6 := rfl
 rw [e6] at cT
 rw [l6] at cT
 refine RCon.toG ?_
 refine rcon_of_vcH Tryz.mixed ⟨10, [10, 56], [1000000 + 192], []⟩ [] Tryz.func88 (by decide) rfl (by simp) (by simp) (by decide) ?_
 rw [Tryz.ntmps88]
 simp [go_sem]
 refine CallVC.of (cT) (by decide) ?_
 simp [go_sem]
 refine loop_inv (1 :: 3 :: 4 :: 6 :: 7 :: 9 :: List.range' 15 52) (fun i : Nat => [(1, .box 89 [.sl 37 (mat (trN 6)), fcX i]), (15, .int i)]) (fun i => i ≤ 37) (fun i => 37 - i) 0 (by simp) (by simp [go_sem, fcX]) (by simp [go_sem, fcX]) ?_
 intro i hi
 by_cases hil : i < 37
 ·have hii : (i : Int) < 37 := by omega
  have hl : i < (trN 6).length := by omega
  have dm := mat_drop hl
  have hm := memD [] hl
  have cC := cutsOf_c hm
  obtain ⟨b1, b2⟩ := cutL_at hm
  have nm : ¬ trN 6 = [] := by intro e; rw [e] at l6; simp at l6
  have tki : (trN 6).take (i + 1) = (trN 6).take i ++ [(trN 6)[i]?.getD []] := by
   rw [List.take_succ_eq_append_getElem hl, List.getElem?_eq_getElem hl]; rfl
  have x1 : fcX (i + 1) = .own 153 (i + 1) (((trN 6).take i).map rwX ++ [rwX ((trN 6)[i]?.getD [])]) := by
   unfold fcX
   rw [if_neg (by omega), tki, List.map_append]; rfl
  have hrw : rwX ((trN 6)[i]?.getD []) = .own 160 (cutL ((trN 6)[i]?.getD [])).length ((cutL ((trN 6)[i]?.getD [])).flatMap mcX) := rfl
  have lti : (((trN 6).take i).map rwX).length = i := by rw [List.length_map, List.length_take]; omega
  by_cases i0 : i = 0
  ·have x0 : fcX i = .val (.slice none 0 0) := by unfold fcX; rw [if_pos i0]
   rw [x0]
   generalize (trN 6)[i]?.getD [] = t at *
   generalize cutL t = L at *
   have xf : AV.own 153 1 [AV.own 160 L.length (L.flatMap mcX)] = fcX (i + 1) := by rw [x1, ← hrw, i0]; simp
   simp [go_sem, hii, dm]
   refine ⟨nm, ?_⟩
   refine ⟨_, _, cC, ?_⟩
   simp [go_sem]
   refine loop_inv (4 :: 6 :: 7 :: 9 :: List.range' 23 37) (fun j : Nat => [(4, .own 160 j ((L.take j).flatMap mcX)), (23, .int j)]) (fun j => j ≤ L.length) (fun j => L.length - j) 0 (by simp) (by simp [go_sem]) (by simp [go_sem]) ?_
   intro j hj
   by_cases hjl : j < L.length
   ·have hji : (j : Int) < L.length := by omega
    have dr := flat3_drop cuF (fun _ => rfl) ([], [], 0) hjl
    have nL : ¬ L.flatMap cuF = [] := by intro e; have := flat3_len cuF (fun _ => rfl) L; rw [e] at this; simp at this; omega
    have lL := flat3_len cuF (fun _ => rfl) L
    have hms := memD ([], [], 0) hjl
    obtain ⟨c1, c2, c3, c4, c5, c6⟩ := b2 _ hms
    have tkj : L.take (j + 1) = L.take j ++ [L[j]?.getD ([], [], 0)] := by
     rw [List.take_succ_eq_append_getElem hjl, List.getElem?_eq_getElem hjl]; rfl
    have clj := flat3_len mcX (fun _ => rfl) (L.take j)
    rw [List.length_take, Nat.min_eq_left (by omega)] at clj
    generalize L[j]?.getD ([], [], 0) = s at *
    obtain ⟨sa, sb, sc⟩ := s
    simp only [cuF] at dr
    simp only at c1 c2 c3 c4 c5 c6
    have tk1 : (tkL (sa, sb, sc)).length ≤ 6 := by
     unfold tkL
     cases sb with
     | nil => simp
     | cons r b => exact (c4 r (by simp)).2
    have hMX : mcX (sa, sb, sc) = [.int sc, if sa = [] then .val (.slice none 0 0) else .own 3 sa.length (avs (cp (sa, sb, sc))), .int (tp (sa, sb, sc))] := rfl
    have htp : tp (sa, sb, sc) = if tkL (sa, sb, sc) = [] then 0 else ixT (trN 6) (tkL (sa, sb, sc)) + 1 := rfl
    have hcp : cp (sa, sb, sc) = sa.map fun c => ixT (trN 6) c + 1 := rfl
    have hcr : ∀ k, crX (sa, sb, sc) k = if k = 0 then .val (.slice none 0 0) else .own 3 k (avs ((cp (sa, sb, sc)).take k)) := fun k => rfl
    have hcl : (cp (sa, sb, sc)).length = sa.length := by rw [hcp, List.length_map]
    have cPt := place_c (trN 6) 0 [] (tkL (sa, sb, sc)) (by omega) (fun r hr => by have := (at6 r hr).2.1; omega) (by omega)
    have btp := ixT_le (trN 6) (tkL (sa, sb, sc))
    rw [l6] at cPt btp
    generalize tkL (sa, sb, sc) = tk at *
    generalize tp (sa, sb, sc) = tpv at *
    generalize hCP : cp (sa, sb, sc) = cps at *
    generalize hMC : L.flatMap cuF = MC at *
    generalize hC : (L.take j).flatMap mcX = C at *
    simp [go_sem, hji, dr]
    refine ⟨⟨nL, by omega⟩, ?_⟩
    refine loop_inv (7 :: 9 :: List.range' 33 13) (fun k : Nat => [(7, .box 160 [.int sc, crX (sa, sb, sc) k, .int 0]), (33, .int k)]) (fun k => k ≤ sa.length) (fun k => sa.length - k) 0 (by simp) (by simp [go_sem, crX]) (by simp [go_sem, crX]) ?_
    intro k hk
    by_cases hkl : k < sa.length
    ·have hki : (k : Int) < sa.length := by omega
     have dk := mat_drop hkl
     have hmk := memD [] hkl
     have hk6 := c2 _ hmk
     have na : ¬ sa = [] := by rintro rfl; simp at hkl
     have cP := place_c (trN 6) 0 [] (sa[k]?.getD []) (by omega) (fun r hr => by have := (at6 r hr).2.1; omega) (by omega)
     rw [l6] at cP
     have bp := ixT_le (trN 6) (sa[k]?.getD [])
     rw [l6] at bp
     have tkk : cps.take (k + 1) = cps.take k ++ [ixT (trN 6) (sa[k]?.getD []) + 1] := by
      rw [List.take_succ_eq_append_getElem (by omega)]
      congr 2
      subst hcp
      rw [List.getElem_map, List.getElem?_eq_getElem hkl]; rfl
     have lk : (cps.take k).length = k := by rw [List.length_take]; omega
     have x1 : crX (sa, sb, sc) (k + 1) = .own 3 (k + 1) (avs (cps.take k ++ [ixT (trN 6) (sa[k]?.getD []) + 1])) := by rw [hcr, if_neg (by omega), tkk]
     generalize sa[k]?.getD [] = r at *
     generalize ixT (trN 6) r + 1 = v at *
     by_cases k0 : k = 0
     ·have x0 : crX (sa, sb, sc) k = .val (.slice none 0 0) := by rw [hcr, if_pos k0]
      rw [x0]
      simp [go_sem, hki, dk]
      refine ⟨na, by kernel_rfl, ?_⟩
      refine CallD.of (cP) (by simp [roots, rootsL]) (by decide) ?_
      simp [go_sem]
      refine ⟨by kernel_rfl, ?_⟩
      simp [go_sem]
      refine ⟨⟨by omega, by omega⟩, k + 1, by omega, by omega, Off_reset _ _ _ (by simp), ?_⟩
      rw [x1]
      subst k0
      exact ⟨by simp [avs], by omega⟩
     ·have x0 : crX (sa, sb, sc) k = .own 3 k (avs (cps.take k)) := by rw [hcr, if_neg k0]
      rw [x0]
      simp [go_sem, hki, dk]
      refine ⟨na, by kernel_rfl, ?_⟩
      refine CallD.of (cP) (by simp [roots, rootsL]) (by decide) ?_
      simp [go_sem]
      refine ⟨⟨by omega, by omega, by omega⟩, ?_⟩
      refine ⟨by kernel_rfl, ?_⟩
      simp [go_sem]
      refine ⟨⟨by omega, by omega⟩, k + 1, by omega, by omega, Off_reset _ _ _ (by simp), ?_⟩
      rw [x1, avs_snoc]
      exact ⟨rfl, by omega⟩
    ·have e : k = sa.length := by omega
     subst e
     have hki : ¬ (sa.length : Int) < sa.length := by omega
     by_cases s0 : sa = []
     ·have x0 : crX (sa, sb, sc) sa.length = .val (.slice none 0 0) := by rw [hcr, if_pos (by rw [s0]; rfl)]
      rw [x0]
      rw [if_pos s0] at hMX
      by_cases ht : 0 < tk.length
      ·have t0 : ¬ tk = [] := by rintro rfl; simp at ht
       rw [if_neg t0] at htp
       simp [go_sem, hki, ht]
       refine CallVC.of (cPt) (by decide) ?_
       simp [go_sem]
       refine ⟨⟨by rw [clj], by omega, by omega⟩, ⟨by omega, by omega⟩, j + 1, by omega, by omega, (Off.reset (by intro x hx; simp at hx ⊢; omega) (by simp) (by simp [go_sem, Off_reset])), ?_⟩
       rw [tkj, List.flatMap_append, hC]
       refine ⟨⟨by omega, ?_⟩, by omega⟩
       simp [hMX, htp]
      ·have t0 : tk = [] := List.length_eq_zero_iff.1 (by omega)
       rw [if_pos t0] at htp
       simp [go_sem, hki, ht]
       refine ⟨⟨by rw [clj], by omega, by omega⟩, ⟨by omega, by omega⟩, j + 1, by omega, by omega, (Off.reset (by intro x hx; simp at hx ⊢; omega) (by simp) (by simp [go_sem, Off_reset])), ?_⟩
       rw [tkj, List.flatMap_append, hC]
       refine ⟨⟨by omega, ?_⟩, by omega⟩
       simp [hMX, htp]
     ·have x0 : crX (sa, sb, sc) sa.length = .own 3 sa.length (avs cps) := by
       rw [hcr, if_neg (by intro e; exact s0 (List.length_eq_zero_iff.1 e)), List.take_of_length_le (by omega)]
      rw [x0]
      rw [if_neg s0] at hMX
      by_cases ht : 0 < tk.length
      ·have t0 : ¬ tk = [] := by rintro rfl; simp at ht
       rw [if_neg t0] at htp
       simp [go_sem, hki, ht]
       refine CallVC.of (cPt) (by decide) ?_
       simp [go_sem]
       refine ⟨⟨by rw [clj], by omega, by omega⟩, ⟨by omega, by omega⟩, j + 1, by omega, by omega, (Off.reset (by intro x hx; simp at hx ⊢; omega) (by simp) (by simp [go_sem, Off_reset])), ?_⟩
       rw [tkj, List.flatMap_append, hC]
       refine ⟨⟨by omega, ?_⟩, by omega⟩
       simp [hMX, htp]
      ·have t0 : tk = [] := List.length_eq_zero_iff.1 (by omega)
       rw [if_pos t0] at htp
       simp [go_sem, hki, ht]
       refine ⟨⟨by rw [clj], by omega, by omega⟩, ⟨by omega, by omega⟩, j + 1, by omega, by omega, (Off.reset (by intro x hx; simp at hx ⊢; omega) (by simp) (by simp [go_sem, Off_reset])), ?_⟩
       rw [tkj, List.flatMap_append, hC]
       refine ⟨⟨by omega, ?_⟩, by omega⟩
       simp [hMX, htp]
   ·have e : j = L.length := by omega
    subst e
    have hji : ¬ (L.length : Int) < L.length := by omega
    rw [List.take_length]
    simp [go_sem, hji]
    exact ⟨⟨by omega, by omega⟩, i + 1, by omega, by omega, (by repeat (first | exact Off_reset _ _ _ (by simp) | (refine Off.reset (by intro x hx; simp at hx ⊢; omega) (by simp) ?_; simp -failIfUnchanged [go_sem, Off_reset]))), xf, by omega⟩
  ·have x0 : fcX i = .own 153 i (((trN 6).take i).map rwX) := by unfold fcX; rw [if_neg i0]
   rw [x0]
   generalize (trN 6)[i]?.getD [] = t at *
   generalize cutL t = L at *
   generalize ((trN 6).take i).map rwX = FR at *
   have xf : AV.own 153 (i + 1) (FR ++ [AV.own 160 L.length (L.flatMap mcX)]) = fcX (i + 1) := by rw [x1, ← hrw]
   simp [go_sem, hii, dm]
   refine ⟨nm, ?_⟩
   refine ⟨_, _, cC, ?_⟩
   simp [go_sem]
   refine loop_inv (4 :: 6 :: 7 :: 9 :: List.range' 23 37) (fun j : Nat => [(4, .own 160 j ((L.take j).flatMap mcX)), (23, .int j)]) (fun j => j ≤ L.length) (fun j => L.length - j) 0 (by simp) (by simp [go_sem]) (by simp [go_sem]) ?_
   intro j hj
   by_cases hjl : j < L.length
   ·have hji : (j : Int) < L.length := by omega
    have dr := flat3_drop cuF (fun _ => rfl) ([], [], 0) hjl
    have nL : ¬ L.flatMap cuF = [] := by intro e; have := flat3_len cuF (fun _ => rfl) L; rw [e] at this; simp at this; omega
    have lL := flat3_len cuF (fun _ => rfl) L
    have hms := memD ([], [], 0) hjl
    obtain ⟨c1, c2, c3, c4, c5, c6⟩ := b2 _ hms
    have tkj : L.take (j + 1) = L.take j ++ [L[j]?.getD ([], [], 0)] := by
     rw [List.take_succ_eq_append_getElem hjl, List.getElem?_eq_getElem hjl]; rfl
    have clj := flat3_len mcX (fun _ => rfl) (L.take j)
    rw [List.length_take, Nat.min_eq_left (by omega)] at clj
    generalize L[j]?.getD ([], [], 0) = s at *
    obtain ⟨sa, sb, sc⟩ := s
    simp only [cuF] at dr
    simp only at c1 c2 c3 c4 c5 c6
    have tk1 : (tkL (sa, sb, sc)).length ≤ 6 := by
     unfold tkL
     cases sb with
     | nil => simp
     | cons r b => exact (c4 r (by simp)).2
    have hMX : mcX (sa, sb, sc) = [.int sc, if sa = [] then .val (.slice none 0 0) else .own 3 sa.length (avs (cp (sa, sb, sc))), .int (tp (sa, sb, sc))] := rfl
    have htp : tp (sa, sb, sc) = if tkL (sa, sb, sc) = [] then 0 else ixT (trN 6) (tkL (sa, sb, sc)) + 1 := rfl
    have hcp : cp (sa, sb, sc) = sa.map fun c => ixT (trN 6) c + 1 := rfl
    have hcr : ∀ k, crX (sa, sb, sc) k = if k = 0 then .val (.slice none 0 0) else .own 3 k (avs ((cp (sa, sb, sc)).take k)) := fun k => rfl
    have hcl : (cp (sa, sb, sc)).length = sa.length := by rw [hcp, List.length_map]
    have cPt := place_c (trN 6) i (frzL FR) (tkL (sa, sb, sc)) (by omega) (fun r hr => by have := (at6 r hr).2.1; omega) (by omega)
    have btp := ixT_le (trN 6) (tkL (sa, sb, sc))
    rw [l6] at cPt btp
    generalize tkL (sa, sb, sc) = tk at *
    generalize tp (sa, sb, sc) = tpv at *
    generalize hCP : cp (sa, sb, sc) = cps at *
    generalize hMC : L.flatMap cuF = MC at *
    generalize hC : (L.take j).flatMap mcX = C at *
    simp [go_sem, hji, dr]
    refine ⟨⟨nL, by omega⟩, ?_⟩
    refine loop_inv (7 :: 9 :: List.range' 33 13) (fun k : Nat => [(7, .box 160 [.int sc, crX (sa, sb, sc) k, .int 0]), (33, .int k)]) (fun k => k ≤ sa.length) (fun k => sa.length - k) 0 (by simp) (by simp [go_sem, crX]) (by simp [go_sem, crX]) ?_
    intro k hk
    by_cases hkl : k < sa.length
    ·have hki : (k : Int) < sa.length := by omega
     have dk := mat_drop hkl
     have hmk := memD [] hkl
     have hk6 := c2 _ hmk
     have na : ¬ sa = [] := by rintro rfl; simp at hkl
     have cP := place_c (trN 6) i (frzL FR) (sa[k]?.getD []) (by omega) (fun r hr => by have := (at6 r hr).2.1; omega) (by omega)
     rw [l6] at cP
     have bp := ixT_le (trN 6) (sa[k]?.getD [])
     rw [l6] at bp
     have tkk : cps.take (k + 1) = cps.take k ++ [ixT (trN 6) (sa[k]?.getD []) + 1] := by
      rw [List.take_succ_eq_append_getElem (by omega)]
      congr 2
      subst hcp
      rw [List.getElem_map, List.getElem?_eq_getElem hkl]; rfl
     have lk : (cps.take k).length = k := by rw [List.length_take]; omega
     have x1 : crX (sa, sb, sc) (k + 1) = .own 3 (k + 1) (avs (cps.take k ++ [ixT (trN 6) (sa[k]?.getD []) + 1])) := by rw [hcr, if_neg (by omega), tkk]
     generalize sa[k]?.getD [] = r at *
     generalize ixT (trN 6) r + 1 = v at *
     by_cases k0 : k = 0
     ·have x0 : crX (sa, sb, sc) k = .val (.slice none 0 0) := by rw [hcr, if_pos k0]
      rw [x0]
      simp [go_sem, hki, dk]
      refine ⟨na, by kernel_rfl, ?_⟩
      refine CallD.of (cP) (by simp [roots, rootsL]) (by decide) ?_
      simp [go_sem]
      refine ⟨by kernel_rfl, ?_⟩
      simp [go_sem]
      refine ⟨⟨by omega, by omega⟩, k + 1, by omega, by omega, Off_reset _ _ _ (by simp), ?_⟩
      rw [x1]
      subst k0
      exact ⟨by simp [avs], by omega⟩
     ·have x0 : crX (sa, sb, sc) k = .own 3 k (avs (cps.take k)) := by rw [hcr, if_neg k0]
      rw [x0]
      simp [go_sem, hki, dk]
      refine ⟨na, by kernel_rfl, ?_⟩
      refine CallD.of (cP) (by simp [roots, rootsL]) (by decide) ?_
      simp [go_sem]
      refine ⟨⟨by omega, by omega, by omega⟩, ?_⟩
      refine ⟨by kernel_rfl, ?_⟩
      simp [go_sem]
      refine ⟨⟨by omega, by omega⟩, k + 1, by omega, by omega, Off_reset _ _ _ (by simp), ?_⟩
      rw [x1, avs_snoc]
      exact ⟨rfl, by omega⟩
    ·have e : k = sa.length := by omega
     subst e
     have hki : ¬ (sa.length : Int) < sa.length := by omega
     by_cases s0 : sa = []
     ·have x0 : crX (sa, sb, sc) sa.length = .val (.slice none 0 0) := by rw [hcr, if_pos (by rw [s0]; rfl)]
      rw [x0]
      rw [if_pos s0] at hMX
      by_cases ht : 0 < tk.length
      ·have t0 : ¬ tk = [] := by rintro rfl; simp at ht
       rw [if_neg t0] at htp
       simp [go_sem, hki, ht]
       refine CallVC.of (cPt) (by decide) ?_
       simp [go_sem]
       refine ⟨⟨by rw [clj], by omega, by omega⟩, ⟨by omega, by omega⟩, j + 1, by omega, by omega, (Off.reset (by intro x hx; simp at hx ⊢; omega) (by simp) (by simp [go_sem, Off_reset])), ?_⟩
       rw [tkj, List.flatMap_append, hC]
       refine ⟨⟨by omega, ?_⟩, by omega⟩
       simp [hMX, htp]
      ·have t0 : tk = [] := List.length_eq_zero_iff.1 (by omega)
       rw [if_pos t0] at htp
       simp [go_sem, hki, ht]
       refine ⟨⟨by rw [clj], by omega, by omega⟩, ⟨by omega, by omega⟩, j + 1, by omega, by omega, (Off.reset (by intro x hx; simp at hx ⊢; omega) (by simp) (by simp [go_sem, Off_reset])), ?_⟩
       rw [tkj, List.flatMap_append, hC]
       refine ⟨⟨by omega, ?_⟩, by omega⟩
       simp [hMX, htp]
     ·have x0 : crX (sa, sb, sc) sa.length = .own 3 sa.length (avs cps) := by
       rw [hcr, if_neg (by intro e; exact s0 (List.length_eq_zero_iff.1 e)), List.take_of_length_le (by omega)]
      rw [x0]
      rw [if_neg s0] at hMX
      by_cases ht : 0 < tk.length
      ·have t0 : ¬ tk = [] := by rintro rfl; simp at ht
       rw [if_neg t0] at htp
       simp [go_sem, hki, ht]
       refine CallVC.of (cPt) (by decide) ?_
       simp [go_sem]
       refine ⟨⟨by rw [clj], by omega, by omega⟩, ⟨by omega, by omega⟩, j + 1, by omega, by omega, (Off.reset (by intro x hx; simp at hx ⊢; omega) (by simp) (by simp [go_sem, Off_reset])), ?_⟩
       rw [tkj, List.flatMap_append, hC]
       refine ⟨⟨by omega, ?_⟩, by omega⟩
       simp [hMX, htp]
      ·have t0 : tk = [] := List.length_eq_zero_iff.1 (by omega)
       rw [if_pos t0] at htp
       simp [go_sem, hki, ht]
       refine ⟨⟨by rw [clj], by omega, by omega⟩, ⟨by omega, by omega⟩, j + 1, by omega, by omega, (Off.reset (by intro x hx; simp at hx ⊢; omega) (by simp) (by simp [go_sem, Off_reset])), ?_⟩
       rw [tkj, List.flatMap_append, hC]
       refine ⟨⟨by omega, ?_⟩, by omega⟩
       simp [hMX, htp]
   ·have e : j = L.length := by omega
    subst e
    have hji : ¬ (L.length : Int) < L.length := by omega
    rw [List.take_length]
    simp [go_sem, hji]
    exact ⟨⟨by omega, by omega, by omega⟩, ⟨by omega, by omega⟩, i + 1, by omega, by omega, (by repeat (first | exact Off_reset _ _ _ (by simp) | (refine Off.reset (by intro x hx; simp at hx ⊢; omega) (by simp) ?_; simp -failIfUnchanged [go_sem, Off_reset]))), xf, by omega⟩
 ·have e : i = 37 := by omega
  subst e
  have x : fcX 37 = .own 153 37 ((trN 6).map rwX) := by
   unfold fcX
   rw [if_neg (by omega), List.take_of_length_le (by omega)]
  rw [x]
  simp [go_sem]
def trG (row : List (Int × List Int × Int)) : AV := .sl row.length (row.flatMap fun x => [.int x.1, .sl x.2.1.length (avs x.2.1), .int x.2.2])
theorem frzLapp : ∀ a b : List AV, frzL (a ++ b) = frzL a ++ frzL b
 | [], b => rfl
 | c :: a, b => by rw [List.cons_append, frzL, frzLapp a b, frzL]; rfl
theorem row_nx : ∀ L : List Spl, NXL (frzL (L.flatMap mcX)) ((L.map fun s => (s.2.2, cp s, tp s)).flatMap fun x => [.int x.1, .sl x.2.1.length (avs x.2.1), .int x.2.2])
 | [] => .nil
 | s :: L => by
  rw [List.map_cons, List.flatMap_cons, List.flatMap_cons, frzLapp]
  refine NXL.app (row_nx L) ?_
  by_cases h : s.1 = []
  ·have e : mcX s = [.int s.2.2, .val (.slice none 0 0), .int (tp s)] := by unfold mcX; rw [if_pos h]
   have e2 : cp s = [] := by unfold cp; rw [h]; rfl
   rw [e, e2]
   exact .cons (.same _) (.cons .nil (.cons (.same _) .nil))
  ·have e : mcX s = [.int s.2.2, .own 3 s.1.length (avs (cp s)), .int (tp s)] := by unfold mcX; rw [if_neg h]
   have e2 : (cp s).length = s.1.length := by simp [cp]
   rw [e]
   show NXL [.int s.2.2, .sl s.1.length (frzL (avs (cp s))), .int (tp s)] [.int s.2.2, .sl (cp s).length (avs (cp s)), .int (tp s)]
   rw [avs_frz, e2]
   exact NXL.same _
theorem tab_nx : ∀ T : List (List Int), NXL (frzL (T.map rwX)) (T.map fun t => trG ((cutL t).map fun s => (s.2.2, cp s, tp s)))
 | [] => .nil
 | t :: T => by
  rw [List.map_cons, List.map_cons]
  refine .cons ?_ (tab_nx T)
  show NX (.sl (cutL t).length (frzL ((cutL t).flatMap mcX))) (trG _)
  unfold trG
  rw [List.length_map]
  exact .sl _ (row_nx _)
theorem fcF_tab : ((trN 6).map fun t => trG ((cutL t).map fun s => (s.2.2, cp s, tp s))) = fcF := by
 have e := congrArg (List.map trG) tab_eq
 rw [List.map_map, List.map_map] at e
 refine (Eq.trans ?_ e).trans ?_
 ·rfl
 ·unfold fcF
  refine List.map_congr_left fun r _ => ?_
  show trG (r.map _) = _
  unfold trG
  rw [List.length_map, List.flatMap_map]
  show AV.sl r.length (r.flatMap fun c => [.int c.1, .sl (nvs c.2.1).length (avs (nvs c.2.1)), .int c.2.2]) = _
  simp only [nvs_len]
  rfl
theorem newForms_c : GCon Tryz.prog 88 [] (.agg [.sl 37 (mat (trN 6)), .sl 37 fcF]) [] := by
 refine GCon.nxA (.cons (.same _) (.cons (.sl 37 ?_) .nil)) (GCon.frzR newForms_x rfl)
 rw [← fcF_tab]
 exact tab_nx _
end Go.Proofs.YtphccfabekdmnaaGreat


namespace Go.Proofs.YtphccfabekdmnaaGreat
open Go.Abs
theorem trN_ne : ¬ trN 6 = [] := by intro e; have := trN_len6; rw [e] at this; simp at this
theorem trN_nd {p : Nat} (h : p < 37) : ((trN 6)[p]?.getD []).length = nd (p + 1) := by
 have ok : (List.range 37).all (fun p => decide (((trN 6)[p]?.getD []).length = nd (p + 1))) = true := by decide +kernel
 exact of_decide_eq_true (List.all_eq_true.1 ok p (List.mem_range.2 h))
theorem nodes_c (p : Nat) (hp : p < 38) : Con Tryz.prog 194 [.agg [.sl 37 (mat (trN 6)), .sl 37 fcF], .int p] (.int (nd p)) := by
 have nt := trN_ne
 have l6 := trN_len6
 generalize fcF = FC at *
 by_cases h0 : p = 0
 ·subst h0
  refine con_of_vc Tryz.mixed ⟨5, [], [], []⟩ Tryz.func194 (by decide) rfl (by simp) (by decide) (by simp [freshOK, freshL, go_sem]) ?_
  rw [Tryz.ntmps194]
  simp [go_sem]
  rfl
 ·obtain ⟨q, rfl⟩ : ∃ q, p = q + 1 := ⟨p - 1, by omega⟩
  have e := trN_nd (p := q) (by omega)
  have dm := mat_drop (xss := trN 6) (k := q) (by omega)
  rw [e] at dm
  have cL := length_c (nd (q + 1)) (avs ((trN 6)[q]?.getD [])) (by have := nd_le hp; omega)
  have e1 : ((q + 1 : Nat) : Int) = (q : Int) + 1 := by omega
  rw [e1]
  have e2 : ¬ (q : Int) + 1 = 0 := by omega
  generalize (trN 6)[q]?.getD [] = t at *
  generalize nd (q + 1) = m at *
  refine con_of_vc Tryz.mixed ⟨5, [], [], []⟩ Tryz.func194 (by decide) rfl (by simp) (by decide) (by simp [freshOK, freshL, go_sem]) ?_
  rw [Tryz.ntmps194]
  simp [go_sem]
  simp [go_sem, e2]
  have e3 : ((q : Int) + 1 - 1) = q := by omega
  simp [go_sem, e3, dm]
  refine ⟨by omega, ⟨by omega, nt⟩, ?_⟩
  refine CallVC.of (cL) (by decide) ?_
  simp [go_sem]
theorem scS_take (k : Int) (a : List Int) {i : Nat} (h : i < 38) : (scS k a).take (i + 1) = (scS k a).take i ++ [iat a i * k ^ nd i % 10007] := mk38_take _ h
theorem N38.take {a : List Int} (ha : N38 a) : a.take 38 = a := List.take_of_length_le (by rw [ha.1]; exact Nat.le_refl _)
theorem scaleMap_c (a : List Int) (k : Int) (ha : N38 a) (hk : isN k) :
  Con Tryz.prog 111 [.agg [.sl 37 (mat (trN 6)), .sl 37 fcF], .sl a.length (avs a), .int k] (.own 2 38 (avs (scS k a))) := by
 have tk := fun i (h : i < 38) => scS_take k a h
 have ta := (scS_N k a).take
 have lo := (scS_N k a).1
 have la := ha.1
 have cN := fun p h => nodes_c p h
 generalize scS k a = O at *
 generalize fcF = FC at *
 refine con_of_vc Tryz.mixed ⟨10, [], [], []⟩ Tryz.func111 (by decide) rfl (by simp) (by decide) (by simp [freshOK, freshL, go_sem]) ?_
 rw [Tryz.ntmps111]
 simp [go_sem]
 refine loop_inv (7 :: 8 :: 9 :: List.range' 13 17) (fun i : Nat => [(7, .own 2 i (avs (O.take i))), (13, .int i)]) (fun i => i ≤ 38) (fun i => 38 - i) 0 (by simp) (by simp [go_sem]) (by simp [go_sem]) ?_
 intro i hi
 by_cases hil : i < a.length
 ·have hii : (i : Int) < a.length := by omega
  have na : ¬ a = [] := by rintro rfl; simp at hil
  have dr := avs_dropI hil
  have c1 := cN i (by omega)
  have n6 := nd_le (i := i) (by omega)
  have c2 := pow_c k (nd i) hk (by omega) (by omega)
  have pN := pw_N k (nd i)
  have xN : isN (iat a i) := ha.Ns.get i
  have f1 := mul_fits xN pN
  have c3 := num_c (iat a i * pw k (nd i)) f1.1 f1.2
  have e : iat a i * k ^ nd i % 10007 = iat a i * pw k (nd i) % 10007 := by
   refine mod_mul' rfl ?_
   unfold pw
   rw [Int.emod_emod_of_dvd _ (Int.dvd_refl _)]; rfl
  have t1 := tk i (by omega)
  rw [e] at t1
  generalize iat a i = x at *
  generalize pw k (nd i) = y at *
  generalize nd i = m at *
  simp [go_sem, hii, dr]
  refine ⟨na, ?_⟩
  refine CallVC.of (c1) (by decide) ?_
  simp [go_sem]
  refine CallVC.of (c2) (by decide) ?_
  simp [go_sem]
  refine ⟨⟨f1.1, f1.2⟩, ?_⟩
  refine CallVC.of (c3) (by decide) ?_
  simp [go_sem]
  refine ⟨⟨by omega, by omega, by omega⟩, ⟨by omega, by omega⟩, i + 1, by omega, by omega, Off_reset _ _ _ (by simp), ?_⟩
  rw [t1, avs_snoc]
  exact ⟨⟨rfl, rfl⟩, by omega⟩
 ·have e : i = a.length := by omega
  subst e
  have hii : ¬ (a.length : Int) < a.length := by omega
  rw [la, ta]
  simp [go_sem, hii]
theorem agreeTo_c (a b : List Int) (ha : N38 a) (hb : N38 b) :
  Con Tryz.prog 89 [.agg [.sl 37 (mat (trN 6)), .sl 37 fcF], .sl a.length (avs a), .sl b.length (avs b)] (.int (agS a b)) := by
 have la := ha.1
 have lb := hb.1
 have cN := fun p h => nodes_c p h
 have hA : agS a b = agI a b 38 0 := rfl
 generalize fcF = FC at *
 refine con_of_vc Tryz.mixed ⟨8, [], [], []⟩ Tryz.func89 (by decide) rfl (by simp) (by decide) (by simp [freshOK, freshL, go_sem]) ?_
 rw [Tryz.ntmps89]
 simp [go_sem]
 refine loop_inv (6 :: 7 :: List.range' 10 17) (fun i : Nat => [(10, .int i)]) (fun i => i ≤ 38 ∧ agS a b = agI a b (38 - i) i) (fun i => 38 - i) 0 (by simp [hA]) (by simp [go_sem]) (by simp [go_sem]) ?_
 rintro i ⟨hi, hag⟩
 by_cases hil : i < 38
 ·have hii : (i : Int) < a.length := by omega
  have da := avs_dropI (a := a) (v := i) (by omega)
  have db := avs_dropI (a := b) (v := i) (by omega)
  have na : ¬ a = [] := by rintro rfl; simp at la
  have nb : ¬ b = [] := by rintro rfl; simp at lb
  have c1 := cN i hil
  have n6 := nd_le (i := i) hil
  obtain ⟨m, hm⟩ : ∃ m, 38 - i = m + 1 := ⟨37 - i, by omega⟩
  rw [hm, agI] at hag
  have hm2 : 38 - (i + 1) = m := by omega
  by_cases he : iat a i = iat b i
  ·rw [if_pos he, ← hm2] at hag
   rw [he] at da
   generalize iat b i = x at *
   simp [go_sem, hii, da, db]
   refine ⟨by kernel_rfl, na, ⟨by omega, nb⟩, ?_⟩
   refine ⟨by kernel_rfl, ?_⟩
   simp [go_sem]
   refine ⟨⟨by omega, by omega⟩, i + 1, ⟨by omega, hag⟩, by omega, Off_reset _ _ _ (by simp), by omega⟩
  ·rw [if_neg he] at hag
   generalize iat a i = x at *
   generalize iat b i = y at *
   generalize nd i = k at *
   simp [go_sem, hii, da, db]
   refine ⟨by kernel_rfl, na, ⟨by omega, nb⟩, ?_⟩
   refine ⟨by kernel_rfl, ?_⟩
   simp [go_sem]
   simp [go_sem, he]
   refine CallVC.of (c1) (by decide) ?_
   simp [go_sem]
   refine ⟨⟨by omega, by omega⟩, ?_⟩
   exact hag.symm
 ·have e : i = 38 := by omega
  subst e
  have hii : ¬ (38 : Int) < a.length := by omega
  simp [go_sem, hii]
  exact hag.symm
theorem UnitMap_c : Con Tryz.prog 29 [] (.own 2 38 (avs unitS)) := by
 have e : avs unitS = .int 1 :: List.replicate 37 (.int 0) := by kernel_rfl
 rw [e]
 refine con_of_vc Tryz.mixed ⟨2, [], [], []⟩ Tryz.func29 (by decide) rfl (by simp) (by decide) (by simp [freshOK, freshL, go_sem]) ?_
 rw [Tryz.ntmps29]
 simp [go_sem]
theorem den_le {t : List Int} (h : t ∈ trN 6) : 0 ≤ denF 8 t ∧ denF 8 t ≤ 1000000 := by
 have ok : (trN 6).all (fun t => decide (0 ≤ denF 8 t) && decide (denF 8 t ≤ 1000000)) = true := by decide +kernel
 have k := List.all_eq_true.1 ok t h
 simpa using k
theorem exT_eq : (trN 6).map (fun t => ((fp 15 (denF 8 t % 10007).toNat 10005 : Nat) : Int)) = exT.tail.map fun (v : Nat) => (v : Int) := by kernel_rfl
theorem exaS_eq : exaS = exT.map fun (v : Nat) => (v : Int) := by kernel_rfl
theorem exa_at {p : Nat} (h : p < 37) : pw (denF 8 ((trN 6)[p]?.getD []) % 10007) 10005 = iat exaS (p + 1) := by
 have hl : p < (trN 6).length := by rw [trN_len6]; exact h
 have e := congrArg (fun l => l[p]?) exT_eq
 simp only [List.getElem?_map] at e
 rw [List.getElem?_eq_getElem hl] at e
 have k := fp_pw (denF 8 (trN 6)[p] % 10007).toNat
 rw [Int.toNat_of_nonneg (Int.emod_nonneg _ (by decide))] at k
 rw [List.getElem?_eq_getElem hl, Option.getD_some, ← k]
 unfold iat
 rw [exaS_eq, List.getElem?_map]
 have e2 : exT[p + 1]? = exT.tail[p]? := by rw [List.getElem?_tail]
 rw [e2, ← e]; rfl
def xaX (i : Nat) : List Int := exaS.take (i + 1) ++ List.replicate (37 - i) 0
theorem set_mid (v : Int) : ∀ (P : List Int) (n : Nat), (P ++ List.replicate (n + 1) 0).set P.length v = P ++ [v] ++ List.replicate n 0
 | [], n => by simp [List.replicate_succ]
 | x :: P, n => by
  have := set_mid v P n
  simp only [List.cons_append, List.length_cons, List.set_cons_succ]
  rw [this]
theorem xaX_set {i : Nat} (h : i < 37) : (xaX i).set (i + 1) (iat exaS (i + 1)) = xaX (i + 1) := by
 have l := exaS_ch.1.1
 have tl : (exaS.take (i + 1)).length = i + 1 := by rw [List.length_take]; omega
 have t : exaS.take (i + 2) = exaS.take (i + 1) ++ [iat exaS (i + 1)] := by
  rw [List.take_succ_eq_append_getElem (by omega)]
  unfold iat
  rw [List.getElem?_eq_getElem (by omega)]; rfl
 unfold xaX
 have k := set_mid (iat exaS (i + 1)) (exaS.take (i + 1)) (36 - i)
 rw [tl, show 36 - i + 1 = 37 - i by omega] at k
 rw [k, t, show 37 - (i + 1) = 36 - i by omega]
theorem exactMap_c : Con Tryz.prog 90 [.agg [.sl 37 (mat (trN 6)), .sl 37 fcF]] (.own 2 38 (avs exaS)) := by
 have cU := UnitMap_c
 have l6 := trN_len6
 have nt := trN_ne
 have x0 : unitS = xaX 0 := by kernel_rfl
 have x37 : xaX 37 = exaS := by kernel_rfl
 have at6 := fun t h => trN_at (t := t) h
 rw [x0] at cU
 rw [← x37]
 generalize fcF = FC at *
 refine con_of_vc Tryz.mixed ⟨6, [], [], []⟩ Tryz.func90 (by decide) rfl (by simp) (by decide) (by simp [freshOK, freshL, go_sem]) ?_
 rw [Tryz.ntmps90]
 simp [go_sem]
 refine CallVC.of (cU) (by decide) ?_
 simp [go_sem]
 refine loop_inv (3 :: 4 :: 5 :: List.range' 10 14) (fun i : Nat => [(3, .own 2 38 (avs (xaX i))), (10, .int i)]) (fun i => i ≤ 37) (fun i => 37 - i) 0 (by simp) (by simp [go_sem]) (by simp [go_sem]) ?_
 intro i hi
 by_cases hil : i < 37
 ·have hii : (i : Int) < 37 := by omega
  have hl : i < (trN 6).length := by omega
  have dm := mat_drop hl
  have hm := memD [] hl
  obtain ⟨t1, t2, t3⟩ := at6 _ hm
  have cD := density_c 8 _ t1 (by omega) t3
  have xs := xaX_set hil
  rw [← exa_at hil] at xs
  have lx : (xaX i).length = 38 := by
   have l := exaS_ch.1.1
   unfold xaX
   rw [List.length_append, List.length_take, List.length_replicate]; omega
  obtain ⟨d1, d2⟩ := den_le hm
  generalize (trN 6)[i]?.getD [] = t at *
  have c1 := num_c (denF 8 t) (by omega) (by omega)
  have c2 := inv_c (denF 8 t % 10007) (isN_mod _)
  generalize hv : pw (denF 8 t % 10007) 10005 = v at *
  generalize denF 8 t = d at *
  have ls : ((xaX i).set (i + 1) v).length = 38 := by rw [List.length_set]; exact lx
  simp [go_sem, hii, dm]
  refine ⟨nt, ⟨by omega, by omega⟩, ?_⟩
  refine CallVC.of (cD) (by decide) ?_
  simp [go_sem]
  refine CallVC.of (c1) (by decide) ?_
  simp [go_sem]
  refine CallVC.of (c2) (by decide) ?_
  simp [go_sem]
  refine ⟨⟨by omega, by omega⟩, by omega, ⟨by omega, by omega⟩, i + 1, by omega, by omega, Off_reset _ _ _ (by simp), ?_⟩
  rw [← xs]
  exact ⟨by simp [avs, List.map_set], by omega⟩
 ·have e : i = 37 := by omega
  subst e
  simp [go_sem]
def ckC (a : List Int) : Int := if mapB a = true then (if iat a 0 = 1 then 0 else 5) else 1
theorem ckC_ch {a : List Int} (h : ckC a = 0) : Ch a := by
 unfold ckC at h
 split at h
 ·rename_i hm
  split at h
  ·rename_i h1; exact ⟨N38_of hm, h1⟩
  ·omega
 ·omega
theorem Ch.ck {a : List Int} (h : Ch a) : ckC a = 0 := by
 unfold ckC
 rw [if_pos h.1.mapB, if_pos h.2]
theorem checkCharacter_c (a : List Int) (ha : a.length ≤ 9223372036854775807) : Con Tryz.prog 87 [.sl a.length (avs a)] (.int (ckC a)) := by
 have cM := IsMap_c a ha
 unfold ckC
 by_cases hm : mapB a = true
 ·rw [if_pos hm]
  rw [hm] at cM
  have hl := (N38_of hm).1
  have na : ¬ a = [] := by rintro rfl; simp at hl
  have a0 := avs_dropI (a := a) (v := 0) (by omega)
  rw [List.drop_zero] at a0
  by_cases h1 : iat a 0 = 1
  ·rw [if_pos h1]
   rw [h1] at a0
   refine con_of_vc Tryz.mixed ⟨3, [], [], []⟩ Tryz.func87 (by decide) rfl (by simp) (by decide) (by simp [freshOK, freshL, go_sem]) ?_
   rw [Tryz.ntmps87]
   simp [go_sem]
   refine CallVC.of (cM) (by decide) ?_
   simp [go_sem]
   simp [go_sem, a0]
   exact ⟨by omega, na⟩
  ·rw [if_neg h1]
   generalize iat a 0 = x at *
   refine con_of_vc Tryz.mixed ⟨3, [], [], []⟩ Tryz.func87 (by decide) rfl (by simp) (by decide) (by simp [freshOK, freshL, go_sem]) ?_
   rw [Tryz.ntmps87]
   simp [go_sem]
   refine CallVC.of (cM) (by decide) ?_
   simp [go_sem]
   simp [go_sem, a0, h1]
   exact ⟨by omega, na⟩
 ·rw [if_neg hm]
  have hf : mapB a = false := by simpa using hm
  rw [hf] at cM
  refine con_of_vc Tryz.mixed ⟨3, [], [], []⟩ Tryz.func87 (by decide) rfl (by simp) (by decide) (by simp [freshOK, freshL, go_sem]) ?_
  rw [Tryz.ntmps87]
  simp [go_sem]
  refine CallVC.of (cM) (by decide) ?_
  simp [go_sem]
theorem inverseMap_c (a : List Int) (ha : N38 a) :
  Con Tryz.prog 141 [.agg [.sl 37 (mat (trN 6)), .sl 37 fcF], .sl a.length (avs a)] (.own 2 38 (avs (invS a))) := by
 have la := ha.1
 have nf := fcF_ne
 have fd := fun i h => fcF_drop (i := i) h
 have il := invN_len a
 have iN := invN_N a
 have e0 : avs (invN a 0) = [.int 1] := rfl
 have es : ∀ k, invN a (k + 1) = invN a k ++ [(-(rowI (iat (invN a k)) (iat a) (nwR (k + 1)))) % 10007] := fun k => rfl
 show Con Tryz.prog _ _ (.own _ 38 (avs (invN a 37)))
 generalize hO : invN a = O at *
 generalize fcF = FC at *
 refine con_of_vc Tryz.mixed ⟨11, [], [], []⟩ Tryz.func141 (by decide) rfl (by simp) (by decide) (by simp [freshOK, freshL, go_sem]) ?_
 rw [Tryz.ntmps141]
 simp [go_sem]
 refine loop_inv (5 :: 7 :: 8 :: 10 :: List.range' 15 38) (fun i : Nat => [(5, .own 2 (i + 1) (avs (O i))), (15, .int i)]) (fun i => i ≤ 37) (fun i => 37 - i) 0 (by simp) (by simp [go_sem, e0]) (by simp [go_sem]) ?_
 intro i hi
 by_cases hil : i < 37
 ·have hii : (i : Int) < 37 := by omega
  have dr := fd i hil
  obtain ⟨r1, r2⟩ := ctR_le (i := i + 1) (by omega)
  have rk := ctR_ok (i := i + 1) (by omega)
  have nk := (nwR_ok (i := i + 1) (by omega) (by omega)).1
  have ei := es i
  have hnw : nwR (i + 1) = (ctR (i + 1)).filter fun c => decide (0 < c.2.2) := rfl
  have li := il i
  have Ni : Ns (O i) := fun x hx => iN i x hx
  rw [hnw] at ei nk
  generalize ctR (i + 1) = R at *
  have oi : O i = O i := rfl
  generalize O i = o at *
  simp [go_sem, hii, dr]
  refine ⟨nf, ?_⟩
  refine loop_inv (8 :: 10 :: List.range' 21 25) (fun j : Nat => [(8, .int (rsF o a ((R.take j).filter fun c => decide (0 < c.2.2)))), (21, .int j)]) (fun j => j ≤ R.length) (fun j => R.length - j) 0 (by simp) (by simp [go_sem, rsF]) (by simp [go_sem]) ?_
  intro j hj
  by_cases hjl : j < R.length
  ·have hji : (j : Int) < R.length := by omega
   have cd := ctF_drop hjl
   have hm := memD (0, [], 0) hjl
   obtain ⟨q1, q2⟩ := r2 _ hm
   obtain ⟨k1, k2⟩ := rk _ hm
   have k3 := fun h => nk _ (List.mem_filter.2 ⟨hm, h⟩)
   have tj : (R.take (j + 1)).filter (fun c => decide (0 < c.2.2)) = (R.take j).filter (fun c => decide (0 < c.2.2)) ++ [R[j]?.getD (0, [], 0)].filter (fun c => decide (0 < c.2.2)) := by
    rw [← List.filter_append, List.take_succ_eq_append_getElem hjl, List.getElem?_eq_getElem hjl]; rfl
   have rs := rsF_snoc o a ((R.take j).filter fun c => decide (0 < c.2.2)) (R[j]?.getD (0, [], 0))
   have bd := rsF_bd o a ((R.take j).filter fun c => decide (0 < c.2.2))
   have bl : ((R.take j).filter fun c => decide (0 < c.2.2)).length ≤ 100 := by
    have := List.length_filter_le (fun c : Ctp => decide (0 < c.2.2)) (R.take j)
    rw [List.length_take] at this; omega
   have nR : ¬ R.flatMap ctF = [] := by intro e; have := ctF_len R; rw [e] at this; simp at this; omega
   have lR := ctF_len R
   generalize (R.take j).filter (fun c => decide (0 < c.2.2)) = X at *
   generalize R[j]?.getD (0, [], 0) = c at *
   obtain ⟨n, l, t⟩ := c
   simp only [ctF] at cd q1 q2 k1 k2 k3 rs
   generalize hMC : R.flatMap ctF = MC at *
   by_cases ht : 0 < t
   ·rw [List.filter_cons, if_pos (by simpa using ht), List.filter_nil] at tj
    rw [← tj] at rs
    have k4 := k3 (by simpa using ht)
    have cV := valueOf_c o l Ni (by omega) q1 (fun v hv => by have := k4 v hv; omega)
    have vN := vlN_N o l
    have bN : isN (iat a t) := ha.Ns.get t
    have br := avs_dropI (a := a) (v := t) (by omega)
    have f1 := mul_fits vN bN
    have c1 := num_c (vlN o l * iat a t) f1.1 f1.2
    have m1 := isN_mod (vlN o l * iat a t)
    have f2 : fits ((n : Int) * (vlN o l * iat a t % 10007)) := mul_fits (show isN (n : Int) from ⟨by omega, by omega⟩) m1
    have c2 := num_c ((n : Int) * (vlN o l * iat a t % 10007)) f2.1 f2.2
    have m2 := isN_mod ((n : Int) * (vlN o l * iat a t % 10007))
    have na : ¬ a = [] := by rintro rfl; simp at la
    rw [li] at cV
    generalize rsF o a X = s at *
    generalize vlN o l = v at *
    generalize iat a t = y at *
    simp [go_sem, hji, cd, br, ht]
    refine ⟨nR, by kernel_rfl, ?_⟩
    refine CallD.of (cV) (by simp [roots, rootsL]) (by decide) ?_
    simp [go_sem]
    simp [go_sem, br]
    refine ⟨⟨by omega, na⟩, ⟨f1.1, f1.2⟩, ?_⟩
    refine CallD.of (c1) (by simp [roots, rootsL]) (by decide) ?_
    simp [go_sem]
    refine ⟨⟨f2.1, f2.2⟩, ?_⟩
    refine CallD.of (c2) (by simp [roots, rootsL]) (by decide) ?_
    simp [go_sem]
    refine ⟨⟨by omega, by omega⟩, ?_⟩
    refine ⟨by kernel_rfl, ?_⟩
    simp [go_sem]
    refine ⟨⟨by omega, by omega⟩, j + 1, by omega, by omega, Off_reset _ _ _ (by simp), ?_⟩
    rw [rs]
    exact ⟨rfl, by omega⟩
   ·rw [List.filter_cons, if_neg (by simpa using ht), List.filter_nil, List.append_nil] at tj
    simp [go_sem, hji, cd, ht]
    refine ⟨nR, ⟨by omega, by omega⟩, j + 1, by omega, by omega, Off_reset _ _ _ (by simp), ?_⟩
    rw [tj]
    exact ⟨rfl, by omega⟩
  ·have e : j = R.length := by omega
   subst e
   have hji : ¬ (R.length : Int) < R.length := by omega
   rw [List.take_length]
   have bd := rsF_bd o a (R.filter fun c => decide (0 < c.2.2))
   have bl : (R.filter fun c => decide (0 < c.2.2)).length ≤ 100 := by
    have := List.length_filter_le (fun c : Ctp => decide (0 < c.2.2)) R
    omega
   have rm := rsF_mod o a (R.filter fun c => decide (0 < c.2.2))
   have c1 := num_c (-rsF o a (R.filter fun c => decide (0 < c.2.2))) (by omega) (by omega)
   have ng : -rowI (iat o) (iat a) (R.filter fun c => decide (0 < c.2.2)) % 10007 = -rsF o a (R.filter fun c => decide (0 < c.2.2)) % 10007 := by omega
   rw [ng] at ei
   generalize rsF o a (R.filter fun c => decide (0 < c.2.2)) = s at *
   simp [go_sem, hji]
   refine ⟨⟨by omega, by omega⟩, ?_⟩
   refine CallVC.of (c1) (by decide) ?_
   simp [go_sem]
   refine ⟨⟨by omega, by omega, by omega⟩, ⟨by omega, by omega⟩, i + 1, by omega, by omega, (Off.reset (by intro x hx; simp at hx ⊢; omega) (by simp) (by simp [go_sem, Off_reset])), ?_⟩
   rw [ei, avs_snoc]
   exact ⟨⟨rfl, rfl⟩, by omega⟩
 ·have e : i = 37 := by omega
  subst e
  simp [go_sem]
theorem cmS_N {a : List Int} (g : List Int) : N38 (cmS a g) := by
 rcases List.eq_nil_or_concat g with rfl | ⟨h, x, rfl⟩
 ·exact unitS_ch.1
 ·rw [List.concat_eq_append, cmS_snoc]; exact cvS_N _ _
theorem composedSteps_c (a g : List Int) (ha : N38 a) (hg : Ns g) (hl : g.length ≤ 1000) :
  Con Tryz.prog 133 [.agg [.sl 37 (mat (trN 6)), .sl 37 fcF], .sl a.length (avs a), .sl g.length (avs g)] (.own 2 38 (avs (cmS a g))) := by
 have cU := UnitMap_c
 have cS := fun k hk => scaleMap_c a k ha hk
 have cC := fun x y hx hy => convolve_c x y hx hy
 have mN := fun h => cmS_N (a := a) h
 have e0 : cmS a [] = unitS := rfl
 generalize fcF = FC at *
 refine con_of_vc Tryz.mixed ⟨10, [], [], []⟩ Tryz.func133 (by decide) rfl (by simp) (by decide) (by simp [freshOK, freshL, go_sem]) ?_
 rw [Tryz.ntmps133]
 simp [go_sem]
 refine CallVC.of (cU) (by decide) ?_
 simp [go_sem]
 refine loop_inv (7 :: 9 :: List.range' 13 12) (fun i : Nat => [(7, .own 2 38 (avs (cmS a (g.take i)))), (13, .int i)]) (fun i => i ≤ g.length) (fun i => g.length - i) 0 (by simp) (by simp [go_sem, e0]) (by simp [go_sem]) ?_
 intro i hi
 by_cases hil : i < g.length
 ·have hii : (i : Int) < g.length := by omega
  have dr := avs_dropI hil
  have ng : ¬ g = [] := by rintro rfl; simp at hil
  have tk : g.take (i + 1) = g.take i ++ [iat g i] := by
   rw [List.take_succ_eq_append_getElem hil]
   unfold iat
   rw [List.getElem?_eq_getElem hil]; rfl
  have sn := cmS_snoc a (g.take i) (iat g i)
  rw [← tk] at sn
  have c1 := cS (iat g i) (hg.get i)
  have c2 := cC (cmS a (g.take i)) (scS (iat g i) a) (mN _) (scS_N _ _)
  rw [(mN (g.take i)).1, (scS_N (iat g i) a).1] at c2
  have l1 := (mN (g.take i)).1
  have l2 := (scS_N (iat g i) a).1
  generalize cmS a (g.take i) = X at *
  generalize scS (iat g i) a = Y at *
  generalize iat g i = x at *
  simp [go_sem, hii, dr]
  refine ⟨ng, by kernel_rfl, ?_⟩
  refine CallD.of (c1) (by simp [roots, rootsL]) (by decide) ?_
  simp [go_sem]
  refine CallD.of (c2) (by simp [roots, rootsL]) (by decide) ?_
  simp [go_sem]
  refine ⟨by kernel_rfl, ?_⟩
  simp [go_sem]
  refine ⟨⟨by omega, by omega⟩, i + 1, by omega, by omega, Off_reset _ _ _ (by simp), ?_⟩
  rw [sn]
  exact ⟨rfl, by omega⟩
 ·have e : i = g.length := by omega
  subst e
  have hii : ¬ (g.length : Int) < g.length := by omega
  rw [List.take_length]
  simp [go_sem, hii]
theorem scS_neg (a : List Int) : scS 10006 a = scS (-1) a := scS_mod (by decide) a
theorem adjointMap_c (a : List Int) (ha : N38 a) :
  Con Tryz.prog 108 [.agg [.sl 37 (mat (trN 6)), .sl 37 fcF], .sl a.length (avs a)] (.own 2 38 (avs (invS (scS (-1) a)))) := by
 have c1 := scaleMap_c a 10006 ha ⟨by decide, by decide⟩
 have c2 := inverseMap_c (scS 10006 a) (scS_N _ _)
 rw [scS_neg] at c1 c2
 rw [(scS_N (-1) a).1] at c2
 generalize fcF = FC at *
 refine con_of_vc Tryz.mixed ⟨5, [], [], []⟩ Tryz.func108 (by decide) rfl (by simp) (by decide) (by simp [freshOK, freshL, go_sem]) ?_
 rw [Tryz.ntmps108]
 simp [go_sem]
 refine ⟨by kernel_rfl, ?_⟩
 refine CallD.of (c1) (by simp [roots, rootsL]) (by decide) ?_
 simp [go_sem]
 refine CallD.of (c2) (by simp [roots, rootsL]) (by decide) ?_
 simp [go_sem]
 refine ⟨by kernel_rfl, ?_⟩
 simp [go_sem]
end Go.Proofs.YtphccfabekdmnaaGreat


namespace Go.Proofs.YtphccfabekdmnaaGreat
open Go.Abs
def stB (g : List Int) : Bool := decide (1 ≤ g.length) && decide (g.length ≤ 9) && numsB g
theorem stB_ok {g : List Int} (h : stB g = true) : Ns g ∧ 1 ≤ g.length ∧ g.length ≤ 9 := by
 unfold stB at h
 simp only [Bool.and_eq_true, decide_eq_true_eq] at h
 exact ⟨numsB_N.1 h.2, h.1.1, h.1.2⟩
theorem areSteps_c (g : List Int) (hg : g.length ≤ 9223372036854775807) : Con Tryz.prog 132 [.sl g.length (avs g)] (.bool (stB g)) := by
 have c1 := length_c g.length (avs g) hg
 have c2 := inRange_c g.length 1 9
 have c3 := areNumbers_c g hg
 have e : stB g = (decide ((1 : Int) ≤ g.length) && decide ((g.length : Int) ≤ 9) && numsB g) := by
  unfold stB
  congr 2
  ·simp; omega
  ·simp; omega
 rw [e]
 generalize numsB g = w at *
 by_cases h : decide ((1 : Int) ≤ g.length) && decide ((g.length : Int) ≤ 9)
 ·rw [h] at c2 ⊢
  refine con_of_vc Tryz.mixed ⟨3, [], [], []⟩ Tryz.func132 (by decide) rfl (by simp) (by decide) (by simp [freshOK, freshL, go_sem]) ?_
  rw [Tryz.ntmps132]
  simp [go_sem]
  refine CallVC.of (c1) (by decide) ?_
  simp [go_sem]
  refine CallVC.of (c2) (by decide) ?_
  simp [go_sem]
  refine CallVC.of (c3) (by decide) ?_
  simp [go_sem]
 ·have h : (decide ((1 : Int) ≤ g.length) && decide ((g.length : Int) ≤ 9)) = false := by simpa using h
  rw [h] at c2 ⊢
  refine con_of_vc Tryz.mixed ⟨3, [], [], []⟩ Tryz.func132 (by decide) rfl (by simp) (by decide) (by simp [freshOK, freshL, go_sem]) ?_
  rw [Tryz.ntmps132]
  simp [go_sem]
  refine CallVC.of (c1) (by decide) ?_
  simp [go_sem]
  refine CallVC.of (c2) (by decide) ?_
  simp [go_sem]
def cpC (a g : List Int) : Int := if mapB a = true then (if stB g = true then (if iat a 0 = 1 then 0 else 5) else 2) else 1
def cpX (a g : List Int) : List Int := if cpC a g = 0 then cmS a g else []
theorem ComposeSteps_c (a g : List Int) (ha : a.length ≤ 9223372036854775807) (hg : g.length ≤ 9223372036854775807) :
  Con Tryz.prog 41 [.sl a.length (avs a), .sl g.length (avs g)] (.tup [.own 2 (cpX a g).length (avs (cpX a g)), .int (cpC a g)]) := by
 have cM := IsMap_c a ha
 have cS := areSteps_c g hg
 unfold cpX
 unfold cpC
 by_cases hm : mapB a = true
 ·rw [if_pos hm]
  rw [hm] at cM
  have N := N38_of hm
  have hl := N.1
  have na : ¬ a = [] := by rintro rfl; simp at hl
  have a0 := avs_dropI (a := a) (v := 0) (by omega)
  rw [List.drop_zero] at a0
  by_cases hs : stB g = true
  ·rw [if_pos hs]
   rw [hs] at cS
   obtain ⟨gN, g1, g9⟩ := stB_ok hs
   by_cases h1 : iat a 0 = 1
   ·rw [if_pos h1]
    rw [h1] at a0
    have cF := newForms_c
    have cC := composedSteps_c a g N gN (by omega)
    have lX := (cmS_N (a := a) g).1
    rw [if_pos rfl, lX]
    rw [a0, List.drop_one] at cC
    generalize cmS a g = X at *
    generalize fcF = FC at *
    refine con_of_vc Tryz.mixed ⟨6, [], [1000000 + 88], []⟩ Tryz.func41 (by decide) rfl (by simp) (by decide) (by simp [freshOK, freshL, go_sem]) ?_
    rw [Tryz.ntmps41]
    simp [go_sem]
    refine CallVC.of (cM) (by decide) ?_
    simp [go_sem]
    refine CallVC.of (cS) (by decide) ?_
    simp [go_sem]
    simp [go_sem, a0]
    refine ⟨⟨by omega, na⟩, ?_⟩
    refine ⟨_, _, cF, ?_⟩
    simp [go_sem]
    refine CallVC.of (cC) (by decide) ?_
    simp [go_sem]
   ·rw [if_neg h1]
    generalize iat a 0 = x at *
    rw [if_neg (by decide)]
    refine Con.n1 _ ?_
    refine con_of_vc Tryz.mixed ⟨6, [], [1000000 + 88], []⟩ Tryz.func41 (by decide) rfl (by simp) (by decide) (by simp [freshOK, freshL, go_sem]) ?_
    rw [Tryz.ntmps41]
    simp [go_sem]
    refine CallVC.of (cM) (by decide) ?_
    simp [go_sem]
    refine CallVC.of (cS) (by decide) ?_
    simp [go_sem]
    simp [go_sem, a0, h1]
    exact ⟨by omega, na⟩
  ·rw [if_neg hs]
   have hf : stB g = false := by simpa using hs
   rw [hf] at cS
   rw [if_neg (by decide)]
   refine Con.n1 _ ?_
   refine con_of_vc Tryz.mixed ⟨6, [], [1000000 + 88], []⟩ Tryz.func41 (by decide) rfl (by simp) (by decide) (by simp [freshOK, freshL, go_sem]) ?_
   rw [Tryz.ntmps41]
   simp [go_sem]
   refine CallVC.of (cM) (by decide) ?_
   simp [go_sem]
   refine CallVC.of (cS) (by decide) ?_
   simp [go_sem]
 ·rw [if_neg hm]
  have hf : mapB a = false := by simpa using hm
  rw [hf] at cM
  rw [if_neg (by decide)]
  refine Con.n1 _ ?_
  refine con_of_vc Tryz.mixed ⟨6, [], [1000000 + 88], []⟩ Tryz.func41 (by decide) rfl (by simp) (by decide) (by simp [freshOK, freshL, go_sem]) ?_
  rw [Tryz.ntmps41]
  simp [go_sem]
  refine CallVC.of (cM) (by decide) ?_
  simp [go_sem]
theorem Ch.cons {a : List Int} (h : Ch a) : avs a = .int 1 :: avs a.tail := by
 have a0 := avs_dropI (a := a) (v := 0) (by rw [h.1.1]; omega)
 rw [List.drop_zero, h.2, List.drop_one] at a0
 exact a0
theorem N38.ne {a : List Int} (h : N38 a) : ¬ a = [] := by rintro rfl; have := h.1; simp at this
theorem OrderOfMap_k (a : List Int) (ha : Ch a) :
  Con Tryz.prog 16 [.sl a.length (avs a)] (.tup [.int (agS a exaS), .int 0]) := by
 have c1 := checkCharacter_c a (by rw [ha.1.1]; omega)
 rw [ha.ck] at c1
 have cF := newForms_c
 have c2 := exactMap_c
 have c3 := agreeTo_c a exaS ha.1 exaS_ch.1
 rw [exaS_ch.1.1] at c3
 generalize agS a exaS = X at *
 generalize exaS = E at *
 generalize fcF = FC at *
 refine con_of_vc Tryz.mixed ⟨6, [], [1000000 + 88], []⟩ Tryz.func16 (by decide) rfl (by simp) (by decide) (by simp [freshOK, freshL, go_sem]) ?_
 rw [Tryz.ntmps16]
 simp [go_sem]
 refine CallVC.of (c1) (by decide) ?_
 simp [go_sem]
 refine ⟨_, _, cF, ?_⟩
 simp [go_sem]
 refine ⟨by kernel_rfl, ?_⟩
 refine CallD.of (c2) (by simp [roots, rootsL]) (by decide) ?_
 simp [go_sem]
 refine CallD.of (c3) (by simp [roots, rootsL]) (by decide) ?_
 simp [go_sem]
 refine ⟨by kernel_rfl, ?_⟩
 simp [go_sem]
theorem IsSymmetricMap_k (a : List Int) (ha : Ch a) :
  Con Tryz.prog 55 [.sl a.length (avs a)] (.tup [.bool (decide (invS (scS (-1) a) = a)), .int 0]) := by
 have c1 := checkCharacter_c a (by rw [ha.1.1]; omega)
 rw [ha.ck] at c1
 have cF := newForms_c
 have c2 := adjointMap_c a ha.1
 have c3 := slEqual_c (invS (scS (-1) a)) a (by rw [(invS_ch _).1.1]; omega)
 rw [(invS_ch (scS (-1) a)).1.1] at c3
 generalize invS (scS (-1) a) = E at *
 generalize fcF = FC at *
 refine con_of_vc Tryz.mixed ⟨5, [], [1000000 + 88], []⟩ Tryz.func55 (by decide) rfl (by simp) (by decide) (by simp [freshOK, freshL, go_sem]) ?_
 rw [Tryz.ntmps55]
 simp [go_sem]
 refine CallVC.of (c1) (by decide) ?_
 simp [go_sem]
 refine ⟨_, _, cF, ?_⟩
 simp [go_sem]
 refine CallVC.of (c2) (by decide) ?_
 simp [go_sem]
 refine CallVC.of (c3) (by decide) ?_
 simp [go_sem]
def ssL (g : List Int) : List Int := (List.range 6).map fun k => sumPw (k + 1) g % 10007
def sqF (g : List Int) (n : Nat) : Int := g.foldl (fun s x => s + pw x n) 0
theorem sqF_snoc (g : List Int) (n : Nat) (x : Int) : sqF (g ++ [x]) n = sqF g n + pw x n := by simp [sqF]
theorem sqF_ok (n : Nat) (g : List Int) : sqF g n % 10007 = sumPw n g % 10007 ∧ 0 ≤ sqF g n ∧ sqF g n ≤ 10006 * g.length := by
 generalize hn : g.length = m
 induction m generalizing g with
 | zero => rw [List.length_eq_zero_iff.1 hn]; exact ⟨rfl, Int.le_refl 0, by show (0 : Int) ≤ _; omega⟩
 | succ m ih =>
  rcases List.eq_nil_or_concat g with rfl | ⟨h, x, rfl⟩
  ·simp at hn
  ·rw [List.concat_eq_append] at hn ⊢
   obtain ⟨i1, i2, i3⟩ := ih h (by simpa using hn)
   rw [sqF_snoc, sumPw_snoc]
   have pN := pw_N x n
   have := pN.1; have := pN.2
   have e : pw x n % 10007 = x ^ n % 10007 := by
    unfold pw
    rw [Int.emod_emod_of_dvd _ (Int.dvd_refl _)]; rfl
   exact ⟨mod_add' i1 e, by omega, by omega⟩
theorem ssL_len (g : List Int) : (ssL g).length = 6 := by simp [ssL]
theorem ssL_take (g : List Int) {k : Nat} (h : k < 6) : (ssL g).take (k + 1) = (ssL g).take k ++ [sumPw (k + 1) g % 10007] := by
 rw [List.take_succ_eq_append_getElem (by rw [ssL_len]; exact h)]
 simp [ssL]
theorem StepSums_k (g : List Int) (hN : Ns g) (h1 : 1 ≤ g.length) (h9 : g.length ≤ 9) :
  Con Tryz.prog 43 [.sl g.length (avs g)] (.tup [.own 2 6 (avs (ssL g)), .int 0]) := by
 have cS := areSteps_c g (by omega)
 have hs : stB g = true := by
  unfold stB
  rw [numsB_N.2 hN]
  simp; omega
 rw [hs] at cS
 have tk := fun k h => ssL_take g (k := k) h
 have tl : (ssL g).take 6 = ssL g := List.take_of_length_le (by rw [ssL_len]; exact Nat.le_refl _)
 have ll := ssL_len g
 generalize ssL g = O at *
 refine con_of_vc Tryz.mixed ⟨9, [], [], []⟩ Tryz.func43 (by decide) rfl (by simp) (by decide) (by simp [freshOK, freshL, go_sem]) ?_
 rw [Tryz.ntmps43]
 simp [go_sem]
 refine CallVC.of (cS) (by decide) ?_
 simp [go_sem]
 refine loop_inv (4 :: 5 :: 6 :: 8 :: List.range' 13 21) (fun k : Nat => [(4, .own 2 k (avs (O.take k))), (5, .int (k + 1))]) (fun k => k ≤ 6) (fun k => 6 - k) 0 (by simp) (by simp [go_sem]) (by simp [go_sem]) ?_
 intro k hk
 by_cases hk6 : k < 6
 ·have hki : (k : Int) + 1 ≤ 6 := by omega
  have t1 := tk k hk6
  simp [go_sem, hki]
  refine loop_inv (6 :: 8 :: List.range' 19 10) (fun i : Nat => [(6, .int (sqF (g.take i) (k + 1))), (19, .int i)]) (fun i => i ≤ g.length) (fun i => g.length - i) 0 (by simp) (by simp [go_sem, sqF]) (by simp [go_sem]) ?_
  intro i hi
  by_cases hil : i < g.length
  ·have hii : (i : Int) < g.length := by omega
   have dr := avs_dropI hil
   have ng : ¬ g = [] := by rintro rfl; simp at hil
   have tg : g.take (i + 1) = g.take i ++ [iat g i] := by
    rw [List.take_succ_eq_append_getElem hil]
    unfold iat
    rw [List.getElem?_eq_getElem hil]; rfl
   have sn := sqF_snoc (g.take i) (k + 1) (iat g i)
   rw [← tg] at sn
   have bd := (sqF_ok (k + 1) (g.take i)).2
   rw [List.length_take] at bd
   have xN : isN (iat g i) := hN.get i
   have cP := pow_c (iat g i) ((k + 1 : Nat) : Int) xN (by omega) (by omega)
   have pN := pw_N (iat g i) ((k + 1 : Nat) : Int)
   have p1 := pN.1
   have p2 := pN.2
   have ek : ((k + 1 : Nat) : Int) = (k : Int) + 1 := by omega
   rw [ek] at cP sn p1 p2
   generalize sqF (g.take i) (k + 1) = s at *
   generalize iat g i = x at *
   generalize pw x ((k : Int) + 1) = v at *
   simp [go_sem, hii, dr]
   refine ⟨ng, ?_⟩
   refine CallVC.of (cP) (by decide) ?_
   simp [go_sem]
   refine ⟨⟨by omega, by omega⟩, ⟨by omega, by omega⟩, i + 1, by omega, by omega, Off_reset _ _ _ (by simp), ?_⟩
   rw [sn]
   exact ⟨rfl, by omega⟩
  ·have e : i = g.length := by omega
   subst e
   have hii : ¬ (g.length : Int) < g.length := by omega
   obtain ⟨m1, m2, m3⟩ := sqF_ok (k + 1) g
   rw [← m1] at t1
   have cN := num_c (sqF g (k + 1)) (by omega) (by omega)
   rw [List.take_length]
   generalize sqF g (k + 1) = s at *
   simp [go_sem, hii]
   refine CallVC.of (cN) (by decide) ?_
   simp [go_sem]
   refine ⟨⟨by omega, by omega, by omega⟩, ⟨by omega, by omega⟩, k + 1, by omega, by omega, (Off.reset (by intro x hx; simp at hx ⊢; omega) (by simp) (by simp [go_sem, Off_reset])), ?_⟩
   rw [t1, avs_snoc]
   exact ⟨⟨rfl, rfl⟩, by omega⟩
 ·have e : k = 6 := by omega
  subst e
  rw [tl]
  simp [go_sem]
end Go.Proofs.YtphccfabekdmnaaGreat


namespace Go.Proofs.YtphccfabekdmnaaGreat
open Go.Abs
theorem RootNumber3_c (a : Int) (ha : isN a) : Con Tryz.prog 241 [.int a, .int 3] (.tup [.int (pw a 6671), .int 0]) := by
 have cI := IsNumber_c a
 have ed : decide (0 ≤ a ∧ a ≤ 10006) = true := decide_eq_true ⟨ha.1, by have := ha.2; omega⟩
 rw [ed] at cI
 have cP := pow_c a 6671 ha (by omega) (by omega)
 generalize pw a 6671 = v at *
 refine con_of_vc Tryz.mixed ⟨7, [], [], []⟩ Tryz.func241 (by decide) rfl (by simp) (by decide) (by simp [freshOK, freshL, go_sem]) ?_
 rw [Tryz.ntmps241]
 simp [go_sem]
 refine CallVC.of (cI) (by decide) ?_
 simp [go_sem]
 refine loop_inv (6 :: List.range' 18 7) (fun i : Nat => [(6, .int i)]) (fun i => 1 ≤ i ∧ i ≤ 6671) (fun i => 6671 - i) 1 (by omega) (by simp [go_sem]) (by simp [go_sem]) ?_
 rintro i ⟨h1, h2⟩
 by_cases h : i < 6671
 ·have hn : ¬ (i : Int) * 3 % 10006 = 1 := by omega
  have e := Int.tmod_eq_emod_of_nonneg (a := (i : Int) * 3) (b := 10006) (by omega)
  simp [go_sem, e, hn]
  exact ⟨⟨by omega, by omega⟩, ⟨by omega, by omega⟩, i + 1, ⟨by omega, by omega⟩, by omega, Off_reset _ _ _ (by simp), by omega⟩
 ·have e : i = 6671 := by omega
  subst e
  simp [go_sem]
  refine CallVC.of (cP) (by decide) ?_
  simp [go_sem]
theorem RootNumber5_c (a : Int) (ha : isN a) : Con Tryz.prog 241 [.int a, .int 5] (.tup [.int (pw a 8005), .int 0]) := by
 have cI := IsNumber_c a
 have ed : decide (0 ≤ a ∧ a ≤ 10006) = true := decide_eq_true ⟨ha.1, by have := ha.2; omega⟩
 rw [ed] at cI
 have cP := pow_c a 8005 ha (by omega) (by omega)
 generalize pw a 8005 = v at *
 refine con_of_vc Tryz.mixed ⟨7, [], [], []⟩ Tryz.func241 (by decide) rfl (by simp) (by decide) (by simp [freshOK, freshL, go_sem]) ?_
 rw [Tryz.ntmps241]
 simp [go_sem]
 refine CallVC.of (cI) (by decide) ?_
 simp [go_sem]
 refine loop_inv (6 :: List.range' 18 7) (fun i : Nat => [(6, .int i)]) (fun i => 1 ≤ i ∧ i ≤ 8005) (fun i => 8005 - i) 1 (by omega) (by simp [go_sem]) (by simp [go_sem]) ?_
 rintro i ⟨h1, h2⟩
 by_cases h : i < 8005
 ·have hn : ¬ (i : Int) * 5 % 10006 = 1 := by omega
  have e := Int.tmod_eq_emod_of_nonneg (a := (i : Int) * 5) (b := 10006) (by omega)
  simp [go_sem, e, hn]
  exact ⟨⟨by omega, by omega⟩, ⟨by omega, by omega⟩, i + 1, ⟨by omega, by omega⟩, by omega, Off_reset _ _ _ (by simp), by omega⟩
 ·have e : i = 8005 := by omega
  subst e
  simp [go_sem]
  refine CallVC.of (cP) (by decide) ?_
  simp [go_sem]
def jmL (p : Int) (s : Nat) : List Int :=
 if p = 2 then (if s = 1 then [141, 9726, 141] else [5812, 5812, 6774, 5812, 5812]) else (if s = 1 then [9041, 1933, 9041] else [6278, 6278, 4910, 6278, 6278])
theorem Concat3_c (x y z : List Int) (h0 : 0 < x.length + y.length + z.length) (hx : x.length ≤ 1000) (hy : y.length ≤ 1000) (hz : z.length ≤ 1000) :
  Con Tryz.prog 243 [.sl 3 [.sl x.length (avs x), .sl y.length (avs y), .sl z.length (avs z)]] (.own 2 (x ++ y ++ z).length (avs (x ++ y ++ z))) := by
 have e : flL [x, y, z] 3 = x ++ y ++ z := by simp [flL]
 have c := Concat_c [x, y, z] (by show 0 < (flL [x, y, z] 3).length; rw [e]; simp; omega) (by show (flL [x, y, z] 3).length ≤ _; rw [e]; simp; omega) (by simp)
 have cl : [x, y, z].length = 3 := rfl
 have mm : mat [x, y, z] = [.sl x.length (avs x), .sl y.length (avs y), .sl z.length (avs z)] := by simp [mat]
 rw [cl, e, mm] at c
 exact c
theorem jump21_c : Con Tryz.prog 144 [.int 2, .int 1] (.tup [.own 2 3 (avs (jmL 2 1)), .int 0]) := by
 show Con _ _ _ (.tup [.own _ 3 (avs [141, 9726, 141]), .int 0])
 have cQ := RootNumber3_c 2 ⟨by decide, by decide⟩
 have w1 : pw 2 6671 = 2486 := by
  have := fp_pow 2 6671 (by decide)
  rw [show ((2 : Nat) : Int) = 2 from rfl] at this
  rw [show ((6671 : Nat) : Int) = 6671 from rfl] at this
  rw [← this]; decide +kernel
 rw [w1] at cQ
 have cI := inv_c 7523 ⟨by decide, by decide⟩
 have w2 : pw 7523 10005 = 141 := by
  have := fp_pw 7523
  rw [show ((7523 : Nat) : Int) = 7523 from rfl] at this
  rw [← this]; decide +kernel
 rw [w2] at cI
 have cN := num_c (2 - 2486) (by omega) (by omega)
 rw [show ((2 : Int) - 2486) % 10007 = 7523 by decide] at cN
 have cN2 := num_c (1 - 2 * 141) (by omega) (by omega)
 rw [show ((1 : Int) - 2 * 141) % 10007 = 9726 by decide] at cN2
 have cR := Repeat_c 141 1 (by omega) (by omega)
 have cC := Concat3_c (List.replicate 1 141) [9726] (List.replicate 1 141) (by simp) (by simp) (by simp) (by simp)
 simp only [avs, List.replicate, List.map, List.length, List.cons_append, List.nil_append, Nat.zero_add, Nat.reduceAdd] at cC cR
 refine con_of_vc Tryz.mixed ⟨11, [10], [], []⟩ Tryz.func144 (by decide) rfl (by simp) (by decide) (by simp [freshOK, freshL, go_sem]) ?_
 rw [Tryz.ntmps144]
 simp [go_sem]
 refine CallVC.of (cQ) (by decide) ?_
 simp [go_sem]
 refine CallVC.of (cN) (by decide) ?_
 simp [go_sem]
 refine CallVC.of (cI) (by decide) ?_
 simp [go_sem]
 refine CallVC.of (cR) (by decide) ?_
 simp [go_sem]
 refine CallVC.of (cN2) (by decide) ?_
 simp [go_sem]
 refine CallVC.of (cC) (by decide) ?_
 simp [go_sem]
 rfl
theorem jump22_c : Con Tryz.prog 144 [.int 2, .int 2] (.tup [.own 2 5 (avs (jmL 2 2)), .int 0]) := by
 show Con _ _ _ (.tup [.own _ 5 (avs [5812, 5812, 6774, 5812, 5812]), .int 0])
 have cQ := RootNumber3_c 4 ⟨by decide, by decide⟩
 have w1 : pw 4 6671 = 5877 := by
  have := fp_pow 4 6671 (by decide)
  rw [show ((4 : Nat) : Int) = 4 from rfl] at this
  rw [show ((6671 : Nat) : Int) = 6671 from rfl] at this
  rw [← this]; decide +kernel
 rw [w1] at cQ
 have cI := inv_c 4134 ⟨by decide, by decide⟩
 have w2 : pw 4134 10005 = 5812 := by
  have := fp_pw 4134
  rw [show ((4134 : Nat) : Int) = 4134 from rfl] at this
  rw [← this]; decide +kernel
 rw [w2] at cI
 have cN := num_c (4 - 5877) (by omega) (by omega)
 rw [show ((4 : Int) - 5877) % 10007 = 4134 by decide] at cN
 have cN2 := num_c (1 - 4 * 5812) (by omega) (by omega)
 rw [show ((1 : Int) - 4 * 5812) % 10007 = 6774 by decide] at cN2
 have cR := Repeat_c 5812 2 (by omega) (by omega)
 have cC := Concat3_c (List.replicate 2 5812) [6774] (List.replicate 2 5812) (by simp) (by simp) (by simp) (by simp)
 simp only [avs, List.replicate, List.map, List.length, List.cons_append, List.nil_append, Nat.zero_add, Nat.reduceAdd] at cC cR
 refine con_of_vc Tryz.mixed ⟨11, [10], [], []⟩ Tryz.func144 (by decide) rfl (by simp) (by decide) (by simp [freshOK, freshL, go_sem]) ?_
 rw [Tryz.ntmps144]
 simp [go_sem]
 refine CallVC.of (cQ) (by decide) ?_
 simp [go_sem]
 refine CallVC.of (cN) (by decide) ?_
 simp [go_sem]
 refine CallVC.of (cI) (by decide) ?_
 simp [go_sem]
 refine CallVC.of (cR) (by decide) ?_
 simp [go_sem]
 refine CallVC.of (cN2) (by decide) ?_
 simp [go_sem]
 refine CallVC.of (cC) (by decide) ?_
 simp [go_sem]
 rfl
theorem jump41_c : Con Tryz.prog 144 [.int 4, .int 1] (.tup [.own 2 3 (avs (jmL 4 1)), .int 0]) := by
 show Con _ _ _ (.tup [.own _ 3 (avs [9041, 1933, 9041]), .int 0])
 have cQ := RootNumber5_c 2 ⟨by decide, by decide⟩
 have w1 : pw 2 8005 = 1069 := by
  have := fp_pow 2 8005 (by decide)
  rw [show ((2 : Nat) : Int) = 2 from rfl] at this
  rw [show ((8005 : Nat) : Int) = 8005 from rfl] at this
  rw [← this]; decide +kernel
 rw [w1] at cQ
 have cI := inv_c 8940 ⟨by decide, by decide⟩
 have w2 : pw 8940 10005 = 9041 := by
  have := fp_pw 8940
  rw [show ((8940 : Nat) : Int) = 8940 from rfl] at this
  rw [← this]; decide +kernel
 rw [w2] at cI
 have cN := num_c (2 - 1069) (by omega) (by omega)
 rw [show ((2 : Int) - 1069) % 10007 = 8940 by decide] at cN
 have cN2 := num_c (1 - 2 * 9041) (by omega) (by omega)
 rw [show ((1 : Int) - 2 * 9041) % 10007 = 1933 by decide] at cN2
 have cR := Repeat_c 9041 1 (by omega) (by omega)
 have cC := Concat3_c (List.replicate 1 9041) [1933] (List.replicate 1 9041) (by simp) (by simp) (by simp) (by simp)
 simp only [avs, List.replicate, List.map, List.length, List.cons_append, List.nil_append, Nat.zero_add, Nat.reduceAdd] at cC cR
 refine con_of_vc Tryz.mixed ⟨11, [10], [], []⟩ Tryz.func144 (by decide) rfl (by simp) (by decide) (by simp [freshOK, freshL, go_sem]) ?_
 rw [Tryz.ntmps144]
 simp [go_sem]
 refine CallVC.of (cQ) (by decide) ?_
 simp [go_sem]
 refine CallVC.of (cN) (by decide) ?_
 simp [go_sem]
 refine CallVC.of (cI) (by decide) ?_
 simp [go_sem]
 refine CallVC.of (cR) (by decide) ?_
 simp [go_sem]
 refine CallVC.of (cN2) (by decide) ?_
 simp [go_sem]
 refine CallVC.of (cC) (by decide) ?_
 simp [go_sem]
 rfl
theorem jump42_c : Con Tryz.prog 144 [.int 4, .int 2] (.tup [.own 2 5 (avs (jmL 4 2)), .int 0]) := by
 show Con _ _ _ (.tup [.own _ 5 (avs [6278, 6278, 4910, 6278, 6278]), .int 0])
 have cQ := RootNumber5_c 4 ⟨by decide, by decide⟩
 have w1 : pw 4 8005 = 1963 := by
  have := fp_pow 4 8005 (by decide)
  rw [show ((4 : Nat) : Int) = 4 from rfl] at this
  rw [show ((8005 : Nat) : Int) = 8005 from rfl] at this
  rw [← this]; decide +kernel
 rw [w1] at cQ
 have cI := inv_c 8048 ⟨by decide, by decide⟩
 have w2 : pw 8048 10005 = 6278 := by
  have := fp_pw 8048
  rw [show ((8048 : Nat) : Int) = 8048 from rfl] at this
  rw [← this]; decide +kernel
 rw [w2] at cI
 have cN := num_c (4 - 1963) (by omega) (by omega)
 rw [show ((4 : Int) - 1963) % 10007 = 8048 by decide] at cN
 have cN2 := num_c (1 - 4 * 6278) (by omega) (by omega)
 rw [show ((1 : Int) - 4 * 6278) % 10007 = 4910 by decide] at cN2
 have cR := Repeat_c 6278 2 (by omega) (by omega)
 have cC := Concat3_c (List.replicate 2 6278) [4910] (List.replicate 2 6278) (by simp) (by simp) (by simp) (by simp)
 simp only [avs, List.replicate, List.map, List.length, List.cons_append, List.nil_append, Nat.zero_add, Nat.reduceAdd] at cC cR
 refine con_of_vc Tryz.mixed ⟨11, [10], [], []⟩ Tryz.func144 (by decide) rfl (by simp) (by decide) (by simp [freshOK, freshL, go_sem]) ?_
 rw [Tryz.ntmps144]
 simp [go_sem]
 refine CallVC.of (cQ) (by decide) ?_
 simp [go_sem]
 refine CallVC.of (cN) (by decide) ?_
 simp [go_sem]
 refine CallVC.of (cI) (by decide) ?_
 simp [go_sem]
 refine CallVC.of (cR) (by decide) ?_
 simp [go_sem]
 refine CallVC.of (cN2) (by decide) ?_
 simp [go_sem]
 refine CallVC.of (cC) (by decide) ?_
 simp [go_sem]
 rfl
theorem jump_no (p : Int) (h2 : ¬ p = 2) (h4 : ¬ p = 4) : Con Tryz.prog 144 [.int p, .int 1] (.tup [.own 2 0 [], .int 2]) := by
 refine Con.n1 _ ?_
 refine con_of_vc Tryz.mixed ⟨11, [], [], []⟩ Tryz.func144 (by decide) rfl (by simp) (by decide) (by simp [freshOK, freshL, go_sem]) ?_
 rw [Tryz.ntmps144]
 simp [go_sem]
 simp [go_sem, h2, h4]
theorem JumpSteps_c (p : Int) (hp : p = 2 ∨ p = 4) : Con Tryz.prog 56 [.int p] (.tup [.own 2 3 (avs (jmL p 1)), .int 0]) := by
 have c : Con Tryz.prog 144 [.int p, .int 1] (.tup [.own 2 3 (avs (jmL p 1)), .int 0]) := by
  rcases hp with rfl | rfl
  ·exact jump21_c
  ·exact jump41_c
 generalize jmL p 1 = X at *
 refine con_of_vc Tryz.mixed ⟨4, [], [], []⟩ Tryz.func56 (by decide) rfl (by simp) (by decide) (by simp [freshOK, freshL, go_sem]) ?_
 rw [Tryz.ntmps56]
 simp [go_sem]
 refine CallVC.of (c) (by decide) ?_
 simp [go_sem]
theorem LongJumpSteps_c (p : Int) (hp : p = 2 ∨ p = 4) : Con Tryz.prog 57 [.int p] (.tup [.own 2 5 (avs (jmL p 2)), .int 0]) := by
 have c : Con Tryz.prog 144 [.int p, .int 2] (.tup [.own 2 5 (avs (jmL p 2)), .int 0]) := by
  rcases hp with rfl | rfl
  ·exact jump22_c
  ·exact jump42_c
 generalize jmL p 2 = X at *
 refine con_of_vc Tryz.mixed ⟨4, [], [], []⟩ Tryz.func57 (by decide) rfl (by simp) (by decide) (by simp [freshOK, freshL, go_sem]) ?_
 rw [Tryz.ntmps57]
 simp [go_sem]
 refine CallVC.of (c) (by decide) ?_
 simp [go_sem]
def roB (a : List Int) : Bool := decide (agS a exaS = 2 ∨ agS a exaS = 4) && decide (invS (scS (-1) a) = a)
def roC (a : List Int) : Int := if ckC a = 0 then (if roB a = true then 0 else 5) else ckC a
def roX (a : List Int) : List Int := if roC a = 0 then cmS a (jmL (agS a exaS) 1) else []
theorem jmL_N {p : Int} (s : Nat) (hp : p = 2 ∨ p = 4) : Ns (jmL p s) ∧ 1 ≤ (jmL p s).length ∧ (jmL p s).length ≤ 5 := by
 have hs : (List.all [jmL 2 1, jmL 2 2, jmL 4 1, jmL 4 2] fun l => l.all (fun x => decide (0 ≤ x ∧ x ≤ 10006)) && decide (1 ≤ l.length ∧ l.length ≤ 5)) = true := by decide
 have e : jmL p s ∈ [jmL 2 1, jmL 2 2, jmL 4 1, jmL 4 2] := by
  rcases hp with rfl | rfl
  ·by_cases h : s = 1
   ·subst h; simp
   ·have : jmL 2 s = jmL 2 2 := by unfold jmL; simp [h]
    rw [this]; simp
  ·by_cases h : s = 1
   ·subst h; simp
   ·have : jmL 4 s = jmL 4 2 := by unfold jmL; simp [h]
    rw [this]; simp
 have h := List.all_eq_true.1 hs _ e
 simp only [Bool.and_eq_true, List.all_eq_true, decide_eq_true_eq] at h
 exact ⟨fun x hx => ⟨(h.1 x hx).1, by have := (h.1 x hx).2; omega⟩, h.2.1, h.2.2⟩
theorem RaiseOrder_c (a : List Int) (ha : a.length ≤ 9223372036854775807) :
  Con Tryz.prog 53 [.sl a.length (avs a)] (.tup [.own 2 (roX a).length (avs (roX a)), .int (roC a)]) := by
 have cK := checkCharacter_c a ha
 by_cases hk : ckC a = 0
 ·have hA := ckC_ch hk
  rw [hk] at cK
  have cF := newForms_c
  have cE := exactMap_c
  have cG := agreeTo_c a exaS hA.1 exaS_ch.1
  rw [exaS_ch.1.1] at cG
  have cJ := adjointMap_c a hA.1
  have cQ := slEqual_c (invS (scS (-1) a)) a (by rw [(invS_ch _).1.1]; omega)
  rw [(invS_ch (scS (-1) a)).1.1] at cQ
  unfold roX roC roB
  rw [if_pos hk]
  by_cases hp : agS a exaS = 2 ∨ agS a exaS = 4
  ·have jN := jmL_N 1 hp
   have cS : Con Tryz.prog 144 [.int (agS a exaS), .int 1] (.tup [.own 2 3 (avs (jmL (agS a exaS) 1)), .int 0]) := by
    rcases hp with e | e
    ·rw [e]; exact jump21_c
    ·rw [e]; exact jump41_c
   have jl : (jmL (agS a exaS) 1).length = 3 := by
    rcases hp with e | e <;> rw [e] <;> rfl
   have cC := composedSteps_c a (jmL (agS a exaS) 1) hA.1 jN.1 (by omega)
   rw [jl] at cC
   have lX := (cmS_N (a := a) (jmL (agS a exaS) 1)).1
   by_cases hq : invS (scS (-1) a) = a
   ·simp only [hp, hq, decide_true, Bool.and_true, if_true, lX]
    rw [hq] at cQ cJ
    simp only [decide_true] at cQ
    have la := hA.1.1
    generalize cmS a (jmL (agS a exaS) 1) = X at *
    generalize jmL (agS a exaS) 1 = J at *
    generalize agS a exaS = p at *
    generalize exaS = E at *
    generalize fcF = FC at *
    refine con_of_vc Tryz.mixed ⟨8, [20], [1000000 + 88], []⟩ Tryz.func53 (by decide) rfl (by simp) (by decide) (by simp [freshOK, freshL, go_sem]) ?_
    rw [Tryz.ntmps53]
    simp [go_sem]
    refine CallVC.of (cK) (by decide) ?_
    simp [go_sem]
    refine ⟨_, _, cF, ?_⟩
    simp [go_sem]
    refine ⟨by kernel_rfl, ?_⟩
    refine CallD.of (cE) (by simp [roots, rootsL]) (by decide) ?_
    simp [go_sem]
    refine CallD.of (cG) (by simp [roots, rootsL]) (by decide) ?_
    simp [go_sem]
    refine CallD.of (cS) (by simp [roots, rootsL, frz, frzL]) (by decide) ?_
    simp [go_sem]
    refine ⟨by kernel_rfl, ?_⟩
    simp [go_sem]
    refine CallVC.of (cJ) (by decide) ?_
    simp [go_sem]
    refine CallVC.of (cQ) (by decide) ?_
    simp [go_sem]
    refine CallVC.of (cC) (by decide) ?_
    simp [go_sem]
   ·simp only [hp, hq, decide_true, decide_false, Bool.and_false, Bool.false_eq_true, if_false]
    rw [if_neg (by decide)]
    refine Con.n1 _ ?_
    simp only [hq, decide_false] at cQ
    generalize invS (scS (-1) a) = Z at *
    generalize cmS a (jmL (agS a exaS) 1) = X at *
    generalize jmL (agS a exaS) 1 = J at *
    generalize agS a exaS = p at *
    generalize exaS = E at *
    generalize fcF = FC at *
    refine con_of_vc Tryz.mixed ⟨8, [20], [1000000 + 88], []⟩ Tryz.func53 (by decide) rfl (by simp) (by decide) (by simp [freshOK, freshL, go_sem]) ?_
    rw [Tryz.ntmps53]
    simp [go_sem]
    refine CallVC.of (cK) (by decide) ?_
    simp [go_sem]
    refine ⟨_, _, cF, ?_⟩
    simp [go_sem]
    refine ⟨by kernel_rfl, ?_⟩
    refine CallD.of (cE) (by simp [roots, rootsL]) (by decide) ?_
    simp [go_sem]
    refine CallD.of (cG) (by simp [roots, rootsL]) (by decide) ?_
    simp [go_sem]
    refine CallD.of (cS) (by simp [roots, rootsL, frz, frzL]) (by decide) ?_
    simp [go_sem]
    refine ⟨by kernel_rfl, ?_⟩
    simp [go_sem]
    refine CallVC.of (cJ) (by decide) ?_
    simp [go_sem]
    refine CallVC.of (cQ) (by decide) ?_
    simp [go_sem]
  ·simp only [hp, decide_false, Bool.false_and, Bool.false_eq_true, if_false]
   rw [if_neg (by decide)]
   refine Con.n1 _ ?_
   have cS := jump_no (agS a exaS) (fun e => hp (.inl e)) (fun e => hp (.inr e))
   generalize agS a exaS = p at *
   generalize exaS = E at *
   generalize fcF = FC at *
   refine con_of_vc Tryz.mixed ⟨8, [20], [1000000 + 88], []⟩ Tryz.func53 (by decide) rfl (by simp) (by decide) (by simp [freshOK, freshL, go_sem]) ?_
   rw [Tryz.ntmps53]
   simp [go_sem]
   refine CallVC.of (cK) (by decide) ?_
   simp [go_sem]
   refine ⟨_, _, cF, ?_⟩
   simp [go_sem]
   refine ⟨by kernel_rfl, ?_⟩
   refine CallD.of (cE) (by simp [roots, rootsL]) (by decide) ?_
   simp [go_sem]
   refine CallD.of (cG) (by simp [roots, rootsL]) (by decide) ?_
   simp [go_sem]
   refine CallD.of (cS) (by simp [roots, rootsL, frz, frzL]) (by decide) ?_
   simp [go_sem]
   refine ⟨by kernel_rfl, ?_⟩
   simp [go_sem]
 ·unfold roX roC
  rw [if_neg hk, if_neg hk]
  refine Con.n1 _ ?_
  generalize ckC a = k at *
  refine con_of_vc Tryz.mixed ⟨8, [20], [1000000 + 88], []⟩ Tryz.func53 (by decide) rfl (by simp) (by decide) (by simp [freshOK, freshL, go_sem]) ?_
  rw [Tryz.ntmps53]
  simp [go_sem]
  refine CallVC.of (cK) (by decide) ?_
  simp [go_sem]
  simp [go_sem, hk]
theorem OrderOfMap_n (a : List Int) (ha : a.length ≤ 9223372036854775807) (hk : ¬ ckC a = 0) : Con Tryz.prog 16 [.sl a.length (avs a)] (.tup [.int 0, .int (ckC a)]) := by
 have cK := checkCharacter_c a ha
 generalize ckC a = k at *
 refine con_of_vc Tryz.mixed ⟨6, [], [1000000 + 88], []⟩ Tryz.func16 (by decide) rfl (by simp) (by decide) (by simp [freshOK, freshL, go_sem]) ?_
 rw [Tryz.ntmps16]
 simp [go_sem]
 refine CallVC.of (cK) (by decide) ?_
 simp [go_sem]
 simp [go_sem, hk]
theorem IsSymmetricMap_n (a : List Int) (ha : a.length ≤ 9223372036854775807) (hk : ¬ ckC a = 0) : Con Tryz.prog 55 [.sl a.length (avs a)] (.tup [.bool false, .int (ckC a)]) := by
 have cK := checkCharacter_c a ha
 generalize ckC a = k at *
 refine con_of_vc Tryz.mixed ⟨5, [], [1000000 + 88], []⟩ Tryz.func55 (by decide) rfl (by simp) (by decide) (by simp [freshOK, freshL, go_sem]) ?_
 rw [Tryz.ntmps55]
 simp [go_sem]
 refine CallVC.of (cK) (by decide) ?_
 simp [go_sem]
 simp [go_sem, hk]
end Go.Proofs.YtphccfabekdmnaaGreat


namespace Go.Proofs.YtphccfabekdmnaaGreat
open Go.Abs
theorem l03Before_c (a b : List Int) (ha : a.length ≤ 1000000) (hb : b.length ≤ 1000000) : Con Tryz.prog 327 [.sl a.length (avs a), .sl b.length (avs b)] (.bool (ltT a b)) := by
 unfold ltT
 have c := l01Less_c b a (by omega) (by omega)
 by_cases h : a.length = b.length
 ·have hi : (a.length : Int) = b.length := by omega
  rw [if_pos h]
  refine con_of_vc Tryz.mixed ⟨5, [], [], []⟩ Tryz.func327 (by decide) rfl (by simp) (by decide) (by simp [freshOK, freshL, go_sem]) ?_
  rw [Tryz.ntmps327]
  simp [go_sem, hi]
  refine CallVC.of (c) (by decide) ?_
  simp [go_sem]
 ·have hi : ¬ (a.length : Int) = b.length := by omega
  rw [if_neg h]
  refine con_of_vc Tryz.mixed ⟨5, [], [], []⟩ Tryz.func327 (by decide) rfl (by simp) (by decide) (by simp [freshOK, freshL, go_sem]) ?_
  rw [Tryz.ntmps327]
  simp [go_sem, hi]
theorem l03Sort_c (bs : List (List Int)) (hl : ∀ b ∈ bs, b.length ≤ 1000000) (hn : bs.length ≤ 1000) : GCon Tryz.prog 287 [.sl bs.length (mat bs)] (.sl bs.length (mat (srtT bs))) [.any] := by
 refine gcon_of_vc Tryz.mixed ⟨7, [7, 36, 48], [], []⟩ [2] [] Tryz.func287 (by decide) rfl rfl (by simp) (by simp) (by decide) ?_
 rw [Tryz.ntmps287]
 simp [go_sem]
 refine loop_inv ([3, 4, 5, 6] ++ List.range' 8 41) (fun i : Nat => [(3, .sl i (mat (srtT (bs.take i)))), (4, .int i)]) (fun i => i ≤ bs.length) (fun i => bs.length - i) 0 (by simp) (by simp [go_sem, srtT, mat]) (by simp [go_sem]) ?_
 intro i hi
 simp [go_sem]
 refine ⟨fun h => ?_, fun h => ?_⟩ <;> simp at h
 ·have hif : i < bs.length := by omega
  have hb := memD [] hif
  have ht : srtT (bs.take (i + 1)) = insT (bs[i]?.getD []) (srtT (bs.take i)) := by
   rw [List.take_add_one, List.getElem?_eq_getElem hif, Option.toList_some, srtT_snoc]; rfl
  have l1 := hl _ hb
  have sl : ∀ s ∈ srtT (bs.take i), s.length ≤ 1000000 := fun s hs => hl s (List.mem_of_mem_take ((srtT_perm _).mem_iff.1 hs))
  have il : (srtT (bs.take i)).length = i := by rw [srtT_len]; simp; omega
  have mi := mat_drop hif
  have neb : ¬ bs = [] := by rintro rfl; simp at hif
  generalize hN : srtT (bs.take (i + 1)) = S2 at *
  generalize srtT (bs.take i) = S at *
  generalize bs[i]?.getD [] = p at *
  have cO := l01Own_c p (by omega)
  subst il
  simp [go_sem]
  refine loop_inv (5 :: List.range' 14 18) (fun a : Nat => [(5, .int a)]) (fun a => a ≤ S.length ∧ atT p S = a + atT p (S.drop a)) (fun a => S.length - a) 0 (by simp) (by simp [go_sem]) (by simp [go_sem]) ?_
  rintro a ⟨ha, hat⟩
  by_cases has : a < S.length
  ·have has' : (a : Int) < S.length := by omega
   have hd : S.drop a = S[a]?.getD [] :: S.drop (a + 1) := by rw [List.drop_eq_getElem_cons has]; simp [has]
   rw [hd, atT] at hat
   have hg := mat_drop has
   have hsl := sl _ (memD [] has)
   have neS : ¬ S = [] := by rintro rfl; simp at has
   have cL := l03Before_c p (S[a]?.getD []) (by omega) (by omega)
   by_cases hlt : ltT p (S[a]?.getD []) = true
   ·rw [if_pos hlt] at hat
    rw [hlt] at cL
    have hS2 : S2 = S.take a ++ p :: S.drop a := by rw [ht, insT, hat, Nat.add_zero]
    simp [go_sem, has', hg, mi]
    refine ⟨by kernel_rfl, ⟨hif, neb⟩, neS, ?_⟩
    refine CallD.of (cL) (by simp [roots, rootsL]) (by decide) ?_
    simp [go_sem]
    refine ⟨by kernel_rfl, ?_⟩
    simp [go_sem]
    simp [go_sem, mi, mat_dropL, mat_takeL, mat_noown]
    refine ⟨by kernel_rfl, ⟨hif, neb⟩, ?_⟩
    refine CallD.of (cO) (by simp [roots, rootsL, frz, frzL]) (by decide) ?_
    simp [go_sem]
    simp [go_sem, mat_dropL, mat_takeL, mat_noown]
    refine ⟨by omega, ⟨by omega, by omega⟩, ?_⟩
    refine ⟨by kernel_rfl, ?_⟩
    simp [go_sem]
    simp [go_sem, mat_dropL, mat_takeL, mat_noown]
    refine ⟨by omega, ⟨by omega, by omega⟩, ⟨by omega, by omega, by omega, by omega⟩, ⟨by omega, by omega⟩, S.length + 1, by omega, by omega, (by repeat (first | exact Off_reset _ _ _ (by simp) | (refine Off.reset (by intro x hx; simp at hx ⊢; omega) (by simp) ?_; simp -failIfUnchanged [go_sem, Off_reset]))), ⟨by omega, ?_⟩, by omega⟩
    rw [hN, hS2, show (S.drop a).take (S.length - a) = S.drop a from List.take_of_length_le (by simp), ← mat_frz (S.take a ++ p :: S.drop a), mat_app]; rfl
   ·rw [if_neg hlt] at hat
    have hlf : ltT p (S[a]?.getD []) = false := by simpa using hlt
    rw [hlf] at cL
    simp [go_sem, has', hg, mi]
    refine ⟨by kernel_rfl, ⟨hif, neb⟩, neS, ?_⟩
    refine CallD.of (cL) (by simp [roots, rootsL]) (by decide) ?_
    simp [go_sem]
    refine ⟨by kernel_rfl, ?_⟩
    simp [go_sem]
    exact ⟨by omega, a + 1, ⟨by omega, by omega⟩, by omega, Off_reset _ _ _ (by simp), by omega⟩
  ·have has' : ¬ (a : Int) < S.length := by omega
   have hd : S.drop a = [] := List.drop_eq_nil_of_le (by omega)
   rw [hd, atT] at hat
   have hS2 : S2 = S.take a ++ p :: S.drop a := by rw [ht, insT, hat, Nat.add_zero]
   simp [go_sem, has']
   refine ⟨by kernel_rfl, ?_⟩
   refine ⟨by kernel_rfl, ?_⟩
   simp [go_sem]
   simp [go_sem, mi, mat_dropL, mat_takeL, mat_noown]
   refine ⟨by kernel_rfl, ⟨hif, neb⟩, ?_⟩
   refine CallD.of (cO) (by simp [roots, rootsL, frz, frzL]) (by decide) ?_
   simp [go_sem]
   simp [go_sem, mat_dropL, mat_takeL, mat_noown]
   refine ⟨by omega, ⟨by omega, by omega⟩, ?_⟩
   refine ⟨by kernel_rfl, ?_⟩
   simp [go_sem]
   simp [go_sem, mat_dropL, mat_takeL, mat_noown]
   refine ⟨by omega, ⟨by omega, by omega⟩, ⟨by omega, by omega, by omega, by omega⟩, ⟨by omega, by omega⟩, S.length + 1, by omega, by omega, (by repeat (first | exact Off_reset _ _ _ (by simp) | (refine Off.reset (by intro x hx; simp at hx ⊢; omega) (by simp) ?_; simp -failIfUnchanged [go_sem, Off_reset]))), ⟨by omega, ?_⟩, by omega⟩
   rw [hN, hS2, show (S.drop a).take (S.length - a) = S.drop a from List.take_of_length_le (by simp), ← mat_frz (S.take a ++ p :: S.drop a), mat_app]; rfl
 ·have e : i = bs.length := by omega
  subst e
  rw [List.take_length]
  simp [go_sem]
theorem l03Branches_c (n : Nat) (t : List Int) (hn : n ≤ 1000) (h : Lv t) (hl : t.length ≤ n) (hc : Lv (canF n t)) (hk : (srtT (brs (canF n t))).length ≤ 19) (hm : ∀ m ∈ srtT (brs (canF n t)), m.length ≤ 1000000) :
  GCon Tryz.prog 340 [.sl t.length (avs t)] (.sl (srtT (brs (canF n t))).length (mat (srtT (brs (canF n t))))) [.any] := by
 have cC := l03Canon_c n t hn h hl
 have cl := canF_len n t h hl
 have cB := l03Parts_c (canF n t) (by omega) hc
 have cS := l03Sort_c (brs (canF n t)) (fun m h => hm m ((srtT_perm _).mem_iff.2 h)) (by rw [srtT_len] at hk; omega)
 have sl := srtT_len (brs (canF n t))
 rw [← sl] at cB cS
 rw [cl] at cB
 clear cl sl
 generalize canF n t = u at *
 generalize srtT (brs u) = l at *
 refine gcon_of_vc Tryz.mixed ⟨3, [5], [1000000 + 287], []⟩ [2] [] Tryz.func340 (by decide) rfl rfl (by simp) (by simp) (by decide) ?_
 rw [Tryz.ntmps340]
 simp [go_sem]
 refine CallVC.of (cC) (by decide) ?_
 simp [go_sem]
 refine CallVC.of (cB) (by decide) ?_
 simp [go_sem]
 refine ⟨_, _, cS, ?_⟩
 simp [go_sem]
end Go.Proofs.YtphccfabekdmnaaGreat


namespace Go.Proofs.YtphccfabekdmnaaGreat
open Go.Abs
def o5L : List (List Int) → List (List Int) → Int
 | a :: f, b :: g => if ltT a b = true then -1 else if ltT b a = true then 1 else o5L f g
 | _, _ => 0
def o5C (f g : List (List Int)) : Int := if f.length = g.length then o5L f g else if f.length < g.length then -1 else 1
def o5 (a b : Spl) : Int := if sumN a.1 = sumN b.1 then (if o5C a.1 b.1 = 0 then o5C a.2.1 b.2.1 else o5C a.1 b.1) else if sumN a.1 < sumN b.1 then -1 else 1
theorem o5L_skip : ∀ (f g : List (List Int)) (i : Nat), i ≤ f.length → i ≤ g.length → (∀ j, j < i → ltT (f[j]?.getD []) (g[j]?.getD []) = false ∧ ltT (g[j]?.getD []) (f[j]?.getD []) = false) → o5L f g = o5L (f.drop i) (g.drop i)
 | f, g, 0, _, _, _ => rfl
 | a :: f, b :: g, i + 1, h1, h2, h => by
  have h0 := h 0 (by omega)
  simp only [List.getElem?_cons_zero, Option.getD_some] at h0
  rw [o5L, h0.1, h0.2, if_neg (by decide), if_neg (by decide), List.drop_succ_cons, List.drop_succ_cons]
  exact o5L_skip f g i (by simpa using h1) (by simpa using h2) (fun j hj => by simpa using h (j + 1) (by omega))
 | [], g, i + 1, h1, _, _ => by simp at h1
 | a :: f, [], i + 1, _, h2, _ => by simp at h2
theorem l05Compare_c (f g : List (List Int)) (hf : f.length ≤ 1000) (hg : g.length ≤ 1000) (rf : ∀ r ∈ f, r.length ≤ 1000) (rg : ∀ r ∈ g, r.length ≤ 1000) :
  Con Tryz.prog 408 [.sl f.length (mat f), .sl g.length (mat g)] (.int (o5C f g)) := by
 unfold o5C
 by_cases hl : f.length = g.length
 ·rw [if_pos hl]
  have hli : (f.length : Int) = g.length := by omega
  refine con_of_vc Tryz.mixed ⟨6, [], [], []⟩ Tryz.func408 (by decide) rfl (by simp) (by decide) (by simp [freshOK, freshL, go_sem]) ?_
  rw [Tryz.ntmps408]
  simp [go_sem]
  simp [go_sem, hli]
  refine loop_inv (4 :: 5 :: List.range' 16 26) (fun i : Nat => [(5, .int i)]) (fun i => i ≤ f.length ∧ ∀ j, j < i → ltT (f[j]?.getD []) (g[j]?.getD []) = false ∧ ltT (g[j]?.getD []) (f[j]?.getD []) = false) (fun i => f.length - i) 0 (by simp) (by simp [go_sem]) (by simp [go_sem]) ?_
  rintro i ⟨hi, hz⟩
  have sk := o5L_skip f g i hi (by omega) hz
  by_cases h : i < f.length
  ·have hii : (i : Int) < f.length := by omega
   have hgi : i < g.length := by omega
   have nf : ¬ f = [] := by rintro rfl; simp at h
   have ng : ¬ g = [] := by rintro rfl; simp at hgi
   have df : f.drop i = f[i]?.getD [] :: f.drop (i + 1) := by rw [List.drop_eq_getElem_cons h]; simp [h]
   have dg : g.drop i = g[i]?.getD [] :: g.drop (i + 1) := by rw [List.drop_eq_getElem_cons hgi]; simp [hgi]
   rw [df, dg, o5L] at sk
   have l1 := rf _ (memD [] h)
   have l2 := rg _ (memD [] hgi)
   have c1 := l03Before_c (f[i]?.getD []) (g[i]?.getD []) (by omega) (by omega)
   have c2 := l03Before_c (g[i]?.getD []) (f[i]?.getD []) (by omega) (by omega)
   have m1 := mat_drop h
   have m2 := mat_drop hgi
   have hs : ∀ v w, ltT (f[i]?.getD []) (g[i]?.getD []) = v → ltT (g[i]?.getD []) (f[i]?.getD []) = w → v = false → w = false → ∀ j, j < i + 1 → ltT (f[j]?.getD []) (g[j]?.getD []) = false ∧ ltT (g[j]?.getD []) (f[j]?.getD []) = false := by
    rintro v w hv hw rfl rfl j hj
    rcases Nat.lt_or_ge j i with hji | hji
    ·exact hz j hji
    ·have : j = i := by omega
     subst this; exact ⟨hv, hw⟩
   have hs := hs _ _ rfl rfl
   generalize ltT (f[i]?.getD []) (g[i]?.getD []) = v at *
   generalize ltT (g[i]?.getD []) (f[i]?.getD []) = w at *
   generalize f[i]?.getD [] = r at *
   generalize g[i]?.getD [] = q at *
   simp [go_sem, hii, m1, m2]
   refine ⟨by kernel_rfl, nf, ⟨hgi, ng⟩, ?_⟩
   refine CallD.of (c1) (by simp [roots, rootsL]) (by decide) ?_
   simp [go_sem]
   refine ⟨by kernel_rfl, ?_⟩
   simp [go_sem]
   cases v with
   | true =>
    rw [sk, if_pos rfl]
    simp [go_sem]
   | false =>
    rw [if_neg (by decide)] at sk
    simp [go_sem, m1, m2]
    refine ⟨by kernel_rfl, ⟨hgi, ng⟩, ⟨h, nf⟩, ?_⟩
    refine CallD.of (c2) (by simp [roots, rootsL]) (by decide) ?_
    simp [go_sem]
    refine ⟨by kernel_rfl, ?_⟩
    simp [go_sem]
    cases w with
    | true =>
     rw [sk, if_pos rfl]
     simp [go_sem]
    | false =>
     simp [go_sem]
     exact ⟨⟨by omega, by omega⟩, i + 1, ⟨by omega, hs rfl rfl⟩, by omega, Off_reset _ _ _ (by simp), by omega⟩
  ·have e : i = f.length := by omega
   subst e
   rw [List.drop_eq_nil_of_le (Nat.le_refl _)] at sk
   have e0 : o5L f g = 0 := by rw [sk]; simp [o5L]
   rw [e0]
   have hii : ¬ (f.length : Int) < f.length := by omega
   simp [go_sem, hii]
 ·rw [if_neg hl]
  have hli : ¬ (f.length : Int) = g.length := by omega
  by_cases h2 : f.length < g.length
  ·rw [if_pos h2]
   refine con_of_vc Tryz.mixed ⟨6, [], [], []⟩ Tryz.func408 (by decide) rfl (by simp) (by decide) (by simp [freshOK, freshL, go_sem]) ?_
   rw [Tryz.ntmps408]
   simp [go_sem]
   simp [go_sem, hli, h2]
  ·rw [if_neg h2]
   refine con_of_vc Tryz.mixed ⟨6, [], [], []⟩ Tryz.func408 (by decide) rfl (by simp) (by decide) (by simp [freshOK, freshL, go_sem]) ?_
   rw [Tryz.ntmps408]
   simp [go_sem]
   simp [go_sem, hli, h2]
theorem l03Nodes_c (F : List (List Int)) (hF : F.length ≤ 1000) (hr : ∀ r ∈ F, r.length ≤ 1000) : Con Tryz.prog 407 [.sl F.length (mat F)] (.int (sumN F)) := by
 have bd : ∀ i, i ≤ F.length → (sumN (F.take i) : Int) ≤ 1000 * i := fun i hi => by
  have := sumN_le (F := F.take i) (b := 1000) (fun r h => hr r (List.mem_of_mem_take h))
  rw [List.length_take] at this; omega
 refine con_of_vc Tryz.mixed ⟨4, [], [], []⟩ Tryz.func407 (by decide) rfl (by simp) (by decide) (by simp [freshOK, freshL, go_sem]) ?_
 rw [Tryz.ntmps407]
 simp [go_sem]
 refine loop_inv (3 :: 4 :: List.range' 5 13) (fun i : Nat => [(3, .int (sumN (F.take i))), (4, .int i)]) (fun i => i ≤ F.length) (fun i => F.length - i) 0 (by simp) (by simp [go_sem, sumN]) (by simp [go_sem]) ?_
 intro i hi
 by_cases h : i < F.length
 ·have hii : (i : Int) < F.length := by omega
  have nf : ¬ F = [] := by rintro rfl; simp at h
  have b1 := bd i hi
  have hr1 := hr _ (memD [] h)
  have h2 : F.take (i + 1) = F.take i ++ [F[i]?.getD []] := by
   rw [List.take_succ_eq_append_getElem h, List.getElem?_eq_getElem h]; rfl
  have h4 : sumN (F.take (i + 1)) = sumN (F.take i) + (F[i]?.getD []).length := by rw [h2, sumN_app]; simp [sumN]
  have md := mat_drop h
  generalize sumN (F.take i) = s at *
  generalize F[i]?.getD [] = r at *
  simp [go_sem, hii, md]
  refine ⟨nf, ⟨by omega, by omega⟩, ⟨by omega, by omega⟩, i + 1, by omega, by omega, Off_reset _ _ _ (by simp), ?_⟩
  rw [h4]
  exact ⟨by omega, by omega⟩
 ·have e : i = F.length := by omega
  subst e
  have hii : ¬ (F.length : Int) < F.length := by omega
  rw [List.take_length]
  simp [go_sem, hii]
theorem l05Order_c (a b : Spl) (ha : SpOk a) (hb : SpOk b) : Con Tryz.prog 384 [.agg (spF a), .agg (spF b)] (.int (o5 a b)) := by
 obtain ⟨⟨a1, a2⟩, a3, a4⟩ := ha
 obtain ⟨⟨b1, b2⟩, b3, b4⟩ := hb
 have n1 := l03Nodes_c a.1 (by omega) (fun x hx => by have := a2 x hx; omega)
 have n2 := l03Nodes_c b.1 (by omega) (fun x hx => by have := b2 x hx; omega)
 have c1 := l05Compare_c a.1 b.1 (by omega) (by omega) (fun x hx => by have := a2 x hx; omega) (fun x hx => by have := b2 x hx; omega)
 have c2 := l05Compare_c a.2.1 b.2.1 (by omega) (by omega) (fun x hx => by have := a4 x hx; omega) (fun x hx => by have := b4 x hx; omega)
 unfold o5 spF
 generalize o5C a.1 b.1 = v at *
 generalize o5C a.2.1 b.2.1 = w at *
 generalize sumN a.1 = m at *
 generalize sumN b.1 = n at *
 by_cases hmn : m = n
 ·subst hmn
  rw [if_pos rfl]
  by_cases v0 : v = 0
  ·rw [if_pos v0]
   refine con_of_vc Tryz.mixed ⟨8, [], [], []⟩ Tryz.func384 (by decide) rfl (by simp) (by decide) (by simp [freshOK, freshL, go_sem]) ?_
   rw [Tryz.ntmps384]
   simp [go_sem]
   refine ⟨by kernel_rfl, ?_⟩
   refine CallD.of (n1) (by simp [roots, rootsL]) (by decide) ?_
   simp [go_sem]
   refine CallD.of (n2) (by simp [roots, rootsL]) (by decide) ?_
   simp [go_sem]
   refine ⟨by kernel_rfl, ?_⟩
   simp [go_sem]
   refine CallVC.of (c1) (by decide) ?_
   simp [go_sem]
   simp [go_sem, v0]
   refine CallVC.of (c2) (by decide) ?_
   simp [go_sem]
  ·rw [if_neg v0]
   refine con_of_vc Tryz.mixed ⟨8, [], [], []⟩ Tryz.func384 (by decide) rfl (by simp) (by decide) (by simp [freshOK, freshL, go_sem]) ?_
   rw [Tryz.ntmps384]
   simp [go_sem]
   refine ⟨by kernel_rfl, ?_⟩
   refine CallD.of (n1) (by simp [roots, rootsL]) (by decide) ?_
   simp [go_sem]
   refine CallD.of (n2) (by simp [roots, rootsL]) (by decide) ?_
   simp [go_sem]
   refine ⟨by kernel_rfl, ?_⟩
   simp [go_sem]
   refine CallVC.of (c1) (by decide) ?_
   simp [go_sem]
   simp [go_sem, v0]
 ·rw [if_neg hmn]
  have hmi : ¬ (m : Int) = n := by omega
  by_cases h2 : m < n
  ·rw [if_pos h2]
   refine con_of_vc Tryz.mixed ⟨8, [], [], []⟩ Tryz.func384 (by decide) rfl (by simp) (by decide) (by simp [freshOK, freshL, go_sem]) ?_
   rw [Tryz.ntmps384]
   simp [go_sem]
   refine ⟨by kernel_rfl, ?_⟩
   refine CallD.of (n1) (by simp [roots, rootsL]) (by decide) ?_
   simp [go_sem]
   refine CallD.of (n2) (by simp [roots, rootsL]) (by decide) ?_
   simp [go_sem]
   refine ⟨by kernel_rfl, ?_⟩
   simp [go_sem]
   simp [go_sem, hmi, h2]
  ·rw [if_neg h2]
   refine con_of_vc Tryz.mixed ⟨8, [], [], []⟩ Tryz.func384 (by decide) rfl (by simp) (by decide) (by simp [freshOK, freshL, go_sem]) ?_
   rw [Tryz.ntmps384]
   simp [go_sem]
   refine ⟨by kernel_rfl, ?_⟩
   refine CallD.of (n1) (by simp [roots, rootsL]) (by decide) ?_
   simp [go_sem]
   refine CallD.of (n2) (by simp [roots, rootsL]) (by decide) ?_
   simp [go_sem]
   refine ⟨by kernel_rfl, ?_⟩
   simp [go_sem]
   simp [go_sem, hmi, h2]
def put5 : List Spl → Spl → List Spl
 | [], c => [c]
 | s :: L, c => if o5 c s < 0 then c :: s :: L else if o5 c s = 0 then (s.1, s.2.1, s.2.2 + c.2.2) :: L else s :: put5 L c
def Sp5 (s : Spl) : Prop := SpOk s ∧ 0 ≤ s.2.2 ∧ s.2.2 ≤ 1000000
theorem l05Put_c (L : List Spl) (c : Spl) (hL : ∀ s ∈ L, Sp5 s) (hc : Sp5 c) (hn : L.length ≤ 10000) :
  GCon Tryz.prog 341 [.sl L.length (L.flatMap spF), .agg (spF c)] (.sl (put5 L c).length ((put5 L c).flatMap spF)) [.any, .agg (spF c)] := by
 refine GCon.frzR (r := .own 208 (put5 L c).length ((put5 L c).flatMap spF)) ?_ (by simp [frz, spFs_frz])
 have cO := fun s hs => l05Order_c c s hc.1 (hL s hs).1
 obtain ⟨_, hc1, hc2⟩ := hc
 obtain ⟨ca, cb, cc⟩ := c
 simp only [spF] at cO hc1 hc2 ⊢
 have x0 : put5 L (ca, cb, cc) = L.take 0 ++ put5 (L.drop 0) (ca, cb, cc) := rfl
 refine gcon_of_vc Tryz.mixed ⟨10, [], [], []⟩ [4] [1] Tryz.func341 (by decide) rfl rfl (by simp) (by simp) (by decide) ?_
 rw [Tryz.ntmps341]
 simp [go_sem]
 refine loop_inv (List.range' 5 5 ++ List.range' 11 36) (fun x : Nat × Bool × List Spl => [(5, .own 208 x.2.2.length (x.2.2.flatMap spF)), (6, .bool x.2.1), (7, .int x.1)]) (fun x => x.1 ≤ L.length ∧ x.2.2.length ≤ x.1 + 1 ∧ (x.2.1 = false → x.2.2 = L.take x.1 ∧ put5 L (ca, cb, cc) = L.take x.1 ++ put5 (L.drop x.1) (ca, cb, cc)) ∧ (x.2.1 = true → put5 L (ca, cb, cc) = x.2.2 ++ L.drop x.1)) (fun x => L.length - x.1) (0, false, []) (by simp) (by simp [go_sem]) (by simp [go_sem]) ?_
 rintro ⟨i, d, O⟩ ⟨hi, hO, hf, ht⟩
 simp only at hi hO hf ht
 by_cases hil : i < L.length
 ·have hii : (i : Int) < L.length := by omega
  have hm := memD ([], [], 0) hil
  have dr := flat3_drop spF (fun _ => rfl) ([], [], 0) hil
  have nL : ¬ L.flatMap spF = [] := by intro e; have := flat3_len spF (fun _ => rfl) L; rw [e] at this; simp at this; omega
  have lL := flat3_len spF (fun _ => rfl) L
  have lO := flat3_len spF (fun _ => rfl) O
  have cOs := cO _ hm
  obtain ⟨_, s1, s2⟩ := hL _ hm
  have dl : L.drop i = L[i]?.getD ([], [], 0) :: L.drop (i + 1) := by rw [List.drop_eq_getElem_cons hil]; simp [hil]
  have tl : L.take (i + 1) = L.take i ++ [L[i]?.getD ([], [], 0)] := by rw [List.take_succ_eq_append_getElem hil]; simp [hil]
  generalize L[i]?.getD ([], [], 0) = s at *
  obtain ⟨sa, sb, sc⟩ := s
  simp only [spF] at dr cOs s1 s2
  cases d with
  | true =>
   have hp := ht rfl
   rw [dl] at hp
   clear hf ht
   generalize hC : O.flatMap spF = C at *
   generalize hMC : L.flatMap spF = MC at *
   simp [go_sem, hii, dr]
   refine ⟨nL, ⟨by omega, by omega, by omega⟩, ⟨by omega, by omega⟩, i + 1, O ++ [(sa, sb, sc)], ⟨by omega, by simp; omega, by rw [hp]; simp⟩, by omega, Off_reset _ _ _ (by simp), ?_⟩
   rw [List.flatMap_append, hC]
   simp [spF]
  | false =>
   obtain ⟨rfl, hp⟩ := hf rfl
   rw [dl, put5] at hp
   rw [List.length_take] at lO
   clear hf ht
   generalize hC : (L.take i).flatMap spF = C at *
   generalize hMC : L.flatMap spF = MC at *
   generalize o5 (ca, cb, cc) (sa, sb, sc) = v at *
   simp [go_sem, hii, dr]
   refine ⟨by kernel_rfl, nL, ?_⟩
   refine CallD.of (cOs) (by simp [roots, rootsL]) (by decide) ?_
   simp [go_sem]
   refine ⟨by kernel_rfl, ?_⟩
   simp [go_sem]
   by_cases v1 : v < 0
   ·rw [if_pos v1] at hp
    have v0 : ¬ v = 0 := by omega
    simp [go_sem, v1, v0, dr]
    refine ⟨⟨by omega, by omega, by omega⟩, ⟨hil, nL⟩, ⟨by omega, by omega, by omega⟩, ⟨by omega, by omega⟩, i + 1, L.take i ++ [(ca, cb, cc)] ++ [(sa, sb, sc)], ⟨by omega, by simp; omega, by rw [hp]; simp⟩, by omega, Off_reset _ _ _ (by simp), ?_⟩
    rw [List.flatMap_append, List.flatMap_append, hC]
    simp [spF]
   ·rw [if_neg v1] at hp
    by_cases v0 : v = 0
    ·rw [if_pos v0] at hp
     subst v0
     simp [go_sem, dr]
     refine ⟨⟨hil, nL⟩, ⟨by omega, by omega⟩, ⟨by omega, by omega, by omega⟩, ⟨by omega, by omega⟩, i + 1, L.take i ++ [(sa, sb, sc + cc)], ⟨by omega, by simp; omega, by rw [hp]; simp⟩, by omega, Off_reset _ _ _ (by simp), ?_⟩
     rw [List.flatMap_append, hC]
     simp [spF]
    ·rw [if_neg v0] at hp
     simp [go_sem, v1, v0, dr]
     refine ⟨⟨hil, nL⟩, ⟨by omega, by omega, by omega⟩, ⟨by omega, by omega⟩, i + 1, L.take (i + 1), ⟨by omega, by simp; omega, rfl, by rw [hp, tl]; simp⟩, by omega, Off_reset _ _ _ (by simp), ?_⟩
     rw [tl, List.flatMap_append, hC]
     simp [spF]
 ·have e : i = L.length := by omega
  subst e
  have hii : ¬ (L.length : Int) < L.length := by omega
  have lO := flat3_len spF (fun _ => rfl) O
  cases d with
  | true =>
   have hp := ht rfl
   rw [List.drop_length, List.append_nil] at hp
   rw [hp]
   simp [go_sem, hii]
  | false =>
   obtain ⟨rfl, hp⟩ := hf rfl
   rw [List.drop_length, put5, List.take_length] at hp
   rw [List.take_length] at lO ⊢
   rw [hp]
   generalize hMC : L.flatMap spF = MC at *
   simp [go_sem, hii]
   refine ⟨⟨by omega, by omega, by omega⟩, ?_⟩
   rw [hMC]
   simp [spF]
theorem l03Root_c (n : Nat) (f : List (List Int)) (hn : n ≤ 1000) (hv : Lv (rootL f)) (hl : (rootL f).length ≤ n) (hf : f.length ≤ 100) (hr : ∀ b ∈ f, b.length ≤ 100 ∧ ∀ x ∈ b, 0 ≤ x ∧ x ≤ 100) :
  Con Tryz.prog 342 [.sl f.length (mat f)] (.own 2 (rootL f).length (avs (canF n (rootL f)))) := by
 have cC := l03Canon_c n (rootL f) hn hv hl
 have bl : ∀ i, (rootL (f.take i)).length ≤ 1 + i * 100 := fun i => by
  rw [rootL_len]
  have : ∀ T : List (List Int), (∀ b ∈ T, b.length ≤ 100) → sumL T ≤ T.length * 100 := by
   intro T
   induction T with
   | nil => intro _; simp [sumL]
   | cons b T ih => intro h; have := h b (by simp); have := ih (fun c hc => h c (by simp [hc])); simp only [sumL, List.length_cons]; omega
  have h1 := this (f.take i) (fun b hb => (hr b (List.mem_of_mem_take hb)).1)
  have h2 : (f.take i).length ≤ i := by rw [List.length_take]; omega
  have := Nat.mul_le_mul_right 100 h2
  omega
 generalize hCF : canF n (rootL f) = CF at *
 refine con_of_vc Tryz.mixed ⟨6, [], [], []⟩ Tryz.func342 (by decide) rfl (by simp) (by decide) (by simp [freshOK, freshL, go_sem]) ?_
 rw [Tryz.ntmps342]
 simp [go_sem]
 refine loop_inv (3 :: 4 :: 5 :: List.range' 7 26) (fun i : Nat => [(3, .own 2 (rootL (f.take i)).length (avs (rootL (f.take i)))), (4, .int i)]) (fun i => i ≤ f.length) (fun i => f.length - i) 0 (by simp) (by simp [go_sem, rootL, avs]) (by simp [go_sem]) ?_
 intro i hi
 by_cases hiS : i < f.length
 ·have hii : (i : Int) < f.length := by omega
  have ne : ¬ f = [] := by rintro rfl; simp at hiS
  have md := mat_drop hiS
  obtain ⟨b1, b2⟩ := hr _ (show f[i]?.getD [] ∈ f by simp [hiS])
  have sn : rootL (f.take (i + 1)) = rootL (f.take i) ++ (f[i]?.getD []).map (· + 1) := by
   unfold rootL
   rw [List.take_add_one, List.flatMap_append, List.getElem?_eq_getElem hiS]; simp
  have bli := bl i
  generalize f[i]?.getD [] = b at *
  generalize rootL (f.take i) = R at *
  simp [go_sem, hii, md]
  refine loop_inv (3 :: 5 :: List.range' 13 20) (fun k : Nat => [(3, .own 2 (R.length + k) (avs (R ++ (b.map (· + 1)).take k))), (5, .int k)]) (fun k => k ≤ b.length) (fun k => b.length - k) 0 (by simp) (by simp [go_sem]) (by simp [go_sem]) ?_
  intro k hk
  by_cases hkb : k < b.length
  ·have hki : (k : Int) < b.length := by omega
   have nb : ¬ b = [] := by rintro rfl; simp at hkb
   have ad := avs_drop hkb
   have bx := b2 _ (show b[k]?.getD 0 ∈ b by simp [hkb])
   have tk : (b.map (· + 1)).take (k + 1) = (b.map (· + 1)).take k ++ [b[k]?.getD 0 + 1] := by
    rw [List.take_add_one]; simp [hkb]
   rw [List.getD_eq_getElem?_getD] at ad
   generalize b[k]?.getD 0 = x at *
   simp [go_sem, md, hki, ad]
   refine ⟨⟨hiS, ne⟩, nb, ⟨by omega, by omega⟩, ⟨by omega, by omega, by omega⟩, ⟨by omega, by omega⟩, k + 1, by omega, by omega, Off_reset _ _ _ (by simp), ⟨by omega, by rw [tk, ← List.append_assoc, avs_snoc]⟩, by omega⟩
  ·have e : k = b.length := by omega
   subst e
   have hki : ¬ (b.length : Int) < b.length := by omega
   have tk : (b.map (· + 1)).take b.length = b.map (· + 1) := List.take_of_length_le (by simp)
   simp [go_sem, md, hki, tk]
   exact ⟨⟨hiS, ne⟩, ⟨by omega, by omega⟩, i + 1, by omega, by omega, (Off.reset (by intro x hx; simp at hx ⊢; omega) (by simp) (by simp [go_sem, Off_reset])), ⟨by rw [sn]; simp, by rw [sn]⟩, by omega⟩
 ·have e : i = f.length := by omega
  subst e
  have hii : ¬ (f.length : Int) < f.length := by omega
  rw [List.take_length]
  simp [go_sem, hii]
  refine CallVC.of (cC) (by decide) ?_
  simp [go_sem]
theorem l03Times_c (f g : List (List Int)) (hf : f.length ≤ 400) (hg : g.length ≤ 400) (rf : ∀ r ∈ f, r.length ≤ 1000) (rg : ∀ r ∈ g, r.length ≤ 1000) :
  GCon Tryz.prog 406 [.sl f.length (mat f), .sl g.length (mat g)] (.sl (srtT (f ++ g)).length (mat (srtT (f ++ g)))) [.any, .any] := by
 have c1 := l01Own2_c f (by omega) (fun r h => by have := rf r h; omega)
 have c2 := l03Sort_c (f ++ g) (fun b hb => by
  rcases List.mem_append.1 hb with h | h
  ·have := rf b h; omega
  ·have := rg b h; omega) (by rw [List.length_append]; omega)
 have c3 : GCon Tryz.prog 287 [.own 25 (f.length + g.length) (omat f ++ mat g)] (.sl (f ++ g).length (mat (srtT (f ++ g)))) [.any] := by
  refine GCon.frzA (args := [.own 25 (f.length + g.length) (omat f ++ mat g)]) (outs := [.any]) ?_
  have e : frzL [AV.own 25 (f.length + g.length) (omat f ++ mat g)] = [.sl (f ++ g).length (mat (f ++ g))] := by
   show [AV.sl (f.length + g.length) (frzL (omat f ++ mat g))] = _
   rw [frzLapp, omat_frz, List.length_append]
   have : frzL (mat g) = mat g := by simp
   rw [this]
   simp [mat]
  rw [e]
  exact c2
 rw [srtT_len]
 refine gcon_of_vc Tryz.mixed ⟨5, [], [1000000 + 287], []⟩ [4] [] Tryz.func406 (by decide) rfl rfl (by simp) (by simp) (by decide) ?_
 rw [Tryz.ntmps406]
 simp [go_sem]
 refine CallVC.of (c1) (by decide) ?_
 simp [go_sem]
 refine ⟨⟨by omega, by omega⟩, ?_⟩
 refine ⟨_, _, c3, ?_⟩
 simp [go_sem]
def tms5 (a b : List Spl) : List Spl := a.foldl (fun o s => b.foldl (fun o c => put5 o (srtT (s.1 ++ c.1), srtT (s.2.1 ++ c.2.1), s.2.2 * c.2.2)) o) []
def tmJ (o : List Spl) (s : Spl) (b : List Spl) : List Spl := b.foldl (fun o c => put5 o (srtT (s.1 ++ c.1), srtT (s.2.1 ++ c.2.1), s.2.2 * c.2.2)) o
theorem tmJ_snoc (o : List Spl) (s : Spl) (b : List Spl) (c : Spl) : tmJ o s (b ++ [c]) = put5 (tmJ o s b) (srtT (s.1 ++ c.1), srtT (s.2.1 ++ c.2.1), s.2.2 * c.2.2) := by simp [tmJ]
theorem tms5_snoc (a b : List Spl) (s : Spl) : tms5 (a ++ [s]) b = tmJ (tms5 a b) s b := by simp [tms5, tmJ]
def spB (s : Spl) : Bool := decide (s.1.length ≤ 50) && s.1.all (fun r => decide (r.length ≤ 100)) && (decide (s.2.1.length ≤ 50) && s.2.1.all (fun r => decide (r.length ≤ 100))) && (decide (0 ≤ s.2.2) && decide (s.2.2 ≤ 1000))
theorem spB_ok {s : Spl} (h : spB s = true) : ((s.1.length ≤ 50 ∧ ∀ r ∈ s.1, r.length ≤ 100) ∧ s.2.1.length ≤ 50 ∧ ∀ r ∈ s.2.1, r.length ≤ 100) ∧ 0 ≤ s.2.2 ∧ s.2.2 ≤ 1000 := by
 unfold spB at h
 simp only [Bool.and_eq_true, decide_eq_true_eq, List.all_eq_true] at h
 exact ⟨⟨h.1.1, h.1.2⟩, h.2⟩
def tmsB (a b : List Spl) : Bool := decide (a.length ≤ 1000) && decide (b.length ≤ 1000) && a.all spB && b.all spB &&
 (List.range (a.length + 1)).all fun i => (List.range (b.length + 1)).all fun j => decide ((tmJ (tms5 (a.take i) b) (a[i]?.getD ([], [], 0)) (b.take j)).length ≤ 1000) && (tmJ (tms5 (a.take i) b) (a[i]?.getD ([], [], 0)) (b.take j)).all fun s => decide (0 ≤ s.2.2) && decide (s.2.2 ≤ 1000000)
theorem tmsB_ok {a b : List Spl} (h : tmsB a b = true) : a.length ≤ 1000 ∧ b.length ≤ 1000 ∧ (∀ s ∈ a, spB s = true) ∧ (∀ s ∈ b, spB s = true) ∧ ∀ i, i ≤ a.length → ∀ j, j ≤ b.length → (tmJ (tms5 (a.take i) b) (a[i]?.getD ([], [], 0)) (b.take j)).length ≤ 1000 ∧ ∀ s ∈ tmJ (tms5 (a.take i) b) (a[i]?.getD ([], [], 0)) (b.take j), 0 ≤ s.2.2 ∧ s.2.2 ≤ 1000000 := by
 unfold tmsB at h
 simp only [Bool.and_eq_true, decide_eq_true_eq, List.all_eq_true, List.mem_range] at h
 obtain ⟨⟨⟨⟨h1, h2⟩, h3⟩, h4⟩, h5⟩ := h
 exact ⟨h1, h2, h3, h4, fun i hi j hj => h5 i (by omega) j (by omega)⟩
theorem put5_ok {L : List Spl} {c : Spl} (hL : ∀ s ∈ L, SpOk s) (hc : SpOk c) : ∀ s ∈ put5 L c, SpOk s := by
 induction L with
 | nil => intro s hs; rw [put5] at hs; rw [List.mem_singleton.1 hs]; exact hc
 | cons x L ih =>
  intro s hs
  rw [put5] at hs
  have h0 := hL x (by simp)
  split at hs
  ·rcases List.mem_cons.1 hs with rfl | hs
   ·exact hc
   ·exact hL s hs
  ·split at hs
   ·rcases List.mem_cons.1 hs with rfl | hs
    ·exact h0
    ·exact hL s (by simp [hs])
   ·rcases List.mem_cons.1 hs with rfl | hs
    ·exact h0
    ·exact ih (fun y hy => hL y (by simp [hy])) s hs
theorem pr_ok {s c : Spl} (hs : spB s = true) (hc : spB c = true) : SpOk (srtT (s.1 ++ c.1), srtT (s.2.1 ++ c.2.1), s.2.2 * c.2.2) ∧ 0 ≤ s.2.2 * c.2.2 ∧ s.2.2 * c.2.2 ≤ 1000000 := by
 obtain ⟨⟨⟨s1, s2⟩, s3, s4⟩, s5, s6⟩ := spB_ok hs
 obtain ⟨⟨⟨c1, c2⟩, c3, c4⟩, c5, c6⟩ := spB_ok hc
 refine ⟨⟨⟨by rw [srtT_len, List.length_append]; omega, fun r hr => ?_⟩, by rw [srtT_len, List.length_append]; omega, fun r hr => ?_⟩, Int.mul_nonneg s5 c5, ?_⟩
 ·rcases List.mem_append.1 ((srtT_perm _).mem_iff.1 hr) with h | h
  ·exact s2 r h
  ·exact c2 r h
 ·rcases List.mem_append.1 ((srtT_perm _).mem_iff.1 hr) with h | h
  ·exact s4 r h
  ·exact c4 r h
 ·have := Int.mul_le_mul s6 c6 c5 (by omega)
  omega
theorem tmJ_ok {o : List Spl} {s : Spl} (ho : ∀ x ∈ o, SpOk x) (hs : spB s = true) : ∀ b : List Spl, (∀ c ∈ b, spB c = true) → ∀ x ∈ tmJ o s b, SpOk x := by
 intro b
 generalize hn : b.length = n
 induction n generalizing b with
 | zero => intro _; rw [List.length_eq_zero_iff.1 hn]; exact ho
 | succ n ih =>
  intro hb
  rcases List.eq_nil_or_concat b with rfl | ⟨h, y, rfl⟩
  ·simp at hn
  ·rw [List.concat_eq_append] at hn hb ⊢
   rw [tmJ_snoc]
   exact put5_ok (ih h (by simpa using hn) fun c hc => hb c (by simp [hc])) (pr_ok hs (hb y (by simp))).1
theorem tms5_ok : ∀ {a b : List Spl}, (∀ s ∈ a, spB s = true) → (∀ s ∈ b, spB s = true) → ∀ x ∈ tms5 a b, SpOk x := by
 intro a
 generalize hn : a.length = n
 induction n generalizing a with
 | zero => intro b _ _; rw [List.length_eq_zero_iff.1 hn]; intro x hx; simp [tms5] at hx
 | succ n ih =>
  intro b ha hb
  rcases List.eq_nil_or_concat a with rfl | ⟨h, y, rfl⟩
  ·simp at hn
  ·rw [List.concat_eq_append] at hn ha ⊢
   rw [tms5_snoc]
   exact tmJ_ok (ih (by simpa using hn) (fun c hc => ha c (by simp [hc])) hb) (ha y (by simp)) b hb
theorem l05Times_c (a b : List Spl) (h : tmsB a b = true) :
  GCon Tryz.prog 383 [.sl a.length (a.flatMap spF), .sl b.length (b.flatMap spF)] (.sl (tms5 a b).length ((tms5 a b).flatMap spF)) [.any, .any] := by
 obtain ⟨a1, b1, ha, hb, hx⟩ := tmsB_ok h
 refine gcon_of_vc Tryz.mixed ⟨8, [8], [1000000 + 406, 1000000 + 341], []⟩ [4] [] Tryz.func383 (by decide) rfl rfl (by simp) (by simp) (by decide) ?_
 rw [Tryz.ntmps383]
 simp [go_sem]
 refine loop_inv (5 :: 6 :: 7 :: List.range' 9 48) (fun i : Nat => [(5, .sl (tms5 (a.take i) b).length ((tms5 (a.take i) b).flatMap spF)), (6, .int i)]) (fun i => i ≤ a.length) (fun i => a.length - i) 0 (by simp) (by simp [go_sem, tms5]) (by simp [go_sem]) ?_
 intro i hi
 by_cases hil : i < a.length
 ·have hii : (i : Int) < a.length := by omega
  have hx1 := fun j hj => hx i hi j hj
  have ho := tms5_ok (a := a.take i) (b := b) (fun s hs => ha s (List.mem_of_mem_take hs)) hb
  have hm := ha _ (memD ([], [], 0) hil)
  have tl : a.take (i + 1) = a.take i ++ [a[i]?.getD ([], [], 0)] := by rw [List.take_succ_eq_append_getElem hil]; simp [hil]
  have ts := tms5_snoc (a.take i) b (a[i]?.getD ([], [], 0))
  rw [← tl] at ts
  have dr := flat3_drop spF (fun _ => rfl) ([], [], 0) hil
  have nA : ¬ a.flatMap spF = [] := by intro e; have := flat3_len spF (fun _ => rfl) a; rw [e] at this; simp at this; omega
  have lA := flat3_len spF (fun _ => rfl) a
  generalize a[i]?.getD ([], [], 0) = s at *
  generalize tms5 (a.take i) b = o at *
  have z0 : tmJ o s [] = o := rfl
  simp [go_sem, hii]
  refine loop_inv (5 :: 7 :: List.range' 15 42) (fun j : Nat => [(5, .sl (tmJ o s (b.take j)).length ((tmJ o s (b.take j)).flatMap spF)), (7, .int j)]) (fun j => j ≤ b.length) (fun j => b.length - j) 0 (by simp) (by simp [go_sem, z0]) (by simp [go_sem]) ?_
  intro j hj
  by_cases hjl : j < b.length
  ·have hji : (j : Int) < b.length := by omega
   obtain ⟨x1, x2⟩ := hx1 j hj
   have hm2 := hb _ (memD ([], [], 0) hjl)
   have tj : b.take (j + 1) = b.take j ++ [b[j]?.getD ([], [], 0)] := by rw [List.take_succ_eq_append_getElem hjl]; simp [hjl]
   have tsn := tmJ_snoc o s (b.take j) (b[j]?.getD ([], [], 0))
   rw [← tj] at tsn
   have oo := tmJ_ok ho hm (b.take j) (fun c hc => hb c (List.mem_of_mem_take hc))
   have dr2 := flat3_drop spF (fun _ => rfl) ([], [], 0) hjl
   have nB : ¬ b.flatMap spF = [] := by intro e; have := flat3_len spF (fun _ => rfl) b; rw [e] at this; simp at this; omega
   have lB := flat3_len spF (fun _ => rfl) b
   generalize b[j]?.getD ([], [], 0) = c at *
   obtain ⟨p1, p2, p3⟩ := pr_ok hm hm2
   obtain ⟨⟨⟨s1, s2⟩, s3, s4⟩, s5, s6⟩ := spB_ok hm
   obtain ⟨⟨⟨d1, d2⟩, d3, d4⟩, d5, d6⟩ := spB_ok hm2
   have cP := l05Put_c (tmJ o s (b.take j)) (srtT (s.1 ++ c.1), srtT (s.2.1 ++ c.2.1), s.2.2 * c.2.2) (fun x hx => ⟨oo x hx, x2 x hx⟩) ⟨p1, p2, p3⟩ (by omega)
   have c1 := l03Times_c s.1 c.1 (by omega) (by omega) (fun r hr => by have := s2 r hr; omega) (fun r hr => by have := d2 r hr; omega)
   have c2 := l03Times_c s.2.1 c.2.1 (by omega) (by omega) (fun r hr => by have := s4 r hr; omega) (fun r hr => by have := d4 r hr; omega)
   rw [← tsn] at cP
   obtain ⟨sa, sb, sc⟩ := s
   obtain ⟨ca, cb, cc⟩ := c
   simp only [spF] at dr dr2 cP c1 c2 p2 p3
   generalize hX1 : tmJ o (sa, sb, sc) (b.take (j + 1)) = X1 at *
   generalize tmJ o (sa, sb, sc) (b.take j) = X0 at *
   generalize srtT (sa ++ ca) = w1 at *
   generalize srtT (sb ++ cb) = w2 at *
   generalize hMA : a.flatMap spF = MA at *
   generalize hMB : b.flatMap spF = MB at *
   simp [go_sem, hji, dr, dr2]
   refine ⟨by kernel_rfl, ⟨hil, nA⟩, nB, ?_⟩
   refine ⟨_, _, c1, ?_⟩
   simp [go_sem]
   refine ⟨⟨hil, nA⟩, nB, ?_⟩
   refine ⟨_, _, c2, ?_⟩
   simp [go_sem]
   refine ⟨⟨hil, nA⟩, nB, ⟨by omega, by omega⟩, ?_⟩
   refine ⟨_, _, cP, ?_⟩
   simp [go_sem]
   refine ⟨by kernel_rfl, ?_⟩
   simp [go_sem]
   exact ⟨⟨by omega, by omega⟩, j + 1, by omega, by omega, Off_reset _ _ _ (by simp), by rw [hX1]; exact ⟨rfl, rfl⟩, by omega⟩
  ·have e : j = b.length := by omega
   subst e
   have hji : ¬ (b.length : Int) < b.length := by omega
   rw [List.take_length]
   simp [go_sem, hji]
   exact ⟨⟨by omega, by omega⟩, i + 1, by omega, by omega, (Off.reset (by intro x hx; simp at hx ⊢; omega) (by simp) (by simp [go_sem, Off_reset])), by rw [ts]; exact ⟨rfl, rfl⟩, by omega⟩
 ·have e : i = a.length := by omega
  subst e
  have hii : ¬ (a.length : Int) < a.length := by omega
  rw [List.take_length]
  simp [go_sem, hii]
end Go.Proofs.YtphccfabekdmnaaGreat


namespace Go.Proofs.YtphccfabekdmnaaGreat
open Go.Abs
def for5 (T : List Int → List Spl) (f : List (List Int)) : List Spl := f.foldl (fun o t => tms5 o (T t)) [([], [], 1)]
theorem for5_snoc (T : List Int → List Spl) (f : List (List Int)) (t : List Int) : for5 T (f ++ [t]) = tms5 (for5 T f) (T t) := by simp [for5]
def ro5 (n : Nat) (s : Spl) : Spl := (s.1, [canF n (rootL s.2.1)], s.2.2)
def tr5 (n : Nat) (t : List Int) (b : List Spl) : List Spl := b.foldl (fun o s => put5 o (ro5 n s)) [([t], [], 1)]
theorem tr5_snoc (n : Nat) (t : List Int) (b : List Spl) (s : Spl) : tr5 n t (b ++ [s]) = put5 (tr5 n t b) (ro5 n s) := by simp [tr5]
def tre5 : Nat → List Int → List Spl
 | 0, _ => []
 | n + 1, t => tr5 (n + 1) t (for5 (tre5 n) (srtT (brs (canF (n + 1) t))))
def bnS (n : Nat) (t : List Int) : List (List Int) := srtT (brs (canF n t))
theorem tre5_succ (n : Nat) (t : List Int) : tre5 (n + 1) t = tr5 (n + 1) t (for5 (tre5 n) (bnS (n + 1) t)) := rfl
def foB (n : Nat) (bs : List (List Int)) : Bool := (List.range bs.length).all fun i => tmsB (for5 (tre5 n) (bs.take i)) (tre5 n (bs[i]?.getD []))
def trB (n : Nat) (t : List Int) (b : List Spl) : Bool := decide (b.length ≤ 1000) && b.all (fun s => spB s && rtS n s) && (List.range (b.length + 1)).all fun i => decide ((tr5 n t (b.take i)).length ≤ 1000) && (tr5 n t (b.take i)).all spB
def trcB : Nat → List Int → Bool
 | 0, _ => false
 | n + 1, t => decide (n + 1 ≤ 100) && lvC t && decide (t.length ≤ n + 1) && lvC (canF (n + 1) t) && (decide ((bnS (n + 1) t).length ≤ 19) && (bnS (n + 1) t).all (fun b => decide (b.length ≤ 100) && trcB n b)) && foB n (bnS (n + 1) t) && trB (n + 1) t (for5 (tre5 n) (bnS (n + 1) t))
theorem trcB_all : (trN 6).all (trcB 6) = true := by kernel_rfl
theorem trcB_spec {n : Nat} {t : List Int} (h : trcB (n + 1) t = true) : n + 1 ≤ 100 ∧ Lv t ∧ t.length ≤ n + 1 ∧ Lv (canF (n + 1) t) ∧ (bnS (n + 1) t).length ≤ 19 ∧ (∀ b ∈ bnS (n + 1) t, b.length ≤ 100 ∧ trcB n b = true) ∧ foB n (bnS (n + 1) t) = true ∧ trB (n + 1) t (for5 (tre5 n) (bnS (n + 1) t)) = true := by
 simp only [trcB, Bool.and_eq_true, decide_eq_true_eq, List.all_eq_true] at h
 obtain ⟨⟨⟨⟨⟨⟨h1, h2⟩, h3⟩, h4⟩, h5⟩, h6⟩, h7⟩ := h
 exact ⟨h1, lvC_Lv h2, h3, lvC_Lv h4, h5.1, h5.2, h6, h7⟩
theorem foB_at {n : Nat} {bs : List (List Int)} (h : foB n bs = true) {i : Nat} (hi : i < bs.length) : tmsB (for5 (tre5 n) (bs.take i)) (tre5 n (bs[i]?.getD [])) = true := List.all_eq_true.1 h i (List.mem_range.2 hi)
theorem trB_spec {n : Nat} {t : List Int} {b : List Spl} (h : trB n t b = true) : b.length ≤ 1000 ∧ (∀ s ∈ b, spB s = true ∧ rtS n s = true) ∧ ∀ i, i ≤ b.length → (tr5 n t (b.take i)).length ≤ 1000 ∧ ∀ s ∈ tr5 n t (b.take i), spB s = true := by
 simp only [trB, Bool.and_eq_true, decide_eq_true_eq, List.all_eq_true, List.mem_range] at h
 exact ⟨h.1.1, h.1.2, fun i hi => h.2 i (by omega)⟩
def c3L (n : Nat) (bs : List (List Int)) (i : Nat) : List AV := if i = 0 then [.val (.slice none 0 0), .val (.slice none 0 0), .int 1] else (for5 (tre5 n) (bs.take i)).flatMap spF
theorem c3L_nx (n : Nat) (bs : List (List Int)) (i : Nat) : NXL (c3L n bs i) ((for5 (tre5 n) (bs.take i)).flatMap spF) := by
 unfold c3L
 by_cases h : i = 0
 ·rw [if_pos h, h]
  exact .cons .nil (.cons .nil (.cons (.same _) .nil))
 ·rw [if_neg h]; exact NXL.same _
theorem l05Forest_c (n : Nat) (ih : ∀ t, trcB n t = true → GCon Tryz.prog 295 [.sl t.length (avs t)] (.sl (tre5 n t).length ((tre5 n t).flatMap spF)) [.any]) (bs : List (List Int)) (h : foB n bs = true) (hb : ∀ b ∈ bs, b.length ≤ 100 ∧ trcB n b = true) (hl : bs.length ≤ 19) :
  GCon Tryz.prog 339 [.sl bs.length (mat bs)] (.sl (for5 (tre5 n) bs).length ((for5 (tre5 n) bs).flatMap spF)) [.any] := by
 have xl := c3L_nx n bs bs.length
 rw [List.take_length] at xl
 refine GCon.nx (.sl _ xl) ?_
 have x0 : c3L n bs 0 = [.val (.slice none 0 0), .val (.slice none 0 0), .int 1] := rfl
 have fl0 : (for5 (tre5 n) []).length = 1 := rfl
 refine gcon_of_vc Tryz.mixed ⟨5, [6], [1000000 + 295, 1000000 + 383], []⟩ [2] [] Tryz.func339 (by decide) rfl rfl (by simp) (by simp) (by decide) ?_
 rw [Tryz.ntmps339]
 simp [go_sem]
 refine loop_inv (3 :: 4 :: List.range' 7 13) (fun i : Nat => [(3, .sl (for5 (tre5 n) (bs.take i)).length (c3L n bs i)), (4, .int i)]) (fun i => i ≤ bs.length) (fun i => bs.length - i) 0 (by simp) (by simp [go_sem, x0, fl0]) (by simp [go_sem]) ?_
 intro i hi
 by_cases hil : i < bs.length
 ·have hii : (i : Int) < bs.length := by omega
  have hm := memD [] hil
  have md := mat_drop hil
  have ne : ¬ bs = [] := by rintro rfl; simp at hil
  have cT := ih _ (hb _ hm).2
  have cM := GCon.nxL (.cons (.sl _ (c3L_nx n bs i)) (.cons (.same _) .nil)) (l05Times_c _ _ (foB_at h hil))
  have tk : bs.take (i + 1) = bs.take i ++ [bs[i]?.getD []] := by rw [List.take_succ_eq_append_getElem hil]; simp [hil]
  have fs := for5_snoc (tre5 n) (bs.take i) (bs[i]?.getD [])
  rw [← tk] at fs
  have x1 : c3L n bs (i + 1) = (for5 (tre5 n) (bs.take (i + 1))).flatMap spF := by unfold c3L; rw [if_neg (by omega)]
  rw [fs] at x1
  generalize bs[i]?.getD [] = b at *
  generalize tms5 (for5 (tre5 n) (bs.take i)) (tre5 n b) = X1 at *
  generalize for5 (tre5 n) (bs.take i) = X0 at *
  generalize c3L n bs i = C at *
  simp [go_sem, hii, md]
  refine ⟨ne, ?_⟩
  refine ⟨_, _, cT, ?_⟩
  simp [go_sem]
  refine ⟨_, _, cM, ?_⟩
  simp [go_sem]
  exact ⟨⟨by omega, by omega⟩, i + 1, by omega, by omega, Off_reset _ _ _ (by simp), by rw [x1, fs]; exact ⟨rfl, rfl⟩, by omega⟩
 ·have e : i = bs.length := by omega
  subst e
  have hii : ¬ (bs.length : Int) < bs.length := by omega
  rw [List.take_length]
  simp [go_sem, hii]
def c4L (n : Nat) (t : List Int) (b : List Spl) (i : Nat) : List AV := if i = 0 then [.sl 1 [.sl t.length (avs t)], .val (.slice none 0 0), .int 1] else (tr5 n t (b.take i)).flatMap spF
theorem c4L_nx (n : Nat) (t : List Int) (b : List Spl) (i : Nat) : NXL (c4L n t b i) ((tr5 n t (b.take i)).flatMap spF) := by
 unfold c4L
 by_cases h : i = 0
 ·rw [if_pos h, h]
  exact .cons (.same _) (.cons .nil (.cons (.same _) .nil))
 ·rw [if_neg h]; exact NXL.same _
theorem l05Tree_c : ∀ (n : Nat) (t : List Int), trcB n t = true → GCon Tryz.prog 295 [.sl t.length (avs t)] (.sl (tre5 n t).length ((tre5 n t).flatMap spF)) [.any] := by
 intro n
 induction n with
 | zero => intro t h; simp [trcB] at h
 | succ n ih =>
  intro t h
  obtain ⟨h1, h2, h3, h4, h5, h6, h7, h8⟩ := trcB_spec h
  have cB := l03Branches_c (n + 1) t (by omega) h2 h3 h4 h5 (fun m hm => by have := (h6 m hm).1; omega)
  have cF := l05Forest_c n ih (bnS (n + 1) t) h7 h6 h5
  have cO := l01Own_c t (by omega)
  rw [tre5_succ]
  show GCon Tryz.prog _ _ (.sl (tr5 (n + 1) t (for5 (tre5 n) (bnS (n + 1) t))).length _) _
  have hbn : bnS (n + 1) t = srtT (brs (canF (n + 1) t)) := rfl
  rw [← hbn] at cB
  obtain ⟨g1, g2, g3⟩ := trB_spec h8
  generalize for5 (tre5 n) (bnS (n + 1) t) = B at *
  generalize bnS (n + 1) t = bs at *
  have xl := c4L_nx (n + 1) t B B.length
  rw [List.take_length] at xl
  refine GCon.nx (.sl _ xl) ?_
  have x0 : c4L (n + 1) t B 0 = [.sl 1 [.sl t.length (avs t)], .val (.slice none 0 0), .int 1] := rfl
  have fl0 : (tr5 (n + 1) t []).length = 1 := rfl
  refine gcon_of_vc Tryz.mixed ⟨6, [10, 11, 13, 31, 32], [1000000 + 340, 1000000 + 339, 1000000 + 341], []⟩ [2] [] Tryz.func295 (by decide) rfl rfl (by simp) (by simp) (by decide) ?_
  rw [Tryz.ntmps295]
  simp [go_sem]
  refine ⟨_, _, cB, ?_⟩
  simp [go_sem]
  refine ⟨_, _, cF, ?_⟩
  simp [go_sem]
  refine CallVC.of (cO) (by decide) ?_
  simp [go_sem]
  refine loop_inv (4 :: 5 :: List.range' 14 26) (fun i : Nat => [(4, .sl (tr5 (n + 1) t (B.take i)).length (c4L (n + 1) t B i)), (5, .int i)]) (fun i => i ≤ B.length) (fun i => B.length - i) 0 (by simp) (by simp [go_sem, x0, fl0]) (by simp [go_sem]) ?_
  intro i hi
  by_cases hil : i < B.length
  ·have hii : (i : Int) < B.length := by omega
   have hm := memD ([], [], 0) hil
   obtain ⟨q1, q2⟩ := g2 _ hm
   obtain ⟨y1, y2⟩ := g3 i hi
   obtain ⟨⟨⟨s1, s2⟩, s3, s4⟩, s5, s6⟩ := spB_ok q1
   obtain ⟨r1, r2, r3⟩ := rtS_spec q2
   have cR := l03Root_c (n + 1) (B[i]?.getD ([], [], 0)).2.1 (by omega) r1 r2 (by omega) (fun b hb => r3 b hb)
   have lc : (canF (n + 1) (rootL (B[i]?.getD ([], [], 0)).2.1)).length = (rootL (B[i]?.getD ([], [], 0)).2.1).length := canF_len _ _ r1 r2
   have cP := GCon.nxL (.cons (.sl _ (c4L_nx (n + 1) t B i)) (.cons (.same _) .nil)) (l05Put_c (tr5 (n + 1) t (B.take i)) (ro5 (n + 1) (B[i]?.getD ([], [], 0))) (fun s hs => by
    obtain ⟨⟨⟨z1, z2⟩, z3, z4⟩, z5, z6⟩ := spB_ok (y2 s hs)
    exact ⟨⟨⟨by omega, z2⟩, by omega, z4⟩, z5, by omega⟩) ⟨⟨⟨by show (B[i]?.getD ([], [], 0)).1.length ≤ 100; omega, s2⟩, by simp [ro5], fun r hr => by
     have hr : r ∈ [canF (n + 1) (rootL (B[i]?.getD ([], [], 0)).2.1)] := hr
     rw [List.mem_singleton.1 hr, lc]; omega⟩, s5, by show (B[i]?.getD ([], [], 0)).2.2 ≤ 1000000; omega⟩ (by omega))
   have dr := flat3_drop spF (fun _ => rfl) ([], [], 0) hil
   have nB : ¬ B.flatMap spF = [] := by intro e; have := flat3_len spF (fun _ => rfl) B; rw [e] at this; simp at this; omega
   have lB := flat3_len spF (fun _ => rfl) B
   have tk : B.take (i + 1) = B.take i ++ [B[i]?.getD ([], [], 0)] := by rw [List.take_succ_eq_append_getElem hil]; simp [hil]
   have ts := tr5_snoc (n + 1) t (B.take i) (B[i]?.getD ([], [], 0))
   rw [← tk] at ts
   have x1 : c4L (n + 1) t B (i + 1) = (tr5 (n + 1) t (B.take (i + 1))).flatMap spF := by unfold c4L; rw [if_neg (by omega)]
   rw [ts] at x1
   generalize B[i]?.getD ([], [], 0) = s at *
   obtain ⟨sa, sb, sc⟩ := s
   simp only [ro5, spF] at dr cR lc cP ts x1
   generalize put5 (tr5 (n + 1) t (B.take i)) (sa, [canF (n + 1) (rootL sb)], sc) = X1 at *
   generalize tr5 (n + 1) t (B.take i) = X0 at *
   generalize c4L (n + 1) t B i = C at *
   rw [← lc] at cR
   generalize canF (n + 1) (rootL sb) = w at *
   generalize hMB : B.flatMap spF = MB at *
   simp [go_sem, hii, dr]
   refine ⟨by kernel_rfl, nB, ?_⟩
   refine CallD.of (cR) (by simp [roots, rootsL, frz, frzL]) (by decide) ?_
   simp [go_sem]
   have dr2 : MB.drop (i * 3 + 2) = AV.int sc :: (B.drop (i + 1)).flatMap spF := by
    have := congrArg (List.drop 2) dr
    rw [List.drop_drop] at this
    exact this
   simp [go_sem, dr2]
   refine ⟨⟨hil, nB⟩, ?_⟩
   refine ⟨_, _, cP, ?_⟩
   simp [go_sem]
   refine ⟨by kernel_rfl, ?_⟩
   simp [go_sem]
   exact ⟨⟨by omega, by omega⟩, i + 1, by omega, by omega, Off_reset _ _ _ (by simp), by rw [x1, ts]; exact ⟨rfl, rfl⟩, by omega⟩
  ·have e : i = B.length := by omega
   subst e
   have hii : ¬ (B.length : Int) < B.length := by omega
   rw [List.take_length]
   simp [go_sem, hii]
def cut5 (t : List Int) : List Spl := tre5 6 t
theorem cut5_sz : (trN 6).all (fun t => decide ((cut5 t).length ≤ 100) && (cut5 t).all fun s => decide (s.1.length ≤ 6) && (s.1.all (fun r => decide (r.length ≤ 6)) && (decide (s.2.1.length ≤ 1) && (s.2.1.all (fun r => decide (1 ≤ r.length) && decide (r.length ≤ 6)) && (decide (0 ≤ s.2.2) && decide (s.2.2 ≤ 100)))))) = true := by decide +kernel
theorem cut5_at {t : List Int} (h : t ∈ trN 6) : (cut5 t).length ≤ 100 ∧ ∀ s ∈ cut5 t, s.1.length ≤ 6 ∧ (∀ r ∈ s.1, r.length ≤ 6) ∧ s.2.1.length ≤ 1 ∧ (∀ r ∈ s.2.1, 1 ≤ r.length ∧ r.length ≤ 6) ∧ 0 ≤ s.2.2 ∧ s.2.2 ≤ 100 := by
 have k := List.all_eq_true.1 cut5_sz t h
 simp only [Bool.and_eq_true, decide_eq_true_eq, List.all_eq_true] at k
 exact k
theorem l05Cuts_c {t : List Int} (h : t ∈ trN 6) : GCon Tryz.prog 237 [.sl t.length (avs t)] (.sl (cut5 t).length ((cut5 t).flatMap cuF)) [.any] := by
 have cT := l05Tree_c 6 t (List.all_eq_true.1 trcB_all t h)
 obtain ⟨b1, b2⟩ := cut5_at h
 have hc : cut5 t = tre5 6 t := rfl
 rw [← hc] at cT
 generalize cut5 t = L at *
 have cf : frzL (L.flatMap cuF) = L.flatMap cuF := by
  clear cT hc b1 b2
  induction L with
  | nil => rfl
  | cons s L ih => rw [List.flatMap_cons, frzLapp, ih]; simp [cuF, frzL, frz]
 refine GCon.frzR (r := .own 157 L.length (L.flatMap cuF)) ?_ (by show AV.sl _ (frzL _) = _; rw [cf])
 refine gcon_of_vc Tryz.mixed ⟨7, [16, 31, 38], [1000000 + 295], []⟩ [2] [] Tryz.func237 (by decide) rfl rfl (by simp) (by simp) (by decide) ?_
 rw [Tryz.ntmps237]
 simp [go_sem]
 refine ⟨_, _, cT, ?_⟩
 simp [go_sem]
 refine loop_inv (4 :: 5 :: 6 :: List.range' 10 38) (fun i : Nat => [(4, .own 157 i ((L.take i).flatMap cuF)), (5, .int i)]) (fun i => i ≤ L.length) (fun i => L.length - i) 0 (by simp) (by simp [go_sem]) (by simp [go_sem]) ?_
 intro i hi
 by_cases hil : i < L.length
 ·have hii : (i : Int) < L.length := by omega
  have hm := memD ([], [], 0) hil
  obtain ⟨c1, c2, c3, c4, c5, c6⟩ := b2 _ hm
  have dr := flat3_drop spF (fun _ => rfl) ([], [], 0) hil
  have nL : ¬ L.flatMap spF = [] := by intro e; have := flat3_len spF (fun _ => rfl) L; rw [e] at this; simp at this; omega
  have lL := flat3_len spF (fun _ => rfl) L
  have cl := flat3_len cuF (fun _ => rfl) (L.take i)
  rw [List.length_take, Nat.min_eq_left (by omega)] at cl
  have tk : L.take (i + 1) = L.take i ++ [L[i]?.getD ([], [], 0)] := by rw [List.take_succ_eq_append_getElem hil]; simp [hil]
  generalize L[i]?.getD ([], [], 0) = s at *
  obtain ⟨a, b, k⟩ := s
  simp only [spF] at dr
  simp only at c1 c2 c3 c4 c5 c6
  have cO2 := l01Own2_c a (by omega) (fun r hr => by have := c2 r hr; omega)
  generalize hC : (L.take i).flatMap cuF = C at *
  generalize hML : L.flatMap spF = ML at *
  have dr1 : ML.drop (i * 3 + 1) = AV.sl b.length (mat b) :: AV.int k :: (L.drop (i + 1)).flatMap spF := by
   have := congrArg (List.drop 1) dr
   rw [List.drop_drop] at this
   exact this
  have dr2 : ML.drop (i * 3 + 2) = AV.int k :: (L.drop (i + 1)).flatMap spF := by
   have := congrArg (List.drop 2) dr
   rw [List.drop_drop] at this
   exact this
  cases b with
  | nil =>
   simp [go_sem, hii, dr, dr1, dr2]
   refine ⟨nL, by kernel_rfl, nL, ?_⟩
   refine CallD.of (cO2) (by simp [roots, rootsL, frz, frzL]) (by decide) ?_
   simp [go_sem]
   simp [go_sem, dr2]
   refine ⟨⟨hil, nL⟩, ⟨by rw [cl], by omega, by omega⟩, ?_⟩
   refine ⟨by kernel_rfl, ?_⟩
   simp [go_sem]
   refine ⟨⟨by omega, by omega⟩, i + 1, by omega, by omega, Off_reset _ _ _ (by simp), ?_⟩
   rw [tk, List.flatMap_append, hC]
   refine ⟨⟨by omega, ?_⟩, by omega⟩
   simp [cuF, tkL, mat]
  | cons r b =>
   have e : b = [] := List.length_eq_zero_iff.1 (by simpa using c3)
   subst e
   have cO := l01Own_c r (by have := (c4 r (by simp)).2; omega)
   simp [go_sem, hii, dr, dr1, dr2, mat]
   refine ⟨nL, ?_⟩
   refine CallVC.of (cO) (by decide) ?_
   simp [go_sem]
   simp [go_sem, dr, dr2]
   refine ⟨by kernel_rfl, ⟨hil, nL⟩, ?_⟩
   refine CallD.of (cO2) (by simp [roots, rootsL, frz, frzL]) (by decide) ?_
   simp [go_sem]
   simp [go_sem, dr2]
   refine ⟨⟨hil, nL⟩, ⟨by rw [cl], by omega, by omega⟩, ?_⟩
   refine ⟨by kernel_rfl, ?_⟩
   simp [go_sem]
   refine ⟨⟨by omega, by omega⟩, i + 1, by omega, by omega, Off_reset _ _ _ (by simp), ?_⟩
   rw [tk, List.flatMap_append, hC]
   refine ⟨⟨by omega, ?_⟩, by omega⟩
   simp [cuF, tkL, mat]
 ·have e : i = L.length := by omega
  subst e
  have hii : ¬ (L.length : Int) < L.length := by omega
  rw [List.take_length]
  simp [go_sem, hii]
end Go.Proofs.YtphccfabekdmnaaGreat


namespace Go.Proofs.YtphccfabekdmnaaGreat
open Go.Abs
end Go.Proofs.YtphccfabekdmnaaGreat


namespace Go.Proofs.YtphccfabekdmnaaGreat
open Go.Abs
end Go.Proofs.YtphccfabekdmnaaGreat


namespace Go.Proofs.YtphccfabekdmnaaGreat
open Go.Abs
end Go.Proofs.YtphccfabekdmnaaGreat


namespace Go.Proofs.YtphccfabekdmnaaGreat
open Go.Abs
end Go.Proofs.YtphccfabekdmnaaGreat


namespace Go.Proofs.YtphccfabekdmnaaGreat
open Go.Abs
end Go.Proofs.YtphccfabekdmnaaGreat


namespace Go.Proofs.YtphccfabekdmnaaGreat
open Go.Abs
end Go.Proofs.YtphccfabekdmnaaGreat


namespace Go.Proofs.YtphccfabekdmnaaGreat
open Go.Abs
end Go.Proofs.YtphccfabekdmnaaGreat


namespace Go.Proofs.YtphccfabekdmnaaGreat
open Go.Abs
end Go.Proofs.YtphccfabekdmnaaGreat


namespace Go.Proofs.YtphccfabekdmnaaGreat
open Go.Abs
end Go.Proofs.YtphccfabekdmnaaGreat


namespace Go.Proofs.YtphccfabekdmnaaGreat
open Go.Abs
end Go.Proofs.YtphccfabekdmnaaGreat


namespace Go.Proofs.YtphccfabekdmnaaGreat
open Go.Abs
end Go.Proofs.YtphccfabekdmnaaGreat


namespace Go.Proofs.YtphccfabekdmnaaGreat
open Go.Abs
end Go.Proofs.YtphccfabekdmnaaGreat


namespace Go.Proofs.YtphccfabekdmnaaGreat
open Go.Abs
end Go.Proofs.YtphccfabekdmnaaGreat


namespace Go.Proofs.YtphccfabekdmnaaGreat
open Go.Abs
end Go.Proofs.YtphccfabekdmnaaGreat


namespace Go.Proofs.YtphccfabekdmnaaGreat
open Go.Abs CR
abbrev c7 : Cg (Ser Int) := cgS cgI 7
section
variable {α : Type} [CR α]
end
end Go.Proofs.YtphccfabekdmnaaGreat


namespace Go.Proofs.YtphccfabekdmnaaGreat
open Go.Abs
end Go.Proofs.YtphccfabekdmnaaGreat


namespace Go.Proofs.YtphccfabekdmnaaGreat
open Go.Abs
theorem genT_pos {k : Nat} (h : 0 < k) (t : List Int) : genT k t ≠ [] := by
 cases k with
 | zero => omega
 | succ k => simp [genT]
theorem l03Trees_c (n : Nat) (h1 : 1 ≤ n) (h6 : n ≤ 6) : Con Tryz.prog 252 [.int n] (.own 25 (genT 200 (upTo n)).length (omat (genT 200 (upTo n)))) := by
 have c := l03Grow_c n h6 (n - 1) [0] [] ⟨by simp, by simp, fun j h1 h2 => by simp at h2; omega⟩ (by simp; omega) (by
  have := Nat.pow_le_pow_right (n := 6) (by omega) (show n - 1 ≤ 6 by omega)
  simp only [List.length_nil]; omega)
 rw [← (trees_same n h1 h6).2.1] at c
 have hp := genT_pos (k := 200) (by omega) (upTo n)
 generalize genT 200 (upTo n) = G at *
 cases G with
 | nil => exact (hp rfl).elim
 | cons r G =>
  refine con_of_vc Tryz.mixed ⟨3, [], [307], []⟩ Tryz.func252 (by decide) rfl (by simp) (by decide) (by simp [freshOK, freshL, go_sem]) ?_
  rw [Tryz.ntmps252]
  simp [go_sem]
  refine ⟨_, _, c, ?_⟩
  simp [go_sem]
end Go.Proofs.YtphccfabekdmnaaGreat


namespace Go.Proofs.YtphccfabekdmnaaGreat
open Go.Abs
def bys (c : List Int) : List AV := c.map fun x => .val (.int .u8 x)
@[simp] theorem bys_len (c : List Int) : (bys c).length = c.length := by simp [bys]
theorem bys_drop {c : List Int} {k : Nat} (h : k < c.length) : (bys c).drop k = .val (.int .u8 (c[k]?.getD 0)) :: bys (c.drop (k + 1)) := by
 rw [bys, ← List.map_drop, List.drop_eq_getElem_cons h, List.map_cons]; simp [h, bys]
def Byt (c : List Int) : Prop := c.length ≤ 4096 ∧ ∀ x ∈ c, 0 ≤ x ∧ x ≤ 255
theorem Byt.get {c : List Int} (h : Byt c) (k : Nat) : 0 ≤ c[k]?.getD 0 ∧ c[k]?.getD 0 ≤ 255 := by
 rcases Nat.lt_or_ge k c.length with hk | hk
 ·simp [hk]; exact h.2 _ (List.getElem_mem hk)
 ·simp [hk]
abbrev Src := Nat × Int
def srcA (c : List Int) (σ : Src) : AV := .box 171 [.sl c.length (bys c), .int σ.1, .val (.int .u64 σ.2)]
theorem srcA_eq (c : List Int) (σ : Src) : srcA c σ = .box 171 [.sl c.length (bys c), .int σ.1, .val (.int .u64 σ.2)] := rfl
def dicA (c : List Int) (σ : Src) : AV := .box 118 [.sl c.length (bys c), .int σ.1, .val (.int .u64 σ.2)]
def nxH (h : Int) : Int := IntKind.u64.wrap (IntKind.u64.wrap (h * 6364136223846793005) + 1442695040888963407)
def nxX (h : Int) : Int := andI IntKind.u64 (shrI IntKind.u64 (nxH h) 33) 16777215
def byV (c : List Int) (k : Nat) : Int := if k < c.length then c[k]?.getD 0 else 0
def nx1 (c : List Int) (σ : Src) (n : Int) : Int := if n < 1 then 0 else (nxX σ.2 + byV c σ.1).tmod n
def nx2 (c : List Int) (σ : Src) (n : Int) : Src := if n < 1 then σ else (if σ.1 < c.length then σ.1 + 1 else σ.1, nxH σ.2)
def SOk (σ : Src) : Prop := σ.1 ≤ 4096
theorem nx2_ok {c : List Int} (hc : Byt c) {σ : Src} (h : SOk σ) (n : Int) : SOk (nx2 c σ n) := by
 unfold SOk nx2 at *
 have := hc.1
 split
 ·exact h
 ·simp only; split <;> omega
theorem nxX_b (h : Int) : 0 ≤ nxX h ∧ nxX h ≤ 16777215 := by
 unfold nxX andI
 generalize shrI IntKind.u64 (nxH h) 33 = y
 have h1 : (BitVec.ofInt IntKind.u64.bits y &&& BitVec.ofInt IntKind.u64.bits 16777215).toNat ≤ 16777215 := by
  rw [BitVec.toNat_and]
  exact Nat.le_trans Nat.and_le_right (by decide)
 generalize (BitVec.ofInt IntKind.u64.bits y &&& BitVec.ofInt IntKind.u64.bits 16777215).toNat = m at *
 simp [IntKind.wrap, IntKind.signed, IntKind.bits]
 omega
theorem byV_b {c : List Int} (hc : Byt c) (k : Nat) : 0 ≤ byV c k ∧ byV c k ≤ 255 := by
 unfold byV
 split
 ·exact hc.get k
 ·omega
theorem nx1_b {c : List Int} (hc : Byt c) (σ : Src) {n : Int} (hn : 1 ≤ n) : 0 ≤ nx1 c σ n ∧ nx1 c σ n < n := by
 have h1 := nxX_b σ.2
 have h2 := byV_b hc σ.1
 unfold nx1
 rw [if_neg (by omega), Int.tmod_eq_emod_of_nonneg (by omega)]
 exact ⟨Int.emod_nonneg _ (by omega), Int.emod_lt_of_pos _ (by omega)⟩
theorem l01Next_c (c : List Int) (σ : Src) (n : Int) (hc : Byt c) (hs : SOk σ) : GCon Tryz.prog 142 [srcA c σ, .int n] (.int (nx1 c σ n)) [srcA c (nx2 c σ n), .any] := by
 have hx := nxX_b σ.2
 have hy := byV_b hc σ.1
 have hcl := hc.1
 unfold SOk at hs
 unfold nx1 nx2
 by_cases h0 : n < 1
 ·rw [if_pos h0, if_pos h0]
  unfold srcA
  refine gcon_of_vc Tryz.mixed ⟨6, [], [], []⟩ [4] [0] Tryz.func142 (by decide) rfl rfl (by simp) (by simp) (by decide) ?_
  rw [Tryz.ntmps142]
  simp [go_sem]
  simp [go_sem, h0]
 ·rw [if_neg h0, if_neg h0]
  unfold srcA
  have e1 : nxH σ.2 = IntKind.u64.wrap (IntKind.u64.wrap (σ.2 * 6364136223846793005) + 1442695040888963407) := rfl
  have e2 : nxX σ.2 = andI IntKind.u64 (shrI IntKind.u64 (nxH σ.2) 33) 16777215 := rfl
  generalize nxX σ.2 = x at *
  generalize nxH σ.2 = h' at *
  have n0 : ¬ n = 0 := by omega
  by_cases hk : σ.1 < c.length
  ·have hb : byV c σ.1 = c[σ.1]?.getD 0 := by unfold byV; rw [if_pos hk]
   have hne : ¬ c = [] := by rintro rfl; simp at hk
   rw [if_pos hk]
   rw [hb] at hy ⊢
   refine gcon_of_vc Tryz.mixed ⟨6, [], [], []⟩ [4] [0] Tryz.func142 (by decide) rfl rfl (by simp) (by simp) (by decide) ?_
   rw [Tryz.ntmps142]
   simp [go_sem]
   simp [go_sem, h0, ← e1, ← e2]
   refine ⟨⟨by omega, by omega⟩, by kernel_rfl, ?_⟩
   refine ⟨by kernel_rfl, ?_⟩
   simp [go_sem]
   have hD := bys_drop hk
   generalize c[σ.1]?.getD 0 = b at *
   simp [go_sem, hk, hD]
   refine ⟨by kernel_rfl, by intro e; exact hne (by simpa [bys] using e), ⟨by omega, by omega⟩, ⟨by omega, by omega⟩, ?_⟩
   refine ⟨by kernel_rfl, ?_⟩
   simp [go_sem]
   exact ⟨⟨by omega, by omega⟩, n0⟩
  ·have hb : byV c σ.1 = 0 := by unfold byV; rw [if_neg hk]
   rw [if_neg hk]
   rw [hb] at hy ⊢
   refine gcon_of_vc Tryz.mixed ⟨6, [], [], []⟩ [4] [0] Tryz.func142 (by decide) rfl rfl (by simp) (by simp) (by decide) ?_
   rw [Tryz.ntmps142]
   simp [go_sem]
   simp [go_sem, h0, ← e1, ← e2]
   refine ⟨⟨by omega, by omega⟩, by kernel_rfl, ?_⟩
   refine ⟨by kernel_rfl, ?_⟩
   simp [go_sem]
   simp [go_sem, hk]
   exact n0
theorem below_c (c : List Int) (σ : Src) (n : Int) (hc : Byt c) (hs : SOk σ) : GCon Tryz.prog 47 [dicA c σ, .int n] (.int (nx1 c σ n)) [dicA c (nx2 c σ n), .any] := by
 have hx := nxX_b σ.2
 have hy := byV_b hc σ.1
 have hcl := hc.1
 unfold SOk at hs
 unfold nx1 nx2
 by_cases h0 : n < 1
 ·rw [if_pos h0, if_pos h0]
  unfold dicA
  refine gcon_of_vc Tryz.mixed ⟨6, [], [], []⟩ [4] [0] Tryz.func47 (by decide) rfl rfl (by simp) (by simp) (by decide) ?_
  rw [Tryz.ntmps47]
  simp [go_sem]
  simp [go_sem, h0]
 ·rw [if_neg h0, if_neg h0]
  unfold dicA
  have e1 : nxH σ.2 = IntKind.u64.wrap (IntKind.u64.wrap (σ.2 * 6364136223846793005) + 1442695040888963407) := rfl
  have e2 : nxX σ.2 = andI IntKind.u64 (shrI IntKind.u64 (nxH σ.2) 33) 16777215 := rfl
  generalize nxX σ.2 = x at *
  generalize nxH σ.2 = h' at *
  have n0 : ¬ n = 0 := by omega
  by_cases hk : σ.1 < c.length
  ·have hb : byV c σ.1 = c[σ.1]?.getD 0 := by unfold byV; rw [if_pos hk]
   have hne : ¬ c = [] := by rintro rfl; simp at hk
   rw [if_pos hk]
   rw [hb] at hy ⊢
   refine gcon_of_vc Tryz.mixed ⟨6, [], [], []⟩ [4] [0] Tryz.func47 (by decide) rfl rfl (by simp) (by simp) (by decide) ?_
   rw [Tryz.ntmps47]
   simp [go_sem]
   simp [go_sem, h0, ← e1, ← e2]
   refine ⟨⟨by omega, by omega⟩, by kernel_rfl, ?_⟩
   refine ⟨by kernel_rfl, ?_⟩
   simp [go_sem]
   have hD := bys_drop hk
   generalize c[σ.1]?.getD 0 = b at *
   simp [go_sem, hk, hD]
   refine ⟨by kernel_rfl, by intro e; exact hne (by simpa [bys] using e), ⟨by omega, by omega⟩, ⟨by omega, by omega⟩, ?_⟩
   refine ⟨by kernel_rfl, ?_⟩
   simp [go_sem]
   exact ⟨⟨by omega, by omega⟩, n0⟩
  ·have hb : byV c σ.1 = 0 := by unfold byV; rw [if_neg hk]
   rw [if_neg hk]
   rw [hb] at hy ⊢
   refine gcon_of_vc Tryz.mixed ⟨6, [], [], []⟩ [4] [0] Tryz.func47 (by decide) rfl rfl (by simp) (by simp) (by decide) ?_
   rw [Tryz.ntmps47]
   simp [go_sem]
   simp [go_sem, h0, ← e1, ← e2]
   refine ⟨⟨by omega, by omega⟩, by kernel_rfl, ?_⟩
   refine ⟨by kernel_rfl, ?_⟩
   simp [go_sem]
   simp [go_sem, hk]
   exact n0
theorem getI {xs : List Int} {v : Int} (h0 : 0 ≤ v) (h1 : v < xs.length) : ∃ k : Nat, v = k ∧ k < xs.length ∧ v.toNat = k := ⟨v.toNat, by omega, by omega, rfl⟩
def pk (c : List Int) (σ : Src) (xs : List Int) : Int := xs[(nx1 c σ xs.length).toNat]?.getD 0
theorem pk_mem (c : List Int) (hc : Byt c) (σ : Src) {xs : List Int} (hx : 0 < xs.length) : pk c σ xs ∈ xs := by
 have h := nx1_b hc σ (n := xs.length) (by omega)
 unfold pk
 have hk : (nx1 c σ xs.length).toNat < xs.length := by omega
 simp [hk]
theorem l01Pick_c (c : List Int) (σ : Src) (xs : List Int) (hc : Byt c) (hs : SOk σ) (hx : 0 < xs.length) (hxl : xs.length ≤ 1000) :
  GCon Tryz.prog 115 [srcA c σ, .own 2 xs.length (avs xs)] (.int (pk c σ xs)) [srcA c (nx2 c σ xs.length), .any] := by
 have cN := l01Next_c c σ xs.length hc hs
 have hb := nx1_b hc σ (n := xs.length) (by omega)
 unfold pk
 obtain ⟨k, hk, hkl, hkt⟩ := getI hb.1 hb.2
 rw [hkt]
 rw [hk] at cN
 unfold srcA at *
 refine gcon_of_vc Tryz.mixed ⟨5, [], [1000000 + 142], []⟩ [4] [0] Tryz.func115 (by decide) rfl rfl (by simp) (by simp) (by decide) ?_
 rw [Tryz.ntmps115]
 simp [go_sem]
 refine ⟨_, _, cN, ?_⟩
 simp [go_sem]
 have hA := avs_at hkl
 simp [go_sem, hA]
 exact hkl
theorem l01Frac_c (p q : Int) (hp : fits p) (hq : fits q) : Con Tryz.prog 244 [.int p, .int q] (.int (p % 10007 * pw (q % 10007) 10005 % 10007)) := by
 have hf : fits (p % 10007 * pw (q % 10007) 10005) := mul_fits (isN_mod _) (isN_mod _)
 refine con_of_vc Tryz.mixed ⟨5, [], [], []⟩ Tryz.func244 (by decide) rfl (by simp) (by decide) (by simp [freshOK, freshL, go_sem]) ?_
 rw [Tryz.ntmps244]
 simp [go_sem]
 refine CallVC.of (l01Mod_c p hp.1 hp.2) (by decide) ?_
 simp [go_sem]
 refine CallVC.of (l01Mod_c q hq.1 hq.2) (by decide) ?_
 simp [go_sem]
 refine CallVC.of (l01Inv_c _ (isN_mod q)) (by decide) ?_
 simp [go_sem]
 refine CallVC.of (l01Mul_c _ _ hf) (by decide) ?_
 simp [go_sem]
def nbV (c : List Int) (σ : Src) : Int × Src :=
 if nx1 c σ 5 = 0 then (nx1 c (nx2 c σ 5) 10007, nx2 c (nx2 c σ 5) 10007)
 else if nx1 c σ 5 = 1 then (pk c (nx2 c σ 5) [0, 1, 0, 1, 10006, 2], nx2 c (nx2 c σ 5) 6)
 else ((nx1 c (nx2 c σ 5) 15 - 7) % 10007 * pw ((1 + nx1 c (nx2 c (nx2 c σ 5) 15) 12) % 10007) 10005 % 10007, nx2 c (nx2 c (nx2 c σ 5) 15) 12)
theorem nbV_ok {c : List Int} (hc : Byt c) {σ : Src} (hs : SOk σ) : isN (nbV c σ).1 ∧ SOk (nbV c σ).2 := by
 have s1 := nx2_ok hc hs 5
 unfold nbV
 split
 ·exact ⟨nx1_b hc (nx2 c σ 5) (n := 10007) (by omega), nx2_ok hc s1 _⟩
 ·split
  ·refine ⟨?_, nx2_ok hc s1 _⟩
   have := pk_mem c hc (nx2 c σ 5) (xs := [0, 1, 0, 1, 10006, 2]) (by simp)
   simp at this
   simp only
   constructor <;> omega
  ·exact ⟨isN_mod _, nx2_ok hc (nx2_ok hc s1 _) _⟩
theorem l01Number_c (c : List Int) (σ : Src) (hc : Byt c) (hs : SOk σ) : GCon Tryz.prog 212 [srcA c σ] (.int (nbV c σ).1) [srcA c (nbV c σ).2] := by
 have s1 := nx2_ok hc hs 5
 have s2 := nx2_ok hc s1 15
 have c1 := l01Next_c c σ 5 hc hs
 have c2 := l01Next_c c (nx2 c σ 5) 10007 hc s1
 have c3 := l01Pick_c c (nx2 c σ 5) [0, 1, 0, 1, 10006, 2] hc s1 (by simp) (by simp)
 have c4 := l01Next_c c (nx2 c σ 5) 15 hc s1
 have c5 := l01Next_c c (nx2 c (nx2 c σ 5) 15) 12 hc s2
 have b4 := nx1_b hc (nx2 c σ 5) (n := 15) (by omega)
 have b5 := nx1_b hc (nx2 c (nx2 c σ 5) 15) (n := 12) (by omega)
 have c6 := l01Frac_c (nx1 c (nx2 c σ 5) 15 - 7) (1 + nx1 c (nx2 c (nx2 c σ 5) 15) 12) ⟨by omega, by omega⟩ ⟨by omega, by omega⟩
 unfold nbV
 have e3 : (([0, 1, 0, 1, 10006, 2] : List Int).length : Int) = 6 := rfl
 rw [e3] at c3
 generalize pk c (nx2 c σ 5) [0, 1, 0, 1, 10006, 2] = pv at *
 generalize nx1 c (nx2 c (nx2 c σ 5) 15) 12 = v5 at *
 generalize nx2 c (nx2 c (nx2 c σ 5) 15) 12 = t5 at *
 generalize nx1 c (nx2 c σ 5) 15 = v4 at *
 generalize nx2 c (nx2 c σ 5) 15 = t4 at *
 generalize nx2 c (nx2 c σ 5) 6 = t3 at *
 generalize nx1 c (nx2 c σ 5) 10007 = v2 at *
 generalize nx2 c (nx2 c σ 5) 10007 = t2 at *
 generalize nx1 c σ 5 = v1 at *
 generalize nx2 c σ 5 = t1 at *
 unfold srcA at *
 by_cases h0 : v1 = 0
 ·rw [if_pos h0]
  refine gcon_of_vc Tryz.mixed ⟨3, [], [1000000 + 142, 1000000 + 115], []⟩ [2] [0] Tryz.func212 (by decide) rfl rfl (by simp) (by simp) (by decide) ?_
  rw [Tryz.ntmps212]
  simp [go_sem]
  refine ⟨_, _, c1, ?_⟩
  simp [go_sem]
  simp [go_sem, h0]
  refine ⟨_, _, c2, ?_⟩
  simp [go_sem]
 ·rw [if_neg h0]
  by_cases h1 : v1 = 1
  ·rw [if_pos h1]
   refine gcon_of_vc Tryz.mixed ⟨3, [], [1000000 + 142, 1000000 + 115], []⟩ [2] [0] Tryz.func212 (by decide) rfl rfl (by simp) (by simp) (by decide) ?_
   rw [Tryz.ntmps212]
   simp [go_sem]
   refine ⟨_, _, c1, ?_⟩
   simp [go_sem]
   simp [go_sem, h0, h1]
   refine ⟨_, _, c3, ?_⟩
   simp [go_sem]
  ·rw [if_neg h1]
   refine gcon_of_vc Tryz.mixed ⟨3, [], [1000000 + 142, 1000000 + 115], []⟩ [2] [0] Tryz.func212 (by decide) rfl rfl (by simp) (by simp) (by decide) ?_
   rw [Tryz.ntmps212]
   simp [go_sem]
   refine ⟨_, _, c1, ?_⟩
   simp [go_sem]
   simp [go_sem, h0, h1]
   refine ⟨_, _, c4, ?_⟩
   simp [go_sem]
   refine ⟨⟨by omega, by omega⟩, ?_⟩
   refine ⟨_, _, c5, ?_⟩
   simp [go_sem]
   refine ⟨⟨by omega, by omega⟩, ?_⟩
   refine CallVC.of (c6) (by decide) ?_
   simp [go_sem]
def lsV (f : Src → Int × Src) : Nat → Src → List Int × Src
 | 0, σ => ([], σ)
 | n + 1, σ => ((f σ).1 :: (lsV f n (f σ).2).1, (lsV f n (f σ).2).2)
theorem lsV_ok {f : Src → Int × Src} (hf : ∀ σ, SOk σ → isN (f σ).1 ∧ SOk (f σ).2) : ∀ (n : Nat) (σ : Src), SOk σ → (lsV f n σ).1.length = n ∧ Ns (lsV f n σ).1 ∧ SOk (lsV f n σ).2
 | 0, σ, h => ⟨rfl, by simp [lsV, Ns], h⟩
 | n + 1, σ, h => by
  have h1 := hf σ h
  have h2 := lsV_ok hf n _ h1.2
  refine ⟨by simp [lsV, h2.1], fun x hx => ?_, h2.2.2⟩
  rcases List.mem_cons.1 hx with rfl | hx
  ·exact h1.1
  ·exact h2.2.1 x hx
theorem l01List_c (c : List Int) (σ : Src) (n : Nat) (hc : Byt c) (hs : SOk σ) (hn : n ≤ 100000) :
  GCon Tryz.prog 232 [srcA c σ, .int n] (.own 2 n (avs (lsV (nbV c) n σ).1)) [srcA c (lsV (nbV c) n σ).2, .any] := by
 unfold srcA
 refine gcon_of_vc Tryz.mixed ⟨6, [], [1000000 + 212], []⟩ [4] [0] Tryz.func232 (by decide) rfl rfl (by simp) (by simp) (by decide) ?_
 rw [Tryz.ntmps232]
 simp [go_sem]
 refine loop_inv (0 :: 1 :: 5 :: List.range' 7 9) (fun x : List Int × Src × Nat => [(0, .box 171 [.sl c.length (bys c), .int x.2.1.1, .val (.int .u64 x.2.1.2)]), (1, .int x.2.2), (5, .own 2 x.1.length (avs x.1))]) (fun x => SOk x.2.1 ∧ x.1.length + x.2.2 = n ∧ x.1 ++ (lsV (nbV c) x.2.2 x.2.1).1 = (lsV (nbV c) n σ).1 ∧ (lsV (nbV c) x.2.2 x.2.1).2 = (lsV (nbV c) n σ).2) (fun x => x.2.2) ([], σ, n) ⟨hs, by simp, rfl, rfl⟩ (by simp [go_sem, avs]) (by simp [go_sem]) ?_
 rintro ⟨acc, τ, k⟩ ⟨h1, h2, h3, h4⟩
 simp only at h1 h2 h3 h4
 simp [go_sem]
 refine ⟨fun h => ?_, fun h => ?_⟩ <;> simp at h
 ·obtain ⟨j, rfl⟩ : ∃ j, k = j + 1 := ⟨k - 1, by omega⟩
  have cN := l01Number_c c τ hc h1
  have hok := nbV_ok hc h1
  unfold srcA at cN
  simp only [lsV] at h3 h4
  generalize nbV c τ = r at *
  simp [go_sem]
  refine ⟨_, _, cN, ?_⟩
  simp [go_sem]
  refine ⟨⟨by omega, by omega⟩, by omega, acc ++ [r.1], r.2.1, r.2.2, j, ⟨hok.2, by simp; omega, by simpa using h3, h4⟩, by omega, Off_reset _ _ _ (by simp), ?_⟩
  simp [avs]
 ·have e : k = 0 := by omega
  subst e
  simp only [lsV, List.append_nil] at h3 h4
  simp [go_sem]
  rw [← h3, ← h4]
  simp at h2
  simp [h2]
theorem l01From_r (c : List Int) (hc : Byt c) : RCon Tryz.prog 113 [.sl c.length (bys c)] (fun r o => o = [.any] ∧ ∃ h, r = srcA c (0, h)) := by
 have hcl := hc.1
 unfold srcA
 refine rcon_of_vcH Tryz.mixed ⟨5, [], [], []⟩ [] Tryz.func113 (by decide) rfl (by simp) (by simp) (by decide) ?_
 rw [Tryz.ntmps113]
 simp [go_sem]
 refine loop_inv (3 :: 4 :: List.range' 12 25) (fun x : Nat × Int => [(3, .box 171 [.sl c.length (bys c), .int 0, .val (.int .u64 x.2)]), (4, .int x.1)]) (fun x => x.1 ≤ c.length) (fun x => c.length - x.1) (0, IntKind.u64.wrap (5381 + IntKind.u64.wrap c.length)) (by simp) (by simp [go_sem]) (by simp [go_sem]) ?_
 rintro ⟨i, h⟩ hi
 simp only at hi
 by_cases hic : i < c.length
 ·have h4 : (i : Int) < 4096 := by omega
  have hne : ¬ c = [] := by rintro rfl; simp at hic
  have hD := bys_drop hic
  have hb := hc.get i
  generalize c[i]?.getD 0 = b at *
  simp [go_sem, hic, h4, hD]
  refine ⟨by kernel_rfl, by intro e; exact hne (by simpa [bys] using e), ?_⟩
  refine ⟨by kernel_rfl, ?_⟩
  simp [go_sem]
  exact ⟨⟨by omega, by omega⟩, i + 1, by omega, by omega, Off_reset _ _ _ (by simp), by omega⟩
 ·simp [go_sem, hic]
end Go.Proofs.YtphccfabekdmnaaGreat

