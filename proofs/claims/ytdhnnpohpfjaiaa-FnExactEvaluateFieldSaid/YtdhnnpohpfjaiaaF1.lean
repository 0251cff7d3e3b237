/- Fields: copies, comparisons, marks. -/
import Derived.Test.YtdhnnpohpfjaiaaF0
namespace Go.Proofs.Ytdhnnpohpfjaiaa
open Go.Abs
set_option linter.unusedVariables false
set_option linter.unusedSimpArgs false
set_option maxHeartbeats 1000000
theorem toMonomial_c (m : Mon) (hl : m.2.length ≤ 1048576) :
    Con Try.prog 130 [.agg [.int m.1, .sl m.2.length (avs m.2)]] (.agg [.int m.1, .own 2 m.2.length (avs m.2)]) := by
  refine con_of_vc Try.mixed ⟨4, [], [], []⟩ Try.func130 (by decide) rfl (by simp) (by decide) (by simp [freshOK, freshL, go_sem]) ?_
  rw [Try.ntmps130]
  simp [go_sem]
  refine CallVC.of (toInt64S_c m.2 hl) (by decide) ?_
  simp [go_sem]
def zer (k : Nat) : List AV := (List.replicate k [AV.val (.int .i64 0), AV.val (.slice none 0 0)]).flatten
@[simp] theorem zer_len (k : Nat) : (zer k).length = k * 2 := by
  induction k with
  | zero => rfl
  | succ k ih => unfold zer at ih ⊢; rw [List.replicate_succ, List.flatten_cons]; simp [ih]; omega
theorem zer_succ (k : Nat) : zer (k + 1) = .val (.int .i64 0) :: .val (.slice none 0 0) :: zer k := by simp [zer, List.replicate_succ]
theorem omons_app (p q : List Mon) : omons (p ++ q) = omons p ++ omons q := by simp [omons]
theorem fill2 (p : List Mon) (i : Nat) (h : i < p.length) : ((omons (p.take i) ++ zer (p.length - i)).set (i * 2) (.int (p[i]?.getD (0, [])).1)).set (i * 2 + 1) (.own 2 (p[i]?.getD (0, [])).2.length (avs (p[i]?.getD (0, [])).2)) = omons (p.take (i + 1)) ++ zer (p.length - (i + 1)) := by
  obtain ⟨k, hk⟩ : ∃ k, p.length - i = k + 1 := ⟨p.length - i - 1, by omega⟩
  have hl : (omons (p.take i)).length = i * 2 := by simp; omega
  have e1 : i * 2 - i * 2 = 0 := by omega
  have e2 : i * 2 + 1 - i * 2 = 1 := by omega
  have e3 : p.take (i + 1) = p.take i ++ [p[i]?.getD (0, [])] := by rw [List.take_add_one]; simp [h]
  rw [show p.length - (i + 1) = k by omega, hk, zer_succ, List.set_append_right _ _ (by omega), List.set_append_right _ _ (by omega), hl, e1, e2, e3, omons_app]
  simp [omons]
theorem toMonomialS_c (p : List Mon) (hl : p.length ≤ 1048576) (hr : ∀ m ∈ p, m.2.length ≤ 1048576) :
    Con Try.prog 105 [.sl p.length (mons p)] (.own 109 p.length (omons p)) := by
  refine con_of_vc Try.mixed ⟨5, [], [], []⟩ Try.func105 (by decide) rfl (by simp) (by decide) (by simp [freshOK, freshL, go_sem]) ?_
  rw [Try.ntmps105]
  simp [go_sem]
  refine ⟨by omega, ?_⟩
  refine loop_inv (3 :: 4 :: List.range' 8 14) (fun i : Nat => [(3, .own 109 p.length (omons (p.take i) ++ zer (p.length - i))), (4, .int i)]) (fun i => i ≤ p.length) (fun i => p.length - i) 0 (by simp) (by simp [go_sem]; rfl) (by simp [go_sem]) ?_
  intro i hi
  simp [go_sem]
  refine ⟨fun h => ?_, fun h => ?_⟩ <;> simp at h
  · have hx : p[i]?.getD (0, []) ∈ p := by simp [h]
    have hm := hr _ hx
    simp [go_sem, mons_drop h]
    refine ⟨⟨h, by rintro rfl; simp at h⟩, ?_⟩
    refine CallVC.of (toMonomial_c _ hm) (by decide) ?_
    simp [go_sem]
    refine ⟨h, ⟨by omega, fun _ => ?_⟩, by omega, i + 1, by omega, by omega, Off_reset _ _ _ (by simp), fill2 p i h, by omega⟩
    obtain ⟨q, hq⟩ : ∃ q, p.length - i = q + 1 := ⟨p.length - i - 1, by omega⟩
    rw [hq, zer_succ]; simp
  · simp [go_sem]
    have e : i = p.length := by omega
    subst e
    simp [zer]
theorem toMonomialSS_c (f : List (List Mon)) (hl : f.length ≤ 1048576) (hr : ∀ p ∈ f, p.length ≤ 1048576 ∧ ∀ m ∈ p, m.2.length ≤ 1048576) :
    Con Try.prog 67 [.sl f.length (prt f)] (.own 107 f.length (oprt f)) := by
  refine con_of_vc Try.mixed ⟨5, [], [], []⟩ Try.func67 (by decide) rfl (by simp) (by decide) (by simp [freshOK, freshL, go_sem]) ?_
  rw [Try.ntmps67]
  simp [go_sem]
  refine ⟨by omega, ?_⟩
  refine loop_inv (3 :: 4 :: List.range' 8 14) (fun i : Nat => [(3, .own 107 f.length (oprt (f.take i) ++ List.replicate (f.length - i) (.val (.slice none 0 0)))), (4, .int i)]) (fun i => i ≤ f.length) (fun i => f.length - i) 0 (by simp) (by simp [go_sem, oprt]) (by simp [go_sem]) ?_
  intro i hi
  simp [go_sem]
  refine ⟨fun h => ?_, fun h => ?_⟩ <;> simp at h
  · have hx : f[i]?.getD [] ∈ f := by simp [h]
    have hm := hr _ hx
    simp [go_sem, prt_drop h]
    refine ⟨⟨h, by rintro rfl; simp at h⟩, ?_⟩
    refine CallVC.of (toMonomialS_c _ hm.1 hm.2) (by decide) ?_
    simp [go_sem]
    refine ⟨h, by omega, by omega, i + 1, by omega, by omega, Off_reset _ _ _ (by simp), ?_, by omega⟩
    have e1 : ∀ k, oprt (f.take k) = (oprt f).take k := fun k => by simp [oprt, List.map_take]
    have := fill_step (oprt f) (.val (.slice none 0 0)) (.own 109 (f[i]?.getD []).length (omons (f[i]?.getD []))) i (by simpa using h) (by simp [oprt, h])
    rw [oprt_len] at this
    rw [e1, e1]
    exact this
  · simp [go_sem]
    have e : i = f.length := by omega
    subst e; simp
theorem toField_c (z : Int) (f : List (List Mon)) (hl : f.length ≤ 1048576) (hr : ∀ p ∈ f, p.length ≤ 1048576 ∧ ∀ m ∈ p, m.2.length ≤ 1048576) :
    Con Try.prog 30 [.agg [.int z, .sl f.length (prt f)]] (.agg [.int z, .own 107 f.length (oprt f)]) := by
  refine con_of_vc Try.mixed ⟨4, [], [], []⟩ Try.func30 (by decide) rfl (by simp) (by decide) (by simp [freshOK, freshL, go_sem]) ?_
  rw [Try.ntmps30]
  simp [go_sem]
  refine CallVC.of (toMonomialSS_c f hl hr) (by decide) ?_
  simp [go_sem]
theorem eqMonomial_c (m : Mon) (hl : m.2.length ≤ 9223372036854775807) :
    Con Try.prog 134 [.agg [.int m.1, .sl m.2.length (avs m.2)], .agg [.int m.1, .sl m.2.length (avs m.2)]] (.bool true) := by
  have ce := eqInt64S_c m.2 m.2 hl
  simp at ce
  refine con_of_vc Try.mixed ⟨5, [], [], []⟩ Try.func134 (by decide) rfl (by simp) (by decide) (by simp [freshOK, freshL, go_sem]) ?_
  rw [Try.ntmps134]
  simp [go_sem]
  refine CallVC.of (ce) (by decide) ?_
  simp [go_sem]
theorem eqMonomialS_c (p : List Mon) (hl : p.length ≤ 9223372036854775807) (hr : ∀ m ∈ p, m.2.length ≤ 9223372036854775807) :
    Con Try.prog 111 [.sl p.length (mons p), .sl p.length (mons p)] (.bool true) := by
  refine con_of_vc Try.mixed ⟨6, [], [], []⟩ Try.func111 (by decide) rfl (by simp) (by decide) (by simp [freshOK, freshL, go_sem]) ?_
  rw [Try.ntmps111]
  simp [go_sem]
  refine loop_inv (4 :: 5 :: List.range' 11 16) (fun i : Nat => [(5, .int i)]) (fun i => i ≤ p.length) (fun i => p.length - i) 0 (by simp) (by simp [go_sem]) (by simp [go_sem]) ?_
  intro i hi
  simp [go_sem]
  refine ⟨fun h => ?_, fun h => ?_⟩ <;> simp at h
  · have hx : p[i]?.getD (0, []) ∈ p := by simp [h]
    simp [go_sem, mons_drop h]
    refine ⟨by kernel_rfl, ⟨h, by rintro rfl; simp at h⟩, ?_⟩
    refine CallD.of (eqMonomial_c _ (hr _ hx)) (by simp [roots, rootsL]) (by decide) ?_
    simp [go_sem]
    refine ⟨by kernel_rfl, ?_⟩
    simp [go_sem]
    refine ⟨by omega, i + 1, by omega, by omega, Off_reset _ _ _ (by simp), by omega⟩
  · simp [go_sem]
theorem eqMonomialSS_c (f : List (List Mon)) (hf : Fit f) :
    Con Try.prog 71 [.sl f.length (prt f), .sl f.length (prt f)] (.bool true) := by
  have hl := hf.1
  refine con_of_vc Try.mixed ⟨6, [], [], []⟩ Try.func71 (by decide) rfl (by simp) (by decide) (by simp [freshOK, freshL, go_sem]) ?_
  rw [Try.ntmps71]
  simp [go_sem]
  refine loop_inv (4 :: 5 :: List.range' 11 16) (fun i : Nat => [(5, .int i)]) (fun i => i ≤ f.length) (fun i => f.length - i) 0 (by simp) (by simp [go_sem]) (by simp [go_sem]) ?_
  intro i hi
  simp [go_sem]
  refine ⟨fun h => ?_, fun h => ?_⟩ <;> simp at h
  · have hx : f[i]?.getD [] ∈ f := by simp [h]
    simp [go_sem, prt_drop h]
    refine ⟨by kernel_rfl, ⟨h, by rintro rfl; simp at h⟩, ?_⟩
    refine CallD.of (eqMonomialS_c _ (hf.2 _ hx).1 (hf.2 _ hx).2) (by simp [roots, rootsL]) (by decide) ?_
    simp [go_sem]
    refine ⟨by kernel_rfl, ?_⟩
    simp [go_sem]
    refine ⟨by omega, i + 1, by omega, by omega, Off_reset _ _ _ (by simp), by omega⟩
  · simp [go_sem]
theorem eqField_c (z : Int) (f : List (List Mon)) (hf : Fit f) :
    Con Try.prog 32 [.agg [.int z, .sl f.length (prt f)], .agg [.int z, .sl f.length (prt f)]] (.bool true) := by
  refine con_of_vc Try.mixed ⟨5, [], [], []⟩ Try.func32 (by decide) rfl (by simp) (by decide) (by simp [freshOK, freshL, go_sem]) ?_
  rw [Try.ntmps32]
  simp [go_sem]
  refine CallVC.of (eqMonomialSS_c f hf) (by decide) ?_
  simp [go_sem]
/-- The marks of a part, of the parts. -/
def marksS : List Mon → Int → List Mon
  | [], _ => []
  | m :: p, k => (k, marks m.2.length (k + 1)) :: marksS p (k + 1 + m.2.length)
@[simp] theorem marksS_len : ∀ (p : List Mon) (k : Int), (marksS p k).length = p.length
  | [], _ => rfl
  | m :: p, k => by simp [marksS, marksS_len p]
theorem sumC_app {α : Type} (c : α → Nat) (l r : List α) : sumC c (l ++ r) = sumC c l + sumC c r := by
  induction l with
  | nil => simp [sumC]
  | cons a l ih => simp [sumC, ih]; omega
theorem sumC_take {α : Type} (c : α → Nat) {l : List α} {i : Nat} (h : i < l.length) : sumC c (l.take (i + 1)) = sumC c (l.take i) + c l[i] := by
  rw [List.take_add_one, sumC_app]; simp [h, sumC]
theorem sumC_le {α : Type} (c : α → Nat) (l : List α) (i : Nat) : sumC c (l.take i) ≤ sumC c l := by
  have := congrArg (sumC c) (List.take_append_drop i l)
  rw [sumC_app] at this; omega
theorem marksS_snoc (p : List Mon) (m : Mon) (k : Int) : marksS (p ++ [m]) k = marksS p k ++ [(k + cP p, marks m.2.length (k + cP p + 1))] := by
  induction p generalizing k with
  | nil => simp [marksS, cP, sumC]
  | cons q p ih =>
    have e : k + 1 + (q.2.length : Int) + cP p = k + cP (q :: p) := by simp [cP, sumC, cM]; omega
    simp [marksS, ih, e]
theorem cP_take {p : List Mon} {i : Nat} (h : i < p.length) : cP (p.take (i + 1)) = cP (p.take i) + 1 + p[i].2.length := by
  unfold cP; rw [sumC_take cM h]; simp [cM]; omega
theorem cP_le (p : List Mon) (i : Nat) : cP (p.take i) ≤ cP p := by
  have := sumC_le cM p i
  unfold cP; simp; omega
theorem markMonomialS_c (p : List Mon) (k : Int) (hl : p.length ≤ 1048576) (hr : ∀ m ∈ p, m.2.length ≤ 1048576) (h0 : 0 ≤ k) (h1 : k + cP p ≤ 9223372036854775807) :
    MCon Try.prog 112 [.own 109 p.length (omons p), .int k] (.int (k + cP p)) [.own 109 p.length (omons (marksS p k)), .any] := by
  refine mcon_of_vc Try.mixed ⟨6, [], [13], []⟩ [4] [0] Try.func112 (by decide) rfl rfl (by simp) (by simp) (by simp) (by decide) ?_
  rw [Try.ntmps112]
  simp [go_sem]
  refine loop_inv (0 :: 1 :: 5 :: List.range' 6 20) (fun i : Nat => [(0, .own 109 p.length (omons (marksS (p.take i) k ++ p.drop i))), (1, .int (k + cP (p.take i))), (5, .int i)]) (fun i => i ≤ p.length) (fun i => p.length - i) 0 (by simp) (by simp [go_sem, marksS, cP, sumC]) (by simp [go_sem]) ?_
  intro i hi
  simp [go_sem]
  refine ⟨fun h => ?_, fun h => ?_⟩ <;> simp at h
  · have t1 := cP_take h
    have t2 := cP_le p (i + 1)
    have hm := hr _ (List.getElem_mem h)
    have e0 : p.drop i = p[i] :: p.drop (i + 1) := List.drop_eq_getElem_cons h
    have e4 : marksS (p.take (i + 1)) k = marksS (p.take i) k ++ [(k + cP (p.take i), marks p[i].2.length (k + cP (p.take i) + 1))] := by
      rw [List.take_add_one, List.getElem?_eq_getElem h, Option.toList_some, marksS_snoc]
    have hL : (omons (marksS (p.take i) k)).length = i * 2 := by simp; omega
    have hM0 : omons (marksS (p.take i) k ++ p.drop i) = omons (marksS (p.take i) k) ++ (.int p[i].1 :: .own 2 p[i].2.length (avs p[i].2) :: omons (p.drop (i + 1))) := by rw [omons_app, e0, omons_cons]
    have hfin : ∀ u v, ((omons (marksS (p.take i) k) ++ (.int p[i].1 :: .own 2 p[i].2.length (avs p[i].2) :: omons (p.drop (i + 1)))).set (i * 2) u).set (i * 2 + 1) v = omons (marksS (p.take i) k) ++ (u :: v :: omons (p.drop (i + 1))) := by
      intro u v
      rw [List.set_append_right _ _ (by omega), List.set_append_right _ _ (by omega), hL, show i * 2 - i * 2 = 0 by omega, show i * 2 + 1 - i * 2 = 1 by omega]
      rfl
    rw [hM0]
    generalize hM : omons (marksS (p.take i) k) ++ (.int p[i].1 :: .own 2 p[i].2.length (avs p[i].2) :: omons (p.drop (i + 1))) = M at hfin
    have hML : M.length = p.length * 2 := by rw [← hM]; simp; omega
    have hMi : M[i * 2 + 1]? = some (.own 2 p[i].2.length (avs p[i].2)) := by
      rw [← hM, List.getElem?_append_right (by omega), hL, show i * 2 + 1 - i * 2 = 1 by omega]; rfl
    have m := markInt64S_c 2 p[i].2 (k + cP (p.take i) + 1) (by omega) (by omega)
    have hMn : ¬ M = [] := by rintro rfl; simp at hML; omega
    simp [go_sem, hML, hMi]
    refine ⟨h, hMn, h, ⟨by omega, by omega⟩, h, hMn, ?_⟩
    have hlt : i * 2 + 1 < p.length * 2 := by omega
    refine ⟨_, _, m, ?_⟩
    simp [go_sem, hML, hlt]
    rw [hfin]
    refine ⟨⟨by omega, by omega⟩, i + 1, by omega, by omega, Off_reset _ _ _ (by simp), ?_, by omega, by omega⟩
    rw [omons_app, e4, omons_app, List.append_assoc]
    simp [omons, marks]
  · simp [go_sem]
    rw [List.take_of_length_le h, List.drop_eq_nil_of_le h]
    simp
def marksP : List (List Mon) → Int → List (List Mon)
  | [], _ => []
  | p :: f, k => marksS p k :: marksP f (k + cP p)
@[simp] theorem marksP_len : ∀ (f : List (List Mon)) (k : Int), (marksP f k).length = f.length
  | [], _ => rfl
  | m :: p, k => by simp [marksP, marksP_len p]
theorem marksP_snoc (f : List (List Mon)) (p : List Mon) (k : Int) : marksP (f ++ [p]) k = marksP f k ++ [marksS p (k + sumC cP f)] := by
  induction f generalizing k with
  | nil => simp [marksP, sumC]
  | cons q f ih =>
    have e : k + (cP q : Int) + sumC cP f = k + sumC cP (q :: f) := by simp [sumC]; omega
    simp [marksP, ih, e]
theorem oprt_app (f g : List (List Mon)) : oprt (f ++ g) = oprt f ++ oprt g := by simp [oprt]
theorem markMonomialSS_c (f : List (List Mon)) (k : Int) (hl : f.length ≤ 1048576) (hr : ∀ p ∈ f, p.length ≤ 1048576 ∧ ∀ m ∈ p, m.2.length ≤ 1048576) (h0 : 0 ≤ k) (h1 : k + sumC cP f ≤ 9223372036854775807) :
    MCon Try.prog 72 [.own 107 f.length (oprt f), .int k] (.int (k + sumC cP f)) [.own 107 f.length (oprt (marksP f k)), .any] := by
  refine mcon_of_vc Try.mixed ⟨6, [], [112], []⟩ [4] [0] Try.func72 (by decide) rfl rfl (by simp) (by simp) (by simp) (by decide) ?_
  rw [Try.ntmps72]
  simp [go_sem]
  refine loop_inv (0 :: 1 :: 5 :: List.range' 6 12) (fun i : Nat => [(0, .own 107 f.length (oprt (marksP (f.take i) k ++ f.drop i))), (1, .int (k + sumC cP (f.take i))), (5, .int i)]) (fun i => i ≤ f.length) (fun i => f.length - i) 0 (by simp) (by simp [go_sem, marksP, sumC]) (by simp [go_sem]) ?_
  intro i hi
  simp [go_sem]
  refine ⟨fun h => ?_, fun h => ?_⟩ <;> simp at h
  · have t1 := sumC_take cP h
    have t2 := sumC_le cP f (i + 1)
    have hm := hr _ (List.getElem_mem h)
    have e0 : f.drop i = f[i] :: f.drop (i + 1) := List.drop_eq_getElem_cons h
    have e4 : marksP (f.take (i + 1)) k = marksP (f.take i) k ++ [marksS f[i] (k + sumC cP (f.take i))] := by
      rw [List.take_add_one, List.getElem?_eq_getElem h, Option.toList_some, marksP_snoc]
    have hL : (oprt (marksP (f.take i) k)).length = i := by simp; omega
    have hM0 : oprt (marksP (f.take i) k ++ f.drop i) = oprt (marksP (f.take i) k) ++ (.own 109 f[i].length (omons f[i]) :: oprt (f.drop (i + 1))) := by rw [oprt_app, e0]; rfl
    have hfin : ∀ u, (oprt (marksP (f.take i) k) ++ (.own 109 f[i].length (omons f[i]) :: oprt (f.drop (i + 1)))).set i u = oprt (marksP (f.take i) k) ++ (u :: oprt (f.drop (i + 1))) := by
      intro u
      rw [List.set_append_right _ _ (by omega), hL, show i - i = 0 by omega]
      rfl
    rw [hM0]
    generalize hM : oprt (marksP (f.take i) k) ++ (.own 109 f[i].length (omons f[i]) :: oprt (f.drop (i + 1))) = M at hfin
    have hML : M.length = f.length := by rw [← hM]; simp; omega
    have hMi : M[i]? = some (.own 109 f[i].length (omons f[i])) := by
      rw [← hM, List.getElem?_append_right (by omega), hL, show i - i = 0 by omega]; rfl
    have m := markMonomialS_c f[i] (k + sumC cP (f.take i)) hm.1 hm.2 (by omega) (by omega)
    have hMn : ¬ M = [] := by rintro rfl; simp at hML; omega
    simp [go_sem, hML, hMi]
    refine ⟨h, _, _, m, ?_⟩
    simp [go_sem, hML, h]
    rw [hfin]
    refine ⟨⟨by omega, by omega⟩, i + 1, by omega, by omega, Off_reset _ _ _ (by simp), ?_, by omega, by omega⟩
    rw [oprt_app, e4, oprt_app, List.append_assoc]
    simp [oprt]
  · simp [go_sem]
    rw [List.take_of_length_le h, List.drop_eq_nil_of_le h]
    simp
theorem markField_c (z : Int) (f : List (List Mon)) (k : Int) (hl : f.length ≤ 1048576) (hr : ∀ p ∈ f, p.length ≤ 1048576 ∧ ∀ m ∈ p, m.2.length ≤ 1048576) (h0 : 0 ≤ k) (h1 : k + sumC cP f ≤ 9223372036854775807) :
    MCon Try.prog 33 [.agg [.int z, .own 107 f.length (oprt f)], .int k] (.int (k + sumC cP f)) [.agg [.int z, .own 107 f.length (oprt (marksP f k))], .any] := by
  refine mcon_of_vc Try.mixed ⟨5, [], [72], []⟩ [4] [0] Try.func33 (by decide) rfl rfl (by simp) (by simp) (by simp) (by decide) ?_
  rw [Try.ntmps33]
  simp [go_sem]
  refine ⟨_, _, markMonomialSS_c f k hl hr h0 h1, ?_⟩
  simp [go_sem]
end Go.Proofs.Ytdhnnpohpfjaiaa
