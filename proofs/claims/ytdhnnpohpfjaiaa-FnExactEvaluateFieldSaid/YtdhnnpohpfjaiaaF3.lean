/- Fields: the reference's values. -/
import Derived.Test.YtdhnnpohpfjaiaaF2
namespace Go.Proofs.Ytdhnnpohpfjaiaa
open Go.Abs
set_option linter.unusedVariables false
set_option linter.unusedSimpArgs false
set_option maxHeartbeats 1000000
theorem degL_le : ∀ {xs : List Int} {s : Int}, 0 ≤ s → degL xs s ≤ 3 → (∀ x ∈ xs, 0 ≤ x ∧ x ≤ 3) ∧ s + xs.sum ≤ 3
  | [], s, h0, h => by simpa [degL] using h
  | x :: xs, s, h0, h => by
    rw [degL] at h
    split at h
    · omega
    · rename_i hx
      have hd := degL_le (xs := xs) (s := s + x) (by omega) h
      have pos : ∀ (l : List Int), (∀ x ∈ l, 0 ≤ x ∧ x ≤ 3) → 0 ≤ l.sum := by
        intro l
        induction l with
        | nil => simp
        | cons a l ih => intro h; have h1 := h a (by simp); have h2 := ih (fun x hx => h x (by simp [hx])); simp; omega
      have hs := pos xs hd.1
      have hd2 := hd.2
      refine ⟨fun y hy => ?_, by simp; omega⟩
      rcases List.mem_cons.1 hy with rfl | hy
      · omega
      · exact hd.1 y hy
structure MonOk (z : Int) (m : Mon) : Prop where
  lo : 1 ≤ m.1
  hi : m.1 ≤ 10006
  len : (m.2.length : Int) = z
  pw : ∀ x ∈ m.2, 0 ≤ x ∧ x ≤ 3
  deg : m.2.sum ≤ 3
theorem monB_ok {z : Int} {m : Mon} (h : monB z m = true) : MonOk z m := by
  unfold monB at h
  simp only [Bool.and_eq_true, decide_eq_true_eq] at h
  have := degL_le (by omega : (0 : Int) ≤ 0) h.2
  exact ⟨h.1.1.1, h.1.1.2, h.1.2, this.1, by omega⟩
theorem MonOk.get {z : Int} {m : Mon} (h : MonOk z m) (k : Nat) : 0 ≤ m.2[k]?.getD 0 ∧ m.2[k]?.getD 0 ≤ 3 := by
  rcases Nat.lt_or_ge k m.2.length with hk | hk
  · simp [hk]; exact h.pw _ (List.getElem_mem hk)
  · simp [hk]
structure FieldOk (z : Int) (f : List (List Mon)) : Prop where
  lo : 1 ≤ z
  hi : z ≤ 3
  len : (f.length : Int) = z
  part : ∀ p ∈ f, partB z p = true
theorem fieldB_iff {z : Int} {f : List (List Mon)} : fieldB z f = true ↔ FieldOk z f := by
  unfold fieldB
  simp only [Bool.and_eq_true, decide_eq_true_eq, List.all_eq_true]
  exact ⟨fun ⟨⟨⟨a, b⟩, c⟩, d⟩ => ⟨a, b, c, d⟩, fun ⟨a, b, c, d⟩ => ⟨⟨⟨a, b⟩, c⟩, d⟩⟩
theorem partB_at {z : Int} {p : List Mon} (h : partB z p = true) {j : Nat} (hj : j < p.length) : MonOk z (p[j]?.getD (0, [])) ∧ (0 < j → ltL (p[j - 1]?.getD (0, [])).2 (p[j]?.getD (0, [])).2 = true) := by
  unfold partB at h
  have := (List.all_eq_true.1 h) j (by simpa using hj)
  unfold atB at this
  simp only [Bool.and_eq_true, Bool.or_eq_true, decide_eq_true_eq] at this
  exact ⟨monB_ok this.1, fun h0 => this.2.resolve_left (by omega)⟩
theorem partB_mem {z : Int} {p : List Mon} (h : partB z p = true) {m : Mon} (hm : m ∈ p) : MonOk z m := by
  obtain ⟨j, hj, rfl⟩ := List.getElem_of_mem hm
  have := (partB_at h hj).1
  simpa [hj] using this
/-- The value of a monomial at a point, up to the i-th variable; the sum over a part. -/
def tmF (y e : List Int) (x : Int) : Nat → Int
  | 0 => x
  | i + 1 => tmF y e x i * Go.Proofs.Ytdhnnpohpfjaiaa.pw (y[i]?.getD 0) (e[i]?.getD 0) % 10007
theorem tmF_N {y e : List Int} {x : Int} (h : isN x) : ∀ i, isN (tmF y e x i)
  | 0 => h
  | i + 1 => isN_mod _
def vsum (y : List Int) : List Mon → Int
  | [] => 0
  | m :: p => tmF y m.2 m.1 y.length + vsum y p
theorem vsum_app (y : List Int) (p q : List Mon) : vsum y (p ++ q) = vsum y p + vsum y q := by
  induction p with
  | nil => simp [vsum]
  | cons a p ih => simp [vsum, ih]; omega
theorem vsum_take {y : List Int} {p : List Mon} {i : Nat} (h : i < p.length) : vsum y (p.take (i + 1)) = vsum y (p.take i) + tmF y (p[i]?.getD (0, [])).2 (p[i]?.getD (0, [])).1 y.length := by
  rw [List.take_add_one, vsum_app]; simp [h, vsum]
theorem l13Point_c (z : Int) (y : List Int) (hl : y.length ≤ 9223372036854775807) : Con Try.prog 65 [.int z, .sl y.length (avs y)] (.bool (decide ((y.length : Int) = z) && numsB y)) := by
  refine con_of_vc Try.mixed ⟨5, [], [], []⟩ Try.func65 (by decide) rfl (by simp) (by decide) (by simp [freshOK, freshL, go_sem]) ?_
  rw [Try.ntmps65]
  simp [go_sem]
  by_cases h : (y.length : Int) = z
  · simp [go_sem, h]
    refine CallVC.of (l01Numbers_c y hl) (by decide) ?_
    simp [go_sem]
  · simp [go_sem, h]
set_option maxRecDepth 100000 in
theorem l13Value_c (p : List Mon) (y : List Int) (hy : Ns y) (hl : y.length ≤ 1000) (hp : p.length ≤ 1048576) (hm : ∀ m ∈ p, MonOk y.length m) :
    Con Try.prog 104 [.sl p.length (mons p), .sl y.length (avs y)] (.int (vsum y p % 10007)) := by
  refine con_of_vc Try.mixed ⟨9, [], [], []⟩ Try.func104 (by decide) rfl (by simp) (by decide) (by simp [freshOK, freshL, go_sem]) ?_
  rw [Try.ntmps104]
  simp [go_sem]
  refine loop_inv (5 :: 6 :: 7 :: 8 :: List.range' 9 35) (fun i : Nat => [(5, .int (vsum y (p.take i) % 10007)), (6, .int i)]) (fun i => i ≤ p.length) (fun i => p.length - i) 0 (by simp) (by simp [go_sem, vsum]) (by simp [go_sem]) ?_
  intro i hi
  simp [go_sem]
  refine ⟨fun h => ?_, fun h => ?_⟩ <;> simp at h
  · have hif := h
    have hx : p[i]?.getD (0, []) ∈ p := by simp [h]
    have ho := hm _ hx
    have hv := vsum_take (y := y) h
    simp [go_sem, mons_drop hif]
    refine ⟨⟨hif, by rintro rfl; simp at hif⟩, ?_⟩
    generalize hM : p[i]?.getD (0, []) = m at *
    have hml : m.2.length = y.length := by have := ho.len; omega
    have hx1 : isN m.1 := ⟨by have := ho.lo; omega, by have := ho.hi; omega⟩
    refine loop_inv (7 :: 8 :: List.range' 20 21) (fun k : Nat => [(7, .int (tmF y m.2 m.1 k)), (8, .int k)]) (fun k => k ≤ y.length) (fun k => y.length - k) 0 (by simp) (by simp [go_sem, tmF]) (by simp [go_sem]) ?_
    intro k hk
    simp [go_sem]
    refine ⟨fun h => ?_, fun h => ?_⟩ <;> simp at h
    · have hk2 : k < m.2.length := by omega
      have g := ho.get k
      simp [go_sem, mons_drop hif, hM, avs_drop h, avs_drop hk2]
      refine ⟨by kernel_rfl, ⟨h, by rintro rfl; simp at h⟩, ⟨hif, by rintro rfl; simp at hif⟩, ⟨hk2, fun e => by rw [e] at hk2; simp at hk2⟩, ?_⟩
      refine CallD.of (l01Pow_c _ _ (hy.get k) g.1 (by omega)) (by simp [roots, rootsL]) (by decide) ?_
      simp [go_sem]
      refine CallD.of (l01Mul_c _ _ (mul_fits (tmF_N hx1 k) (isN_mod _))) (by simp [roots, rootsL]) (by decide) ?_
      simp [go_sem]
      refine ⟨by kernel_rfl, ?_⟩
      simp [go_sem]
      refine ⟨by omega, k + 1, by omega, by omega, Off_reset _ _ _ (by simp), by simp [tmF], by omega⟩
    · have e : k = y.length := by omega
      subst e
      simp [go_sem]
      refine CallVC.of (l01Add_c _ _ (add_fits (isN_mod _) (tmF_N hx1 _))) (by decide) ?_
      simp [go_sem]
      refine ⟨by omega, i + 1, by omega, by omega, (Off.reset (by intro x hx; simp at hx ⊢; omega) (by simp) (by simp [go_sem, Off_reset])), ?_, by omega⟩
      rw [hv]
  · simp [go_sem]
    have e : i = p.length := by omega
    subst e; simp
/-- The values of a field. -/
def evL (y : List Int) (f : List (List Mon)) : List Int := f.map fun p => vsum y p % 10007
@[simp] theorem evL_len (y : List Int) (f : List (List Mon)) : (evL y f).length = f.length := by simp [evL]
theorem evL_take {y : List Int} {f : List (List Mon)} {i : Nat} (h : i < f.length) : evL y (f.take (i + 1)) = evL y (f.take i) ++ [vsum y (f[i]?.getD []) % 10007] := by
  rw [evL, evL, List.take_add_one, List.map_append, List.getElem?_eq_getElem h]; rfl
theorem l13Field_c (z : Int) (f : List (List Mon)) (y : List Int) (hf : FieldOk z f) (hs : Small f) (hy : Ns y) (hl : (y.length : Int) = z) :
    Con Try.prog 66 [.agg [.int z, .sl f.length (prt f)], .sl y.length (avs y)] (.own 2 f.length (avs (evL y f))) := by
  have fl := hs.1
  have z3 := hf.hi
  refine con_of_vc Try.mixed ⟨7, [], [], []⟩ Try.func66 (by decide) rfl (by simp) (by decide) (by simp [freshOK, freshL, go_sem]) ?_
  rw [Try.ntmps66]
  simp [go_sem]
  refine loop_inv (5 :: 6 :: List.range' 8 17) (fun i : Nat => [(5, .own 2 i (avs (evL y (f.take i)))), (6, .int i)]) (fun i => i ≤ f.length) (fun i => f.length - i) 0 (by simp) (by simp [go_sem, evL]) (by simp [go_sem]) ?_
  intro i hi
  simp [go_sem]
  refine ⟨fun h => ?_, fun h => ?_⟩ <;> simp at h
  · have hif := h
    have hx : f[i]?.getD [] ∈ f := by simp [h]
    have hv := evL_take (y := y) h
    simp [go_sem, prt_drop hif]
    refine ⟨⟨hif, by rintro rfl; simp at hif⟩, ?_⟩
    refine CallVC.of (l13Value_c _ y hy (by omega) (hs.2 _ hx).1 (fun m hm => by rw [hl]; exact partB_mem (hf.part _ hx) hm)) (by decide) ?_
    simp [go_sem]
    refine ⟨by omega, by omega, i + 1, by omega, by omega, Off_reset _ _ _ (by simp), ?_, by omega⟩
    rw [hv]; simp [avs_snoc, Nat.min_eq_left hi]
  · simp [go_sem]
    have e : i = f.length := by omega
    subst e; simp
def evX (z : Int) (f : List (List Mon)) (y : List Int) : List Int := if fieldB z f = true ∧ (decide ((y.length : Int) = z) && numsB y) = true then evL y f else []
def evE (z : Int) (f : List (List Mon)) (y : List Int) : Int := if fieldB z f = true then if (decide ((y.length : Int) = z) && numsB y) = true then 0 else 2 else 1
def evR (z : Int) (f : List (List Mon)) (y : List Int) : AV := .tup [.own 2 (evX z f y).length (avs (evX z f y)), .int (evE z f y)]
theorem specEvaluateField_c (z : Int) (f : List (List Mon)) (y : List Int) (hs : Small f) (hy : y.length ≤ 9223372036854775807) :
    Con Try.prog 29 [.agg [.int z, .sl f.length (prt f)], .sl y.length (avs y)] (evR z f y) := by
  have cT := l13Is_c z f hs
  have cR := l13Point_c z y hy
  unfold evR evX evE
  cases hT : fieldB z f with
  | false =>
    rw [hT] at cT
    refine Con.n1 _ ?_
    refine con_of_vc Try.mixed ⟨6, [], [], []⟩ Try.func29 (by decide) rfl (by simp) (by decide) (by simp [freshOK, freshL, go_sem]) ?_
    rw [Try.ntmps29]
    simp [go_sem]
    refine CallVC.of (cT) (by decide) ?_
    simp [go_sem]
  | true =>
    rw [hT] at cT
    cases hn : (decide ((y.length : Int) = z) && numsB y) with
    | true =>
      rw [hn] at cR
      simp only [and_self, if_true, evL_len]
      have hn2 : (y.length : Int) = z ∧ numsB y = true := by simpa using hn
      refine con_of_vc Try.mixed ⟨6, [], [], []⟩ Try.func29 (by decide) rfl (by simp) (by decide) (by simp [freshOK, freshL, go_sem]) ?_
      rw [Try.ntmps29]
      simp [go_sem]
      refine CallVC.of (cT) (by decide) ?_
      simp [go_sem]
      refine CallVC.of (cR) (by decide) ?_
      simp [go_sem]
      refine CallVC.of (l13Field_c z f y (fieldB_iff.1 hT) hs (numsB_N.1 hn2.2) hn2.1) (by decide) ?_
      simp [go_sem]
    | false =>
      rw [hn] at cR
      refine Con.n1 _ ?_
      refine con_of_vc Try.mixed ⟨6, [], [], []⟩ Try.func29 (by decide) rfl (by simp) (by decide) (by simp [freshOK, freshL, go_sem]) ?_
      rw [Try.ntmps29]
      simp [go_sem]
      refine CallVC.of (cT) (by decide) ?_
      simp [go_sem]
      refine CallVC.of (cR) (by decide) ?_
      simp [go_sem]
end Go.Proofs.Ytdhnnpohpfjaiaa
