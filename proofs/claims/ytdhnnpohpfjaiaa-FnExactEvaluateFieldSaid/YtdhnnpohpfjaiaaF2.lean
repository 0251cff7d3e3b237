/- Fields: the reference's test and values. -/
import Derived.Test.YtdhnnpohpfjaiaaF1
namespace Go.Proofs.Ytdhnnpohpfjaiaa
open Go.Abs
set_option linter.unusedVariables false
set_option linter.unusedSimpArgs false
set_option maxHeartbeats 1000000
theorem avs_at' {xs : List Int} {k : Nat} (h : k < xs.length) : (avs xs)[k]? = some (AV.val (.int .i64 (xs[k]?.getD 0))) := by simp [avs, h]
/-- The order of the dictionary. -/
def ltL : List Int → List Int → Bool
  | _, [] => false
  | [], _ :: _ => true
  | x :: xs, y :: ys => if x = y then ltL xs ys else decide (x < y)
theorem ltL_at : ∀ {a b : List Int} {i : Nat}, i < a.length → i < b.length → a.take i = b.take i → a[i]?.getD 0 ≠ b[i]?.getD 0 → ltL a b = decide (a[i]?.getD 0 < b[i]?.getD 0)
  | x :: a, y :: b, 0, _, _, _, h => by
    simp at h
    simp [ltL, h]
  | x :: a, y :: b, i + 1, h1, h2, h3, h4 => by
    simp at h3
    simp only [ltL, if_pos h3.1]
    simpa using ltL_at (a := a) (b := b) (i := i) (by simpa using h1) (by simpa using h2) h3.2 (by simpa using h4)
theorem ltL_end : ∀ {a b : List Int} {i : Nat}, a.take i = b.take i → i ≤ a.length → i ≤ b.length → (a.length ≤ i ∨ b.length ≤ i) → ltL a b = decide (a.length < b.length)
  | _, [], i, _, _, _, _ => by simp [ltL]
  | [], _ :: _, i, _, _, _, _ => by simp [ltL]
  | x :: a, y :: b, 0, _, h1, h2, h3 => by simp at h3
  | x :: a, y :: b, i + 1, h, h1, h2, h3 => by
    simp at h
    simp only [ltL, if_pos h.1]
    have := ltL_end (a := a) (b := b) (i := i) h.2 (by simpa using h1) (by simpa using h2) (by simpa using h3)
    rw [this]; simp
theorem take_ext {a b : List Int} {i : Nat} (h1 : i < a.length) (h2 : i < b.length) (h : a.take i = b.take i) (e : a[i]?.getD 0 = b[i]?.getD 0) : a.take (i + 1) = b.take (i + 1) := by
  rw [List.getElem?_eq_getElem h1, List.getElem?_eq_getElem h2] at e
  simp at e
  rw [List.take_add_one, List.take_add_one, h, List.getElem?_eq_getElem h1, List.getElem?_eq_getElem h2, e]
set_option maxRecDepth 100000 in
theorem l01Less_c (a b : List Int) (ha : a.length ≤ 9223372036854775807) (hb : b.length ≤ 9223372036854775807) : Con Try.prog 103 [.sl a.length (avs a), .sl b.length (avs b)] (.bool (ltL a b)) := by
  refine con_of_vc Try.mixed ⟨6, [], [], []⟩ Try.func103 (by decide) rfl (by simp) (by decide) (by simp [freshOK, freshL, go_sem]) ?_
  rw [Try.ntmps103]
  simp [go_sem]
  refine loop_inv (4 :: 5 :: List.range' 6 30) (fun i : Nat => [(5, .int i)]) (fun i => i ≤ a.length ∧ i ≤ b.length ∧ a.take i = b.take i) (fun i => a.length - i) 0 (by simp) (by simp [go_sem]) (by simp [go_sem]) ?_
  rintro i ⟨hi, hj, he⟩
  by_cases h1 : i < a.length
  · by_cases h2 : i < b.length
    · have h1' : (i : Int) < a.length := by omega
      have h2' : (i : Int) < b.length := by omega
      by_cases hd : a[i]?.getD 0 = b[i]?.getD 0
      · simp [go_sem, h1, h2, h1', h2', avs_drop h1, avs_drop h2, hd]
        refine ⟨by kernel_rfl, by rintro rfl; simp at h1, by rintro rfl; simp at h2, ?_⟩
        have hd2 : a[i] = b[i] := by simpa [h1, h2] using hd
        refine ⟨by kernel_rfl, ?_⟩
        simp [go_sem]
        simp [go_sem, hd2]
        refine ⟨by omega, i + 1, ⟨by omega, by omega, take_ext h1 h2 he hd⟩, by omega, Off_reset _ _ _ (by simp), by omega⟩
      · simp [go_sem, h1, h2, h1', h2', avs_drop h1, avs_drop h2, hd]
        refine ⟨by kernel_rfl, by rintro rfl; simp at h1, by rintro rfl; simp at h2, ?_⟩
        have hd2 : ¬ a[i] = b[i] := by simpa [h1, h2] using hd
        refine ⟨by kernel_rfl, ?_⟩
        simp [go_sem]
        simp [go_sem, hd2, avs_drop h1, avs_drop h2]
        refine ⟨by kernel_rfl, ⟨h1, by rintro rfl; simp at h1⟩, ⟨h2, by rintro rfl; simp at h2⟩, ?_⟩
        refine ⟨by kernel_rfl, ?_⟩
        simp [go_sem]
        rw [ltL_at h1 h2 he hd]
    · have h2' : ¬ (i : Int) < b.length := by omega
      simp [go_sem, h1, h2, h2']
      rw [ltL_end he hi hj (.inr (by omega))]
  · simp [go_sem, h1]
    rw [ltL_end he hi hj (.inl (by omega))]
def degL : List Int → Int → Int
  | [], s => s
  | x :: xs, s => if x < 0 ∨ 100 < x then 1000 else degL xs (s + x)
set_option maxRecDepth 100000 in
theorem l13Degree_c (a : List Int) (ha : a.length ≤ 1048576) : Con Try.prog 102 [.sl a.length (avs a)] (.int (degL a 0)) := by
  refine con_of_vc Try.mixed ⟨5, [], [], []⟩ Try.func102 (by decide) rfl (by simp) (by decide) (by simp [freshOK, freshL, go_sem]) ?_
  rw [Try.ntmps102]
  simp [go_sem]
  refine loop_inv (2 :: 3 :: 4 :: List.range' 5 24) (fun x : Nat × Int => [(3, .int x.2), (4, .int x.1)]) (fun x => x.1 ≤ a.length ∧ 0 ≤ x.2 ∧ x.2 ≤ 100 * x.1 ∧ degL (a.drop x.1) x.2 = degL a 0) (fun x => a.length - x.1) (0, 0) (by simp) (by simp [go_sem]) (by simp [go_sem]) ?_
  rintro ⟨i, s⟩ ⟨hi, hs0, hs1, he⟩
  simp only at hi hs0 hs1 he
  simp [go_sem]
  refine ⟨fun h => ?_, fun h => ?_⟩ <;> simp at h
  · have hd : a.drop i = a[i]?.getD 0 :: a.drop (i + 1) := by rw [List.drop_eq_getElem_cons h]; simp [h]
    rw [hd, degL] at he
    by_cases b1 : a[i]?.getD 0 < 0
    · simp [go_sem, avs_drop h, b1]
      rw [if_pos (.inl b1)] at he
      exact ⟨⟨h, by rintro rfl; simp at h⟩, he⟩
    · by_cases b2 : 100 < a[i]?.getD 0
      · simp [go_sem, avs_drop h, b1, b2]
        rw [if_pos (.inr b2)] at he
        exact ⟨⟨h, by rintro rfl; simp at h⟩, he⟩
      · simp [go_sem, avs_drop h, b1, b2]
        rw [if_neg (by omega)] at he
        refine ⟨⟨h, by rintro rfl; simp at h⟩, by omega, by omega, i + 1, _, ⟨by omega, by omega, by omega, he⟩, by omega, Off_reset _ _ _ (by simp), rfl, by omega⟩
  · simp [go_sem]
    rw [List.drop_eq_nil_of_le h] at he
    exact he
/-- That a monomial is one of z variables; that a part's j-th one is and stands behind the one before. -/
def monB (z : Int) (m : Mon) : Bool := decide (1 ≤ m.1 ∧ m.1 ≤ 10006) && decide ((m.2.length : Int) = z) && decide (degL m.2 0 ≤ 3)
def atB (z : Int) (p : List Mon) (j : Nat) : Bool := monB z (p[j]?.getD (0, [])) && (decide (j = 0) || ltL (p[j - 1]?.getD (0, [])).2 (p[j]?.getD (0, [])).2)
def partB (z : Int) (p : List Mon) : Bool := (List.range p.length).all (atB z p)
def fieldB (z : Int) (f : List (List Mon)) : Bool := decide (1 ≤ z ∧ z ≤ 3) && decide ((f.length : Int) = z) && f.all (partB z)
theorem partB_no {z : Int} {p : List Mon} {j : Nat} (hj : j < p.length) (h : atB z p j = false) : partB z p = false := by
  unfold partB; rw [List.all_eq_false]; exact ⟨j, by simpa using hj, by simp [h]⟩
theorem partB_yes {z : Int} {p : List Mon} (h : ∀ j, j < p.length → atB z p j = true) : partB z p = true := by
  unfold partB; rw [List.all_eq_true]; intro j hj; exact h j (by simpa using hj)
theorem fieldB_no {z : Int} {f : List (List Mon)} {i : Nat} (hi : i < f.length) (h : partB z (f[i]?.getD []) = false) : fieldB z f = false := by
  unfold fieldB
  have : f.all (partB z) = false := by rw [List.all_eq_false]; exact ⟨f[i]?.getD [], by simp [hi], by simp [h]⟩
  rw [this]; simp
/-- That a field's lengths are small. -/
def Small (f : List (List Mon)) : Prop := f.length ≤ 1048576 ∧ ∀ p ∈ f, p.length ≤ 1048576 ∧ ∀ q ∈ p, q.2.length ≤ 1048576
set_option maxRecDepth 100000 in
theorem l13Is_c (z : Int) (f : List (List Mon)) (hf : Small f) : Con Try.prog 64 [.agg [.int z, .sl f.length (prt f)]] (.bool (fieldB z f)) := by
  have fl := hf.1
  refine con_of_vc Try.mixed ⟨6, [], [], []⟩ Try.func64 (by decide) rfl (by simp) (by decide) (by simp [freshOK, freshL, go_sem]) ?_
  rw [Try.ntmps64]
  simp [go_sem]
  refine CallVC.of (l01In_c z 1 3) (by decide) ?_
  simp [go_sem]
  by_cases hz : 1 ≤ z ∧ z ≤ 3
  · by_cases hl : (f.length : Int) = z
    · have fine : fieldB z f = f.all (partB z) := by unfold fieldB; simp [hz, hl]
      simp [go_sem, hz.1, hz.2, hl]
      refine loop_inv (2 :: 3 :: 4 :: 5 :: List.range' 18 61) (fun i : Nat => [(3, .int i)]) (fun i => i ≤ f.length ∧ ∀ p ∈ f.take i, partB z p = true) (fun i => f.length - i) 0 (by simp) (by simp [go_sem]) (by simp [go_sem]) ?_
      rintro i ⟨hi, hp⟩
      simp [go_sem]
      refine ⟨fun h => ?_, fun h => ?_⟩ <;> simp at h
      · have hx : f[i]?.getD [] ∈ f := by simp [h]
        obtain ⟨hm1, hm2⟩ := hf.2 _ hx
        simp [go_sem]
        refine loop_inv (2 :: 4 :: 5 :: List.range' 25 54) (fun j : Nat => [(4, .int j)]) (fun j => j ≤ (f[i]?.getD []).length ∧ ∀ k, k < j → atB z (f[i]?.getD []) k = true) (fun j => (f[i]?.getD []).length - j) 0 (by simp) (by simp [go_sem]) (by simp [go_sem]) ?_
        rintro j ⟨hj, hq⟩
        have hif := h
        simp [go_sem, prt_drop hif]
        refine ⟨⟨hif, by rintro rfl; simp at hif⟩, ?_⟩
        generalize hP : f[i]?.getD [] = P at *
        refine ⟨fun h => ?_, fun h => ?_⟩ <;> simp at h
        · have hy : P[j]?.getD (0, []) ∈ P := by simp [h]
          have hm := hm2 _ hy
          have hno : atB z P j = false → fieldB z f = false := fun hh => fieldB_no hif (by rw [hP]; exact partB_no h hh)
          simp [go_sem, prt_drop hif, hP, mons_drop h]
          refine ⟨⟨hif, by rintro rfl; simp at hif⟩, ⟨h, by rintro rfl; simp at h⟩, ?_⟩
          generalize hM : P[j]?.getD (0, []) = m at *
          have cD := l13Degree_c m.2 hm
          refine CallVC.of (l01In_c _ _ _) (by decide) ?_
          by_cases c1 : 1 ≤ m.1 ∧ m.1 ≤ 10006
          · by_cases c2 : (m.2.length : Int) = z
            · simp [go_sem, c1.1, c1.2, c2]
              refine CallVC.of (cD) (by decide) ?_
              by_cases c3 : degL m.2 0 ≤ 3
              · have c3' : ¬ 3 < degL m.2 0 := by omega
                have hmb : monB z m = true := by unfold monB; simp [c1, c2, c3]
                simp [go_sem, c3']
                refine ⟨by kernel_rfl, ?_⟩
                by_cases j0 : 0 < j
                · have hk : j - 1 < P.length := by omega
                  have ek : (j : Int) - 1 = ((j - 1 : Nat) : Int) := by omega
                  have hyk : P[j - 1]?.getD (0, []) ∈ P := by simp [hk]
                  have hmk := hm2 _ hyk
                  have cL := l01Less_c (P[j - 1]?.getD (0, [])).2 m.2 (by omega) (by omega)
                  have hat : atB z P j = ltL (P[j - 1]?.getD (0, [])).2 m.2 := by unfold atB; rw [hM, hmb, decide_eq_false (by omega : ¬ j = 0)]; simp
                  simp [go_sem, j0, ek, prt_drop hif, hP, mons_drop hk]
                  generalize (P[j - 1]?.getD (0, [])).2 = pw0 at *
                  refine ⟨⟨hif, by rintro rfl; simp at hif⟩, by omega, ⟨hk, by rintro rfl; simp at h⟩, ?_⟩
                  generalize hL : ltL pw0 m.2 = bb at *
                  refine CallD.of (cL) (by simp [roots, rootsL]) (by decide) ?_
                  simp [go_sem]
                  cases bb with
                  | false =>
                    simp [go_sem]
                    refine ⟨by kernel_rfl, ?_⟩
                    simp [go_sem]
                    rw [hno hat]
                  | true =>
                    simp [go_sem]
                    refine ⟨by kernel_rfl, ?_⟩
                    simp [go_sem]
                    refine ⟨by omega, j + 1, ⟨by omega, fun k hk2 => ?_⟩, by omega, Off_reset _ _ _ (by simp), by omega⟩
                    by_cases e : k = j
                    · rw [e]; exact hat
                    · exact hq k (by omega)
                · simp [go_sem, j0]
                  refine ⟨by kernel_rfl, ?_⟩
                  simp [go_sem]
                  have hat : atB z P j = true := by unfold atB; rw [hM, hmb, decide_eq_true (by omega : j = 0)]; rfl
                  refine ⟨by omega, j + 1, ⟨by omega, fun k hk2 => ?_⟩, by omega, Off_reset _ _ _ (by simp), by omega⟩
                  by_cases e : k = j
                  · rw [e]; exact hat
                  · exact hq k (by omega)
              · have c3' : 3 < degL m.2 0 := by omega
                simp [go_sem, c3']
                rw [hno (by unfold atB monB; rw [hM, decide_eq_false c3]; simp)]
            · simp [go_sem, c1.1, c1.2, c2]
              rw [hno (by unfold atB monB; simp [hM, c2])]
          · have c1' : (decide (1 ≤ m.1) && decide (m.1 ≤ 10006)) = false := by simpa using c1
            rw [c1']
            simp [go_sem]
            rw [hno (by unfold atB monB; rw [hM, decide_eq_false c1]; simp)]
        · simp [go_sem]
          have hpb : partB z P = true := partB_yes (fun k hk => hq k (by omega))
          refine ⟨by omega, i + 1, ⟨by omega, take_all hif hp (by rw [← hP] at hpb; simpa [hif] using hpb)⟩, by omega, (Off.reset (by intro x hx; simp at hx ⊢; omega) (by simp) (by simp [go_sem, Off_reset])), by omega⟩
      · simp [go_sem]
        rw [List.take_of_length_le h] at hp
        rw [fine, List.all_eq_true.2 hp]
    · simp [go_sem, hz.1, hz.2, hl]
      unfold fieldB; simp [hl]
  · have hz' : (decide (1 ≤ z) && decide (z ≤ 3)) = false := by simpa using hz
    rw [hz']
    simp [go_sem]
    unfold fieldB; rw [decide_eq_false hz]; simp
end Go.Proofs.Ytdhnnpohpfjaiaa
