/- Texts of the own layer and contracts, part 7: F4 F5 F6 P1 P2 P3 P4 P5 P6 F7 Q0 G0 G1 Q1 Q2 L3 Q9 B3 C3 B4 B5 B6 B7 B8 B9 B10 B11 B12 B13 B14 Q10 Q11 Q12 Q13. -/
import Derived.Test.YtoamidolomldnaaM6
/- Fields: the program's test. -/
namespace Go.Proofs.Ytoamidolomldnaa
open Go.Abs
set_option linter.unusedVariables false
set_option linter.unusedSimpArgs false
set_option maxHeartbeats 1000000
def cmpI (x y : Int) : Int := if x < y then -1 else if y < x then 1 else 0
theorem isNaN_c (x : Int) : Con Try.prog 273 [.int x] (.bool false) := by
  refine con_of_vc Try.mixed ⟨3, [], [], []⟩ Try.func273 (by decide) rfl (by simp) (by decide) (by simp [freshOK, freshL, go_sem]) ?_
  rw [Try.ntmps273]
  simp [go_sem]
theorem Compare1_c (x y : Int) : Con Try.prog 259 [.int x, .int y] (.int (cmpI x y)) := by
  refine con_of_vc Try.mixed ⟨7, [], [], []⟩ Try.func259 (by decide) rfl (by simp) (by decide) (by simp [freshOK, freshL, go_sem]) ?_
  rw [Try.ntmps259]
  simp [go_sem]
  refine CallVC.of (isNaN_c _) (by decide) ?_
  simp [go_sem]
  refine CallVC.of (isNaN_c _) (by decide) ?_
  simp [go_sem]
  unfold cmpI
  by_cases h1 : x < y
  · simp [go_sem, h1]
  · by_cases h2 : y < x
    · simp [go_sem, h1, h2]
    · simp [go_sem, h1, h2]
def cmpL : List Int → List Int → Int
  | [], [] => 0
  | [], _ :: _ => -1
  | _ :: _, [] => 1
  | x :: xs, y :: ys => if x = y then cmpL xs ys else cmpI x y
theorem cmpI_ne {x y : Int} (h : x ≠ y) : cmpI x y ≠ 0 := by unfold cmpI; split; omega; split <;> omega
theorem cmpL_lt : ∀ a b : List Int, decide (0 ≤ cmpL a b) = !ltL a b
  | [], [] => by simp [cmpL, ltL]
  | [], _ :: _ => by simp [cmpL, ltL]
  | _ :: _, [] => by simp [cmpL, ltL]
  | x :: xs, y :: ys => by
    rw [cmpL, ltL]
    by_cases h : x = y
    · rw [if_pos h, if_pos h]; exact cmpL_lt xs ys
    · rw [if_neg h, if_neg h]
      unfold cmpI
      by_cases h1 : x < y
      · simp [h1]
      · have : y < x := by omega
        simp [h1, this]
theorem cmpL_at : ∀ {a b : List Int} {i : Nat}, i < a.length → i < b.length → a.take i = b.take i → a[i]?.getD 0 ≠ b[i]?.getD 0 → cmpL a b = cmpI (a[i]?.getD 0) (b[i]?.getD 0)
  | x :: a, y :: b, 0, _, _, _, h => by
    simp at h
    simp [cmpL, h]
  | x :: a, y :: b, i + 1, h1, h2, h3, h4 => by
    simp at h3
    simp only [cmpL, if_pos h3.1]
    simpa using cmpL_at (a := a) (b := b) (i := i) (by simpa using h1) (by simpa using h2) h3.2 (by simpa using h4)
theorem cmpL_more : ∀ {a b : List Int} {i : Nat}, i < a.length → b.length ≤ i → a.take b.length = b → cmpL a b = 1
  | x :: a, [], _, _, _, _ => by simp [cmpL]
  | x :: a, y :: b, 0, _, h, _ => by simp at h
  | x :: a, y :: b, i + 1, h1, h2, h3 => by
    simp at h3
    simp only [cmpL, if_pos h3.1]
    exact cmpL_more (a := a) (b := b) (i := i) (by simpa using h1) (by simpa using h2) h3.2
theorem cmpL_end : ∀ {a b : List Int}, a = b.take a.length → cmpL a b = if a.length < b.length then -1 else 0
  | [], [], _ => by simp [cmpL]
  | [], _ :: _, _ => by simp [cmpL]
  | x :: a, [], h => by simp at h
  | x :: a, y :: b, h => by
    simp at h
    simp only [cmpL, if_pos h.1]
    rw [cmpL_end h.2]; simp
set_option maxRecDepth 100000 in
theorem Compare_c (a b : List Int) (ha : a.length ≤ 9223372036854775807) (hb : b.length ≤ 9223372036854775807) : Con Try.prog 228 [.sl a.length (avs a), .sl b.length (avs b)] (.int (cmpL a b)) := by
  refine con_of_vc Try.mixed ⟨9, [], [], []⟩ Try.func228 (by decide) rfl (by simp) (by decide) (by simp [freshOK, freshL, go_sem]) ?_
  rw [Try.ntmps228]
  simp [go_sem]
  refine loop_inv (4 :: 5 :: 6 :: 7 :: 8 :: List.range' 11 20) (fun i : Nat => [(11, .int i)]) (fun i => i ≤ a.length ∧ i ≤ b.length ∧ a.take i = b.take i) (fun i => a.length - i) 0 (by simp) (by simp [go_sem]) (by simp [go_sem]) ?_
  rintro i ⟨hi, hj, he⟩
  simp [go_sem]
  refine ⟨fun h => ?_, fun h => ?_⟩ <;> simp at h
  · have h1 := h
    simp [go_sem, avs_drop h1]
    refine ⟨⟨h1, by rintro rfl; simp at h1⟩, ?_⟩
    by_cases h2 : i < b.length
    · have h2' : ¬ (b.length ≤ i) := by omega
      simp [go_sem, h2', avs_drop h2]
      refine ⟨⟨h2, by rintro rfl; simp at h2⟩, ?_⟩
      refine CallVC.of (Compare1_c _ _) (by decide) ?_
      simp [go_sem]
      by_cases hd : a[i]?.getD 0 = b[i]?.getD 0
      · have hc : cmpI (a[i]?.getD 0) (b[i]?.getD 0) = 0 := by unfold cmpI; rw [if_neg (by omega), if_neg (by omega)]
        simp [go_sem, hc]
        refine ⟨by omega, i + 1, ⟨by omega, by omega, take_ext h1 h2 he hd⟩, by omega, Off_reset _ _ _ (by simp), by omega⟩
      · have hc := cmpI_ne hd
        simp [go_sem, hc]
        rw [cmpL_at h1 h2 he hd]
    · have h2' : b.length ≤ i := by omega
      have e : i = b.length := by omega
      simp [go_sem, h2']
      rw [cmpL_more h1 h2' (by rw [← e, he, e, List.take_length])]
  · simp [go_sem]
    have e : i = a.length := by omega
    subst e
    rw [List.take_length] at he
    rw [cmpL_end he]
    by_cases h3 : a.length < b.length
    · simp [go_sem, h3]
    · simp [go_sem, h3]
theorem degL_big {xs : List Int} {s : Int} (h : 3 < s) : ¬ degL xs s ≤ 3 := by
  intro hd
  have := degL_le (by omega : 0 ≤ s) hd
  have pos : ∀ (l : List Int), (∀ x ∈ l, 0 ≤ x ∧ x ≤ 3) → 0 ≤ l.sum := by
    intro l
    induction l with
    | nil => simp
    | cons a l ih => intro h; have h1 := h a (by simp); have h2 := ih (fun x hx => h x (by simp [hx])); simp; omega
  have := pos xs this.1
  omega
set_option maxRecDepth 100000 in
theorem isMonomial_c (z : Int) (m : Mon) (hl : m.2.length ≤ 1048576) : Con Try.prog 227 [.agg [.int m.1, .sl m.2.length (avs m.2)], .int z] (.bool (monB z m)) := by
  refine con_of_vc Try.mixed ⟨8, [], [], []⟩ Try.func227 (by decide) rfl (by simp) (by decide) (by simp [freshOK, freshL, go_sem]) ?_
  rw [Try.ntmps227]
  simp [go_sem]
  refine loop_inv (4 :: 5 :: 7 :: List.range' 11 11) (fun x : Nat × Int => [(5, .int x.2), (11, .int x.1)]) (fun x => x.1 ≤ m.2.length ∧ 0 ≤ x.2 ∧ x.2 ≤ 3 * x.1 ∧ degL (m.2.drop x.1) x.2 = degL m.2 0) (fun x => m.2.length - x.1) (0, 0) (by simp) (by simp [go_sem]) (by simp [go_sem]) ?_
  rintro ⟨i, s⟩ ⟨hi, hs0, hs1, he⟩
  simp only at hi hs0 hs1 he
  simp [go_sem]
  refine ⟨fun h => ?_, fun h => ?_⟩ <;> simp at h
  · have hd : m.2.drop i = m.2[i]?.getD 0 :: m.2.drop (i + 1) := by rw [List.drop_eq_getElem_cons h]; simp [h]
    simp [go_sem, avs_drop h]
    refine ⟨⟨h, fun e => by rw [e] at h; simp at h⟩, ?_⟩
    refine CallVC.of (inRange_c _ _ _) (by decide) ?_
    by_cases hx : 0 ≤ m.2[i]?.getD 0 ∧ m.2[i]?.getD 0 ≤ 3
    · simp [go_sem, hx.1, hx.2]
      rw [hd, degL, if_neg (by omega)] at he
      refine ⟨by omega, by omega, i + 1, _, ⟨by omega, by omega, by omega, he⟩, by omega, Off_reset _ _ _ (by simp), rfl, by omega⟩
    · have hx' : (decide (0 ≤ m.2[i]?.getD 0) && decide (m.2[i]?.getD 0 ≤ 3)) = false := by simpa using hx
      have hm : monB z m = false := by
        have : ¬ degL m.2 0 ≤ 3 := by
          rw [← he, hd, degL]
          split
          · omega
          · exact degL_big (by omega)
        unfold monB; rw [decide_eq_false this]; simp
      rw [hx']
      simp [go_sem]
      rw [hm]
  · simp [go_sem]
    rw [List.drop_eq_nil_of_le h, degL] at he
    subst he
    by_cases c0 : m.1 = 0
    · simp [go_sem, c0]
      unfold monB; simp [c0]
    · simp [go_sem, c0]
      refine CallVC.of (IsNumber_c _) (by decide) ?_
      simp [go_sem]
      by_cases c1 : 0 ≤ m.1 ∧ m.1 ≤ 10006
      · simp [go_sem, c1.1, c1.2]
        refine CallVC.of (length_c _ _ (by omega)) (by decide) ?_
        simp [go_sem]
        by_cases c2 : (m.2.length : Int) = z
        · simp [go_sem, c2]
          unfold monB
          have : 1 ≤ m.1 := by omega
          simp [this, c1.2, c2]
        · simp [go_sem, c2]
          unfold monB; simp [c2]
      · have c1' : (decide (0 ≤ m.1) && decide (m.1 ≤ 10006)) = false := by simpa using c1
        rw [c1']
        simp [go_sem]
        have : ¬ (1 ≤ m.1 ∧ m.1 ≤ 10006) := by omega
        unfold monB; rw [decide_eq_false this]; simp
theorem lengthP_c (n : Nat) (cs : List AV) (hn : n ≤ 9223372036854775807) : Con Try.prog 226 [.sl n cs] (.int n) := by
  refine con_of_vc Try.mixed ⟨3, [], [], []⟩ Try.func226 (by decide) rfl (by simp) (by decide) (by simp [freshOK, freshL, go_sem]) ?_
  rw [Try.ntmps226]
  simp [go_sem]
  try omega
set_option maxRecDepth 100000 in
theorem IsField_c (z : Int) (f : List (List Mon)) (hf : Small f) : Con Try.prog 153 [.agg [.int z, .sl f.length (prt f)]] (.bool (fieldB z f)) := by
  have fl := hf.1
  refine con_of_vc Try.mixed ⟨7, [], [], []⟩ Try.func153 (by decide) rfl (by simp) (by decide) (by simp [freshOK, freshL, go_sem]) ?_
  rw [Try.ntmps153]
  simp [go_sem]
  refine ⟨by kernel_rfl, ?_⟩
  refine CallD.of (inRange_c z 1 3) (by simp [roots, rootsL]) (by decide) ?_
  simp [go_sem]
  by_cases hz : 1 ≤ z ∧ z ≤ 3
  · have cl := lengthP_c f.length (prt f) (by omega)
    by_cases hl : (f.length : Int) = z
    · have fine : fieldB z f = f.all (partB z) := by unfold fieldB; simp [hz, hl]
      simp [go_sem, hz.1, hz.2]
      refine CallD.of (cl) (by simp [roots, rootsL]) (by decide) ?_
      simp [go_sem]
      simp [go_sem, hl]
      refine ⟨by kernel_rfl, ?_⟩
      simp [go_sem]
      refine loop_inv (2 :: 4 :: 5 :: 6 :: List.range' 22 34) (fun i : Nat => [(22, .int i)]) (fun i => i ≤ f.length ∧ ∀ p ∈ f.take i, partB z p = true) (fun i => f.length - i) 0 (by simp) (by simp [go_sem]) (by simp [go_sem]) ?_
      rintro i ⟨hi, hp⟩
      simp [go_sem]
      refine ⟨fun h => ?_, fun h => ?_⟩ <;> simp at h
      · have hif := h
        have hx : f[i]?.getD [] ∈ f := by simp [h]
        obtain ⟨hm1, hm2⟩ := hf.2 _ hx
        simp [go_sem, prt_drop hif]
        refine ⟨⟨hif, by rintro rfl; simp at hif⟩, ?_⟩
        generalize hP : f[i]?.getD [] = P at *
        refine loop_inv (2 :: 5 :: 6 :: List.range' 28 27) (fun j : Nat => [(28, .int j)]) (fun j => j ≤ P.length ∧ ∀ k, k < j → atB z P k = true) (fun j => P.length - j) 0 (by simp) (by simp [go_sem]) (by simp [go_sem]) ?_
        rintro j ⟨hj, hq⟩
        simp [go_sem]
        refine ⟨fun h => ?_, fun h => ?_⟩ <;> simp at h
        · have hy : P[j]?.getD (0, []) ∈ P := by simp [h]
          have hm := hm2 _ hy
          have hno : atB z P j = false → fieldB z f = false := fun hh => fieldB_no hif (by rw [hP]; exact partB_no h hh)
          simp [go_sem, mons_drop h]
          refine ⟨⟨h, by rintro rfl; simp at h⟩, by kernel_rfl, ?_⟩
          generalize hM : P[j]?.getD (0, []) = m at *
          have cM := isMonomial_c z m hm
          generalize hmb : monB z m = mb at *
          refine CallD.of (cM) (by simp [roots, rootsL]) (by decide) ?_
          simp [go_sem]
          cases mb with
          | false =>
            simp [go_sem]
            refine ⟨by kernel_rfl, ?_⟩
            simp [go_sem]
            rw [hno (by unfold atB; rw [hM, hmb]; rfl)]
          | true =>
            by_cases j0 : 0 < j
            · have hk : j - 1 < P.length := by omega
              have ek : (j : Int) - 1 = ((j - 1 : Nat) : Int) := by omega
              have hyk : P[j - 1]?.getD (0, []) ∈ P := by simp [hk]
              have hmk := hm2 _ hyk
              have cC := Compare_c (P[j - 1]?.getD (0, [])).2 m.2 (by omega) (by omega)
              have hat : atB z P j = ltL (P[j - 1]?.getD (0, [])).2 m.2 := by unfold atB; rw [hM, hmb, decide_eq_false (by omega : ¬ j = 0)]; simp
              have hlt := cmpL_lt (P[j - 1]?.getD (0, [])).2 m.2
              simp [go_sem, j0, ek, mons_drop hk]
              refine ⟨by omega, ⟨hk, by rintro rfl; simp at h⟩, ?_⟩
              generalize (P[j - 1]?.getD (0, [])).2 = pw0 at *
              generalize hc : cmpL pw0 m.2 = c at *
              refine CallD.of (cC) (by simp [roots, rootsL]) (by decide) ?_
              simp [go_sem]
              cases hL : ltL pw0 m.2 with
              | false =>
                rw [hL] at hlt hat
                have hc0 : 0 ≤ c := by simpa using hlt
                simp [go_sem, hc0]
                refine ⟨by kernel_rfl, ?_⟩
                simp [go_sem]
                rw [hno hat]
              | true =>
                rw [hL] at hlt hat
                have hc0 : ¬ 0 ≤ c := by simpa using hlt
                simp [go_sem, hc0]
                refine ⟨by kernel_rfl, ?_⟩
                simp [go_sem]
                refine ⟨by omega, j + 1, ⟨by omega, fun k hk2 => ?_⟩, by omega, Off_reset _ _ _ (by simp), by omega⟩
                by_cases e : k = j
                · rw [e]; exact hat
                · exact hq k (by omega)
            · simp [go_sem, j0]
              refine ⟨by kernel_rfl, ?_⟩
              simp [go_sem]
              have hat : atB z P j = true := by unfold atB; rw [hM, hmb, decide_eq_true (by omega : j = 0)]; rfl
              refine ⟨by omega, j + 1, ⟨by omega, fun k hk2 => ?_⟩, by omega, Off_reset _ _ _ (by simp), by omega⟩
              by_cases e : k = j
              · rw [e]; exact hat
              · exact hq k (by omega)
        · simp [go_sem]
          have hpb : partB z P = true := partB_yes (fun k hk => hq k (by omega))
          refine ⟨by omega, i + 1, ⟨by omega, take_all hif hp (by rw [← hP] at hpb; simpa [hif] using hpb)⟩, by omega, (Off.reset (by intro x hx; simp at hx ⊢; omega) (by simp) (by simp [go_sem, Off_reset])), by omega⟩
      · simp [go_sem]
        rw [List.take_of_length_le h] at hp
        rw [fine, List.all_eq_true.2 hp]
    · simp [go_sem, hz.1, hz.2]
      refine CallD.of (cl) (by simp [roots, rootsL]) (by decide) ?_
      simp [go_sem]
      simp [go_sem, hl]
      refine ⟨by kernel_rfl, ?_⟩
      simp [go_sem]
      unfold fieldB; simp [hl]
  · by_cases z1 : 1 ≤ z
    · have z3 : ¬ z ≤ 3 := fun h => hz ⟨z1, h⟩
      simp [go_sem, z1, z3]
      refine ⟨by kernel_rfl, ?_⟩
      simp [go_sem]
      unfold fieldB; rw [decide_eq_false hz]; simp
    · simp [go_sem, z1]
      refine ⟨by kernel_rfl, ?_⟩
      simp [go_sem]
      unfold fieldB; rw [decide_eq_false hz]; simp
/-- Vectors of a field. -/
def vecB (z : Int) (y : List Int) : Bool := decide ((y.length : Int) = z) && numsB y
theorem isVector_c (z : Int) (n : Nat) (cs : List AV) (y : List Int) (hl : y.length ≤ 9223372036854775807) :
    Con Try.prog 196 [.agg [.int z, .sl n cs], .sl y.length (avs y)] (.bool (vecB z y)) := by
  refine con_of_vc Try.mixed ⟨5, [], [], []⟩ Try.func196 (by decide) rfl (by simp) (by decide) (by simp [freshOK, freshL, go_sem]) ?_
  rw [Try.ntmps196]
  simp [go_sem]
  refine ⟨by kernel_rfl, ?_⟩
  refine CallD.of (length_c _ _ hl) (by simp [roots, rootsL]) (by decide) ?_
  simp [go_sem]
  unfold vecB
  by_cases h : (y.length : Int) = z
  · simp [go_sem, h]
    refine CallD.of (areNumbers_c y hl) (by simp [roots, rootsL]) (by decide) ?_
    simp [go_sem]
    refine ⟨by kernel_rfl, ?_⟩
    simp [go_sem]
  · simp [go_sem, h]
    refine ⟨by kernel_rfl, ?_⟩
    simp [go_sem]
theorem notVector_c (z : Int) (n : Nat) (cs : List AV) (y : List Int) (hl : y.length ≤ 9223372036854775807) :
    Con Try.prog 204 [.sl y.length (avs y), .fptr [.int z, .sl n cs]] (.bool (!vecB z y)) := by
  refine con_of_vc Try.mixed ⟨4, [], [], []⟩ Try.func204 (by decide) rfl (by simp) (by decide) (by simp [freshOK, freshL, go_sem]) ?_
  rw [Try.ntmps204]
  simp [go_sem]
  refine CallVC.of (isVector_c z n cs y hl) (by decide) ?_
  simp [go_sem]
theorem IndexFuncV_c (g : FuncId) (cs : List AV) (p : List Int → Bool) (xss : List (List Int)) (hl : xss.length ≤ 9223372036854775807) (hg : ∀ x ∈ xss, Con Try.prog g [.sl x.length (avs x), .fptr cs] (.bool (p x))) :
    Con Try.prog 231 [.sl xss.length (mat xss), .fn g [.fptr cs]] (.int (idxF p xss)) := by
  refine con_of_vc Try.mixed ⟨6, [], [], []⟩ Try.func231 (by decide) rfl (by simp) (by decide) (by simp [freshOK, freshL, go_sem]) ?_
  rw [Try.ntmps231]
  simp [go_sem]
  refine loop_inv (5 :: List.range' 8 20) (fun i : Nat => [(8, .int i)]) (fun i => i ≤ xss.length ∧ ∀ x ∈ xss.take i, p x = false) (fun i => xss.length - i) 0 (by simp) (by simp [go_sem]) (by simp [go_sem]) ?_
  rintro i ⟨hi, hf⟩
  simp [go_sem]
  have sk := idxF_skip p xss i hf hi
  refine ⟨fun h => ?_, fun h => ?_⟩ <;> simp at h
  · have hx : xss[i]?.getD [] ∈ xss := by simp [h]
    have hd : xss.drop i = xss[i]?.getD [] :: xss.drop (i + 1) := by rw [List.drop_eq_getElem_cons h]; simp [h]
    simp [go_sem, mat_drop h]
    refine ⟨⟨h, by rintro rfl; simp at h⟩, CallVC.of (hg _ hx) (by decide) ?_⟩
    simp [go_sem]
    refine ⟨fun h2 => ?_, fun h2 => ?_⟩ <;> simp [go_sem]
    · rw [sk, hd]; simp [idxF, h2]
    · refine ⟨by omega, i + 1, ⟨by omega, ?_⟩, by omega, Off_reset _ _ _ (by simp), by omega⟩
      intro x hx2
      rw [List.take_add_one, List.getElem?_eq_getElem h, Option.toList_some, List.mem_append, List.mem_singleton] at hx2
      rcases hx2 with hx2 | hx2
      · exact hf x hx2
      · rw [hx2]; simpa [h] using h2
  · simp [go_sem]
    rw [sk, List.drop_eq_nil_of_le h]; simp [idxF]
theorem ContainsFuncV_c (g : FuncId) (cs : List AV) (p : List Int → Bool) (xss : List (List Int)) (hl : xss.length ≤ 9223372036854775807) (hg : ∀ x ∈ xss, Con Try.prog g [.sl x.length (avs x), .fptr cs] (.bool (p x))) :
    Con Try.prog 164 [.sl xss.length (mat xss), .fn g [.fptr cs]] (.bool (xss.any p)) := by
  refine con_of_vc Try.mixed ⟨5, [], [], []⟩ Try.func164 (by decide) rfl (by simp) (by decide) (by simp [freshOK, freshL, go_sem]) ?_
  rw [Try.ntmps164]
  simp [go_sem]
  refine CallVC.of (IndexFuncV_c g cs p xss hl hg) (by decide) ?_
  simp [go_sem]
  simp [idxF_any]
/-- The code for a field and vectors. -/
def chk (z : Int) (f : List (List Mon)) (ys : List (List Int)) : Int := if fieldB z f = true then if ys.any (fun y => !vecB z y) = true then 2 else 0 else 1
theorem checkVectors_c (z : Int) (f : List (List Mon)) (ys : List (List Int)) (hs : Small f) (hl : ys.length ≤ 9223372036854775807) (hr : ∀ y ∈ ys, y.length ≤ 9223372036854775807) :
    Con Try.prog 131 [.agg [.int z, .sl f.length (prt f)], .sl ys.length (mat ys)] (.int (chk z f ys)) := by
  have cI := IsField_c z f hs
  have cC := ContainsFuncV_c 204 [.int z, .sl f.length (prt f)] (fun y => !vecB z y) ys hl (fun y hy => notVector_c z _ _ y (hr y hy))
  unfold chk
  generalize fieldB z f = b at *
  generalize ys.any (fun y => !vecB z y) = c at *
  refine con_of_vc Try.mixed ⟨5, [], [], []⟩ Try.func131 (by decide) rfl (by simp) (by decide) (by simp [freshOK, freshL, go_sem]) ?_
  rw [Try.ntmps131]
  simp [go_sem]
  refine CallVC.of (cI) (by decide) ?_
  simp [go_sem]
  cases b with
  | false =>
    simp [go_sem]
  | true =>
    simp [go_sem]
    refine CallVC.of (cC) (by decide) ?_
    simp [go_sem]
    cases c with
    | false =>
      simp [go_sem]
    | true =>
      simp [go_sem]
end Go.Proofs.Ytoamidolomldnaa

/- Fields: the program's polynomials. -/
namespace Go.Proofs.Ytoamidolomldnaa
open Go.Abs
set_option linter.unusedVariables false
set_option linter.unusedSimpArgs false
set_option maxHeartbeats 1000000
def keyOf (e : List Int) : Key := (e[0]?.getD 0, e[1]?.getD 0, e[2]?.getD 0)
def polG (c : Key → Option Int) : List Mon → Key → Option Int
  | [] => c
  | m :: p => polG (mset c (keyOf m.2) m.1) p
def polF (p : List Mon) : Key → Option Int := polG mzero p
theorem polG_app (c : Key → Option Int) (p q : List Mon) : polG c (p ++ q) = polG (polG c p) q := by
  induction p generalizing c with
  | nil => rfl
  | cons m p ih => exact ih _
theorem polF_take {p : List Mon} {i : Nat} (h : i < p.length) : polF (p.take (i + 1)) = mset (polF (p.take i)) (keyOf (p[i]?.getD (0, [])).2) (p[i]?.getD (0, [])).1 := by
  rw [List.take_add_one, List.getElem?_eq_getElem h, polF, polG_app]; rfl
set_option maxRecDepth 100000 in
theorem polynomialOf_c (p : List Mon) (hp : p.length ≤ 1048576) (hm : ∀ m ∈ p, m.2.length ≤ 3) :
    Con Try.prog 206 [.sl p.length (mons p)] (.mp (polF p)) := by
  refine con_of_vc Try.mixed ⟨7, [], [], []⟩ Try.func206 (by decide) rfl (by simp) (by decide) (by simp [freshOK, freshL, go_sem]) ?_
  rw [Try.ntmps206]
  simp [go_sem]
  refine loop_inv (3 :: 5 :: 6 :: List.range' 10 14) (fun i : Nat => [(3, .mp (polF (p.take i))), (10, .int i)]) (fun i => i ≤ p.length) (fun i => p.length - i) 0 (by simp) (by simp [go_sem, polF, polG]) (by simp [go_sem]) ?_
  intro i hi
  simp [go_sem]
  refine ⟨fun h => ?_, fun h => ?_⟩ <;> simp at h
  · have hif := h
    have hx : p[i]?.getD (0, []) ∈ p := by simp [h]
    have hl := hm _ hx
    have hv := polF_take h
    simp [go_sem, mons_drop hif]
    generalize p[i]?.getD (0, []) = m at *
    obtain ⟨x, e⟩ := m
    simp only at hl hv
    refine ⟨⟨hif, by rintro rfl; simp at hif⟩, by kernel_rfl, ⟨by omega, by omega⟩, ?_⟩
    refine ⟨by kernel_rfl, ?_⟩
    simp [go_sem]
    rcases e with _ | ⟨a, _ | ⟨b, _ | ⟨c, _ | ⟨d, e⟩⟩⟩⟩
    · simp [go_sem, avs]
      refine ⟨by omega, i + 1, by omega, by omega, Off_reset _ _ _ (by simp), hv.symm, by omega⟩
    · simp [go_sem, avs]
      refine ⟨by omega, i + 1, by omega, by omega, Off_reset _ _ _ (by simp), hv.symm, by omega⟩
    · simp [go_sem, avs]
      refine ⟨by omega, i + 1, by omega, by omega, Off_reset _ _ _ (by simp), hv.symm, by omega⟩
    · simp [go_sem, avs]
      refine ⟨by omega, i + 1, by omega, by omega, Off_reset _ _ _ (by simp), hv.symm, by omega⟩
    · simp at hl
  · simp [go_sem]
    rw [List.take_of_length_le h]
def pols (f : List (List Mon)) : List AV := f.map fun p => .mp (polF p)
def fpols (f : List (List Mon)) : List AV := f.map fun p => .fmp (polF p)
@[simp] theorem pols_len (f : List (List Mon)) : (pols f).length = f.length := by simp [pols]
@[simp] theorem fpols_len (f : List (List Mon)) : (fpols f).length = f.length := by simp [fpols]
@[simp] theorem fpols_ne {f : List (List Mon)} : (fpols f = []) = (f = []) := by cases f <;> simp [fpols]
@[simp] theorem pols_frz : ∀ f : List (List Mon), frzL (pols f) = fpols f
  | [] => rfl
  | p :: f => by have := pols_frz f; simp only [pols, fpols, List.map_cons, frzL] at this ⊢; rw [this]; simp [frz]
@[simp] theorem pols_fresh : ∀ f : List (List Mon), freshL (pols f) = true
  | [] => rfl
  | p :: f => by have := pols_fresh f; simp only [pols, List.map_cons, freshL] at this ⊢; rw [this]; simp [freshOK]
theorem fpols_drop {f : List (List Mon)} {k : Nat} (h : k < f.length) : (fpols f).drop k = .fmp (polF (f[k]?.getD [])) :: fpols (f.drop (k + 1)) := by
  rw [fpols, ← List.map_drop, List.drop_eq_getElem_cons h, List.map_cons]; simp [h, fpols]
theorem polynomials_c (z : Int) (f : List (List Mon)) (hf : FieldOk z f) (hs : Small f) :
    Con Try.prog 133 [.agg [.int z, .sl f.length (prt f)]] (.own 142 f.length (pols f)) := by
  have fl := hs.1
  have z3 := hf.hi
  have zl := hf.len
  refine con_of_vc Try.mixed ⟨6, [], [], []⟩ Try.func133 (by decide) rfl (by simp) (by decide) (by simp [freshOK, freshL, go_sem]) ?_
  rw [Try.ntmps133]
  simp [go_sem]
  refine loop_inv (3 :: 5 :: List.range' 10 10) (fun i : Nat => [(3, .own 142 i (pols (f.take i))), (10, .int i)]) (fun i => i ≤ f.length) (fun i => f.length - i) 0 (by simp) (by simp [go_sem, pols]) (by simp [go_sem]) ?_
  intro i hi
  simp [go_sem]
  refine ⟨fun h => ?_, fun h => ?_⟩ <;> simp at h
  · have hif := h
    have hx : f[i]?.getD [] ∈ f := by simp [h]
    have hm := hs.2 _ hx
    simp [go_sem, prt_drop hif]
    refine ⟨⟨hif, by rintro rfl; simp at hif⟩, ?_⟩
    refine CallVC.of (polynomialOf_c _ hm.1 (fun m hm => by have := (partB_mem (hf.part _ hx) hm).len; omega)) (by decide) ?_
    simp [go_sem]
    have e1 : f.take (i + 1) = f.take i ++ [f[i]?.getD []] := by rw [List.take_add_one]; simp [hif]
    refine ⟨⟨by omega, by omega, by omega⟩, by omega, i + 1, by omega, by omega, Off_reset _ _ _ (by simp), ⟨rfl, ?_⟩, by omega⟩
    rw [e1]; simp [pols]
  · simp [go_sem]
    rw [List.take_of_length_le h]
    exact ⟨by omega, rfl⟩
/-- The value of an entry. -/
def tmK (y : List Int) (k : Key) (x : Int) : Int := tmF y [k.1, k.2.1, k.2.2] x y.length
def rest (y : List Int) : List (Key × Int) → Int
  | [] => 0
  | e :: es => tmK y e.1 e.2 + rest y es
theorem rest_app (y : List Int) (a b : List (Key × Int)) : rest y (a ++ b) = rest y a + rest y b := by
  induction a with
  | nil => simp [rest]
  | cons e a ih => simp [rest, ih]; omega
theorem rest_pos (y : List Int) : ∀ {es : List (Key × Int)}, (∀ e ∈ es, isN e.2) → 0 ≤ rest y es
  | [], _ => by simp [rest]
  | e :: es, h => by
    have h1 := rest_pos y (es := es) (fun a ha => h a (by simp [ha]))
    have h2 := (tmF_N (y := y) (e := [e.1.1, e.1.2.1, e.1.2.2]) (h e (by simp)) y.length).1
    simp only [rest, tmK]; omega
/-- That an entry's number is one, and its key's too. -/
def EOk (e : Key × Int) : Prop := isN e.2 ∧ 0 ≤ e.1.1 ∧ e.1.1 ≤ 1000 ∧ 0 ≤ e.1.2.1 ∧ e.1.2.1 ≤ 1000 ∧ 0 ≤ e.1.2.2 ∧ e.1.2.2 ≤ 1000
set_option maxRecDepth 100000 in
theorem value_c (c : Key → Option Int) (y : List Int) (T : Int) (hy : Ns y) (hl : y.length ≤ 3) (hc : ∀ k x, c k = some x → EOk (k, x)) (hT : T ≤ 1000000000000000000) (hE : ∀ es, Enum c es → rest y es = T) :
    Con Try.prog 137 [.fmp c, .sl y.length (avs y)] (.int (T % 10007)) := by
  refine con_of_vc Try.mixed ⟨10, [], [], []⟩ Try.func137 (by decide) rfl (by simp) (by decide) (by simp [freshOK, freshL, go_sem]) ?_
  rw [Try.ntmps137]
  simp [go_sem]
  intro es hes
  have hok : ∀ e ∈ es, EOk e := fun e he => hc e.1 e.2 (hes.val e he)
  have hsum := hE es hes
  refine loop_inv (5 :: 6 :: 7 :: 8 :: 9 :: 11 :: List.range' 12 24) (fun x : Int × Option (Key × Int) × List (Key × Int) => [(5, .int x.1), (11, .it x.2.1 x.2.2)]) (fun x => 0 ≤ x.1 ∧ x.1 + rest y x.2.2 = T ∧ ∀ e ∈ x.2.2, EOk e) (fun x => x.2.2.length) (0, none, es) ⟨by simp, by simpa using hsum, hok⟩ (by simp [go_sem]) (by simp [go_sem]) ?_
  rintro ⟨s, l, rem⟩ ⟨hs0, hsT, hrem⟩
  simp only at hs0 hsT hrem
  simp [go_sem, keyAV]
  refine ⟨fun hr => ?_, fun l1 k0 k1 k2 x l2 hr => ?_⟩
  · subst hr
    have : s = T := by simpa [rest] using hsT
    subst this
    refine CallVC.of (num_c _ (by omega) (by omega)) (by decide) ?_
    simp [go_sem]
  · subst hr
    have hek := hrem ((k0, k1, k2), x) (by simp)
    have hx : isN x := hek.1
    have hg : ∀ i : Nat, 0 ≤ ([k0, k1, k2] : List Int)[i]?.getD 0 ∧ ([k0, k1, k2] : List Int)[i]?.getD 0 ≤ 1000 := by
      intro i
      obtain ⟨_, a1, a2, a3, a4, a5, a6⟩ := hek
      match i with
      | 0 => exact ⟨a1, a2⟩
      | 1 => exact ⟨a3, a4⟩
      | 2 => exact ⟨a5, a6⟩
      | i + 3 => simp
    refine loop_inv (7 :: 8 :: 9 :: List.range' 19 14) (fun i : Nat => [(7, .int (tmF y [k0, k1, k2] x i)), (19, .int i)]) (fun i => i ≤ y.length) (fun i => y.length - i) 0 (by simp) (by simp [go_sem, tmF]) (by simp [go_sem]) ?_
    intro i hi
    simp [go_sem]
    refine ⟨fun h => ?_, fun h => ?_⟩ <;> simp at h
    · have h3 : i < ([k0, k1, k2] : List Int).length := by simp; omega
      have e3 : ([.val (.int .i64 k0), .val (.int .i64 k1), .val (.int .i64 k2)] : List AV)[i]? = some (.val (.int .i64 (([k0, k1, k2] : List Int)[i]?.getD 0))) := avs_at' (xs := [k0, k1, k2]) h3
      have g := hg i
      have m1 := mul_fits (tmF_N (y := y) (e := [k0, k1, k2]) hx i) (isN_mod ((y[i]?.getD 0) ^ (([k0, k1, k2] : List Int)[i]?.getD 0).toNat))
      have m2 : fits (tmF y [k0, k1, k2] x i * pw (y[i]?.getD 0) (([k0, k1, k2] : List Int)[i]?.getD 0)) := m1
      have hs : tmF y [k0, k1, k2] x (i + 1) = tmF y [k0, k1, k2] x i * pw (y[i]?.getD 0) (([k0, k1, k2] : List Int)[i]?.getD 0) % 10007 := rfl
      simp [go_sem, avs_drop h, e3]
      generalize ([k0, k1, k2] : List Int)[i]?.getD 0 = ki at *
      refine ⟨⟨h, by rintro rfl; simp at h⟩, by omega, ?_⟩
      refine CallVC.of (pow_c _ _ (hy.get i) g.1 (by omega)) (by decide) ?_
      simp [go_sem]
      refine ⟨m2, ?_⟩
      refine CallVC.of (num_c _ m2.1 m2.2) (by decide) ?_
      simp [go_sem]
      refine ⟨by omega, i + 1, by omega, by omega, Off_reset _ _ _ (by simp), hs.symm, by omega⟩
    · have e : i = y.length := by omega
      subst e
      have hr0 : 0 ≤ rest y (l1 ++ l2) := rest_pos y (fun e he => (hrem e (by
        rcases List.mem_append.1 he with he | he <;> simp [he])).1)
      have ht := tmF_N (y := y) (e := [k0, k1, k2]) hx y.length
      have hsT2 : s + tmF y [k0, k1, k2] x y.length + rest y (l1 ++ l2) = T := by
        rw [← hsT, rest_app, rest_app, rest]
        show _ = s + (rest y l1 + (tmF y [k0, k1, k2] x y.length + rest y l2))
        omega
      have ht1 := ht.1
      simp [go_sem]
      refine ⟨⟨by omega, by omega⟩, _, _, _, ⟨?_, hsT2, fun a b c d he => hrem _ ?_⟩, ?_, (Off.reset (by intro x hx; simp at hx ⊢; omega) (by simp) (by simp [go_sem, Off_reset])), rfl, rfl, rfl⟩
      · omega
      · rcases List.mem_append.1 he with he | he <;> simp [he]
      · simp
end Go.Proofs.Ytoamidolomldnaa

/- Fields: the sum over a map's entries, in whatever order, is the sum over the part. -/
namespace Go.Proofs.Ytoamidolomldnaa
open Go.Abs
set_option linter.unusedVariables false
set_option linter.unusedSimpArgs false
set_option maxHeartbeats 1000000
theorem ltL_irr : ∀ a : List Int, ltL a a = false
  | [] => rfl
  | x :: a => by simp [ltL, ltL_irr a]
theorem ltL_trans : ∀ {a b c : List Int}, ltL a b = true → ltL b c = true → ltL a c = true
  | _, [], _, h, _ => by simp [ltL] at h
  | _, _ :: _, [], _, h => by simp [ltL] at h
  | [], _ :: _, _ :: _, _, _ => rfl
  | x :: a, y :: b, z :: c, h1, h2 => by
    simp only [ltL] at h1 h2 ⊢
    split at h1
    · rename_i e; subst e
      split at h2
      · rename_i e; subst e; rw [if_pos rfl]; exact ltL_trans h1 h2
      · rename_i e; rw [if_neg e]; exact h2
    · rename_i e1
      simp only [decide_eq_true_eq] at h1
      split at h2
      · rename_i e; subst e; rw [if_neg e1]; simpa using h1
      · rename_i e
        simp only [decide_eq_true_eq] at h2
        rw [if_neg (by omega)]; simp; omega
theorem chain_lt {z : Int} {p : List Mon} (h : partB z p = true) {i : Nat} : ∀ {j : Nat}, i < j → j < p.length → ltL (p[i]?.getD (0, [])).2 (p[j]?.getD (0, [])).2 = true
  | 0, h1, _ => by omega
  | j + 1, h1, h2 => by
    have hs := (partB_at h h2).2 (by omega)
    rw [Nat.add_sub_cancel] at hs
    rcases Nat.lt_or_ge i j with hl | hg
    · exact ltL_trans (chain_lt h hl (by omega)) hs
    · have : i = j := by omega
      subst this; exact hs
theorem keyOf_inj {a b : List Int} (hl : a.length = b.length) (h3 : a.length ≤ 3) (h : keyOf a = keyOf b) : a = b := by
  match a, b, hl, h3 with
  | [], [], _, _ => rfl
  | [x], [y], _, _ => simp [keyOf] at h; rw [h]
  | [x, x'], [y, y'], _, _ => simp [keyOf] at h; rw [h.1, h.2]
  | [x, x', x''], [y, y', y''], _, _ => simp [keyOf] at h; rw [h.1, h.2.1, h.2.2]
def keyM (m : Mon) : Key × Int := (keyOf m.2, m.1)
theorem keys_nd {z : Int} {p : List Mon} (hz : z ≤ 3) (h : partB z p = true) : p.Pairwise (fun a b => keyOf a.2 ≠ keyOf b.2) := by
  rw [List.pairwise_iff_getElem]
  intro i j hi hj hij he
  have hl := chain_lt h hij hj
  have m1 := (partB_at h hi).1.len
  have m2 := (partB_at h hj).1.len
  simp only [List.getElem?_eq_getElem hi, List.getElem?_eq_getElem hj, Option.getD_some] at hl m1 m2
  have := keyOf_inj (by omega) (by omega) he
  rw [this, ltL_irr] at hl
  simp at hl
theorem polG_out : ∀ (p : List Mon) (c : Key → Option Int) (k : Key), (∀ m ∈ p, keyOf m.2 ≠ k) → polG c p k = c k
  | [], c, k, _ => rfl
  | m :: p, c, k, h => by
    rw [polG, polG_out p _ k (fun a ha => h a (by simp [ha]))]
    have := h m (by simp)
    simp [mset, Ne.symm this]
theorem polG_in : ∀ (p : List Mon) (c : Key → Option Int), p.Pairwise (fun a b => keyOf a.2 ≠ keyOf b.2) → ∀ m ∈ p, polG c p (keyOf m.2) = some m.1
  | [], _, _, m, hm => by simp at hm
  | a :: p, c, h, m, hm => by
    obtain ⟨h1, h2⟩ := List.pairwise_cons.1 h
    rw [polG]
    rcases List.mem_cons.1 hm with rfl | hm
    · rw [polG_out p _ _ (fun b hb => Ne.symm (h1 b hb))]; simp [mset]
    · exact polG_in p _ h2 m hm
theorem polF_some {p : List Mon} (h : p.Pairwise (fun a b => keyOf a.2 ≠ keyOf b.2)) {k : Key} {x : Int} : polF p k = some x ↔ (k, x) ∈ p.map keyM := by
  constructor
  · intro hk
    by_cases hin : ∃ m ∈ p, keyOf m.2 = k
    · obtain ⟨m, hm, rfl⟩ := hin
      rw [polF, polG_in p _ h m hm] at hk
      injection hk with hk; subst hk
      exact List.mem_map.2 ⟨m, hm, rfl⟩
    · rw [polF, polG_out p _ k (fun m hm he => hin ⟨m, hm, he⟩)] at hk
      simp [mzero] at hk
  · intro hm
    obtain ⟨m, hm, he⟩ := List.mem_map.1 hm
    simp only [keyM, Prod.mk.injEq] at he
    rw [← he.1, ← he.2]
    exact polG_in p _ h m hm
theorem rest_perm (y : List Int) {a b : List (Key × Int)} (h : a.Perm b) : rest y a = rest y b := by
  induction h with
  | nil => rfl
  | cons x _ ih => simp [rest, ih]
  | swap x z l => simp [rest]; omega
  | trans _ _ i1 i2 => rw [i1, i2]
theorem nodup_of_key {α β : Type} {f : α → β} {l : List α} (h : l.Pairwise (fun a b => f a ≠ f b)) : l.Nodup := h.imp (fun hn e => hn (by rw [e]))
theorem enum_perm {p : List Mon} (h : p.Pairwise (fun a b => keyOf a.2 ≠ keyOf b.2)) {es : List (Key × Int)} (he : Enum (polF p) es) : es.Perm (p.map keyM) := by
  refine (List.perm_ext_iff_of_nodup (nodup_of_key (f := Prod.fst) he.nd) ?_).2 (fun e => ?_)
  · rw [List.Nodup, List.pairwise_map]
    exact h.imp (fun hn e => hn (congrArg Prod.fst e))
  · obtain ⟨k, x⟩ := e
    rw [← polF_some h]
    constructor
    · intro hm; exact he.val _ hm
    · intro hk
      by_cases hin : ∃ q ∈ es, q.1 = k
      · obtain ⟨⟨k', x'⟩, hq, hqk⟩ := hin
        simp only at hqk; subst hqk
        have := he.val _ hq
        simp only at this
        rw [hk] at this
        injection this with this; subst this
        exact hq
      · have := he.out k (fun q hq e => hin ⟨q, hq, e⟩)
        rw [hk] at this; simp at this
theorem tmF_congr {y e e' : List Int} {x : Int} : ∀ {n : Nat}, (∀ i, i < n → e[i]?.getD 0 = e'[i]?.getD 0) → tmF y e x n = tmF y e' x n
  | 0, _ => rfl
  | n + 1, h => by rw [tmF, tmF, tmF_congr (fun i hi => h i (by omega)), h n (by omega)]
theorem tmK_of {y : List Int} (hl : y.length ≤ 3) (m : Mon) : tmK y (keyOf m.2) m.1 = tmF y m.2 m.1 y.length := by
  refine tmF_congr (fun i hi => ?_)
  have : i = 0 ∨ i = 1 ∨ i = 2 := by omega
  rcases this with rfl | rfl | rfl <;> simp [keyOf]
theorem rest_map {y : List Int} (hl : y.length ≤ 3) : ∀ p : List Mon, rest y (p.map keyM) = vsum y p
  | [] => rfl
  | m :: p => by
    rw [List.map_cons, rest, vsum, rest_map hl p]
    show tmK y (keyOf m.2) m.1 + vsum y p = _
    rw [tmK_of hl]
theorem vsum_le (y : List Int) : ∀ p : List Mon, (∀ m ∈ p, isN m.1) → vsum y p ≤ 10006 * p.length
  | [], _ => by simp [vsum]
  | m :: p, h => by
    have h1 := vsum_le y p (fun a ha => h a (by simp [ha]))
    have h2 := (tmF_N (y := y) (e := m.2) (h m (by simp)) y.length).2
    simp only [vsum, List.length_cons]; omega
theorem part_entries {z : Int} {p : List Mon} (hz : z ≤ 3) (h : partB z p = true) {k : Key} {x : Int} (hk : polF p k = some x) : EOk (k, x) := by
  obtain ⟨m, hm, he⟩ := List.mem_map.1 ((polF_some (keys_nd hz h)).1 hk)
  simp only [keyM, Prod.mk.injEq] at he
  obtain ⟨rfl, rfl⟩ := he
  have ho := partB_mem h hm
  have g0 := ho.get 0
  have g1 := ho.get 1
  have g2 := ho.get 2
  have l1 := ho.lo
  have l2 := ho.hi
  unfold EOk isN keyOf
  simp only
  refine ⟨⟨by omega, by omega⟩, by omega, by omega, by omega, by omega, by omega, by omega⟩
end Go.Proofs.Ytoamidolomldnaa

/- The values of maps and of lists of monomials are those of their coefficient functions. -/
namespace Go.Proofs.Ytoamidolomldnaa
open Go.Abs
set_option linter.unusedVariables false
set_option linter.unusedSimpArgs false
set_option maxHeartbeats 1000000
theorem enum_mem {c : Key → Option Int} {es : List (Key × Int)} (he : Enum c es) {k : Key} {x : Int} : (k, x) ∈ es ↔ c k = some x := by
  constructor
  · intro hm; exact he.val _ hm
  · intro hk
    by_cases hin : ∃ q ∈ es, q.1 = k
    · obtain ⟨⟨k', x'⟩, hq, hqk⟩ := hin
      simp only at hqk; subst hqk
      have := he.val _ hq
      simp only at this
      rw [hk] at this
      injection this with this; subst this
      exact hq
    · have := he.out k (fun q hq e => hin ⟨q, hq, e⟩)
      rw [hk] at this; simp at this
theorem enum_unique {c : Key → Option Int} {a b : List (Key × Int)} (ha : Enum c a) (hb : Enum c b) : a.Perm b :=
  (List.perm_ext_iff_of_nodup (nodup_of_key (f := Prod.fst) ha.nd) (nodup_of_key (f := Prod.fst) hb.nd)).2 (fun e => by
    obtain ⟨k, x⟩ := e
    rw [enum_mem ha, enum_mem hb])
def yat (y : List Int) (i : Nat) : Int := y[i]?.getD 0
/-- That a key is one of the first n variables, with exponents up to 3. -/
def KOk (n : Nat) (k : Key) : Prop := k ∈ box ∧ ∀ i, n ≤ i → i < 3 → at3 i k = 0
theorem tmK_trm {y : List Int} {k : Key} {x : Int} (hl : y.length ≤ 3) (hk : KOk y.length k) : tmK y k x % 10007 = x * trm (yat y) k % 10007 := by
  obtain ⟨a, b, c⟩ := k
  obtain ⟨h1, h2⟩ := hk
  unfold tmK trm
  match y, hl with
  | [], _ =>
    have e0 := h2 0 (by simp) (by omega)
    have e1 := h2 1 (by simp) (by omega)
    have e2 := h2 2 (by simp) (by omega)
    simp [at3] at e0 e1 e2
    subst e0; subst e1; subst e2
    simp [tmF]
  | [u], _ =>
    have e1 := h2 1 (by simp) (by omega)
    have e2 := h2 2 (by simp) (by omega)
    simp [at3] at e1 e2
    subst e1; subst e2
    simp [tmF, yat, pw, mod_mul_l, mod_mul_r]
  | [u, v], _ =>
    have e2 := h2 2 (by simp) (by omega)
    simp [at3] at e2
    subst e2
    simp [tmF, yat, pw, mod_mul_l, mod_mul_r, Int.mul_assoc]
  | [u, v, w], _ =>
    simp [tmF, yat, pw, mod_mul_l, mod_mul_r, Int.mul_assoc]
theorem rest_mod {y : List Int} (hl : y.length ≤ 3) : ∀ {es : List (Key × Int)}, (∀ e ∈ es, KOk y.length e.1) → rest y es % 10007 = sumI (fun e => e.2 * trm (yat y) e.1) es % 10007
  | [], _ => rfl
  | e :: es, h => by
    simp only [rest, sumI]
    rw [Int.add_emod, tmK_trm hl (h e (by simp)), rest_mod hl (es := es) (fun a ha => h a (by simp [ha])), ← Int.add_emod]
theorem coef_enum {c : Key → Option Int} {es : List (Key × Int)} (he : Enum c es) (k : Key) : coef Prod.fst Prod.snd es k = (c k).getD 0 := by
  have gen : ∀ (l : List (Key × Int)), l.Pairwise (fun a b => a.1 ≠ b.1) → ∀ x, (k, x) ∈ l → coef Prod.fst Prod.snd l k = x := by
    intro l
    induction l with
    | nil => intro _ x hx; simp at hx
    | cons a l ih =>
      intro hp x hx
      obtain ⟨h1, h2⟩ := List.pairwise_cons.1 hp
      unfold coef at ih ⊢
      simp only [sumI]
      rcases List.mem_cons.1 hx with rfl | hx
      · rw [if_pos rfl, sumI_zero (fun b hb => if_neg (h1 b hb))]; simp
      · rw [if_neg (fun e => h1 _ hx e.symm), ih h2 x hx]; simp
  cases hc : c k with
  | some x => exact gen es he.nd x ((enum_mem he).2 hc)
  | none =>
    unfold coef
    refine sumI_zero (fun e hm => if_neg (fun e1 => ?_))
    have := he.val e hm
    rw [← e1, hc] at this
    simp at this
def gv (c : Key → Option Int) (k : Key) : Int := (c k).getD 0
theorem rest_Val {y : List Int} (hl : y.length ≤ 3) {c : Key → Option Int} (hc : ∀ k x, c k = some x → KOk y.length k) {es : List (Key × Int)} (he : Enum c es) : rest y es % 10007 = Val (yat y) (gv c) % 10007 := by
  rw [rest_mod hl (fun e hm => hc e.1 e.2 (he.val e hm)), ← Val_coef (yat y) Prod.fst Prod.snd es (fun e hm => (hc e.1 e.2 (he.val e hm)).1)]
  have : coef Prod.fst Prod.snd es = gv c := funext (fun k => coef_enum he k)
  rw [this]
end Go.Proofs.Ytoamidolomldnaa

/- Values of maps whatever the order; lists of monomials put together, and their coefficients. -/
namespace Go.Proofs.Ytoamidolomldnaa
open Go.Abs
set_option linter.unusedVariables false
set_option linter.unusedSimpArgs false
set_option maxHeartbeats 1000000
theorem len_sub {α : Type} [DecidableEq α] : ∀ {l b : List α}, l.Nodup → (∀ a ∈ l, a ∈ b) → l.length ≤ b.length
  | [], b, _, _ => by simp
  | a :: l, b, hn, hs => by
    obtain ⟨h1, h2⟩ := List.nodup_cons.1 hn
    have ha := hs a (by simp)
    have := len_sub (l := l) (b := b.erase a) h2 (fun x hx => (List.mem_erase_of_ne (fun e => h1 (by rw [← e]; exact hx))).2 (hs x (by simp [hx])))
    rw [List.length_erase_of_mem ha] at this
    have := List.length_pos_of_mem ha
    simp only [List.length_cons]; omega
theorem rest_le (y : List Int) : ∀ {es : List (Key × Int)}, (∀ e ∈ es, isN e.2) → rest y es ≤ 10006 * es.length
  | [], _ => by simp [rest]
  | e :: es, h => by
    have h1 := rest_le y (es := es) (fun a ha => h a (by simp [ha]))
    have h2 := (tmF_N (y := y) (e := [e.1.1, e.1.2.1, e.1.2.2]) (h e (by simp)) y.length).2
    simp only [rest, tmK, List.length_cons]; omega
theorem KOk.eok {n : Nat} {k : Key} {x : Int} (h : KOk n k) (hx : isN x) : EOk (k, x) := by
  have := mem_box.1 h.1
  show isN x ∧ 0 ≤ k.1 ∧ k.1 ≤ 1000 ∧ 0 ≤ k.2.1 ∧ k.2.1 ≤ 1000 ∧ 0 ≤ k.2.2 ∧ k.2.2 ≤ 1000
  exact ⟨hx, by omega, by omega, by omega, by omega, by omega, by omega⟩
theorem value_c2 (c : Key → Option Int) (y : List Int) (hy : Ns y) (hl : y.length ≤ 3) (hc : ∀ k x, c k = some x → isN x ∧ KOk y.length k) :
    Con Try.prog 137 [.fmp c, .sl y.length (avs y)] (.int (Val (yat y) (gv c) % 10007)) := by
  have hok : ∀ k x, c k = some x → EOk (k, x) := fun k x hk => (hc k x hk).2.eok (hc k x hk).1
  by_cases hx : ∃ es, Enum c es
  · obtain ⟨es, he⟩ := hx
    rw [← rest_Val hl (fun k x hk => (hc k x hk).2) he]
    have hb : rest y es ≤ 10006 * es.length := rest_le y (fun e hm => (hc e.1 e.2 (he.val e hm)).1)
    have hlen : es.length ≤ 64 := by
      have := len_sub (l := es.map Prod.fst) (b := box) (by rw [List.Nodup, List.pairwise_map]; exact he.nd) (fun k hk => by
        obtain ⟨e, hm, rfl⟩ := List.mem_map.1 hk
        exact (hc e.1 e.2 (he.val e hm)).2.1)
      simpa [box, r4] using this
    exact value_c c y (rest y es) hy hl hok (by omega) (fun es' he' => rest_perm y (enum_unique he' he))
  · have := value_c c y (Val (yat y) (gv c) % 10007) hy hl hok (by omega) (fun es he => (hx ⟨es, he⟩).elim)
    rwa [Int.emod_emod_of_dvd _ (Int.dvd_refl _)] at this
/-- A monomial of n variables whose exponents lie in the box. -/
structure VOk (n : Nat) (m : Mon) : Prop where
  num : isN m.1
  len : m.2.length = n
  pw : ∀ x ∈ m.2, 0 ≤ x ∧ x ≤ 3
theorem MonOk.vok {n : Nat} {m : Mon} (h : MonOk (n : Int) m) : VOk n m := ⟨⟨by have := h.lo; omega, by have := h.hi; omega⟩, by have := h.len; omega, h.pw⟩
theorem VOk.kok {n : Nat} {m : Mon} (hn : n ≤ 3) (h : VOk n m) : KOk n (keyOf m.2) := by
  have g : ∀ k : Nat, 0 ≤ m.2[k]?.getD 0 ∧ m.2[k]?.getD 0 ≤ 3 := fun k => by
    rcases Nat.lt_or_ge k m.2.length with hk | hk
    · simp [hk]; exact h.pw _ (List.getElem_mem hk)
    · simp [hk]
  refine ⟨mem_box.2 ⟨(g 0).1, (g 0).2, (g 1).1, (g 1).2, (g 2).1, (g 2).2⟩, fun i h1 h2 => ?_⟩
  have hz : m.2[i]?.getD 0 = 0 := by rw [List.getElem?_eq_none (by rw [h.len]; exact h1)]; rfl
  have : i = 0 ∨ i = 1 ∨ i = 2 := by omega
  rcases this with rfl | rfl | rfl <;> simpa [at3, keyOf] using hz
def cfL (L : List Mon) : Key → Int := coef (fun m : Mon => keyOf m.2) (fun m => m.1) L
theorem vsum_Val {y : List Int} (hl : y.length ≤ 3) {L : List Mon} (h : ∀ m ∈ L, VOk y.length m) : vsum y L % 10007 = Val (yat y) (cfL L) % 10007 := by
  unfold cfL
  rw [Val_coef (yat y) _ _ L (fun m hm => ((h m hm).kok hl).1)]
  have h' := h
  clear h
  induction L with
  | nil => rfl
  | cons m L ih =>
    simp only [vsum, sumI]
    rw [Int.add_emod, ← tmK_of hl m, tmK_trm hl ((h' m (by simp)).kok hl), ih (fun a ha => h' a (by simp [ha])), ← Int.add_emod]
/-- A term put into a list. -/
def putGo (c : Int) (e : List Int) : List Mon → Bool → List Mon
  | [], done => if done then [] else [(c, e)]
  | m :: l, done =>
    if done = false ∧ m.2 = e then (if (m.1 + c) % 10007 = 0 then [] else [((m.1 + c) % 10007, m.2)]) ++ putGo c e l true
    else if done = false ∧ ltL e m.2 = true then (c, e) :: ((if m.1 = 0 then [] else [m]) ++ putGo c e l true)
    else (if m.1 = 0 then [] else [m]) ++ putGo c e l done
def putL (L : List Mon) (c : Int) (e : List Int) : List Mon := putGo c e L (decide (c = 0))
theorem cfL_app (a b : List Mon) (k : Key) : cfL (a ++ b) k = cfL a k + cfL b k := sumI_app _ a b
theorem cfL_cons (m : Mon) (b : List Mon) (k : Key) : cfL (m :: b) k = (if k = keyOf m.2 then m.1 else 0) + cfL b k := rfl
theorem cfL_if (m : Mon) (k : Key) : cfL (if m.1 = 0 then [] else [m]) k = if k = keyOf m.2 then m.1 else 0 := by
  split
  · rename_i h; simp [cfL, coef, sumI, h]
  · simp [cfL, coef, sumI]
theorem putGo_cf (c : Int) (e : List Int) (k : Key) : ∀ (l : List Mon) (done : Bool), cfL (putGo c e l done) k % 10007 = (cfL l k + if done = true then 0 else if k = keyOf e then c else 0) % 10007
  | [], true => by simp [putGo, cfL, coef, sumI]
  | [], false => by simp [putGo, cfL, coef, sumI]
  | m :: l, done => by
    rw [putGo, cfL_cons]
    by_cases h1 : done = false ∧ m.2 = e
    · rw [if_pos h1, cfL_app, h1.1, ← h1.2]
      have := cfL_if ((m.1 + c) % 10007, m.2) k
      simp only at this
      rw [this, Int.add_emod, putGo_cf c m.2 k l true]
      by_cases hk : k = keyOf m.2
      · simp [hk]; omega
      · simp [hk]
    · rw [if_neg h1]
      by_cases h2 : done = false ∧ ltL e m.2 = true
      · rw [if_pos h2, cfL_cons, cfL_app, cfL_if, h2.1]
        have := putGo_cf c e k l true
        simp only [if_true, Int.add_zero] at this
        simp only [Bool.false_eq_true, if_false]
        generalize (if k = keyOf e then c else 0) = B
        generalize (if k = keyOf m.2 then m.1 else 0) = A
        omega
      · rw [if_neg h2, cfL_app, cfL_if]
        have := putGo_cf c e k l done
        omega
theorem putL_cf (L : List Mon) (c : Int) (e : List Int) (k : Key) : cfL (putL L c e) k % 10007 = (cfL L k + if k = keyOf e then c else 0) % 10007 := by
  unfold putL
  rw [putGo_cf]
  by_cases h : c = 0 <;> simp [h]
end Go.Proofs.Ytoamidolomldnaa

/- Derivatives of maps and of lists of monomials, sums of maps: their coefficients. -/
namespace Go.Proofs.Ytoamidolomldnaa
open Go.Abs
set_option linter.unusedVariables false
set_option linter.unusedSimpArgs false
set_option maxHeartbeats 1000000
/-- A map's derivative; a map with a multiple of another one added. -/
def derM (i : Nat) (c : Key → Option Int) (k : Key) : Option Int := match c (inc i k) with
  | some a => if 0 < at3 i k + 1 then some ((at3 i k + 1) * a % 10007) else none
  | none => none
def addM (o q : Key → Option Int) (x : Int) (k : Key) : Option Int := match q k with
  | some a => some (((o k).getD 0 + x % 10007 * a) % 10007)
  | none => o k
theorem derM_gv (i : Nat) (c : Key → Option Int) {k : Key} (hk : 0 ≤ at3 i k) : gv (derM i c) k % 10007 = der i (gv c) k % 10007 := by
  show (derM i c k).getD 0 % 10007 = (at3 i k + 1) * (c (inc i k)).getD 0 % 10007
  unfold derM
  cases c (inc i k) with
  | none => simp
  | some a =>
    simp only
    rw [if_pos (by omega)]
    simp
theorem addM_gv (o q : Key → Option Int) (x : Int) (k : Key) : gv (addM o q x) k % 10007 = (gv o k + x * gv q k) % 10007 := by
  unfold gv addM
  cases q k with
  | none => simp
  | some a =>
    simp only [Option.getD_some]
    rw [Int.emod_emod_of_dvd _ (Int.dvd_refl _), Int.add_emod, mod_mul_l, ← Int.add_emod]
/-- The key below by a variable. -/
def dec (i : Nat) (k : Key) : Key := if i = 0 then (k.1 - 1, k.2.1, k.2.2) else if i = 1 then (k.1, k.2.1 - 1, k.2.2) else (k.1, k.2.1, k.2.2 - 1)
theorem inc_dec {i : Nat} {k q : Key} : inc i k = q ↔ k = dec i q := by
  obtain ⟨a, b, c⟩ := k
  obtain ⟨x, y, z⟩ := q
  unfold inc dec
  split
  · simp; omega
  · split <;> (simp; omega)
theorem at3_dec (i : Nat) (k : Key) : at3 i (dec i k) = at3 i k - 1 := by
  unfold at3 dec
  split
  · rfl
  · split <;> rfl
theorem keyOf_set {e : List Int} {i : Nat} (h3 : i < 3) (hi : i < e.length) : keyOf (e.set i (e[i]?.getD 0 - 1)) = dec i (keyOf e) := by
  have : i = 0 ∨ i = 1 ∨ i = 2 := by omega
  match e, hi with
  | [a], hi => 
    simp at hi; subst hi; simp [keyOf, dec]
  | [a, b], hi =>
    rcases this with rfl | rfl | rfl
    · simp [keyOf, dec]
    · simp [keyOf, dec]
    · simp at hi
  | a :: b :: c :: e, hi => rcases this with rfl | rfl | rfl <;> simp [keyOf, dec]
theorem at3_keyOf {e : List Int} {i : Nat} (h3 : i < 3) : at3 i (keyOf e) = e[i]?.getD 0 := by
  have : i = 0 ∨ i = 1 ∨ i = 2 := by omega
  rcases this with rfl | rfl | rfl <;> rfl
/-- The reference's derivative of a list. -/
def derGo (i : Nat) : List Mon → List Mon → List Mon
  | acc, [] => acc
  | acc, m :: p => derGo i (if 0 < m.2[i]?.getD 0 then putL acc (m.1 * m.2[i]?.getD 0 % 10007) (m.2.set i (m.2[i]?.getD 0 - 1)) else acc) p
def derL (i : Nat) (p : List Mon) : List Mon := derGo i [] p
theorem derGo_app (i : Nat) (acc p q : List Mon) : derGo i acc (p ++ q) = derGo i (derGo i acc p) q := by
  induction p generalizing acc with
  | nil => rfl
  | cons m p ih => exact ih _
theorem derGo_cf {n i : Nat} (hi : i < n) (hn : n ≤ 3) {k : Key} (hk : 0 ≤ at3 i k) : ∀ (p acc : List Mon), (∀ m ∈ p, VOk n m) → cfL (derGo i acc p) k % 10007 = (cfL acc k + der i (cfL p) k) % 10007
  | [], acc, _ => by simp [derGo, der, cfL, coef, sumI]
  | m :: p, acc, h => by
    have hm := h m (by simp)
    have hlen := hm.len
    have hd : der i (cfL (m :: p)) k = (at3 i k + 1) * (if inc i k = keyOf m.2 then m.1 else 0) + der i (cfL p) k := by
      unfold der; rw [cfL_cons, Int.mul_add]
    rw [derGo, derGo_cf hi hn hk p _ (fun a ha => h a (by simp [ha])), hd]
    by_cases hpos : 0 < m.2[i]?.getD 0
    · rw [if_pos hpos, Int.add_emod, putL_cf, keyOf_set (by omega) (by omega)]
      have e : (if k = dec i (keyOf m.2) then m.1 * m.2[i]?.getD 0 % 10007 else 0) % 10007 = (at3 i k + 1) * (if inc i k = keyOf m.2 then m.1 else 0) % 10007 := by
        by_cases hkk : k = dec i (keyOf m.2)
        · rw [if_pos hkk, if_pos (inc_dec.2 hkk)]
          have := at3_dec i (keyOf m.2)
          rw [← hkk, at3_keyOf (by omega)] at this
          rw [this, Int.emod_emod_of_dvd _ (Int.dvd_refl _), Int.mul_comm]
          congr 2; omega
        · rw [if_neg hkk, if_neg (fun e => hkk (inc_dec.1 e))]; simp
      generalize (if k = dec i (keyOf m.2) then m.1 * m.2[i]?.getD 0 % 10007 else 0) = A at *
      generalize (at3 i k + 1) * (if inc i k = keyOf m.2 then m.1 else 0) = B at *
      omega
    · rw [if_neg hpos]
      have e : (at3 i k + 1) * (if inc i k = keyOf m.2 then m.1 else 0) = 0 := by
        by_cases hkk : inc i k = keyOf m.2
        · have h0 : 0 ≤ m.2[i]?.getD 0 := by
            rw [List.getElem?_eq_getElem (by omega), Option.getD_some]; exact (hm.pw _ (List.getElem_mem _)).1
          have := at3_dec i (keyOf m.2)
          rw [← inc_dec.1 hkk, at3_keyOf (by omega)] at this
          rw [show at3 i k + 1 = 0 by omega, Int.zero_mul]
        · rw [if_neg hkk, Int.mul_zero]
      rw [e]; simp
end Go.Proofs.Ytoamidolomldnaa

/- Loops over a map's entries that build a derivative or a sum: the map so far, by what is left. -/
namespace Go.Proofs.Ytoamidolomldnaa
open Go.Abs
set_option linter.unusedVariables false
set_option linter.unusedSimpArgs false
set_option maxHeartbeats 1000000
def hasK (rem : List (Key × Int)) (k : Key) : Bool := rem.any fun e => decide (e.1 = k)
theorem hasK_iff {rem : List (Key × Int)} {k : Key} : hasK rem k = true ↔ ∃ e ∈ rem, e.1 = k := by simp [hasK]
theorem hasK_mid (l1 l2 : List (Key × Int)) (k0 : Key) (x : Int) (k : Key) : hasK (l1 ++ (k0, x) :: l2) k = (decide (k0 = k) || hasK (l1 ++ l2) k) := by
  simp only [hasK, List.any_append, List.any_cons]
  cases List.any l1 (fun e => decide (e.1 = k)) <;> cases decide (k0 = k) <;> simp
theorem hasK_not {l1 l2 : List (Key × Int)} {k0 : Key} {x : Int} (h : (l1 ++ (k0, x) :: l2).Pairwise (fun a b => a.1 ≠ b.1)) : hasK (l1 ++ l2) k0 = false := by
  cases hb : hasK (l1 ++ l2) k0 with
  | false => rfl
  | true =>
    obtain ⟨e, he, hk⟩ := hasK_iff.1 hb
    obtain ⟨h1, h2, h3⟩ := List.pairwise_append.1 h
    rcases List.mem_append.1 he with he | he
    · exact (h3 e he (k0, x) (by simp) hk).elim
    · exact ((List.pairwise_cons.1 h2).1 e he hk.symm).elim
/-- The derivative so far, where rem is left. -/
def remD (i : Nat) (c : Key → Option Int) (rem : List (Key × Int)) (k : Key) : Option Int := if hasK rem (inc i k) = true then none else derM i c k
theorem remD_start {i : Nat} {c : Key → Option Int} {es : List (Key × Int)} (he : Enum c es) : remD i c es = mzero := by
  funext k
  unfold remD mzero
  split
  · rfl
  · rename_i h
    have : c (inc i k) = none := he.out _ (fun p hp e => h (hasK_iff.2 ⟨p, hp, e⟩))
    simp [derM, this]
theorem remD_end (i : Nat) (c : Key → Option Int) : remD i c [] = derM i c := by
  funext k; simp [remD, hasK]
theorem remD_at {i : Nat} {c : Key → Option Int} {l1 l2 : List (Key × Int)} {k0 : Key} {x : Int} : remD i c (l1 ++ (k0, x) :: l2) (dec i k0) = none := by
  unfold remD
  rw [inc_dec.2 rfl, hasK_mid]
  simp
theorem remD_skip {i : Nat} {c : Key → Option Int} {l1 l2 : List (Key × Int)} {k0 : Key} {x : Int} (h : (l1 ++ (k0, x) :: l2).Pairwise (fun a b => a.1 ≠ b.1)) (hc : c k0 = some x) (h0 : ¬ 0 < at3 i k0) :
    remD i c (l1 ++ (k0, x) :: l2) = remD i c (l1 ++ l2) := by
  funext k
  unfold remD
  rw [hasK_mid]
  by_cases hk : k0 = inc i k
  · have hd : k = dec i k0 := inc_dec.1 hk.symm
    have ha := at3_dec i k0
    rw [← hd] at ha
    have : derM i c k = none := by
      unfold derM
      rw [← hk, hc]
      simp only
      rw [if_neg (by omega)]
    rw [this]; simp
  · simp [hk]
theorem remD_step {i : Nat} {c : Key → Option Int} {l1 l2 : List (Key × Int)} {k0 : Key} {x : Int} (h : (l1 ++ (k0, x) :: l2).Pairwise (fun a b => a.1 ≠ b.1)) (hc : c k0 = some x) (h0 : 0 < at3 i k0) :
    mset (remD i c (l1 ++ (k0, x) :: l2)) (dec i k0) (at3 i k0 * x % 10007) = remD i c (l1 ++ l2) := by
  funext k
  unfold mset
  by_cases hk : k = dec i k0
  · have hi : inc i k = k0 := inc_dec.2 hk
    rw [if_pos hk]
    unfold remD
    rw [hi, hasK_not h]
    have ha := at3_dec i k0
    rw [← hk] at ha
    simp only [Bool.false_eq_true, if_false]
    unfold derM
    rw [hi, hc]
    simp only
    rw [if_pos (by omega), show at3 i k + 1 = at3 i k0 by omega]
  · rw [if_neg hk]
    unfold remD
    rw [hasK_mid]
    have : ¬ k0 = inc i k := fun e => hk (inc_dec.1 e.symm)
    simp [this]
/-- The sum so far, where rem is left. -/
def remA (o q : Key → Option Int) (x : Int) (rem : List (Key × Int)) (k : Key) : Option Int := if hasK rem k = true then o k else addM o q x k
theorem remA_start {o q : Key → Option Int} {x : Int} {es : List (Key × Int)} (he : Enum q es) : remA o q x es = o := by
  funext k
  unfold remA
  split
  · rfl
  · rename_i h
    have : q k = none := he.out _ (fun p hp e => h (hasK_iff.2 ⟨p, hp, e⟩))
    simp [addM, this]
theorem remA_end (o q : Key → Option Int) (x : Int) : remA o q x [] = addM o q x := by
  funext k; simp [remA, hasK]
theorem remA_at {o q : Key → Option Int} {x : Int} {l1 l2 : List (Key × Int)} {k0 : Key} {a : Int} : remA o q x (l1 ++ (k0, a) :: l2) k0 = o k0 := by
  unfold remA
  rw [hasK_mid]
  simp
theorem remA_step {o q : Key → Option Int} {x : Int} {l1 l2 : List (Key × Int)} {k0 : Key} {a : Int} (h : (l1 ++ (k0, a) :: l2).Pairwise (fun a b => a.1 ≠ b.1)) (hc : q k0 = some a) :
    mset (remA o q x (l1 ++ (k0, a) :: l2)) k0 (((o k0).getD 0 + x % 10007 * a) % 10007) = remA o q x (l1 ++ l2) := by
  funext k
  unfold mset
  by_cases hk : k = k0
  · subst hk
    rw [if_pos rfl]
    unfold remA
    rw [hasK_not h]
    simp [addM, hc]
  · rw [if_neg hk]
    unfold remA
    rw [hasK_mid]
    have : ¬ k0 = k := fun e => hk e.symm
    simp [this]
end Go.Proofs.Ytoamidolomldnaa

/- The reference's derivative of a part has the value of the program's. -/
namespace Go.Proofs.Ytoamidolomldnaa
open Go.Abs
set_option linter.unusedVariables false
set_option linter.unusedSimpArgs false
set_option maxHeartbeats 1000000
theorem putGo_ok {n : Nat} {c : Int} {e : List Int} (h : VOk n (c, e)) : ∀ (l : List Mon) (done : Bool), (∀ m ∈ l, VOk n m) → ∀ m ∈ putGo c e l done, VOk n m
  | [], true, _, m, hm => by simp [putGo] at hm
  | [], false, _, m, hm => by simp [putGo] at hm; rw [hm]; exact h
  | a :: l, done, hl, m, hm => by
    have ha := hl a (by simp)
    have ih := fun d => putGo_ok h l d (fun b hb => hl b (by simp [hb]))
    have one : ∀ b : Mon, VOk n b → m ∈ (if b.1 = 0 then [] else [b]) → VOk n m := fun b hb hmm => by
      split at hmm
      · simp at hmm
      · simp at hmm; rw [hmm]; exact hb
    rw [putGo] at hm
    split at hm
    · rcases List.mem_append.1 hm with hm | hm
      · exact one ((a.1 + c) % 10007, a.2) ⟨isN_mod _, ha.len, ha.pw⟩ hm
      · exact ih _ m hm
    · split at hm
      · rcases List.mem_cons.1 hm with hm | hm
        · rw [hm]; exact h
        · rcases List.mem_append.1 hm with hm | hm
          · exact one a ha hm
          · exact ih _ m hm
      · rcases List.mem_append.1 hm with hm | hm
        · exact one a ha hm
        · exact ih _ m hm
theorem VOk.low {n i : Nat} {m : Mon} (h : VOk n m) (hi : i < n) (hp : 0 < m.2[i]?.getD 0) : VOk n (m.1 * m.2[i]?.getD 0 % 10007, m.2.set i (m.2[i]?.getD 0 - 1)) := by
  have hl := h.len
  refine ⟨isN_mod _, by simpa using hl, fun x hx => ?_⟩
  rcases List.mem_or_eq_of_mem_set hx with hx | rfl
  · exact h.pw x hx
  · have hm : m.2[i]?.getD 0 ∈ m.2 := by
      rw [List.getElem?_eq_getElem (by omega), Option.getD_some]; exact List.getElem_mem _
    have := h.pw _ hm
    omega
theorem derGo_ok {n i : Nat} (hi : i < n) : ∀ (p acc : List Mon), (∀ m ∈ p, VOk n m) → (∀ m ∈ acc, VOk n m) → ∀ m ∈ derGo i acc p, VOk n m
  | [], acc, _, ha, m, hm => ha m hm
  | a :: p, acc, hp, ha, m, hm => by
    rw [derGo] at hm
    have hav := hp a (by simp)
    refine derGo_ok hi p _ (fun b hb => hp b (by simp [hb])) ?_ m hm
    split
    · rename_i hpos
      exact fun b hb => putGo_ok (hav.low hi hpos) acc _ ha b hb
    · exact ha
theorem derL_ok {n i : Nat} (hi : i < n) {p : List Mon} (hp : ∀ m ∈ p, VOk n m) : ∀ m ∈ derL i p, VOk n m := derGo_ok hi p [] hp (by simp)
theorem derL_cf {n i : Nat} (hi : i < n) (hn : n ≤ 3) {k : Key} (hk : 0 ≤ at3 i k) {p : List Mon} (hp : ∀ m ∈ p, VOk n m) : cfL (derL i p) k % 10007 = der i (cfL p) k % 10007 := by
  unfold derL
  rw [derGo_cf hi hn hk p [] hp]
  simp [cfL, coef, sumI]
theorem sumI_map {α β : Type} (g : α → β) (f : β → Int) : ∀ l : List α, sumI f (l.map g) = sumI (fun a => f (g a)) l
  | [] => rfl
  | a :: l => by rw [List.map_cons, sumI, sumI, sumI_map g f l]
theorem polF_enum {p : List Mon} (h : p.Pairwise (fun a b => keyOf a.2 ≠ keyOf b.2)) : Enum (polF p) (p.map keyM) := by
  refine ⟨?_, fun e he => ?_, fun k hk => ?_⟩
  · rw [List.pairwise_map]; exact h
  · obtain ⟨k, x⟩ := e
    exact (polF_some h).2 he
  · cases hc : polF p k with
    | none => rfl
    | some x => exact (hk _ ((polF_some h).1 hc) rfl).elim
theorem polF_gv {p : List Mon} (h : p.Pairwise (fun a b => keyOf a.2 ≠ keyOf b.2)) (k : Key) : gv (polF p) k = cfL p k := by
  unfold gv
  rw [← coef_enum (polF_enum h) k]
  unfold coef cfL coef
  rw [sumI_map]
  rfl
theorem at3_box {k : Key} (h : k ∈ box) (i : Nat) : 0 ≤ at3 i k := by
  have := mem_box.1 h
  unfold at3
  split
  · omega
  · split <;> omega
/-- What a derivative of a part is worth. -/
theorem jac_eq {n i : Nat} {p : List Mon} {y : List Int} (hn : n ≤ 3) (hi : i < n) (hl : y.length = n) (hp : partB (n : Int) p = true) :
    vsum y (derL i p) % 10007 = Val (yat y) (gv (derM i (polF p))) % 10007 := by
  have hv : ∀ m ∈ p, VOk n m := fun m hm => (partB_mem hp hm).vok
  rw [vsum_Val (by omega) (by rw [hl]; exact derL_ok hi hv)]
  refine Val_mod _ (fun k hk => ?_)
  rw [derL_cf hi hn (at3_box hk i) hv, derM_gv i _ (at3_box hk i)]
  have : gv (polF p) = cfL p := funext (polF_gv (keys_nd (by omega) hp))
  rw [this]
theorem derM_ok {n i : Nat} {c : Key → Option Int} (hi : i < n) (hn : n ≤ 3) (hc : ∀ k x, c k = some x → isN x ∧ KOk n k) : ∀ k x, derM i c k = some x → isN x ∧ KOk n k := by
  intro k x hx
  unfold derM at hx
  cases hcc : c (inc i k) with
  | none => rw [hcc] at hx; simp at hx
  | some a =>
    rw [hcc] at hx
    simp only at hx
    split at hx
    · rename_i hpos
      injection hx with hx
      obtain ⟨_, hb, hz⟩ := hc _ _ hcc
      refine ⟨by rw [← hx]; exact isN_mod _, ?_, fun j h1 h2 => ?_⟩
      · have hb := mem_box.1 hb
        refine mem_box.2 ?_
        clear hz hcc hc
        obtain ⟨a, b, c⟩ := k
        have hi3 : i = 0 ∨ i = 1 ∨ i = 2 := by omega
        rcases hi3 with rfl | rfl | rfl <;> simp [at3, inc] at hb hpos ⊢ <;> omega
      · have := hz j h1 h2
        have hne : j ≠ i := by omega
        have : j = 0 ∨ j = 1 ∨ j = 2 := by omega
        have hi3 : i = 0 ∨ i = 1 ∨ i = 2 := by omega
        rcases this with rfl | rfl | rfl <;> rcases hi3 with rfl | rfl | rfl <;> simp [at3, inc] at * <;> omega
    · simp at hx
end Go.Proofs.Ytoamidolomldnaa

/- Derivatives along vectors, one after the other: the reference's recursion is the program's repeated derivative. -/
namespace Go.Proofs.Ytoamidolomldnaa
open Go.Abs
set_option linter.unusedVariables false
set_option linter.unusedSimpArgs false
set_option maxHeartbeats 1000000
def NN (k : Key) : Prop := 0 ≤ k.1 ∧ 0 ≤ k.2.1 ∧ 0 ≤ k.2.2
def Eqv (C D : Key → Int) : Prop := ∀ k, NN k → C k % 10007 = D k % 10007
theorem NN.box {k : Key} (h : k ∈ box) : NN k := by have := mem_box.1 h; exact ⟨by omega, by omega, by omega⟩
theorem NN.at3 {k : Key} (h : NN k) (i : Nat) : 0 ≤ at3 i k := by
  obtain ⟨a, b, c⟩ := h
  unfold Go.Proofs.Ytoamidolomldnaa.at3
  split
  · omega
  · split <;> omega
theorem NN.inc {k : Key} (h : NN k) (i : Nat) : NN (inc i k) := by
  obtain ⟨a, b, c⟩ := h
  unfold Go.Proofs.Ytoamidolomldnaa.inc NN
  split
  · exact ⟨by simp; omega, b, c⟩
  · split
    · exact ⟨a, by simp; omega, c⟩
    · exact ⟨a, b, by simp; omega⟩
theorem Eqv.refl (C : Key → Int) : Eqv C C := fun _ _ => rfl
theorem Eqv.symm {C D : Key → Int} (h : Eqv C D) : Eqv D C := fun k hk => (h k hk).symm
theorem Eqv.trans {C D E : Key → Int} (h : Eqv C D) (h2 : Eqv D E) : Eqv C E := fun k hk => (h k hk).trans (h2 k hk)
theorem mod_mul {a b : Int} (c : Int) (h : a % 10007 = b % 10007) : c * a % 10007 = c * b % 10007 := by rw [Int.mul_emod, h, ← Int.mul_emod]
theorem mod_add {a b c d : Int} (h : a % 10007 = b % 10007) (h2 : c % 10007 = d % 10007) : (a + c) % 10007 = (b + d) % 10007 := by omega
theorem der_eqv {C D : Key → Int} (h : Eqv C D) (i : Nat) : Eqv (der i C) (der i D) := fun k hk => mod_mul _ (h _ (hk.inc i))
theorem alo_eqv {C D : Key → Int} (h : Eqv C D) (v : Nat → Int) : ∀ n, Eqv (alo v C n) (alo v D n)
  | 0, k, hk => rfl
  | n + 1, k, hk => mod_add (alo_eqv h v n k hk) (mod_mul _ (der_eqv h n k hk))
theorem alo_add (v : Nat → Int) (C D : Key → Int) (k : Key) : ∀ n, alo v (fun k => C k + D k) n k = alo v C n k + alo v D n k
  | 0 => rfl
  | n + 1 => by simp only [alo, alo_add v C D k n, der_add, Int.mul_add]; omega
theorem alo_mul (v : Nat → Int) (c : Int) (C : Key → Int) (k : Key) : ∀ n, alo v (fun k => c * C k) n k = c * alo v C n k
  | 0 => by simp [alo]
  | n + 1 => by simp only [alo, alo_mul v c C k n, der_mul, Int.mul_add]; rw [Int.mul_left_comm]
/-- One vector after the other. -/
def Dv (n : Nat) : List (List Int) → (Key → Int) → Key → Int
  | [], C => C
  | v :: vs, C => Dv n vs (alo (yat v) C n)
theorem Dv_eqv (n : Nat) : ∀ (vs : List (List Int)) {C D : Key → Int}, Eqv C D → Eqv (Dv n vs C) (Dv n vs D)
  | [], _, _, h => h
  | v :: vs, _, _, h => Dv_eqv n vs (alo_eqv h (yat v) n)
theorem Dv_add (n : Nat) : ∀ (vs : List (List Int)) (C D : Key → Int), Dv n vs (fun k => C k + D k) = fun k => Dv n vs C k + Dv n vs D k
  | [], _, _ => rfl
  | v :: vs, C, D => by
    have : alo (yat v) (fun k => C k + D k) n = fun k => alo (yat v) C n k + alo (yat v) D n k := funext (fun k => alo_add (yat v) C D k n)
    rw [Dv, this, Dv_add n vs]; rfl
theorem Dv_mul (n : Nat) : ∀ (vs : List (List Int)) (c : Int) (C : Key → Int), Dv n vs (fun k => c * C k) = fun k => c * Dv n vs C k
  | [], _, _ => rfl
  | v :: vs, c, C => by
    have : alo (yat v) (fun k => c * C k) n = fun k => c * alo (yat v) C n k := funext (fun k => alo_mul (yat v) c C k n)
    rw [Dv, this, Dv_mul n vs]; rfl
theorem Dv_zero (n : Nat) : ∀ (vs : List (List Int)), Dv n vs (fun _ => 0) = fun _ => 0
  | [] => rfl
  | v :: vs => by
    have h0 : ∀ m (k : Key), alo (yat v) (fun _ => 0) m k = 0 := by
      intro m
      induction m with
      | zero => intro k; rfl
      | succ m ih => intro k; simp [alo, ih, der]
    have : alo (yat v) (fun _ => 0) n = fun _ => 0 := funext (h0 n)
    rw [Dv, this, Dv_zero n vs]
theorem Val_eqv (y : Nat → Int) {C D : Key → Int} (h : Eqv C D) : Val y C % 10007 = Val y D % 10007 := Val_mod y (fun k hk => h k (NN.box hk))
/-- The reference's recursion: the first m variables' part of the sum for the first vector. -/
def sumTo (f : Nat → Int) : Nat → Int
  | 0 => 0
  | m + 1 => sumTo f m + f m
def alongS (y : List Int) (n : Nat) : List (List Int) → List Mon → Int
  | [], p => vsum y p
  | v :: vs, p => sumTo (fun k => yat v k * alongS y n vs (derL k p)) n
theorem derL_eqv {n i : Nat} (hi : i < n) (hn : n ≤ 3) {p : List Mon} (hp : ∀ m ∈ p, VOk n m) : Eqv (cfL (derL i p)) (der i (cfL p)) := fun k hk => derL_cf hi hn (hk.at3 i) hp
theorem alongS_eq {y : List Int} {n : Nat} (hn : n ≤ 3) (hl : y.length = n) : ∀ (vs : List (List Int)) (p : List Mon), (∀ m ∈ p, VOk n m) → alongS y n vs p % 10007 = Val (yat y) (Dv n vs (cfL p)) % 10007
  | [], p, hp => vsum_Val (by omega) (by rw [hl]; exact hp)
  | v :: vs, p, hp => by
    have gen : ∀ m, m ≤ n → sumTo (fun k => yat v k * alongS y n vs (derL k p)) m % 10007 = Val (yat y) (Dv n vs (alo (yat v) (cfL p) m)) % 10007 := by
      intro m
      induction m with
      | zero =>
        intro _
        have : alo (yat v) (cfL p) 0 = fun _ => 0 := rfl
        rw [this, Dv_zero]
        have : Val (yat y) (fun _ => 0) = 0 := sumI_zero (fun _ _ => by simp)
        rw [this]; rfl
      | succ m ih =>
        intro hm
        have e : alo (yat v) (cfL p) (m + 1) = fun k => alo (yat v) (cfL p) m k + yat v m * der m (cfL p) k := rfl
        rw [e, Dv_add n vs (alo (yat v) (cfL p) m) (fun k => yat v m * der m (cfL p) k), Dv_mul n vs (yat v m) (der m (cfL p)), Val_add, Val_mul]
        refine mod_add (ih (by omega)) (mod_mul _ ?_)
        rw [alongS_eq hn hl vs (derL m p) (derL_ok (by omega) hp)]
        exact Val_eqv _ (Dv_eqv n vs (derL_eqv (by omega) hn hp))
    exact gen n (Nat.le_refl n)
/-- The program's derivative along a vector, on maps. -/
def aloM (v : List Int) (c : Key → Option Int) : Nat → Key → Option Int
  | 0 => mzero
  | n + 1 => addM (aloM v c n) (derM n c) (yat v n)
theorem aloM_gv (v : List Int) (c : Key → Option Int) : ∀ n, Eqv (gv (aloM v c n)) (alo (yat v) (gv c) n)
  | 0, k, hk => rfl
  | n + 1, k, hk => by
    rw [aloM, addM_gv]
    exact mod_add (aloM_gv v c n k hk) (mod_mul _ (derM_gv n c (hk.at3 n)))
def DvM (n : Nat) : List (List Int) → (Key → Option Int) → Key → Option Int
  | [], c => c
  | v :: vs, c => DvM n vs (aloM v c n)
theorem DvM_gv (n : Nat) : ∀ (vs : List (List Int)) (c : Key → Option Int), Eqv (gv (DvM n vs c)) (Dv n vs (gv c))
  | [], c => Eqv.refl _
  | v :: vs, c => (DvM_gv n vs (aloM v c n)).trans (Dv_eqv n vs (aloM_gv v c n))
/-- What derivatives along vectors are worth. -/
theorem along_eq {n : Nat} {p : List Mon} {y : List Int} (hn : n ≤ 3) (hl : y.length = n) (hp : partB (n : Int) p = true) (vs : List (List Int)) :
    alongS y n vs p % 10007 = Val (yat y) (gv (DvM n vs (polF p))) % 10007 := by
  have hv : ∀ m ∈ p, VOk n m := fun m hm => (partB_mem hp hm).vok
  have : gv (polF p) = cfL p := funext (polF_gv (keys_nd (by omega) hp))
  rw [alongS_eq hn hl vs p hv, Val_eqv _ (DvM_gv n vs (polF p)), this]
end Go.Proofs.Ytoamidolomldnaa

/- Fields: the program's values. -/
namespace Go.Proofs.Ytoamidolomldnaa
open Go.Abs
set_option linter.unusedVariables false
set_option linter.unusedSimpArgs false
set_option maxHeartbeats 1000000
theorem partValue_c {z : Int} {p : List Mon} {y : List Int} (hz : z ≤ 3) (hp : partB z p = true) (hpl : p.length ≤ 1048576) (hy : Ns y) (hl : (y.length : Int) = z) :
    Con Try.prog 137 [.fmp (polF p), .sl y.length (avs y)] (.int (vsum y p % 10007)) := by
  have hv := vsum_le y p (fun m hm => by have := partB_mem hp hm; have l1 := this.lo; have l2 := this.hi; exact ⟨by omega, by omega⟩)
  refine value_c (polF p) y (vsum y p) hy (by omega) (fun k x hk => part_entries hz hp hk) (by omega) (fun es he => ?_)
  rw [rest_perm y (enum_perm (keys_nd hz hp) he)]
  exact rest_map (by omega) p
theorem valuesAt_c (z : Int) (f : List (List Mon)) (y : List Int) (hf : FieldOk z f) (hs : Small f) (hy : Ns y) (hl : (y.length : Int) = z) :
    Con Try.prog 135 [.sl f.length (fpols f), .sl y.length (avs y)] (.own 2 f.length (avs (evL y f))) := by
  have fl := hs.1
  have z3 := hf.hi
  refine con_of_vc Try.mixed ⟨8, [], [], []⟩ Try.func135 (by decide) rfl (by simp) (by decide) (by simp [freshOK, freshL, go_sem]) ?_
  rw [Try.ntmps135]
  simp [go_sem]
  refine loop_inv (5 :: 7 :: List.range' 11 11) (fun i : Nat => [(5, .own 2 i (avs (evL y (f.take i)))), (11, .int i)]) (fun i => i ≤ f.length) (fun i => f.length - i) 0 (by simp) (by simp [go_sem, evL]) (by simp [go_sem]) ?_
  intro i hi
  simp [go_sem]
  refine ⟨fun h => ?_, fun h => ?_⟩ <;> simp at h
  · have hif := h
    have hx : f[i]?.getD [] ∈ f := by simp [h]
    have hv := evL_take (y := y) h
    simp [go_sem, fpols_drop hif]
    refine ⟨⟨hif, by rintro rfl; simp at hif⟩, ?_⟩
    refine CallVC.of (partValue_c z3 (hf.part _ hx) (hs.2 _ hx).1 hy hl) (by decide) ?_
    simp [go_sem]
    refine ⟨⟨by omega, by omega⟩, by omega, i + 1, by omega, by omega, Off_reset _ _ _ (by simp), ?_, by omega⟩
    rw [hv]; simp [avs_snoc, Nat.min_eq_left hi]
  · simp [go_sem]
    have e : i = f.length := by omega
    subst e; simp
theorem EvaluateField_c (z : Int) (f : List (List Mon)) (y : List Int) (hs : Small f) (hy : y.length ≤ 9223372036854775807) :
    Con Try.prog 45 [.agg [.int z, .sl f.length (prt f)], .sl y.length (avs y)] (evR z f y) := by
  have cK := checkVectors_c z f [y] hs (by simp) (by simpa using hy)
  have e1 : mat [y] = [.sl y.length (avs y)] := rfl
  have e2 : ([y] : List (List Int)).length = 1 := rfl
  rw [e1, e2] at cK
  unfold evR evX evE
  have hv : ([y] : List (List Int)).any (fun y => !vecB z y) = !vecB z y := by simp
  unfold chk at cK
  rw [hv] at cK
  have hvb : (decide ((y.length : Int) = z) && numsB y) = vecB z y := rfl
  rw [hvb]
  cases hT : fieldB z f with
  | false =>
    rw [hT] at cK
    refine Con.n1 _ ?_
    refine con_of_vc Try.mixed ⟨7, [], [], []⟩ Try.func45 (by decide) rfl (by simp) (by decide) (by simp [freshOK, freshL, go_sem]) ?_
    rw [Try.ntmps45]
    simp [go_sem]
    refine CallVC.of (cK) (by decide) ?_
    simp [go_sem]
  | true =>
    rw [hT] at cK
    cases hn : vecB z y with
    | true =>
      rw [hn] at cK
      simp at cK
      have hn2 : (y.length : Int) = z ∧ numsB y = true := by simpa [vecB] using hn
      have hF := fieldB_iff.1 hT
      simp only [and_self, if_true, evL_len]
      refine con_of_vc Try.mixed ⟨7, [], [], []⟩ Try.func45 (by decide) rfl (by simp) (by decide) (by simp [freshOK, freshL, go_sem]) ?_
      rw [Try.ntmps45]
      simp [go_sem]
      refine CallVC.of (cK) (by decide) ?_
      simp [go_sem]
      refine CallVC.of (polynomials_c z f hF hs) (by decide) ?_
      simp [go_sem]
      refine CallVC.of (valuesAt_c z f y hF hs (numsB_N.1 hn2.2) hn2.1) (by decide) ?_
      simp [go_sem]
    | false =>
      rw [hn] at cK
      simp at cK
      refine Con.n1 _ ?_
      refine con_of_vc Try.mixed ⟨7, [], [], []⟩ Try.func45 (by decide) rfl (by simp) (by decide) (by simp [freshOK, freshL, go_sem]) ?_
      rw [Try.ntmps45]
      simp [go_sem]
      refine CallVC.of (cK) (by decide) ?_
      simp [go_sem]
end Go.Proofs.Ytoamidolomldnaa

/- Contracts: copies and comparisons of rows, terms put into lists, the reference's derivatives. -/
namespace Go.Proofs.Ytoamidolomldnaa
open Go.Abs
set_option linter.unusedVariables false
set_option linter.unusedSimpArgs false
set_option maxHeartbeats 1000000
theorem l01Own_c (xs : List Int) (hl : xs.length ≤ 17592186044416) : Con Try.prog 168 [.sl xs.length (avs xs)] (.own 2 xs.length (avs xs)) := by
  refine con_of_vc Try.mixed ⟨3, [], [], []⟩ Try.func168 (by decide) rfl (by simp) (by decide) (by simp [freshOK, freshL, go_sem]) ?_
  rw [Try.ntmps168]
  simp [go_sem]
  try omega
theorem l01Same_c (a b : List Int) (ha : a.length ≤ 9223372036854775807) : Con Try.prog 186 [.sl a.length (avs a), .sl b.length (avs b)] (.bool (decide (a = b))) := by
  refine con_of_vc Try.mixed ⟨6, [], [], []⟩ Try.func186 (by decide) rfl (by simp) (by decide) (by simp [freshOK, freshL, go_sem]) ?_
  rw [Try.ntmps186]
  simp [go_sem]
  refine ⟨fun h => ?_, fun h => ?_⟩ <;> simp at h <;> simp [go_sem]
  · rintro rfl; omega
  have hl : a.length = b.length := by omega
  refine loop_inv (4 :: 5 :: List.range' 11 16) (fun i : Nat => [(5, .int i)]) (fun i => i ≤ a.length ∧ a.take i = b.take i) (fun i => a.length - i) 0 (by simp) (by simp [go_sem]) (by simp [go_sem]) ?_
  intro i hi
  simp [go_sem]
  refine ⟨fun h => ?_, fun h => ?_⟩ <;> simp at h
  · have h2 : i < b.length := by omega
    simp [go_sem, avs_drop h, avs_drop h2]
    refine ⟨by kernel_rfl, ⟨h, by rintro rfl; simp at h⟩, ⟨h2, by rintro rfl; simp at h2⟩, ?_⟩
    refine ⟨by kernel_rfl, ?_⟩
    simp [go_sem]
    refine ⟨fun h3 => ?_, fun h3 => ?_⟩ <;> simp at h3 <;> simp [go_sem]
    · rintro rfl; exact h3 rfl
    · refine ⟨by omega, i + 1, ⟨by omega, ?_⟩, by omega, Off_reset _ _ _ (by simp), by omega⟩
      rw [List.take_add_one, List.take_add_one, hi.2]
      rw [List.getElem?_eq_getElem h, List.getElem?_eq_getElem h2] at h3 ⊢
      simp only [Option.getD_some] at h3
      rw [h3]
  · simp [go_sem]
    have e : i = a.length := by omega
    subst e
    have := hi.2
    rw [List.take_length, hl, List.take_length] at this
    exact this
theorem omons_one (m : Mon) : omons [m] = [.int m.1, .own 2 m.2.length (avs m.2)] := rfl
theorem putGo_t (c : Int) (e : List Int) (m : Mon) (l : List Mon) : putGo c e (m :: l) true = (if m.1 = 0 then [] else [m]) ++ putGo c e l true := by
  rw [putGo, if_neg (by simp), if_neg (by simp)]
theorem putGo_e (c : Int) (m : Mon) (l : List Mon) : putGo c m.2 (m :: l) false = (if (m.1 + c) % 10007 = 0 then [] else [((m.1 + c) % 10007, m.2)]) ++ putGo c m.2 l true := by
  rw [putGo, if_pos (by simp)]
theorem putGo_l {c : Int} {e : List Int} {m : Mon} (l : List Mon) (h : ¬ m.2 = e) (h2 : ltL e m.2 = true) : putGo c e (m :: l) false = (c, e) :: ((if m.1 = 0 then [] else [m]) ++ putGo c e l true) := by
  rw [putGo, if_neg (by simp [h]), if_pos (by simp [h2])]
theorem putGo_g {c : Int} {e : List Int} {m : Mon} (l : List Mon) (h : ¬ m.2 = e) (h2 : ltL e m.2 = false) : putGo c e (m :: l) false = (if m.1 = 0 then [] else [m]) ++ putGo c e l false := by
  rw [putGo, if_neg (by simp [h]), if_neg (by simp [h2])]
set_option maxRecDepth 100000 in
theorem l13Put_c (L : List Mon) (c : Int) (e : List Int) (hc : isN c) (hL : ∀ m ∈ L, isN m.1 ∧ m.2.length ≤ 1048576) (hl : L.length ≤ 1000000000000) (he : e.length ≤ 1048576) :
    Con Try.prog 247 [.sl L.length (mons L), .int c, .sl e.length (avs e)] (.own 179 (putL L c e).length (omons (putL L c e))) := by
  refine con_of_vc Try.mixed ⟨11, [], [], []⟩ Try.func247 (by decide) rfl (by simp) (by decide) (by simp [freshOK, freshL, go_sem]) ?_
  rw [Try.ntmps247]
  simp [go_sem]
  refine loop_inv (List.range' 7 61) (fun x : Nat × Bool × List Mon => [(7, .own 179 x.2.2.length (omons x.2.2)), (8, .bool x.2.1), (9, .int x.1)]) (fun x => x.1 ≤ L.length ∧ x.2.2.length ≤ x.1 + (if x.2.1 = true then 1 else 0) ∧ x.2.2 ++ putGo c e (L.drop x.1) x.2.1 = putL L c e) (fun x => L.length - x.1) (0, decide (c = 0), []) ⟨by simp, by simp, by simp [putL]⟩ (by simp [go_sem]) (by simp [go_sem]) ?_
  rintro ⟨i, done, O⟩ ⟨hi, hO, he2⟩
  simp only at hi hO he2
  simp [go_sem]
  refine ⟨fun h => ?_, fun h => ?_⟩ <;> simp at h
  · have hif := h
    have hx : L[i]?.getD (0, []) ∈ L := by simp [h]
    have hd : L.drop i = L[i]?.getD (0, []) :: L.drop (i + 1) := by rw [List.drop_eq_getElem_cons h]; simp [h]
    obtain ⟨hm1, hm2⟩ := hL _ hx
    simp [go_sem, mons_drop hif]
    generalize hM : L[i]?.getD (0, []) = m at *
    refine ⟨by kernel_rfl, ⟨hif, by rintro rfl; simp at hif⟩, ?_⟩
    refine CallD.of (l01Own_c m.2 (by omega)) (by simp [roots, rootsL]) (by decide) ?_
    simp [go_sem]
    refine ⟨by kernel_rfl, ?_⟩
    simp [go_sem]
    rw [hd] at he2
    cases done with
    | true =>
      rw [putGo_t] at he2
      simp only [if_true] at hO
      simp [go_sem]
      by_cases h0 : m.1 = 0
      · simp [go_sem, h0]
        rw [if_pos h0] at he2
        exact ⟨by omega, i + 1, O, ⟨by omega, by omega, he2⟩, by omega, Off_reset _ _ _ (by simp), ⟨rfl, rfl⟩, by omega⟩
      · simp [go_sem, h0]
        rw [if_neg h0] at he2
        exact ⟨⟨by omega, by omega⟩, by omega, i + 1, O ++ [m], ⟨by omega, by simp; omega, by simpa using he2⟩, by omega, Off_reset _ _ _ (by simp), ⟨by simp, by simp [omons_app, omons_one]⟩, by omega⟩
    | false =>
      simp only [Bool.false_eq_true, if_false] at hO
      by_cases hme : m.2 = e
      · subst hme
        rw [putGo_e] at he2
        simp [go_sem]
        refine CallVC.of (l01Same_c m.2 m.2 (by omega)) (by decide) ?_
        simp [go_sem]
        refine CallVC.of (l01Add_c _ _ (add_fits hm1 hc)) (by decide) ?_
        simp [go_sem]
        by_cases h0 : (m.1 + c) % 10007 = 0
        · simp [go_sem, h0]
          rw [if_pos h0] at he2
          exact ⟨by omega, i + 1, O, ⟨by omega, by omega, he2⟩, by omega, Off_reset _ _ _ (by simp), ⟨rfl, rfl⟩, by omega⟩
        · simp [go_sem, h0]
          rw [if_neg h0] at he2
          exact ⟨⟨by omega, by omega⟩, by omega, i + 1, O ++ [((m.1 + c) % 10007, m.2)], ⟨by omega, by simp; omega, by simpa using he2⟩, by omega, Off_reset _ _ _ (by simp), ⟨by simp, by simp [omons_app, omons_one]⟩, by omega⟩
      · simp [go_sem]
        refine CallVC.of (l01Same_c m.2 e (by omega)) (by decide) ?_
        simp [go_sem]
        simp [go_sem, hme]
        refine CallVC.of (l01Less_c e m.2 (by omega) (by omega)) (by decide) ?_
        simp [go_sem]
        cases hlt : ltL e m.2 with
        | true =>
          rw [putGo_l _ hme hlt] at he2
          simp [go_sem]
          refine CallVC.of (l01Own_c e (by omega)) (by decide) ?_
          simp [go_sem]
          by_cases h0 : m.1 = 0
          · simp [go_sem, h0]
            rw [if_pos h0] at he2
            exact ⟨⟨by omega, by omega⟩, by omega, i + 1, O ++ [(c, e)], ⟨by omega, by simp; omega, by simpa using he2⟩, by omega, Off_reset _ _ _ (by simp), ⟨by simp, by simp [omons_app, omons_one]⟩, by omega⟩
          · simp [go_sem, h0]
            rw [if_neg h0] at he2
            exact ⟨⟨by omega, by omega⟩, ⟨by omega, by omega, by omega⟩, by omega, i + 1, O ++ [(c, e), m], ⟨by omega, by simp; omega, by simpa using he2⟩, by omega, Off_reset _ _ _ (by simp), ⟨by simp, by simp [omons]⟩, by omega⟩
        | false =>
          rw [putGo_g _ hme hlt] at he2
          simp [go_sem]
          by_cases h0 : m.1 = 0
          · simp [go_sem, h0]
            rw [if_pos h0] at he2
            exact ⟨by omega, i + 1, O, ⟨by omega, by omega, he2⟩, by omega, Off_reset _ _ _ (by simp), ⟨rfl, rfl⟩, by omega⟩
          · simp [go_sem, h0]
            rw [if_neg h0] at he2
            exact ⟨⟨by omega, by omega⟩, by omega, i + 1, O ++ [m], ⟨by omega, by simp; omega, by simpa using he2⟩, by omega, Off_reset _ _ _ (by simp), ⟨by simp, by simp [omons_app, omons_one]⟩, by omega⟩
  · simp [go_sem]
    rw [List.drop_eq_nil_of_le h] at he2
    cases done with
    | true =>
      simp [go_sem]
      rw [← he2]; simp [putGo]
    | false =>
      simp only [Bool.false_eq_true, if_false] at hO
      simp [go_sem]
      refine CallVC.of (l01Own_c e (by omega)) (by decide) ?_
      simp [go_sem]
      rw [← he2]
      exact ⟨⟨by omega, by omega⟩, by simp [putGo], by simp [putGo, omons_app, omons_one]⟩
end Go.Proofs.Ytoamidolomldnaa

/- Commutative rings with whole numbers in them, power series over them, polynomials and the chain rule: plain laws. -/
namespace Go.Proofs.Ytoamidolomldnaa
set_option linter.unusedVariables false
set_option linter.unusedSimpArgs false
class CR (α : Type) extends Add α, Mul α where
  ofI : Int → α
  addC : ∀ a b : α, a + b = b + a
  addA : ∀ a b c : α, a + b + c = a + (b + c)
  add0 : ∀ a : α, a + ofI 0 = a
  mulC : ∀ a b : α, a * b = b * a
  mulA : ∀ a b c : α, a * b * c = a * (b * c)
  mul1 : ∀ a : α, a * ofI 1 = a
  mulD : ∀ a b c : α, a * (b + c) = a * b + a * c
  mul0 : ∀ a : α, a * ofI 0 = ofI 0
  ofAdd : ∀ a b : Int, ofI (a + b) = ofI a + ofI b
  ofMul : ∀ a b : Int, ofI (a * b) = ofI a * ofI b
namespace CR
section
variable {α : Type} [CR α]
instance : Std.Associative (α := α) (· + ·) := ⟨addA⟩
instance : Std.Commutative (α := α) (· + ·) := ⟨addC⟩
instance : Std.Associative (α := α) (· * ·) := ⟨mulA⟩
instance : Std.Commutative (α := α) (· * ·) := ⟨mulC⟩
theorem zadd (a : α) : ofI 0 + a = a := by rw [addC, add0]
theorem omul (a : α) : ofI 1 * a = a := by rw [mulC, mul1]
theorem zmul (a : α) : ofI 0 * a = ofI 0 := by rw [mulC, mul0]
theorem Dmul (a b c : α) : (a + b) * c = a * c + b * c := by rw [mulC, mulD, mulC c, mulC c]
end
end CR
open CR
instance : CR Int where
  ofI := id
  addC := Int.add_comm
  addA := Int.add_assoc
  add0 := Int.add_zero
  mulC := Int.mul_comm
  mulA := Int.mul_assoc
  mul1 := Int.mul_one
  mulD := Int.mul_add
  mul0 := Int.mul_zero
  ofAdd := fun _ _ => rfl
  ofMul := fun _ _ => rfl
/-- Power series. -/
abbrev Ser (α : Type) := Nat → α
def sh {α : Type} (a : Ser α) : Ser α := fun n => a (n + 1)
def cmul {α : Type} [CR α] : Nat → Ser α → Ser α → α
  | 0, a, b => a 0 * b 0
  | n + 1, a, b => a 0 * b (n + 1) + cmul n (sh a) b
section
variable {α : Type} [CR α]
theorem cmul_add (n : Nat) : ∀ (a b c : Ser α), cmul n a (fun i => b i + c i) = cmul n a b + cmul n a c := by
  induction n with
  | zero => intro a b c; exact mulD _ _ _
  | succ n ih => intro a b c; simp only [cmul, ih, mulD]; ac_rfl
theorem cmul_last (n : Nat) : ∀ (a b : Ser α), cmul (n + 1) a b = cmul n a (sh b) + a (n + 1) * b 0 := by
  induction n with
  | zero => intro a b; rfl
  | succ n ih =>
    intro a b
    rw [cmul, ih, cmul]
    show a 0 * b (n + 1 + 1) + (cmul n (sh a) (sh b) + a (n + 1 + 1) * b 0) = a 0 * b (n + 1 + 1) + cmul n (sh a) (sh b) + a (n + 1 + 1) * b 0
    ac_rfl
theorem cmul_comm (n : Nat) : ∀ (a b : Ser α), cmul n a b = cmul n b a := by
  induction n with
  | zero => intro a b; exact mulC _ _
  | succ n ih => intro a b; rw [cmul, cmul_last, ih, mulC, addC]
theorem cmul_smul (c : α) (n : Nat) : ∀ (a b : Ser α), cmul n (fun i => c * a i) b = c * cmul n a b := by
  induction n with
  | zero => intro a b; exact mulA _ _ _
  | succ n ih =>
    intro a b
    have := ih (sh a) b
    simp only [cmul, mulD]
    rw [← this, mulA]; rfl
theorem cmul_addl (n : Nat) (a b c : Ser α) : cmul n (fun i => a i + b i) c = cmul n a c + cmul n b c := by
  rw [cmul_comm n (fun i => a i + b i) c, cmul_add, cmul_comm n c a, cmul_comm n c b]
theorem cmul_assoc (n : Nat) : ∀ (a b c : Ser α), cmul n (fun i => cmul i a b) c = cmul n a (fun i => cmul i b c) := by
  induction n with
  | zero => intro a b c; exact mulA _ _ _
  | succ n ih =>
    intro a b c
    have e : sh (fun i => cmul i a b) = fun i => a 0 * sh b i + cmul i (sh a) b := rfl
    simp only [cmul]
    rw [e, cmul_addl, cmul_smul, ih, mulD]
    show a 0 * b 0 * c (n + 1) + _ = _
    rw [mulA]; ac_rfl
def sOf (k : Int) : Ser α := fun n => if n = 0 then ofI k else ofI 0
theorem cmul_of (k : Int) : ∀ (n : Nat) (a : Ser α), cmul n a (sOf k) = a n * ofI k := by
  intro n
  induction n with
  | zero => intro a; rfl
  | succ n ih =>
    intro a
    rw [cmul, ih]
    show a 0 * ofI 0 + a (n + 1) * ofI k = _
    rw [mul0, zadd]
instance : CR (Ser α) where
  add := fun a b n => a n + b n
  mul := fun a b n => cmul n a b
  ofI := sOf
  addC := fun a b => funext fun n => addC _ _
  addA := fun a b c => funext fun n => addA _ _ _
  add0 := fun a => funext fun n => by show a n + (if n = 0 then ofI 0 else ofI 0) = a n; rw [ite_self, add0]
  mulC := fun a b => funext fun n => cmul_comm n a b
  mulA := fun a b c => funext fun n => cmul_assoc n a b c
  mul1 := fun a => funext fun n => by show cmul n a (sOf 1) = a n; rw [cmul_of, mul1]
  mulD := fun a b c => funext fun n => cmul_add n a b c
  mul0 := fun a => funext fun n => by show cmul n a (sOf 0) = if n = 0 then ofI 0 else ofI 0; rw [cmul_of, mul0, ite_self]
  ofAdd := fun a b => funext fun n => by
    show (if n = 0 then (ofI (a + b) : α) else ofI 0) = (if n = 0 then ofI a else ofI 0) + (if n = 0 then ofI b else ofI 0)
    split
    · exact ofAdd _ _
    · rw [add0]
  ofMul := fun a b => funext fun n => by
    show (if n = 0 then (ofI (a * b) : α) else ofI 0) = cmul n (sOf a) (sOf b)
    rw [cmul_of]
    show (if n = 0 then (ofI (a * b) : α) else ofI 0) = (if n = 0 then ofI a else ofI 0) * ofI b
    split
    · exact ofMul _ _
    · rw [zmul]
theorem ser_add (a b : Ser α) (n : Nat) : (a + b) n = a n + b n := rfl
theorem ser_mul (a b : Ser α) (n : Nat) : (a * b) n = cmul n a b := rfl
theorem ser_of0 (k : Int) : (ofI k : Ser α) 0 = ofI k := rfl
theorem ser_ofS (k : Int) (n : Nat) : (ofI k : Ser α) (n + 1) = ofI 0 := rfl
theorem mul_at0 (a b : Ser α) : (a * b : Ser α) 0 = a 0 * b 0 := rfl
/-- Multiplication of each coefficient by its index. -/
def th (a : Ser α) : Ser α := fun n => ofI (n : Int) * a n
theorem th_mul (a b : Ser α) : th (a * b) = th a * b + a * th b := by
  have gen : ∀ (n : Nat) (a b : Ser α), ofI (n : Int) * cmul n a b = cmul n (th a) b + cmul n a (th b) := by
    intro n
    induction n with
    | zero => intro a b; simp [cmul, th, zmul, mul0, add0]
    | succ n ih =>
      intro a b
      have e1 : sh (th a) = fun i => th (sh a) i + sh a i := funext fun i => by
        show ofI ((i + 1 : Nat) : Int) * a (i + 1) = ofI (i : Int) * a (i + 1) + a (i + 1)
        rw [show ((i + 1 : Nat) : Int) = (i : Int) + 1 by omega, ofAdd, Dmul, omul]
      have e2 : th a 0 = ofI 0 := by show ofI ((0 : Nat) : Int) * a 0 = _; exact zmul _
      have e3 : th b (n + 1) = ofI ((n + 1 : Nat) : Int) * b (n + 1) := rfl
      simp only [cmul]
      rw [e1, e2, e3, zmul, zadd, cmul_addl, mulD, show ((n + 1 : Nat) : Int) = (n : Int) + 1 by omega, ofAdd, Dmul (ofI (n : Int)) (ofI 1) (cmul n (sh a) b), ih, omul]
      have : (ofI (n : Int) + ofI 1) * (a 0 * b (n + 1)) = a 0 * ((ofI (n : Int) + ofI 1) * b (n + 1)) := by ac_rfl
      rw [this]; ac_rfl
  exact funext fun n => gen n a b
theorem th_add (a b : Ser α) : th (a + b) = th a + th b := funext fun n => mulD _ _ _
theorem th_of (k : Int) : th (ofI k : Ser α) = ofI 0 := funext fun n => by
  cases n with
  | zero => exact zmul _
  | succ n => show ofI _ * ofI 0 = ofI 0; exact mul0 _
def pwr (a : α) : Nat → α
  | 0 => ofI 1
  | n + 1 => pwr a n * a
theorem th_pwr (a : Ser α) : ∀ n : Nat, th (pwr a n) = ofI (n : Int) * (pwr a (n - 1) * th a)
  | 0 => by rw [pwr, th_of]; exact (zmul _).symm
  | n + 1 => by
    rw [pwr, th_mul, th_pwr a n, show ((n + 1 : Nat) : Int) = (n : Int) + 1 by omega, ofAdd, Dmul, omul, Nat.add_sub_cancel]
    cases n with
    | zero =>
      have z : (ofI ((0 : Nat) : Int) : Ser α) = ofI 0 := rfl
      rw [z, zmul, zmul, zadd]
    | succ n =>
      rw [Nat.add_sub_cancel, pwr]; ac_rfl
/-- Sums of lists, of the first numbers. -/
def sL {β : Type} (f : β → α) : List β → α
  | [] => ofI 0
  | b :: l => f b + sL f l
def sT (f : Nat → α) : Nat → α
  | 0 => ofI 0
  | n + 1 => sT f n + f n
/-- A monomial's exponents, one less at k. -/
def dx (k : Nat) (e : Nat → Nat) : Nat → Nat := fun j => if j = k then e j - 1 else e j
def mon (U : Nat → α) (e : Nat → Nat) : Nat → α
  | 0 => ofI 1
  | d + 1 => mon U e d * pwr (U d) (e d)
theorem mon_congr (U : Nat → α) {e e' : Nat → Nat} : ∀ {d : Nat}, (∀ j, j < d → e j = e' j) → mon U e d = mon U e' d
  | 0, _ => rfl
  | d + 1, h => by rw [mon, mon, mon_congr U (fun j hj => h j (by omega)), h d (by omega)]
theorem sT_congr {f g : Nat → α} : ∀ {n : Nat}, (∀ j, j < n → f j = g j) → sT f n = sT g n
  | 0, _ => rfl
  | n + 1, h => by rw [sT, sT, sT_congr (fun j hj => h j (by omega)), h n (by omega)]
theorem sT_mul (c : α) (f : Nat → α) : ∀ n, sT (fun k => c * f k) n = c * sT f n
  | 0 => (mul0 _).symm
  | n + 1 => by rw [sT, sT, sT_mul c f n, mulD]
theorem sT_add (f g : Nat → α) : ∀ n, sT (fun k => f k + g k) n = sT f n + sT g n
  | 0 => (add0 _).symm
  | n + 1 => by simp only [sT, sT_add f g n]; ac_rfl
theorem sT_zero : ∀ n, sT (fun _ => (ofI 0 : α)) n = ofI 0
  | 0 => rfl
  | n + 1 => by rw [sT, sT_zero n, add0]
theorem sL_app {β : Type} (f : β → α) (l r : List β) : sL f (l ++ r) = sL f l + sL f r := by
  induction l with
  | nil => exact (zadd _).symm
  | cons a l ih => simp only [List.cons_append, sL, ih]; ac_rfl
theorem sL_add {β : Type} (f g : β → α) : ∀ l : List β, sL (fun b => f b + g b) l = sL f l + sL g l
  | [] => (add0 _).symm
  | b :: l => by simp only [sL, sL_add f g l]; ac_rfl
theorem sL_mul {β : Type} (c : α) (f : β → α) : ∀ l : List β, sL (fun b => c * f b) l = c * sL f l
  | [] => (mul0 _).symm
  | b :: l => by rw [sL, sL, sL_mul c f l, mulD]
theorem sL_congr {β : Type} {f g : β → α} : ∀ {l : List β}, (∀ b ∈ l, f b = g b) → sL f l = sL g l
  | [], _ => rfl
  | b :: l, h => by rw [sL, sL, h b (by simp), sL_congr (fun c hc => h c (by simp [hc]))]
theorem sL_zero {β : Type} {f : β → α} : ∀ {l : List β}, (∀ b ∈ l, f b = ofI 0) → sL f l = ofI 0
  | [], _ => rfl
  | b :: l, h => by rw [sL, h b (by simp), zadd, sL_zero (fun c hc => h c (by simp [hc]))]
theorem sL_sT {β : Type} (f : β → Nat → α) (n : Nat) : ∀ l : List β, sL (fun b => sT (f b) n) l = sT (fun k => sL (fun b => f b k) l) n
  | [] => (sT_zero n).symm
  | b :: l => by
    simp only [sL]
    rw [sL_sT f n l, ← sT_add]
theorem th_mon (U : Nat → Ser α) (e : Nat → Nat) : ∀ d, th (mon U e d) = sT (fun k => ofI (e k : Int) * (mon U (dx k e) d * th (U k))) d
  | 0 => th_of 1
  | d + 1 => by
    rw [mon, th_mul, th_mon U e d, th_pwr, sT]
    have e1 : sT (fun k => ofI (e k : Int) * (mon U (dx k e) (d + 1) * th (U k))) d = sT (fun k => pwr (U d) (e d) * (ofI (e k : Int) * (mon U (dx k e) d * th (U k)))) d := by
      refine sT_congr (fun k hk => ?_)
      rw [mon]
      have : dx k e d = e d := by unfold dx; rw [if_neg (by omega)]
      rw [this]; ac_rfl
    have e2 : mon U (dx d e) (d + 1) = mon U e d * pwr (U d) (e d - 1) := by
      rw [mon, mon_congr U (e := dx d e) (e' := e) (fun j hj => by unfold dx; rw [if_neg (by omega)])]
      have : dx d e d = e d - 1 := by unfold dx; rw [if_pos rfl]
      rw [this]
    rw [e1, e2, sT_mul]
    ac_rfl
/-- A polynomial: a list of terms; its value; that of its derivative by a variable. -/
abbrev Trm := Int × (Nat → Nat)
def ev (d : Nat) (U : Nat → α) (L : List Trm) : α := sL (fun m => ofI m.1 * mon U m.2 d) L
def ev1 (d k : Nat) (U : Nat → α) (L : List Trm) : α := sL (fun m => ofI (m.1 * (m.2 k : Int)) * mon U (dx k m.2) d) L
/-- The chain rule. -/
theorem th_ev (d : Nat) (U : Nat → Ser α) : ∀ L : List Trm, th (ev d U L) = sT (fun k => ev1 d k U L * th (U k)) d := by
  intro L
  have h1 : ∀ L : List Trm, th (ev d U L) = sL (fun m => sT (fun k => ofI (m.1 * (m.2 k : Int)) * mon U (dx k m.2) d * th (U k)) d) L := by
    intro L
    induction L with
    | nil => exact th_of 0
    | cons m L ih =>
      have : ev d U (m :: L) = ofI m.1 * mon U m.2 d + ev d U L := rfl
      rw [this, th_add, ih, sL, th_mul, th_of, zmul, zadd, th_mon, ← sT_mul]
      congr 1
      refine sT_congr (fun k hk => ?_)
      rw [ofMul]; ac_rfl
  rw [h1, sL_sT]
  refine sT_congr (fun k hk => ?_)
  unfold ev1
  rw [mulC, ← sL_mul]
  exact sL_congr (fun m hm => mulC _ _)
/-- The coefficient of index 0. -/
theorem pwr_at0 (a : Ser α) : ∀ n, (pwr a n) 0 = pwr (a 0) n
  | 0 => rfl
  | n + 1 => by rw [pwr, mul_at0, pwr_at0 a n]; rfl
theorem mon_at0 (U : Nat → Ser α) (e : Nat → Nat) : ∀ d, (mon U e d) 0 = mon (fun k => U k 0) e d
  | 0 => rfl
  | d + 1 => by rw [mon, mul_at0, mon_at0 U e d, pwr_at0]; rfl
theorem ev_at0 (d : Nat) (U : Nat → Ser α) : ∀ L : List Trm, (ev d U L) 0 = ev d (fun k => U k 0) L
  | [] => rfl
  | m :: L => by
    have : ev d U (m :: L) = ofI m.1 * mon U m.2 d + ev d U L := rfl
    rw [this, ser_add, mul_at0, ser_of0, mon_at0, ev_at0 d U L]; rfl
theorem sh_mul (a b : Ser α) (h : b 0 = ofI 0) : sh (a * b) = a * sh b := funext fun n => by
  show cmul (n + 1) a b = cmul n a (sh b)
  rw [cmul_last, h, mul0, add0]
theorem sh_add (a b : Ser α) : sh (a + b) = sh a + sh b := rfl
theorem th_0 (a : Ser α) : th a 0 = ofI 0 := zmul _
theorem sh_sT (f : Nat → Ser α) : ∀ n, sh (sT f n) = sT (fun k => sh (f k)) n
  | 0 => funext fun n => by cases n <;> rfl
  | n + 1 => by rw [sT, sh_add, sh_sT f n, sT]
theorem sh_th_ev (d : Nat) (U : Nat → Ser α) (L : List Trm) : sh (th (ev d U L)) = sT (fun k => ev1 d k U L * sh (th (U k))) d := by
  rw [th_ev, sh_sT]
  exact sT_congr (fun k _ => sh_mul _ _ (th_0 _))
end
/-- Congruences. -/
structure Cg (α : Type) [CR α] where
  r : α → α → Prop
  refl : ∀ a, r a a
  symm : ∀ {a b}, r a b → r b a
  trans : ∀ {a b c}, r a b → r b c → r a c
  add : ∀ {a b c d}, r a b → r c d → r (a + c) (b + d)
  mul : ∀ {a b c d}, r a b → r c d → r (a * c) (b * d)
  of : ∀ {a b : Int}, a % 10007 = b % 10007 → r (ofI a) (ofI b)
def cgI : Cg Int where
  r := fun a b => a % 10007 = b % 10007
  refl := fun _ => rfl
  symm := fun h => h.symm
  trans := fun h k => h.trans k
  add := fun h k => by omega
  mul := fun {a b c d} h k => by rw [Int.mul_emod, h, k, ← Int.mul_emod]
  of := fun h => h
section
variable {α : Type} [CR α]
theorem cmul_cg (c : Cg α) {N : Nat} : ∀ {n : Nat} {a b a' b' : Ser α}, n < N → (∀ i, i < N → c.r (a i) (a' i)) → (∀ i, i < N → c.r (b i) (b' i)) → c.r (cmul n a b) (cmul n a' b')
  | n, a, b, a', b', hn, ha, hb => by
    have gen : ∀ (n : Nat) (a b a' b' : Ser α), (∀ i, i ≤ n → c.r (a i) (a' i)) → (∀ i, i ≤ n → c.r (b i) (b' i)) → c.r (cmul n a b) (cmul n a' b') := by
      intro n
      induction n with
      | zero => intro a b a' b' ha hb; exact c.mul (ha 0 (by omega)) (hb 0 (by omega))
      | succ n ih =>
        intro a b a' b' ha hb
        exact c.add (c.mul (ha 0 (by omega)) (hb (n + 1) (by omega))) (ih _ _ _ _ (fun i hi => ha (i + 1) (by omega)) (fun i hi => hb i (by omega)))
    exact gen n a b a' b' (fun i hi => ha i (by omega)) (fun i hi => hb i (by omega))
def cgS (c : Cg α) (N : Nat) : Cg (Ser α) where
  r := fun a b => ∀ n, n < N → c.r (a n) (b n)
  refl := fun a n _ => c.refl _
  symm := fun h n hn => c.symm (h n hn)
  trans := fun h k n hn => c.trans (h n hn) (k n hn)
  add := fun h k n hn => c.add (h n hn) (k n hn)
  mul := fun h k n hn => cmul_cg c hn h k
  of := fun {a b} h n hn => by
    show c.r (if n = 0 then ofI a else ofI 0) (if n = 0 then ofI b else ofI 0)
    split
    · exact c.of h
    · exact c.refl _
theorem Cg.sT (c : Cg α) {f g : Nat → α} : ∀ {n : Nat}, (∀ k, k < n → c.r (f k) (g k)) → c.r (sT f n) (sT g n)
  | 0, _ => c.refl _
  | n + 1, h => c.add (Cg.sT c (fun k hk => h k (by omega))) (h n (by omega))
theorem Cg.sL (c : Cg α) {β : Type} {f g : β → α} : ∀ {l : List β}, (∀ b ∈ l, c.r (f b) (g b)) → c.r (sL f l) (sL g l)
  | [], _ => c.refl _
  | b :: l, h => c.add (h b (by simp)) (Cg.sL c (fun x hx => h x (by simp [hx])))
theorem Cg.pwr (c : Cg α) {a b : α} (h : c.r a b) : ∀ n, c.r (pwr a n) (pwr b n)
  | 0 => c.refl _
  | n + 1 => c.mul (Cg.pwr c h n) h
theorem Cg.mon (c : Cg α) {U V : Nat → α} (e : Nat → Nat) : ∀ {d : Nat}, (∀ k, k < d → c.r (U k) (V k)) → c.r (mon U e d) (mon V e d)
  | 0, _ => c.refl _
  | d + 1, h => c.mul (Cg.mon c e (fun k hk => h k (by omega))) (Cg.pwr c (h d (by omega)) _)
theorem Cg.ev (c : Cg α) {d : Nat} {U V : Nat → α} (h : ∀ k, k < d → c.r (U k) (V k)) (L : List Trm) : c.r (ev d U L) (ev d V L) :=
  c.sL (fun m _ => c.mul (c.refl _) (c.mon m.2 h))
def fct : Nat → Int
  | 0 => 1
  | n + 1 => fct n * ((n : Int) + 1)
/-- What a series that the polynomials F drive is: A is any map of polynomials whose value is the derivative along F. -/
theorem flow_at (c : Cg α) {π : Type} (T : π → List Trm) {d N : Nat} {U : Nat → Ser α} {F : Nat → π} {A : π → π} {Ok : π → Prop}
    (hA : ∀ L, Ok L → Ok (A L) ∧ (cgS c N).r (ev d U (T (A L))) (sT (fun k => ev1 d k U (T L) * ev d U (T (F k))) d))
    (hU : ∀ k, k < d → ∀ n, n < N → c.r (ofI ((n + 1 : Nat) : Int) * U k (n + 1)) (ev d U (T (F k)) n)) :
    ∀ (n : Nat) (L : π), n ≤ N → Ok L → c.r (ofI (fct n) * ev d U (T L) n) (ev d (fun k => U k 0) (T (Nat.repeat A n L))) := by
  have step : ∀ L, Ok L → ∀ n, n < N → c.r (ofI ((n + 1 : Nat) : Int) * ev d U (T L) (n + 1)) (ev d U (T (A L)) n) := by
    intro L hL n hn
    refine c.trans ?_ (c.symm ((hA L hL).2 n hn))
    have : ofI ((n + 1 : Nat) : Int) * ev d U (T L) (n + 1) = sh (th (ev d U (T L))) n := rfl
    rw [this, sh_th_ev]
    exact (cgS c N).sT (fun k hk => (cgS c N).mul ((cgS c N).refl _) (fun n hn => hU k hk n hn)) n hn
  have rep : ∀ (n : Nat) (L : π), Nat.repeat A (n + 1) L = Nat.repeat A n (A L) := by
    intro n
    induction n with
    | zero => intro L; rfl
    | succ n ih => intro L; rw [Nat.repeat, ih]; rfl
  intro n
  induction n with
  | zero =>
    intro L _ _
    show c.r (ofI 1 * ev d U (T L) 0) (ev d (fun k => U k 0) (T L))
    rw [omul, ev_at0]; exact c.refl _
  | succ n ih =>
    intro L hn hL
    have h1 := ih (A L) (by omega) (hA L hL).1
    rw [rep]
    refine c.trans ?_ h1
    have : ofI (fct (n + 1)) * ev d U (T L) (n + 1) = ofI (fct n) * (ofI ((n + 1 : Nat) : Int) * ev d U (T L) (n + 1)) := by
      rw [fct, ofMul, mulA]; rfl
    rw [this]
    exact c.mul (c.refl _) (step L hL n (by omega))
end
end Go.Proofs.Ytoamidolomldnaa

/- Lists of monomials as polynomials over any ring: values of sums, products and derivatives along fields. -/
namespace Go.Proofs.Ytoamidolomldnaa
open CR
set_option linter.unusedVariables false
set_option linter.unusedSimpArgs false
set_option maxHeartbeats 1000000
def ex (e : List Int) : Nat → Nat := fun k => (e[k]?.getD 0).toNat
def tr (m : Mon) : Trm := (m.1, ex m.2)
/-- Monomials of n variables with exponents up to B. -/
structure WOk (n : Nat) (B : Int) (m : Mon) : Prop where
  num : isN m.1
  len : m.2.length = n
  pw : ∀ x ∈ m.2, 0 ≤ x ∧ x ≤ B
theorem VOk.wok {n : Nat} {m : Mon} (h : VOk n m) : WOk n 3 m := ⟨h.num, h.len, h.pw⟩
theorem WOk.le {n : Nat} {B C : Int} {m : Mon} (h : WOk n B m) (hBC : B ≤ C) : WOk n C m := ⟨h.num, h.len, fun x hx => ⟨(h.pw x hx).1, Int.le_trans (h.pw x hx).2 hBC⟩⟩
theorem WOk.get {n : Nat} {B : Int} {m : Mon} (h : WOk n B m) (hB : 0 ≤ B) (k : Nat) : 0 ≤ m.2[k]?.getD 0 ∧ m.2[k]?.getD 0 ≤ B := by
  rcases Nat.lt_or_ge k m.2.length with hk | hk
  · simp [hk]; exact h.pw _ (List.getElem_mem hk)
  · simp [hk]; exact hB
section
variable {α : Type} [CR α]
def evM (d : Nat) (U : Nat → α) (L : List Mon) : α := ev d U (L.map tr)
def evM1 (d k : Nat) (U : Nat → α) (L : List Mon) : α := ev1 d k U (L.map tr)
theorem evM_nil (d : Nat) (U : Nat → α) : evM d U [] = ofI 0 := rfl
theorem evM_cons (d : Nat) (U : Nat → α) (m : Mon) (L : List Mon) : evM d U (m :: L) = ofI m.1 * mon U (ex m.2) d + evM d U L := rfl
theorem evM_app (d : Nat) (U : Nat → α) (L R : List Mon) : evM d U (L ++ R) = evM d U L + evM d U R := by
  unfold evM ev; rw [List.map_append, sL_app]
theorem evM1_cons (d k : Nat) (U : Nat → α) (m : Mon) (L : List Mon) : evM1 d k U (m :: L) = ofI (m.1 * (ex m.2 k : Int)) * mon U (dx k (ex m.2)) d + evM1 d k U L := rfl
theorem evM_if (d : Nat) (U : Nat → α) (m : Mon) : evM d U (if m.1 = 0 then [] else [m]) = ofI m.1 * mon U (ex m.2) d := by
  split
  · rename_i h; rw [h, zmul]; rfl
  · rw [evM_cons, evM_nil, add0]
theorem Cg.eq (c : Cg α) {a b : α} (h : a = b) : c.r a b := by rw [h]; exact c.refl _
theorem putGo_ev (c : Cg α) (d : Nat) (U : Nat → α) (k : Int) (e : List Int) : ∀ (l : List Mon) (done : Bool),
    c.r (evM d U (putGo k e l done)) (evM d U l + if done = true then ofI 0 else ofI k * mon U (ex e) d)
  | [], true => c.eq (by simp [putGo]; rw [add0])
  | [], false => c.eq (by simp [putGo]; rw [evM_cons, evM_nil, addC])
  | m :: l, done => by
    rw [putGo]
    by_cases h1 : done = false ∧ m.2 = e
    · rw [if_pos h1, evM_app, h1.1, ← h1.2]
      have e1 := evM_if d U ((m.1 + k) % 10007, m.2)
      simp only at e1
      rw [e1]
      refine c.trans (c.add (c.mul (c.of (a := (m.1 + k) % 10007) (b := m.1 + k) (by omega)) (c.refl _)) (putGo_ev c d U k m.2 l true)) (c.eq ?_)
      simp only [if_true, Bool.false_eq_true, if_false]
      rw [evM_cons, ofAdd, Dmul, add0]; ac_rfl
    · rw [if_neg h1]
      by_cases h2 : done = false ∧ ltL e m.2 = true
      · rw [if_pos h2, evM_cons, evM_app, evM_if, h2.1]
        refine c.trans (c.add (c.refl _) (c.add (c.refl _) (putGo_ev c d U k e l true))) (c.eq ?_)
        simp only [if_true, Bool.false_eq_true, if_false]
        rw [evM_cons, add0]; ac_rfl
      · rw [if_neg h2, evM_app, evM_if]
        refine c.trans (c.add (c.refl _) (putGo_ev c d U k e l done)) (c.eq ?_)
        rw [evM_cons, addA]
theorem putL_ev (c : Cg α) (d : Nat) (U : Nat → α) (L : List Mon) (k : Int) (e : List Int) : c.r (evM d U (putL L k e)) (evM d U L + ofI k * mon U (ex e) d) := by
  unfold putL
  refine c.trans (putGo_ev c d U k e L _) (c.eq ?_)
  by_cases h : k = 0
  · simp [h]; rw [zmul]
  · simp [h]
/-- Sums. -/
def plusL (p : List Mon) (k : Int) : List Mon → List Mon
  | [] => p
  | m :: q => plusL (putL p (k * m.1 % 10007) m.2) k q
theorem plusL_app (p : List Mon) (k : Int) (q r : List Mon) : plusL p k (q ++ r) = plusL (plusL p k q) k r := by
  induction q generalizing p with
  | nil => rfl
  | cons m q ih => exact ih _
theorem plusL_ev (c : Cg α) (d : Nat) (U : Nat → α) (k : Int) : ∀ (q p : List Mon), c.r (evM d U (plusL p k q)) (evM d U p + ofI k * evM d U q)
  | [], p => c.eq (by rw [evM_nil, mul0, add0]; rfl)
  | m :: q, p => by
    rw [plusL]
    refine c.trans (plusL_ev c d U k q _) ?_
    refine c.trans (c.add (putL_ev c d U p _ m.2) (c.refl _)) ?_
    refine c.trans (c.add (c.add (c.refl _) (c.mul (c.of (a := k * m.1 % 10007) (b := k * m.1) (by omega)) (c.refl _))) (c.refl _)) (c.eq ?_)
    rw [evM_cons, mulD, ofMul]; ac_rfl
/-- Products. -/
def addE (a b : List Int) : List Int := List.zipWith (· + ·) a b
def prodRow (a : Mon) (acc : List Mon) : List Mon → List Mon
  | [] => acc
  | b :: q => prodRow a (putL acc (a.1 * b.1 % 10007) (addE a.2 b.2)) q
def prodGo (acc : List Mon) (q : List Mon) : List Mon → List Mon
  | [] => acc
  | a :: p => prodGo (prodRow a acc q) q p
def prodL (p q : List Mon) : List Mon := prodGo [] q p
theorem prodRow_app (a : Mon) (acc p q : List Mon) : prodRow a acc (p ++ q) = prodRow a (prodRow a acc p) q := by
  induction p generalizing acc with
  | nil => rfl
  | cons m p ih => exact ih _
theorem prodGo_app (acc q p r : List Mon) : prodGo acc q (p ++ r) = prodGo (prodGo acc q p) q r := by
  induction p generalizing acc with
  | nil => rfl
  | cons m p ih => exact ih _
theorem pwr_add (a : α) (n : Nat) : ∀ m : Nat, pwr a (n + m) = pwr a n * pwr a m
  | 0 => (mul1 _).symm
  | m + 1 => by rw [← Nat.add_assoc, pwr, pwr, pwr_add a n m, mulA]
theorem mon_add (U : Nat → α) (e f : Nat → Nat) : ∀ d, mon U (fun k => e k + f k) d = mon U e d * mon U f d
  | 0 => (mul1 _).symm
  | d + 1 => by rw [mon, mon, mon, mon_add U e f d, pwr_add]; ac_rfl
theorem ex_add {a b : List Int} {n : Nat} (ha : a.length = n) (hb : b.length = n) (h1 : ∀ x ∈ a, 0 ≤ x) (h2 : ∀ x ∈ b, 0 ≤ x) (k : Nat) : ex (addE a b) k = ex a k + ex b k := by
  unfold ex addE
  rcases Nat.lt_or_ge k n with hk | hk
  · rw [List.getElem?_eq_getElem (by simp; omega), List.getElem?_eq_getElem (by omega), List.getElem?_eq_getElem (by omega)]
    have := h1 _ (List.getElem_mem (show k < a.length by omega))
    have := h2 _ (List.getElem_mem (show k < b.length by omega))
    simp; omega
  · rw [List.getElem?_eq_none (by simp; omega), List.getElem?_eq_none (by omega), List.getElem?_eq_none (by omega)]; rfl
/-- Lists of n variables' monomials. -/
def LOk (n : Nat) (L : List Mon) : Prop := ∀ m ∈ L, m.2.length = n ∧ ∀ x ∈ m.2, 0 ≤ x
theorem LOk.tl {n : Nat} {m : Mon} {L : List Mon} (h : LOk n (m :: L)) : LOk n L := fun a ha => h a (by simp [ha])
theorem LOk.hd {n : Nat} {m : Mon} {L : List Mon} (h : LOk n (m :: L)) : m.2.length = n ∧ ∀ x ∈ m.2, 0 ≤ x := h m (by simp)
theorem prodRow_ev (c : Cg α) (d : Nat) (U : Nat → α) {n : Nat} {a : Mon} (ha : a.2.length = n ∧ ∀ x ∈ a.2, 0 ≤ x) : ∀ (q acc : List Mon), LOk n q → c.r (evM d U (prodRow a acc q)) (evM d U acc + ofI a.1 * mon U (ex a.2) d * evM d U q)
  | [], acc, _ => c.eq (by rw [evM_nil, mul0, add0]; rfl)
  | b :: q, acc, hq => by
    have hb := hq.hd
    rw [prodRow]
    refine c.trans (prodRow_ev c d U ha q _ hq.tl) ?_
    refine c.trans (c.add (putL_ev c d U acc _ _) (c.refl _)) ?_
    refine c.trans (c.add (c.add (c.refl _) (c.mul (c.of (a := a.1 * b.1 % 10007) (b := a.1 * b.1) (by omega)) (c.refl _))) (c.refl _)) (c.eq ?_)
    have : mon U (ex (addE a.2 b.2)) d = mon U (ex a.2) d * mon U (ex b.2) d := by
      rw [← mon_add]; exact mon_congr U (fun k _ => ex_add ha.1 hb.1 ha.2 hb.2 k)
    rw [this, evM_cons, mulD, ofMul]; ac_rfl
theorem prodGo_ev (c : Cg α) (d : Nat) (U : Nat → α) {n : Nat} {q : List Mon} (hq : LOk n q) : ∀ (p acc : List Mon), LOk n p → c.r (evM d U (prodGo acc q p)) (evM d U acc + evM d U p * evM d U q)
  | [], acc, _ => c.eq (by rw [evM_nil, zmul, add0]; rfl)
  | a :: p, acc, hp => by
    rw [prodGo]
    refine c.trans (prodGo_ev c d U hq p _ hp.tl) ?_
    refine c.trans (c.add (prodRow_ev c d U hp.hd q acc hq) (c.refl _)) (c.eq ?_)
    rw [evM_cons, Dmul]; ac_rfl
theorem prodL_ev (c : Cg α) (d : Nat) (U : Nat → α) {n : Nat} {p q : List Mon} (hp : LOk n p) (hq : LOk n q) : c.r (evM d U (prodL p q)) (evM d U p * evM d U q) :=
  c.trans (prodGo_ev c d U hq p [] hp) (c.eq (zadd _))
theorem ex_low {e : List Int} {i n : Nat} (hi : i < n) (hl : e.length = n) (k : Nat) : ex (e.set i (e[i]?.getD 0 - 1)) k = dx i (ex e) k := by
  unfold ex dx
  rw [List.getElem?_set]
  by_cases h : i = k
  · subst h
    rw [if_pos rfl, if_pos (by omega), if_pos rfl]
    simp
  · rw [if_neg h, if_neg (Ne.symm h)]
theorem derGo_ev (c : Cg α) (d : Nat) (U : Nat → α) {n i : Nat} (hi : i < n) : ∀ (p acc : List Mon), LOk n p → c.r (evM d U (derGo i acc p)) (evM d U acc + evM1 d i U p)
  | [], acc, _ => c.eq (add0 _).symm
  | m :: p, acc, h => by
    have hm := h.hd
    rw [derGo, evM1_cons]
    refine c.trans (derGo_ev c d U hi p _ h.tl) ?_
    have h0 : 0 ≤ m.2[i]?.getD 0 := by
      rw [List.getElem?_eq_getElem (by omega), Option.getD_some]; exact hm.2 _ (List.getElem_mem _)
    by_cases hpos : 0 < m.2[i]?.getD 0
    · rw [if_pos hpos]
      refine c.trans (c.add (putL_ev c d U acc _ _) (c.refl _)) ?_
      refine c.trans (c.add (c.add (c.refl _) (c.mul (c.of (a := m.1 * m.2[i]?.getD 0 % 10007) (b := m.1 * (ex m.2 i : Int)) ?_) (c.refl _))) (c.refl _)) (c.eq ?_)
      · unfold ex; rw [Int.toNat_of_nonneg h0, Int.emod_emod_of_dvd _ (Int.dvd_refl _)]
      · rw [mon_congr U (fun k _ => ex_low hi hm.1 k), addA]
    · rw [if_neg hpos]
      have : ex m.2 i = 0 := by unfold ex; omega
      rw [this]
      have z : ofI (m.1 * ((0 : Nat) : Int)) = (ofI 0 : α) := by simp
      rw [z, zmul, zadd]
      exact c.refl _
theorem derL_ev (c : Cg α) (d : Nat) (U : Nat → α) {n i : Nat} (hi : i < n) {p : List Mon} (hp : LOk n p) : c.r (evM d U (derL i p)) (evM1 d i U p) :=
  c.trans (derGo_ev c d U hi p [] hp) (c.eq (zadd _))
/-- The derivative along a field. -/
def alongGo (acc p : List Mon) (k : Nat) : List (List Mon) → List Mon
  | [] => acc
  | F :: f => alongGo (plusL acc 1 (prodL F (derL k p))) p (k + 1) f
def alongL (f : List (List Mon)) (p : List Mon) : List Mon := alongGo [] p 0 f
theorem alongGo_app (acc p : List Mon) (k : Nat) (f g : List (List Mon)) : alongGo acc p k (f ++ g) = alongGo (alongGo acc p k f) p (k + f.length) g := by
  induction f generalizing acc k with
  | nil => rfl
  | cons F f ih => simp only [List.cons_append, alongGo, ih, List.length_cons]; congr 1; omega
theorem putGo_lok {n : Nat} {k : Int} {e : List Int} (h : e.length = n ∧ ∀ x ∈ e, 0 ≤ x) : ∀ (l : List Mon) (done : Bool), LOk n l → LOk n (putGo k e l done)
  | [], true, _, m, hm => by simp [putGo] at hm
  | [], false, _, m, hm => by simp [putGo] at hm; rw [hm]; exact h
  | a :: l, done, hl, m, hm => by
    have ha := hl.hd
    have ih := fun d => putGo_lok (k := k) h l d hl.tl
    have one : ∀ b : Mon, (b.2.length = n ∧ ∀ x ∈ b.2, 0 ≤ x) → m ∈ (if b.1 = 0 then [] else [b]) → (m.2.length = n ∧ ∀ x ∈ m.2, 0 ≤ x) := fun b hb hmm => by
      split at hmm
      · simp at hmm
      · simp at hmm; rw [hmm]; exact hb
    rw [putGo] at hm
    split at hm
    · rcases List.mem_append.1 hm with hm | hm
      · exact one ((a.1 + k) % 10007, a.2) ha hm
      · exact ih _ m hm
    · split at hm
      · rcases List.mem_cons.1 hm with hm | hm
        · rw [hm]; exact h
        · rcases List.mem_append.1 hm with hm | hm
          · exact one a ha hm
          · exact ih _ m hm
      · rcases List.mem_append.1 hm with hm | hm
        · exact one a ha hm
        · exact ih _ m hm
theorem plusL_lok {n : Nat} {k : Int} : ∀ (q p : List Mon), LOk n q → LOk n p → LOk n (plusL p k q)
  | [], p, _, hp => hp
  | m :: q, p, hq, hp => plusL_lok q _ hq.tl (putGo_lok hq.hd p _ hp)
theorem addE_ok {n : Nat} {a b : List Int} (ha : a.length = n ∧ ∀ x ∈ a, 0 ≤ x) (hb : b.length = n ∧ ∀ x ∈ b, 0 ≤ x) : (addE a b).length = n ∧ ∀ x ∈ addE a b, 0 ≤ x := by
  refine ⟨by unfold addE; simp; omega, fun x hx => ?_⟩
  obtain ⟨i, hi, rfl⟩ := List.getElem_of_mem hx
  unfold addE at hi ⊢
  simp at hi ⊢
  have h1 := ha.2 _ (List.getElem_mem (show i < a.length by omega))
  have h2 := hb.2 _ (List.getElem_mem (show i < b.length by omega))
  omega
theorem prodRow_lok {n : Nat} {a : Mon} (ha : a.2.length = n ∧ ∀ x ∈ a.2, 0 ≤ x) : ∀ (q acc : List Mon), LOk n q → LOk n acc → LOk n (prodRow a acc q)
  | [], _, _, h => h
  | b :: q, acc, hq, h => prodRow_lok ha q _ hq.tl (putGo_lok (addE_ok ha hq.hd) acc _ h)
theorem prodGo_lok {n : Nat} {q : List Mon} (hq : LOk n q) : ∀ (p acc : List Mon), LOk n p → LOk n acc → LOk n (prodGo acc q p)
  | [], _, _, h => h
  | a :: p, acc, hp, h => prodGo_lok hq p _ hp.tl (prodRow_lok hp.hd q acc hq h)
theorem derGo_lok {n i : Nat} (hi : i < n) : ∀ (p acc : List Mon), LOk n p → LOk n acc → LOk n (derGo i acc p)
  | [], acc, _, ha => ha
  | a :: p, acc, hp, ha => by
    rw [derGo]
    have hav := hp.hd
    refine derGo_lok hi p _ hp.tl ?_
    split
    · rename_i hpos
      refine putGo_lok ⟨by simpa using hav.1, fun x hx => ?_⟩ acc _ ha
      rcases List.mem_or_eq_of_mem_set hx with hx | rfl
      · exact hav.2 x hx
      · omega
    · exact ha
theorem alongGo_lok {n : Nat} {p : List Mon} (hp : LOk n p) : ∀ (f : List (List Mon)) (k : Nat) (acc : List Mon), k + f.length ≤ n → (∀ F ∈ f, LOk n F) → LOk n acc → LOk n (alongGo acc p k f)
  | [], _, _, _, _, h => h
  | F :: f, k, acc, hk, hf, h => by
    rw [List.length_cons] at hk
    exact alongGo_lok hp f (k + 1) _ (by omega) (fun G hG => hf G (by simp [hG])) (plusL_lok _ _ (prodGo_lok (derGo_lok (by omega) p [] hp (by intro m hm; simp at hm)) F [] (hf F (by simp)) (by intro m hm; simp at hm)) h)
theorem alongL_lok {n : Nat} {f : List (List Mon)} {p : List Mon} (hp : LOk n p) (hf : ∀ F ∈ f, LOk n F) (hl : f.length ≤ n) : LOk n (alongL f p) := alongGo_lok hp f 0 [] (by omega) hf (by intro m hm; simp at hm)
theorem sT_shift (f : Nat → α) : ∀ n, sT f (n + 1) = f 0 + sT (fun k => f (k + 1)) n
  | 0 => by simp only [sT]; rw [addC]
  | n + 1 => by rw [sT, sT_shift f n, sT, addA]
theorem alongGo_ev (c : Cg α) (d : Nat) (U : Nat → α) {n : Nat} {p : List Mon} (hp : LOk n p) : ∀ (f : List (List Mon)) (k : Nat) (acc : List Mon), k + f.length ≤ n → (∀ F ∈ f, LOk n F) →
    c.r (evM d U (alongGo acc p k f)) (evM d U acc + sT (fun j => evM1 d (k + j) U p * evM d U (f[j]?.getD [])) f.length)
  | [], k, acc, _, _ => c.eq (add0 _).symm
  | F :: f, k, acc, hk, hf => by
    rw [List.length_cons] at hk
    rw [alongGo, List.length_cons, sT_shift]
    have hD : LOk n (derL k p) := derGo_lok (by omega) p [] hp (by intro m hm; simp at hm)
    refine c.trans (alongGo_ev c d U hp f (k + 1) _ (by omega) (fun G hG => hf G (by simp [hG]))) ?_
    refine c.trans (c.add (c.trans (plusL_ev c d U 1 _ acc) (c.add (c.refl _) (c.mul (c.refl _) (c.trans (prodL_ev c d U (hf F (by simp)) hD) (c.mul (c.refl _) (derL_ev c d U (by omega) hp)))))) (c.refl _)) (c.eq ?_)
    have e1 : sT (fun j => evM1 d (k + 1 + j) U p * evM d U (f[j]?.getD [])) f.length = sT (fun j => evM1 d (k + (j + 1)) U p * evM d U ((F :: f)[j + 1]?.getD [])) f.length :=
      sT_congr (fun j _ => by simp [Nat.add_assoc, Nat.add_comm 1 j])
    rw [e1, omul, addA]
    simp only [Nat.add_zero, List.getElem?_cons_zero, Option.getD_some]
    rw [mulC (evM d U F)]
theorem alongL_ev (c : Cg α) (d : Nat) (U : Nat → α) {n : Nat} {p : List Mon} (hp : LOk n p) {f : List (List Mon)} (hl : f.length ≤ n) (hf : ∀ F ∈ f, LOk n F) :
    c.r (evM d U (alongL f p)) (sT (fun j => evM1 d j U p * evM d U (f[j]?.getD [])) f.length) := by
  refine c.trans (alongGo_ev c d U hp f 0 [] (by omega) hf) (c.eq ?_)
  rw [evM_nil, zadd]
  exact sT_congr (fun j _ => by rw [Nat.zero_add])
/-- The flow that a field drives, by the derivatives along it. -/
theorem flow_is (c : Cg α) {d N : Nat} {U : Nat → Ser α} {f : List (List Mon)} (hl : f.length = d) (hf : ∀ F ∈ f, LOk d F)
    (hU : ∀ k, k < d → ∀ n, n < N → c.r (ofI ((n + 1 : Nat) : Int) * U k (n + 1)) (evM d U (f[k]?.getD []) n)) :
    ∀ (n : Nat) (L : List Mon), n ≤ N → LOk d L → c.r (ofI (fct n) * evM d U L n) (evM d (fun k => U k 0) (Nat.repeat (alongL f) n L)) := by
  refine flow_at c (π := List Mon) (fun L => L.map tr) (F := fun k => f[k]?.getD []) (A := alongL f) (Ok := LOk d) (fun L hL => ⟨alongL_lok hL hf (by omega), ?_⟩) hU
  have := alongL_ev (cgS c N) d U hL (f := f) (by omega) hf
  rw [hl] at this
  exact this
end
end Go.Proofs.Ytoamidolomldnaa

/- Contracts: the reference's derivative of a list, values of such lists, the program's derivative of a map. -/
namespace Go.Proofs.Ytoamidolomldnaa
open Go.Abs
set_option linter.unusedVariables false
set_option linter.unusedSimpArgs false
set_option maxHeartbeats 1000000
theorem putGo_len (c : Int) (e : List Int) : ∀ (l : List Mon) (done : Bool), (putGo c e l done).length ≤ l.length + 1
  | [], true => by simp [putGo]
  | [], false => by simp [putGo]
  | m :: l, done => by
    have one : ∀ b : Mon, (if b.1 = 0 then [] else [b]).length ≤ 1 := fun b => by split <;> simp
    have ht : ∀ l : List Mon, (putGo c e l true).length ≤ l.length := by
      intro l
      induction l with
      | nil => simp [putGo]
      | cons m l ih => rw [putGo_t]; have := one m; simp; omega
    have h1 := putGo_len c e l done
    have h2 := ht l
    have h3 := one m
    have h4 := one ((m.1 + c) % 10007, m.2)
    simp only at h4
    rw [putGo]
    split
    · simp only [List.length_append, List.length_cons]; omega
    · split
      · simp only [List.length_append, List.length_cons]; omega
      · simp only [List.length_append, List.length_cons]; omega
theorem putL_len (L : List Mon) (c : Int) (e : List Int) : (putL L c e).length ≤ L.length + 1 := putGo_len c e L _
theorem derGo_len (i : Nat) : ∀ (p acc : List Mon), (derGo i acc p).length ≤ acc.length + p.length
  | [], acc => by simp [derGo]
  | m :: p, acc => by
    rw [derGo]
    have := derGo_len i p (if 0 < m.2[i]?.getD 0 then putL acc (m.1 * m.2[i]?.getD 0 % 10007) (m.2.set i (m.2[i]?.getD 0 - 1)) else acc)
    have h : (if 0 < m.2[i]?.getD 0 then putL acc (m.1 * m.2[i]?.getD 0 % 10007) (m.2.set i (m.2[i]?.getD 0 - 1)) else acc).length ≤ acc.length + 1 := by
      split
      · exact putL_len _ _ _
      · omega
    simp; omega
/-- Monomials of n variables stay such. -/
theorem putGo_wok {n : Nat} {B c : Int} {e : List Int} (h : WOk n B (c, e)) : ∀ (l : List Mon) (done : Bool), (∀ m ∈ l, WOk n B m) → ∀ m ∈ putGo c e l done, WOk n B m
  | [], true, _, m, hm => by simp [putGo] at hm
  | [], false, _, m, hm => by simp [putGo] at hm; rw [hm]; exact h
  | a :: l, done, hl, m, hm => by
    have ha := hl a (by simp)
    have ih := fun d => putGo_wok h l d (fun b hb => hl b (by simp [hb]))
    have one : ∀ b : Mon, WOk n B b → m ∈ (if b.1 = 0 then [] else [b]) → WOk n B m := fun b hb hmm => by
      split at hmm
      · simp at hmm
      · simp at hmm; rw [hmm]; exact hb
    rw [putGo] at hm
    split at hm
    · rcases List.mem_append.1 hm with hm | hm
      · exact one ((a.1 + c) % 10007, a.2) ⟨isN_mod _, ha.len, ha.pw⟩ hm
      · exact ih _ m hm
    · split at hm
      · rcases List.mem_cons.1 hm with hm | hm
        · rw [hm]; exact h
        · rcases List.mem_append.1 hm with hm | hm
          · exact one a ha hm
          · exact ih _ m hm
      · rcases List.mem_append.1 hm with hm | hm
        · exact one a ha hm
        · exact ih _ m hm
theorem WOk.low {n i : Nat} {B : Int} {m : Mon} (h : WOk n B m) (hi : i < n) (hp : 0 < m.2[i]?.getD 0) : WOk n B (m.1 * m.2[i]?.getD 0 % 10007, m.2.set i (m.2[i]?.getD 0 - 1)) := by
  have hl := h.len
  refine ⟨isN_mod _, by simpa using hl, fun x hx => ?_⟩
  rcases List.mem_or_eq_of_mem_set hx with hx | rfl
  · exact h.pw x hx
  · have hm : m.2[i]?.getD 0 ∈ m.2 := by
      rw [List.getElem?_eq_getElem (by omega), Option.getD_some]; exact List.getElem_mem _
    have := h.pw _ hm
    omega
theorem derGo_wok {n i : Nat} {B : Int} (hi : i < n) : ∀ (p acc : List Mon), (∀ m ∈ p, WOk n B m) → (∀ m ∈ acc, WOk n B m) → ∀ m ∈ derGo i acc p, WOk n B m
  | [], acc, _, ha, m, hm => ha m hm
  | a :: p, acc, hp, ha, m, hm => by
    rw [derGo] at hm
    have hav := hp a (by simp)
    refine derGo_wok hi p _ (fun b hb => hp b (by simp [hb])) ?_ m hm
    split
    · rename_i hpos
      exact fun b hb => putGo_wok (hav.low hi hpos) acc _ ha b hb
    · exact ha
theorem small_mul {a b : Int} (ha : isN a) (h0 : 0 ≤ b) (h1 : b ≤ 1000000) : fits (a * b) := by
  obtain ⟨a0, a1⟩ := ha
  have := Int.mul_nonneg a0 h0
  have : a * b ≤ 10006 * 1000000 := Int.mul_le_mul (by omega) h1 h0 (by omega)
  exact ⟨by omega, by omega⟩
set_option maxRecDepth 100000 in
theorem l13Derive_c {n : Nat} {B : Int} (p : List Mon) (k : Nat) (hk : k < n) (hn : n ≤ 1000) (hB : 0 ≤ B) (hB2 : B ≤ 1000000) (hp : ∀ m ∈ p, WOk n B m) (hl : p.length ≤ 100000000000) :
    Con Try.prog 250 [.sl p.length (mons p), .int k] (.own 179 (derL k p).length (omons (derL k p))) := by
  refine con_of_vc Try.mixed ⟨9, [], [], []⟩ Try.func250 (by decide) rfl (by simp) (by decide) (by simp [freshOK, freshL, go_sem]) ?_
  rw [Try.ntmps250]
  simp [go_sem]
  refine loop_inv (List.range' 5 45) (fun i : Nat => [(5, .own 179 (derL k (p.take i)).length (omons (derL k (p.take i)))), (6, .int i)]) (fun i => i ≤ p.length) (fun i => p.length - i) 0 (by simp) (by simp [go_sem, derL, derGo]) (by simp [go_sem]) ?_
  intro i hi
  simp [go_sem]
  refine ⟨fun h => ?_, fun h => ?_⟩ <;> simp at h
  · have hif := h
    have hx : p[i]?.getD (0, []) ∈ p := by simp [h]
    have hm := hp _ hx
    have hd : derL k (p.take (i + 1)) = (if 0 < (p[i]?.getD (0, [])).2[k]?.getD 0 then putL (derL k (p.take i)) ((p[i]?.getD (0, [])).1 * (p[i]?.getD (0, [])).2[k]?.getD 0 % 10007) ((p[i]?.getD (0, [])).2.set k ((p[i]?.getD (0, [])).2[k]?.getD 0 - 1)) else derL k (p.take i)) := by
      unfold derL
      rw [List.take_add_one, derGo_app]; simp [hif, derGo]
    have hw : ∀ m ∈ derL k (p.take i), WOk n B m := derGo_wok hk _ [] (fun m hm => hp m (List.mem_of_mem_take hm)) (by simp)
    have hdl := derGo_len k (p.take i) []
    have hdl2 : (derL k (p.take i)).length ≤ i := by unfold derL; simp at hdl; omega
    simp [go_sem, mons_drop hif]
    generalize hM : p[i]?.getD (0, []) = m at *
    have hml := hm.len
    have g := hm.get hB k
    have hkl : k < m.2.length := by omega
    have cO := l01Own_c m.2 (by omega)
    refine ⟨⟨hif, by rintro rfl; simp at hif⟩, ?_⟩
    refine CallVC.of (cO) (by decide) ?_
    simp [go_sem]
    simp [go_sem, mons_drop hif, hM, avs_at hkl]
    refine ⟨by kernel_rfl, ⟨hif, by rintro rfl; simp at hif⟩, hkl, ?_⟩
    refine CallD.of (l01Mul_c _ _ (small_mul hm.num g.1 (by omega))) (by simp [roots, rootsL]) (by decide) ?_
    simp [go_sem]
    refine ⟨by kernel_rfl, ?_⟩
    simp [go_sem]
    simp [go_sem, avs_at hkl]
    refine ⟨hkl, ?_⟩
    by_cases hpos : 0 < m.2[k]?.getD 0
    · rw [if_pos hpos] at hd
      have hv := hm.low (by omega) hpos
      have cP := l13Put_c (derL k (p.take i)) (m.1 * m.2[k]?.getD 0 % 10007) (m.2.set k (m.2[k]?.getD 0 - 1)) (isN_mod _) (fun q hq => ⟨(hw q hq).num, by have := (hw q hq).len; omega⟩) (by omega) (by simp; omega)
      rw [List.length_set] at cP
      simp [go_sem, hpos, avs_at hkl]
      refine ⟨hkl, ⟨by omega, by omega⟩, hkl, ?_⟩
      rw [avs_set, avs_frz]
      refine CallVC.of (cP) (by decide) ?_
      simp [go_sem]
      exact ⟨by omega, i + 1, by omega, by omega, Off_reset _ _ _ (by simp), by rw [hd]; exact ⟨rfl, rfl⟩, by omega⟩
    · rw [if_neg hpos] at hd
      simp [go_sem, hpos]
      exact ⟨by omega, i + 1, by omega, by omega, Off_reset _ _ _ (by simp), by rw [hd]; exact ⟨rfl, rfl⟩, by omega⟩
  · simp [go_sem]
    rw [List.take_of_length_le h]
    simp
set_option maxRecDepth 100000 in
theorem l13ValueW_c {B : Int} (p : List Mon) (y : List Int) (hy : Ns y) (hl : y.length ≤ 1000) (hp : p.length ≤ 10000000) (hB : 0 ≤ B) (hB2 : B ≤ 1000000) (hm : ∀ m ∈ p, WOk y.length B m) :
    Con Try.prog 249 [.sl p.length (mons p), .sl y.length (avs y)] (.int (vsum y p % 10007)) := by
  refine con_of_vc Try.mixed ⟨9, [], [], []⟩ Try.func249 (by decide) rfl (by simp) (by decide) (by simp [freshOK, freshL, go_sem]) ?_
  rw [Try.ntmps249]
  simp [go_sem]
  refine loop_inv (5 :: 6 :: 7 :: 8 :: List.range' 9 35) (fun i : Nat => [(5, .int (vsum y (p.take i) % 10007)), (6, .int i)]) (fun i => i ≤ p.length) (fun i => p.length - i) 0 (by simp) (by simp [go_sem, vsum]) (by simp [go_sem]) ?_
  intro i hi
  simp [go_sem]
  refine ⟨fun h => ?_, fun h => ?_⟩ <;> simp at h
  · have hif := h
    have hx : p[i]?.getD (0, []) ∈ p := by simp [h]
    have ho := hm _ hx
    have hv := vsum_take (y := y) h
    simp [go_sem, mons_drop hif]
    refine ⟨⟨hif, by rintro rfl; simp at hif⟩, ?_⟩
    generalize hM : p[i]?.getD (0, []) = m at *
    have hml : m.2.length = y.length := ho.len
    have hx1 : isN m.1 := ho.num
    refine loop_inv (7 :: 8 :: List.range' 20 21) (fun k : Nat => [(7, .int (tmF y m.2 m.1 k)), (8, .int k)]) (fun k => k ≤ y.length) (fun k => y.length - k) 0 (by simp) (by simp [go_sem, tmF]) (by simp [go_sem]) ?_
    intro k hk
    simp [go_sem]
    refine ⟨fun h => ?_, fun h => ?_⟩ <;> simp at h
    · have hk2 : k < m.2.length := by omega
      have g := ho.get hB k
      simp [go_sem, mons_drop hif, hM, avs_drop h, avs_drop hk2]
      refine ⟨by kernel_rfl, ⟨h, by rintro rfl; simp at h⟩, ⟨hif, by rintro rfl; simp at hif⟩, ⟨hk2, fun e => by rw [e] at hk2; simp at hk2⟩, ?_⟩
      refine CallD.of (l01Pow_c _ _ (hy.get k) g.1 (by omega)) (by simp [roots, rootsL]) (by decide) ?_
      simp [go_sem]
      refine CallD.of (l01Mul_c _ _ (mul_fits (tmF_N hx1 k) (isN_mod _))) (by simp [roots, rootsL]) (by decide) ?_
      simp [go_sem]
      refine ⟨by kernel_rfl, ?_⟩
      simp [go_sem]
      refine ⟨by omega, k + 1, by omega, by omega, Off_reset _ _ _ (by simp), by simp [tmF], by omega⟩
    · have e : k = y.length := by omega
      subst e
      simp [go_sem]
      refine CallVC.of (l01Add_c _ _ (add_fits (isN_mod _) (tmF_N hx1 _))) (by decide) ?_
      simp [go_sem]
      refine ⟨by omega, i + 1, by omega, by omega, (Off.reset (by intro x hx; simp at hx ⊢; omega) (by simp) (by simp [go_sem, Off_reset])), ?_, by omega⟩
      rw [hv]
  · simp [go_sem]
    have e : i = p.length := by omega
    subst e; simp
set_option maxRecDepth 100000 in
theorem derivative_c {n : Nat} (c : Key → Option Int) (i : Nat) (hi : i < n) (hn : n ≤ 3) (hc : ∀ k x, c k = some x → isN x ∧ KOk n k) :
    Con Try.prog 136 [.fmp c, .int i] (.mp (derM i c)) := by
  refine con_of_vc Try.mixed ⟨9, [], [], []⟩ Try.func136 (by decide) rfl (by simp) (by decide) (by simp [freshOK, freshL, go_sem]) ?_
  rw [Try.ntmps136]
  simp [go_sem]
  intro es hes
  have hok : ∀ e ∈ es, c e.1 = some e.2 := fun e he => hes.val e he
  refine loop_inv (List.range' 5 34) (fun x : Option (Key × Int) × List (Key × Int) => [(5, .mp (remD i c x.2)), (11, .it x.1 x.2)]) (fun x => x.2.Pairwise (fun a b => a.1 ≠ b.1) ∧ ∀ e ∈ x.2, c e.1 = some e.2) (fun x => x.2.length) (none, es) ⟨hes.nd, hok⟩ (by simp [go_sem, remD_start hes]) (by simp [go_sem]) ?_
  rintro ⟨l, rem⟩ ⟨hnd, hrem⟩
  simp only at hnd hrem
  simp [go_sem, keyAV]
  refine ⟨fun hr => ?_, fun l1 k0 k1 k2 x l2 hr => ?_⟩
  · subst hr
    exact remD_end i c
  · subst hr
    have h3 : i = 0 ∨ i = 1 ∨ i = 2 := by omega
    have hcx := hrem ((k0, k1, k2), x) (by simp)
    have hx := hc _ _ hcx
    have hbx := mem_box.1 hx.2.1
    simp only at hcx hbx
    have hnum := hx.1
    have hnd2 : (l1 ++ l2).Pairwise (fun a b => a.1 ≠ b.1) := hnd.sublist (List.Sublist.append (List.Sublist.refl _) (List.sublist_cons_self _ _))
    have hrem2 : ∀ a b c' y, ((a, b, c'), y) ∈ l1 ++ l2 → c (a, b, c') = some y := fun a b c' y hm => hrem ((a, b, c'), y) (by
      rcases List.mem_append.1 hm with hm | hm <;> simp [hm])
    rcases h3 with rfl | rfl | rfl
    · have hz : remD 0 c (l1 ++ ((k0, k1, k2), x) :: l2) (k0 - 1, k1, k2) = none := remD_at (i := 0) (c := c) (l1 := l1) (l2 := l2) (k0 := (k0, k1, k2)) (x := x)
      simp [go_sem]
      by_cases hp : 0 < k0
      · have hs : mset (remD 0 c (l1 ++ ((k0, k1, k2), x) :: l2)) (k0 - 1, k1, k2) (k0 * x % 10007) = remD 0 c (l1 ++ l2) := remD_step (i := 0) hnd hcx hp
        have hf : fits (k0 * x) := by rw [Int.mul_comm]; exact small_mul hnum (by omega) (by omega)
        simp [go_sem, hp, hz]
        refine ⟨⟨by omega, by omega⟩, by kernel_rfl, hf, ?_⟩
        refine CallD.of (num_c _ hf.1 hf.2) (by simp [roots, rootsL]) (by decide) ?_
        simp [go_sem]
        refine ⟨by kernel_rfl, ?_⟩
        simp [go_sem]
        exact ⟨_, _, ⟨hnd2, hrem2⟩, by simp; try omega, Off_reset _ _ _ (by simp), hs, rfl, rfl⟩
      · have hs : remD 0 c (l1 ++ ((k0, k1, k2), x) :: l2) = remD 0 c (l1 ++ l2) := remD_skip (i := 0) hnd hcx hp
        simp [go_sem, hp]
        exact ⟨_, _, ⟨hnd2, hrem2⟩, by simp; try omega, Off_reset _ _ _ (by simp), hs, rfl, rfl⟩
    · have hz : remD 1 c (l1 ++ ((k0, k1, k2), x) :: l2) (k0, k1 - 1, k2) = none := remD_at (i := 1) (c := c) (l1 := l1) (l2 := l2) (k0 := (k0, k1, k2)) (x := x)
      simp [go_sem]
      by_cases hp : 0 < k1
      · have hs : mset (remD 1 c (l1 ++ ((k0, k1, k2), x) :: l2)) (k0, k1 - 1, k2) (k1 * x % 10007) = remD 1 c (l1 ++ l2) := remD_step (i := 1) hnd hcx hp
        have hf : fits (k1 * x) := by rw [Int.mul_comm]; exact small_mul hnum (by omega) (by omega)
        simp [go_sem, hp, hz]
        refine ⟨⟨by omega, by omega⟩, by kernel_rfl, hf, ?_⟩
        refine CallD.of (num_c _ hf.1 hf.2) (by simp [roots, rootsL]) (by decide) ?_
        simp [go_sem]
        refine ⟨by kernel_rfl, ?_⟩
        simp [go_sem]
        exact ⟨_, _, ⟨hnd2, hrem2⟩, by simp; try omega, Off_reset _ _ _ (by simp), hs, rfl, rfl⟩
      · have hs : remD 1 c (l1 ++ ((k0, k1, k2), x) :: l2) = remD 1 c (l1 ++ l2) := remD_skip (i := 1) hnd hcx hp
        simp [go_sem, hp]
        exact ⟨_, _, ⟨hnd2, hrem2⟩, by simp; try omega, Off_reset _ _ _ (by simp), hs, rfl, rfl⟩
    · have hz : remD 2 c (l1 ++ ((k0, k1, k2), x) :: l2) (k0, k1, k2 - 1) = none := remD_at (i := 2) (c := c) (l1 := l1) (l2 := l2) (k0 := (k0, k1, k2)) (x := x)
      simp [go_sem]
      by_cases hp : 0 < k2
      · have hs : mset (remD 2 c (l1 ++ ((k0, k1, k2), x) :: l2)) (k0, k1, k2 - 1) (k2 * x % 10007) = remD 2 c (l1 ++ l2) := remD_step (i := 2) hnd hcx hp
        have hf : fits (k2 * x) := by rw [Int.mul_comm]; exact small_mul hnum (by omega) (by omega)
        simp [go_sem, hp, hz]
        refine ⟨⟨by omega, by omega⟩, by kernel_rfl, hf, ?_⟩
        refine CallD.of (num_c _ hf.1 hf.2) (by simp [roots, rootsL]) (by decide) ?_
        simp [go_sem]
        refine ⟨by kernel_rfl, ?_⟩
        simp [go_sem]
        exact ⟨_, _, ⟨hnd2, hrem2⟩, by simp; try omega, Off_reset _ _ _ (by simp), hs, rfl, rfl⟩
      · have hs : remD 2 c (l1 ++ ((k0, k1, k2), x) :: l2) = remD 2 c (l1 ++ l2) := remD_skip (i := 2) hnd hcx hp
        simp [go_sem, hp]
        exact ⟨_, _, ⟨hnd2, hrem2⟩, by simp; try omega, Off_reset _ _ _ (by simp), hs, rfl, rfl⟩
end Go.Proofs.Ytoamidolomldnaa

/- Contracts: Jacobians, the reference's and the program's; rows of marks. -/
namespace Go.Proofs.Ytoamidolomldnaa
open Go.Abs
set_option linter.unusedVariables false
set_option linter.unusedSimpArgs false
set_option maxHeartbeats 1000000
/-- Rows of derivatives. -/
def jacR (n : Nat) (y : List Int) (p : List Mon) : List Int := (List.range n).map fun k => vsum y (derL k p) % 10007
def jacL (n : Nat) (y : List Int) (f : List (List Mon)) : List (List Int) := f.map (jacR n y)
@[simp] theorem jacR_len (n : Nat) (y : List Int) (p : List Mon) : (jacR n y p).length = n := by simp [jacR]
@[simp] theorem jacL_len (n : Nat) (y : List Int) (f : List (List Mon)) : (jacL n y f).length = f.length := by simp [jacL]
theorem jacR_succ (n : Nat) (y : List Int) (p : List Mon) : jacR (n + 1) y p = jacR n y p ++ [vsum y (derL n p) % 10007] := by simp [jacR, List.range_succ]
theorem jacL_take {n : Nat} {y : List Int} {f : List (List Mon)} {i : Nat} (h : i < f.length) : jacL n y (f.take (i + 1)) = jacL n y (f.take i) ++ [jacR n y (f[i]?.getD [])] := by
  rw [jacL, jacL, List.take_add_one, List.map_append, List.getElem?_eq_getElem h]; rfl
theorem omat_app (A C : List (List Int)) : omat (A ++ C) = omat A ++ omat C := by simp [omat]
theorem omat_one (r : List Int) : omat [r] = [.own 2 r.length (avs r)] := rfl
theorem omat_nil : omat [] = [] := rfl
def jcX (z : Int) (f : List (List Mon)) (y : List Int) : List (List Int) := if fieldB z f = true ∧ (decide ((y.length : Int) = z) && numsB y) = true then jacL y.length y f else []
def jcR (z : Int) (f : List (List Mon)) (y : List Int) : AV := .tup [.own 23 (jcX z f y).length (omat (jcX z f y)), .int (evE z f y)]
theorem polF_kok {n : Nat} {p : List Mon} (hn : n ≤ 3) (hp : partB (n : Int) p = true) {k : Key} {x : Int} (hk : polF p k = some x) : isN x ∧ KOk n k := by
  obtain ⟨m, hm, he⟩ := List.mem_map.1 ((polF_some (keys_nd (by omega) hp)).1 hk)
  simp only [keyM, Prod.mk.injEq] at he
  obtain ⟨rfl, rfl⟩ := he
  have := (partB_mem hp hm).vok
  exact ⟨this.num, this.kok hn⟩
set_option maxRecDepth 100000 in
theorem JacobianAt_c (z : Int) (f : List (List Mon)) (y : List Int) (hs : Small f) (hy : y.length ≤ 9223372036854775807) :
    Con Try.prog 46 [.agg [.int z, .sl f.length (prt f)], .sl y.length (avs y)] (jcR z f y) := by
  have cK := checkVectors_c z f [y] hs (by simp) (by simpa using hy)
  have e1 : mat [y] = [.sl y.length (avs y)] := rfl
  have e2 : ([y] : List (List Int)).length = 1 := rfl
  rw [e1, e2] at cK
  unfold jcR jcX evE
  have hv : ([y] : List (List Int)).any (fun y => !vecB z y) = !vecB z y := by simp
  unfold chk at cK
  rw [hv] at cK
  have hvb : (decide ((y.length : Int) = z) && numsB y) = vecB z y := rfl
  rw [hvb]
  cases hT : fieldB z f with
  | false =>
    rw [hT] at cK
    refine Con.n1 _ ?_
    refine con_of_vc Try.mixed ⟨12, [], [], []⟩ Try.func46 (by decide) rfl (by simp) (by decide) (by simp [freshOK, freshL, go_sem]) ?_
    rw [Try.ntmps46]
    simp [go_sem]
    refine CallVC.of (cK) (by decide) ?_
    simp [go_sem]
  | true =>
    rw [hT] at cK
    cases hn : vecB z y with
    | true =>
      rw [hn] at cK
      simp at cK
      have hn2 : (y.length : Int) = z ∧ numsB y = true := by simpa [vecB] using hn
      have hF := fieldB_iff.1 hT
      have hN := numsB_N.1 hn2.2
      have fl := hs.1
      have z3 := hF.hi
      simp only [and_self, if_true, jacL_len]
      refine con_of_vc Try.mixed ⟨12, [21], [], []⟩ Try.func46 (by decide) rfl (by simp) (by decide) (by simp [freshOK, freshL, go_sem]) ?_
      rw [Try.ntmps46]
      simp [go_sem]
      refine CallVC.of (cK) (by decide) ?_
      simp [go_sem]
      refine CallVC.of (polynomials_c z f hF hs) (by decide) ?_
      simp [go_sem]
      refine loop_inv (7 :: 9 :: 10 :: 11 :: List.range' 23 24) (fun i : Nat => [(7, .own 23 i (omat (jacL y.length y (f.take i)))), (23, .int i)]) (fun i => i ≤ f.length) (fun i => f.length - i) 0 (by simp) (by simp [go_sem, jacL, omat_nil]) (by simp [go_sem]) ?_
      intro i hi
      simp [go_sem]
      refine ⟨fun h => ?_, fun h => ?_⟩ <;> simp at h
      · have hif := h
        have hx : f[i]?.getD [] ∈ f := by simp [h]
        have hv := jacL_take (n := y.length) (y := y) h
        simp [go_sem, fpols_drop hif]
        refine ⟨⟨hif, by rintro rfl; simp at hif⟩, ?_⟩
        refine loop_inv (10 :: 11 :: List.range' 30 12) (fun k : Nat => [(10, .own 2 k (avs (jacR k y (f[i]?.getD [])))), (30, .int k)]) (fun k => k ≤ y.length) (fun k => y.length - k) 0 (by simp) (by simp [go_sem, jacR]) (by simp [go_sem]) ?_
        intro k hk
        simp [go_sem]
        refine ⟨fun h => ?_, fun h => ?_⟩ <;> simp at h
        · have hkl := h
          have hpp : partB (y.length : Int) (f[i]?.getD []) = true := by rw [hn2.1]; exact hF.part _ hx
          have hj := jacR_succ k y (f[i]?.getD [])
          have hq : ∀ kk x, polF (f[i]?.getD []) kk = some x → isN x ∧ KOk y.length kk := fun kk x hkx => polF_kok (by omega) hpp hkx
          have cD := derivative_c (n := y.length) (polF (f[i]?.getD [])) k hkl (by omega) hq
          have cV := value_c2 (derM k (polF (f[i]?.getD []))) y hN (by omega) (derM_ok hkl (by omega) hq)
          rw [← jac_eq (n := y.length) (by omega) hkl rfl hpp] at cV
          simp [go_sem]
          refine CallVC.of (cD) (by decide) ?_
          simp [go_sem]
          refine CallVC.of (cV) (by decide) ?_
          simp [go_sem]
          exact ⟨by omega, by omega, k + 1, by omega, by omega, Off_reset _ _ _ (by simp), by rw [hj]; simp [avs_snoc], by omega⟩
        · have e : k = y.length := by omega
          subst e
          simp [go_sem]
          exact ⟨by omega, by omega, i + 1, by omega, by omega, (Off.reset (by intro x hx; simp at hx ⊢; omega) (by simp) (by simp [go_sem, Off_reset])), by rw [hv, omat_app, omat_one]; simp, by omega⟩
      · simp [go_sem]
        have e : i = f.length := by omega
        subst e; simp
    | false =>
      rw [hn] at cK
      simp at cK
      refine Con.n1 _ ?_
      refine con_of_vc Try.mixed ⟨12, [], [], []⟩ Try.func46 (by decide) rfl (by simp) (by decide) (by simp [freshOK, freshL, go_sem]) ?_
      rw [Try.ntmps46]
      simp [go_sem]
      refine CallVC.of (cK) (by decide) ?_
      simp [go_sem]
end Go.Proofs.Ytoamidolomldnaa

/- The statement's function over stability series, walked: it answers true. -/
namespace Go.Proofs.Ytoamidolomldnaa
open Go.Abs
set_option linter.unusedVariables false
set_option linter.unusedSimpArgs false
set_option maxHeartbeats 1000000
theorem szRs_ok : ∀ (A : List (List Int)) {left : Int}, 0 ≤ left → 0 ≤ szRs left A → (sumL A : Int) ≤ left ∧ szRs left A = left - sumL A ∧ ∀ r ∈ A, (r.length : Int) ≤ left
  | [], left, h0, h => by simp [szRs, sumL]; exact h0
  | r :: rs, left, h0, h => by
    rw [szRs] at h ⊢
    split at h
    · omega
    · rename_i hs
      have e : szR left r.length = left - r.length := by
        unfold szR at hs ⊢
        by_cases h1 : left - (r.length : Int) < 0
        · rw [if_pos h1] at hs; omega
        · rw [if_neg h1]
      rw [e] at hs h
      have := szRs_ok rs (by omega) h
      rw [if_neg (by rw [e]; exact hs), e]
      refine ⟨by simp [sumL]; omega, by simp [sumL]; omega, fun q hq => ?_⟩
      rcases List.mem_cons.1 hq with rfl | hq
      · omega
      · have := this.2.2 q hq; omega
theorem szM_ok {A : List (List Int)} {left : Int} (h0 : 0 ≤ left) (h : 0 ≤ szM left A) : (A.length : Int) + sumL A ≤ left ∧ szM left A = left - A.length - sumL A ∧ ∀ r ∈ A, (r.length : Int) ≤ left := by
  unfold szM at h ⊢
  split at h
  · omega
  · rename_i hs
    have e : szR left A.length = left - A.length := by
      unfold szR at hs ⊢
      by_cases h1 : left - (A.length : Int) < 0
      · rw [if_pos h1] at hs; omega
      · rw [if_neg h1]
    rw [e] at hs h
    rw [if_neg (by rw [e]; exact hs), e]
    have := szRs_ok A (by omega) h
    refine ⟨by omega, by omega, fun r hr => by have := this.2.2 r hr; omega⟩
/-- What is left behind a tableau. -/
def szT (A : List (List Int)) (B : List Int) (left : Int) : Int := if szM left A < 0 then -1 else szR (szM left A) B.length
theorem szTableau_c (A : List (List Int)) (B : List Int) (left : Int) (hA : A.length ≤ 9223372036854775807) (hr : ∀ r ∈ A, r.length ≤ 9223372036854775807) (hB : B.length ≤ 9223372036854775807) (h0 : 0 ≤ left) (h1 : left ≤ 9223372036854775807) :
    Con Try.prog 11 [.agg [.sl A.length (mat A), .sl B.length (avs B)], .int left] (.int (szT A B left)) := by
  refine con_of_vc Try.mixed ⟨5, [], [], []⟩ Try.func11 (by decide) rfl (by simp) (by decide) (by simp [freshOK, freshL, go_sem]) ?_
  rw [Try.ntmps11]
  simp [go_sem]
  refine CallVC.of (szInt64SS_c A left hA hr h0 h1) (by decide) ?_
  simp [go_sem]
  unfold szT
  by_cases h : szM left A < 0
  · simp [go_sem, h]
  · have := szM_ok h0 (by omega : 0 ≤ szM left A)
    simp [go_sem, h]
    refine CallVC.of (szInt64S_c B.length _ (szM left A) hB (by omega) (by omega)) (by decide) ?_
    simp [go_sem]
    have h3 := szR_ge (szM left A) B.length
    by_cases h2 : szR (szM left A) B.length < 0
    · simp [go_sem, h2]
      omega
    · simp [go_sem, h2]
theorem szT_ok {A : List (List Int)} {B : List Int} {left : Int} (h0 : 0 ≤ left) (h : 0 ≤ szT A B left) : (A.length : Int) + sumL A + B.length ≤ left ∧ ∀ r ∈ A, (r.length : Int) ≤ left := by
  unfold szT at h
  split at h
  · omega
  · rename_i h1
    have := szM_ok h0 (by omega : 0 ≤ szM left A)
    unfold szR at h
    split at h
    · omega
    · exact ⟨by omega, this.2.2⟩
theorem stabX_len (A : List (List Int)) (B : List Int) (n : Int) : (stabX A B n).length ≤ 16 := by
  unfold stabX
  split
  · simp; omega
  · simp
end Go.Proofs.Ytoamidolomldnaa

/- Contracts: sums and multiples of rows, copies, explicit tableaus, the codes of steps. -/
namespace Go.Proofs.Ytoamidolomldnaa
open Go.Abs
set_option linter.unusedVariables false
set_option linter.unusedSimpArgs false
set_option maxHeartbeats 4000000
def plusS (a b : List Int) (k : Int) : List Int := tb (fun i => (a[i]?.getD 0 + k % 10007 * b[i]?.getD 0) % 10007) a.length
@[simp] theorem plusS_len (a b : List Int) (k : Int) : (plusS a b k).length = a.length := by simp [plusS]
theorem plusS_N (a b : List Int) (k : Int) : Ns (plusS a b k) := tb_N fun i _ => isN_mod _
def scalS (a : List Int) (k : Int) : List Int := tb (fun i => a[i]?.getD 0 * (k % 10007) % 10007) a.length
@[simp] theorem scalS_len (a : List Int) (k : Int) : (scalS a k).length = a.length := by simp [scalS]
theorem scalS_N (a : List Int) (k : Int) : Ns (scalS a k) := tb_N fun i _ => isN_mod _
theorem plus_c (a b : List Int) (k : Int) (ha : Ns a) (hb : Ns b) (hk : fits k) (hl : a.length ≤ 1048576) (hab : a.length ≤ b.length) :
    Con Try.prog 159 [.sl a.length (avs a), .sl b.length (avs b), .int k] (.own 2 a.length (avs (plusS a b k))) := by
  refine con_of_vc Try.mixed ⟨10, [], [], []⟩ Try.func159 (by decide) rfl (by simp) (by decide) (by simp [freshOK, freshL, go_sem]) ?_
  rw [Try.ntmps159]
  simp [go_sem]
  refine loop_inv (7 :: 8 :: 9 :: List.range' 13 19) (fun i : Nat => [(7, .own 2 i (avs (tb (fun i => (a[i]?.getD 0 + k % 10007 * b[i]?.getD 0) % 10007) i))), (13, .int i)]) (fun i => i ≤ a.length) (fun i => a.length - i) 0 (by simp) (by simp [go_sem]) (by simp [go_sem]) ?_
  intro i hi
  simp [go_sem]
  refine ⟨fun h => ?_, fun h => ?_⟩ <;> simp at h
  · have h2 : i < b.length := by omega
    have m1 := mul_bound (isN_mod k) (hb.get i)
    have m2 := ha.get i
    have f1 : fits (k % 10007 * b[i]?.getD 0) := ⟨by omega, by omega⟩
    have f2 : fits (a[i]?.getD 0 + k % 10007 * b[i]?.getD 0) := by obtain ⟨x0, x1⟩ := m2; exact ⟨by omega, by omega⟩
    simp [go_sem, avs_drop h, avs_drop h2]
    refine ⟨⟨h, by rintro rfl; simp at h⟩, by kernel_rfl, ?_⟩
    refine CallD.of (num_c _ hk.1 hk.2) (by simp [roots, rootsL]) (by decide) ?_
    simp [go_sem]
    simp [go_sem, avs_drop h, avs_drop h2]
    refine ⟨⟨h2, by rintro rfl; simp at h2⟩, f1, f2, ?_⟩
    refine CallD.of (num_c _ f2.1 f2.2) (by simp [roots, rootsL]) (by decide) ?_
    simp [go_sem]
    refine ⟨by omega, ?_⟩
    refine ⟨by kernel_rfl, ?_⟩
    simp [go_sem]
    exact ⟨by omega, i + 1, by omega, by omega, Off_reset _ _ _ (by simp), by simp [tb_succ, avs_snoc], by omega⟩
  · have e : i = a.length := by omega
    subst e
    simp [go_sem]
    rfl
theorem scaled_c (a : List Int) (k : Int) (ha : Ns a) (hk : fits k) (hl : a.length ≤ 1048576) :
    Con Try.prog 94 [.sl a.length (avs a), .int k] (.own 2 a.length (avs (scalS a k))) := by
  refine con_of_vc Try.mixed ⟨8, [], [], []⟩ Try.func94 (by decide) rfl (by simp) (by decide) (by simp [freshOK, freshL, go_sem]) ?_
  rw [Try.ntmps94]
  simp [go_sem]
  refine loop_inv (5 :: 7 :: List.range' 11 13) (fun i : Nat => [(5, .own 2 i (avs (tb (fun i => a[i]?.getD 0 * (k % 10007) % 10007) i))), (11, .int i)]) (fun i => i ≤ a.length) (fun i => a.length - i) 0 (by simp) (by simp [go_sem]) (by simp [go_sem]) ?_
  intro i hi
  simp [go_sem]
  refine ⟨fun h => ?_, fun h => ?_⟩ <;> simp at h
  · have f1 := mul_fits (ha.get i) (isN_mod k)
    simp [go_sem, avs_drop h]
    refine ⟨⟨h, by rintro rfl; simp at h⟩, ?_⟩
    refine CallVC.of (num_c _ hk.1 hk.2) (by decide) ?_
    simp [go_sem]
    refine ⟨f1, ?_⟩
    refine CallVC.of (num_c _ f1.1 f1.2) (by decide) ?_
    simp [go_sem]
    exact ⟨by omega, by omega, i + 1, by omega, by omega, Off_reset _ _ _ (by simp), by simp [tb_succ, avs_snoc], by omega⟩
  · have e : i = a.length := by omega
    subst e
    simp [go_sem]
    rfl
theorem Clone_c (xs : List Int) (hl : xs.length ≤ 1048576) : Con Try.prog 180 [.sl xs.length (avs xs)] (.own 2 xs.length (avs xs)) := by
  refine con_of_vcN Try.mixed ⟨3, [], [], []⟩ Try.func180 (by decide) rfl (by simp) (by decide) (by simp [freshOK, freshL, go_sem]) ?_
  rw [Try.ntmps180]
  simp [go_sem]
  exact ⟨by omega, by omega⟩
/-- That rows have zeros alone from a distance on. -/
def lowB (A : List (List Int)) (d : Nat) : Bool := (List.range A.length).all fun i => (List.range (A[i]?.getD []).length).all fun k => decide (k < i + d) || decide ((A[i]?.getD [])[k]?.getD 0 = 0)
theorem lowB_no {A : List (List Int)} {d i k : Nat} (hi : i < A.length) (hk : k < (A[i]?.getD []).length) (h1 : i + d ≤ k) (h2 : (A[i]?.getD [])[k]?.getD 0 ≠ 0) : lowB A d = false := by
  unfold lowB
  rw [List.all_eq_false]
  refine ⟨i, by simpa using hi, ?_⟩
  rw [Bool.not_eq_true, List.all_eq_false]
  exact ⟨k, by simpa using hk, by simp [h2]; omega⟩
theorem lowB_yes {A : List (List Int)} {d : Nat} (h : ∀ i, i < A.length → ∀ k, k < (A[i]?.getD []).length → i + d ≤ k → (A[i]?.getD [])[k]?.getD 0 = 0) : lowB A d = true := by
  unfold lowB
  rw [List.all_eq_true]
  intro i hi
  rw [List.all_eq_true]
  intro k hk
  by_cases h1 : k < i + d
  · simp [h1]
  · simp [h i (by simpa using hi) k (by simpa using hk) (by omega)]
end Go.Proofs.Ytoamidolomldnaa

/- Plain: Gauss's elimination, modelled as the program does it. -/
namespace Go.Proofs.Ytoamidolomldnaa
open Go.Abs
set_option linter.unusedVariables false
set_option linter.unusedSimpArgs false
set_option maxHeartbeats 1000000
/-- A list of rows as a matrix. -/
def mx (m : List (List Int)) : Mx := fun r c => (m[r]?.getD [])[c]?.getD 0
/-- The first row from i on with a number other than 0 at k. -/
def fndR (m : List (List Int)) (k : Nat) : Nat → Nat → Nat
  | 0, i => i
  | f + 1, i => if mx m i k = 0 then fndR m k f (i + 1) else i
theorem fndR_le (m : List (List Int)) (k : Nat) : ∀ f i, i ≤ fndR m k f i ∧ fndR m k f i ≤ i + f
  | 0, i => by simp [fndR]
  | f + 1, i => by
    rw [fndR]
    split
    · have := fndR_le m k f (i + 1); omega
    · omega
theorem fndR_zero (m : List (List Int)) (k : Nat) : ∀ f i r, i ≤ r → r < fndR m k f i → mx m r k = 0
  | 0, i, r, h1, h2 => by rw [fndR] at h2; omega
  | f + 1, i, r, h1, h2 => by
    rw [fndR] at h2
    split at h2
    · rename_i h
      by_cases e : r = i
      · subst e; exact h
      · exact fndR_zero m k f (i + 1) r (by omega) h2
    · omega
theorem fndR_ne (m : List (List Int)) (k : Nat) : ∀ f i, fndR m k f i < i + f → mx m (fndR m k f i) k ≠ 0
  | 0, i, h => by rw [fndR] at h; omega
  | f + 1, i, h => by
    rw [fndR] at h ⊢
    split
    · rename_i hz
      rw [if_pos hz] at h
      exact fndR_ne m k f (i + 1) (by omega)
    · rename_i hz; exact hz
def swp (m : List (List Int)) (i d : Nat) : List (List Int) := if i = d then m else (m.set i (m[d]?.getD [])).set d (m[i]?.getD [])
def scl (m : List (List Int)) (d k : Nat) : List (List Int) := m.set d (scalS (m[d]?.getD []) (pw (mx m d k) 10005))
def elD (m : List (List Int)) (d k : Nat) : List (List Int) := (List.range m.length).map fun r => if r = d then m[d]?.getD [] else plusS (m[r]?.getD []) (m[d]?.getD []) (- mx m r k)
/-- Rows of w numbers. -/
def Rws (w : Nat) (m : List (List Int)) : Prop := ∀ r ∈ m, r.length = w ∧ Ns r
theorem Rws.at {w : Nat} {m : List (List Int)} (h : Rws w m) {i : Nat} (hi : i < m.length) : (m[i]?.getD []).length = w ∧ Ns (m[i]?.getD []) := h _ (by simp [hi])
theorem Rws.set {w : Nat} {m : List (List Int)} (h : Rws w m) {i : Nat} {r : List Int} (hr : r.length = w ∧ Ns r) : Rws w (m.set i r) := fun x hx => by
  rcases List.mem_or_eq_of_mem_set hx with hx | rfl
  · exact h x hx
  · exact hr
@[simp] theorem swp_len (m : List (List Int)) (i d : Nat) : (swp m i d).length = m.length := by unfold swp; split <;> simp
@[simp] theorem scl_len (m : List (List Int)) (d k : Nat) : (scl m d k).length = m.length := by simp [scl]
@[simp] theorem elD_len (m : List (List Int)) (d k : Nat) : (elD m d k).length = m.length := by simp [elD]
theorem swp_ok {w : Nat} {m : List (List Int)} (h : Rws w m) {i d : Nat} (hi : i < m.length) (hd : d < m.length) : Rws w (swp m i d) := by
  unfold swp
  split
  · exact h
  · exact (h.set (h.at hd)).set (h.at hi)
theorem scl_ok {w : Nat} {m : List (List Int)} (h : Rws w m) {d k : Nat} (hd : d < m.length) : Rws w (scl m d k) := h.set ⟨by rw [scalS_len]; exact (h.at hd).1, scalS_N _ _⟩
theorem elD_ok {w : Nat} {m : List (List Int)} (h : Rws w m) {d k : Nat} (hd : d < m.length) : Rws w (elD m d k) := fun x hx => by
  obtain ⟨r, hr, rfl⟩ := List.mem_map.1 hx
  have hr2 : r < m.length := by simpa using hr
  split
  · exact h.at hd
  · exact ⟨by rw [plusS_len]; exact (h.at hr2).1, plusS_N _ _ _⟩
theorem swp_mx {m : List (List Int)} {i d : Nat} (hi : i < m.length) (hd : d < m.length) : mx (swp m i d) = updR (updR (mx m) i (mx m d)) d (mx m i) := funext fun r => funext fun c => by
  unfold swp
  split
  · rename_i e; subst e; rw [updR_upd, updR_self]
  · rename_i e
    unfold mx updR
    by_cases h1 : r = d
    · subst h1
      rw [List.getElem?_set_self (by simpa using hd), if_pos rfl]; rfl
    · rw [List.getElem?_set_ne (fun x => h1 x.symm), if_neg h1]
      by_cases h2 : r = i
      · subst h2; rw [List.getElem?_set_self hi, if_pos rfl]; rfl
      · rw [List.getElem?_set_ne (fun x => h2 x.symm), if_neg h2]
theorem scl_at {w : Nat} {m : List (List Int)} (h : Rws w m) {d k : Nat} (hd : d < m.length) {r c : Nat} (hc : c < w) : mx (scl m d k) r c = if r = d then mx m d c * (pw (mx m d k) 10005 % 10007) % 10007 else mx m r c := by
  unfold scl
  show ((m.set d (scalS (m[d]?.getD []) (pw (mx m d k) 10005)))[r]?.getD [])[c]?.getD 0 = _
  by_cases e : r = d
  · subst e
    rw [List.getElem?_set_self hd, if_pos rfl]
    exact tb_get (fun i => (m[r]?.getD [])[i]?.getD 0 * (pw (mx m r k) 10005 % 10007) % 10007) (by rw [(h.at hd).1]; exact hc)
  · rw [List.getElem?_set_ne (fun x => e x.symm), if_neg e]; rfl
theorem elD_at {w : Nat} {m : List (List Int)} (h : Rws w m) {d k : Nat} {r c : Nat} (hr : r < m.length) (hc : c < w) : mx (elD m d k) r c = if r = d then mx m d c else (mx m r c + (- mx m r k) % 10007 * mx m d c) % 10007 := by
  have e0 : (elD m d k)[r]?.getD [] = if r = d then m[d]?.getD [] else plusS (m[r]?.getD []) (m[d]?.getD []) (- mx m r k) := by simp [elD, hr]
  show ((elD m d k)[r]?.getD [])[c]?.getD 0 = _
  rw [e0]
  by_cases e : r = d
  · rw [if_pos e, if_pos e]; rfl
  · rw [if_neg e, if_neg e]
    exact tb_get (fun i => ((m[r]?.getD [])[i]?.getD 0 + (- mx m r k) % 10007 * (m[d]?.getD [])[i]?.getD 0) % 10007) (by rw [(h.at hr).1]; exact hc)
end Go.Proofs.Ytoamidolomldnaa

/- Contracts of the functions over the exponential's rational approximations. -/
namespace Go.Proofs.Ytoamidolomldnaa
open Go.Abs
set_option linter.unusedVariables false
set_option linter.unusedSimpArgs false
set_option maxHeartbeats 1000000
def padeTop (m n k : Nat) : Int := (fact (m + n - k) % 10007) * (fact m % 10007) % 10007
def padeLow (m n k : Nat) : Int := (fact (m + n) % 10007) * ((fact k % 10007) * (fact (m - k) % 10007) % 10007) % 10007
def padePart (m n k : Nat) : Int := padeTop m n k * pw (padeLow m n k) 10005 % 10007
def padeF (odd : Bool) (m n k : Nat) : Int := if odd = true ∧ k % 2 = 1 then (0 - padePart m n k) % 10007 else padePart m n k
def padeL (odd : Bool) (m n k : Nat) : List Int := (List.range k).map (padeF odd m n)
theorem padeL_succ (odd : Bool) (m n k : Nat) : padeL odd m n (k + 1) = padeL odd m n k ++ [padeF odd m n k] := by simp [padeL, List.range_succ]
@[simp] theorem padeL_len (odd : Bool) (m n k : Nat) : (padeL odd m n k).length = k := by simp [padeL]
theorem pw_N (a k : Int) : isN (pw a k) := isN_mod _
def sg (odd : Bool) (k : Nat) : Int := if odd = true ∧ k % 2 = 1 then -1 else 1
theorem sg_part (odd : Bool) (m n k : Nat) : sg odd k * padePart m n k % 10007 = padeF odd m n k := by
  have h : isN (padePart m n k) := isN_mod _
  unfold sg padeF
  split
  · congr 1; omega
  · rw [Int.one_mul, Int.emod_eq_of_lt h.1 h.2]
theorem sg_succ (odd : Bool) (k : Nat) : sg odd k * sg odd 1 = sg odd (k + 1) := by
  unfold sg
  cases odd with
  | false => simp
  | true =>
    rcases (show k % 2 = 0 ∨ k % 2 = 1 by omega) with h | h
    · have h2 : (k + 1) % 2 = 1 := by omega
      simp [h, h2]
    · have h2 : (k + 1) % 2 = 0 := by omega
      simp [h, h2]
theorem areDegrees_c (m n : Int) : Con Try.prog 116 [.int m, .int n] (.bool (decide (0 ≤ m ∧ m ≤ 8 ∧ 0 ≤ n ∧ n ≤ 8))) := by
  refine con_of_vc Try.mixed ⟨5, [], [], []⟩ Try.func116 (by decide) rfl (by simp) (by decide) rfl ?_
  rw [Try.ntmps116]
  simp [go_sem]
  refine CallVC.of (inRange_c _ _ _) (by decide) ?_
  by_cases h : 0 ≤ m ∧ m ≤ 8
  · simp [go_sem, h]
    refine CallVC.of (inRange_c _ _ _) (by decide) ?_
    simp [go_sem, h]
  · have e : (decide (0 ≤ m) && decide (m ≤ 8)) = false := by simpa using h
    have e2 : ¬ (0 ≤ m ∧ m ≤ 8 ∧ 0 ≤ n ∧ n ≤ 8) := fun k => h ⟨k.1, k.2.1⟩
    simp only [e, e2, decide_false]
    simp [go_sem]
    omega
theorem num_f {n : Int} (h : fits n) : Con Try.prog 83 [.int n] (.int (n % 10007)) := num_c n h.1 h.2
theorem factorial_z (z : Int) (n : Nat) (e : z = n) (h : n ≤ 20) : Con Try.prog 200 [.int z] (.int (fact n)) := by subst e; exact factorial_c n h
theorem l19Factorial_z (z : Int) (n : Nat) (e : z = n) (h : n ≤ 20) : Con Try.prog 201 [.int z] (.int (fact n % 10007)) := by subst e; exact l19Factorial_c n h
theorem fact_fits {n : Nat} (h : n ≤ 20) : fits (fact n) := by
  have := fact_20 h
  exact ⟨by omega, this.2⟩
theorem fact8 {k : Nat} (h : k ≤ 8) {x : Int} (hx : isN x) : fits (fact k * x) := by
  have h1 := fact_pos k
  have h2 : fact k ≤ 40320 := Int.le_trans (fact_le h) (by decide)
  have h3 : 0 ≤ fact k * x := Int.mul_nonneg (by omega) hx.1
  have h4 : fact k * x ≤ 40320 * 10007 := Int.mul_le_mul h2 (by have := hx.2; omega) hx.1 (by omega)
  exact ⟨by omega, by omega⟩
theorem sg_fits (odd : Bool) (k : Nat) {x : Int} (hx : isN x) : fits (sg odd k * x) := by
  obtain ⟨h0, h1⟩ := hx
  unfold sg fits; split <;> constructor <;> omega
theorem padeSide_c (odd : Bool) (m n : Nat) (hm : m ≤ 8) (hn : n ≤ 8) : Con Try.prog 125 [.int m, .int n, .int (sg odd 1)] (.own 2 (m + 1) (avs (padeL odd m n (m + 1)))) := by
  refine con_of_vc Try.mixed ⟨12, [], [], []⟩ Try.func125 (by decide) rfl (by simp) (by decide) (by simp [freshOK]) ?_
  rw [Try.ntmps125]
  simp [go_sem]
  refine ⟨by omega, ?_⟩
  refine loop_inv (7 :: 8 :: 9 :: 10 :: 11 :: 12 :: 13 :: List.range' 15 60) (fun k : Nat => [(7, .own 2 k (avs (padeL odd m n k))), (8, .int (sg odd k)), (15, .int k)]) (fun k => k ≤ m + 1) (fun k => m + 1 - k) 0 (by simp) (by simp [go_sem, padeL, sg]) (by simp [go_sem]) ?_
  intro k hk
  simp [go_sem]
  refine ⟨fun h2 => ?_, fun h2 => ?_⟩ <;> simp at h2
  · simp [go_sem]
    refine ⟨by omega, by omega, CallVC.of (factorial_z _ (m + n - k) (by omega) (by omega)) (by decide) ?_⟩
    simp [go_sem]
    refine CallVC.of (num_f (fact_fits (by omega))) (by decide) ?_
    simp [go_sem]
    refine CallVC.of (factorial_c m (by omega)) (by decide) ?_
    simp [go_sem]
    refine CallVC.of (num_f (fact_fits (by omega))) (by decide) ?_
    simp [go_sem]
    refine ⟨mul_fits (isN_mod _) (isN_mod _), by omega, CallVC.of (factorial_z _ (m + n) (by omega) (by omega)) (by decide) ?_⟩
    simp [go_sem]
    refine CallVC.of (num_f (fact_fits (by omega))) (by decide) ?_
    simp [go_sem]
    refine CallVC.of (factorial_c k (by omega)) (by decide) ?_
    simp [go_sem]
    refine ⟨by omega, CallVC.of (factorial_z _ (m - k) (by omega) (by omega)) (by decide) ?_⟩
    simp [go_sem]
    refine CallVC.of (num_f (fact_fits (by omega))) (by decide) ?_
    simp [go_sem]
    refine ⟨fact8 (by omega) (isN_mod _), CallVC.of (num_f (fact8 (by omega) (isN_mod _))) (by decide) ?_⟩
    simp [go_sem]
    refine ⟨mul_fits (isN_mod _) (isN_mod _), CallVC.of (num_f (mul_fits (isN_mod _) (isN_mod _))) (by decide) ?_⟩
    simp [go_sem]
    refine CallVC.of (num_f (mul_fits (isN_mod _) (isN_mod _))) (by decide) ?_
    simp [go_sem]
    refine CallVC.of (inv_c _ (isN_mod _)) (by decide) ?_
    simp [go_sem]
    refine ⟨mul_fits (isN_mod _) (pw_N _ _), CallVC.of (num_f (mul_fits (isN_mod _) (pw_N _ _))) (by decide) ?_⟩
    simp [go_sem]
    refine ⟨sg_fits _ _ (isN_mod _), CallVC.of (num_f (sg_fits _ _ (isN_mod _))) (by decide) ?_⟩
    simp [go_sem]
    have sb : fits (sg odd k * sg odd 1) := by rw [sg_succ]; unfold sg fits; split <;> constructor <;> omega
    refine ⟨⟨by omega, by omega⟩, sb, by omega, k + 1, by omega, by omega, Off_reset _ _ _ (by simp), ⟨rfl, ?_⟩, sg_succ _ _, by omega⟩
    rw [padeL_succ, avs_snoc, ← sg_part]
    unfold padePart padeTop padeLow
    rw [mod_mul_l (fact (m - k) % 10007) (fact k)]
  · simp [go_sem]
    have : k = m + 1 := by omega
    subst this
    exact ⟨rfl, rfl⟩
theorem l19Part_c (odd : Bool) (m n : Nat) (hm : m ≤ 8) (hn : n ≤ 8) : Con Try.prog 126 [.int m, .int n, .bool odd] (.own 2 (m + 1) (avs (padeL odd m n (m + 1)))) := by
  refine con_of_vc Try.mixed ⟨12, [], [], []⟩ Try.func126 (by decide) rfl (by simp) (by decide) (by simp [freshOK]) ?_
  rw [Try.ntmps126]
  simp [go_sem]
  refine loop_inv (List.range' 7 60) (fun k : Nat => [(7, .own 2 k (avs (padeL odd m n k))), (8, .int k)]) (fun k => k ≤ m + 1) (fun k => m + 1 - k) 0 (by simp) (by simp [go_sem, padeL, sg]) (by simp [go_sem]) ?_
  intro k hk
  simp [go_sem]
  refine ⟨fun h2 => ?_, fun h2 => ?_⟩ <;> simp at h2
  · simp [go_sem]
    refine ⟨by omega, by omega, CallVC.of (l19Factorial_z _ (m + n - k) (by omega) (by omega)) (by decide) ?_⟩
    simp [go_sem]
    refine CallVC.of (l19Factorial_c m (by omega)) (by decide) ?_
    simp [go_sem]
    refine CallVC.of (l01Mul_c _ _ (mul_fits (isN_mod _) (isN_mod _))) (by decide) ?_
    simp [go_sem]
    refine ⟨by omega, CallVC.of (l19Factorial_z _ (m + n) (by omega) (by omega)) (by decide) ?_⟩
    simp [go_sem]
    refine CallVC.of (l19Factorial_c k (by omega)) (by decide) ?_
    simp [go_sem]
    refine ⟨by omega, CallVC.of (l19Factorial_z _ (m - k) (by omega) (by omega)) (by decide) ?_⟩
    simp [go_sem]
    refine CallVC.of (l01Mul_c _ _ (mul_fits (isN_mod _) (isN_mod _))) (by decide) ?_
    simp [go_sem]
    refine CallVC.of (l01Mul_c _ _ (mul_fits (isN_mod _) (isN_mod _))) (by decide) ?_
    simp [go_sem]
    refine CallVC.of (l01Inv_c _ (isN_mod _)) (by decide) ?_
    simp [go_sem]
    refine CallVC.of (l01Mul_c _ _ (mul_fits (isN_mod _) (pw_N _ _))) (by decide) ?_
    have pp : padeTop m n k * pw (padeLow m n k) 10005 % 10007 = padePart m n k := rfl
    have p0 : isN (padePart m n k) := isN_mod _
    unfold padeTop padeLow at pp
    rw [pp]
    have p1 : fits (0 - padePart m n k) := by obtain ⟨a, b⟩ := p0; exact ⟨by omega, by omega⟩
    cases odd with
    | false =>
      simp [go_sem]
      refine ⟨⟨by omega, by omega⟩, by omega, k + 1, by omega, by omega, Off_reset _ _ _ (by simp), ⟨rfl, ?_⟩, by omega⟩
      rw [padeL_succ, avs_snoc]; rfl
    | true =>
      simp [go_sem, bit_cast]
      refine ⟨fun h3 => ?_, fun h3 => ?_⟩ <;> simp at h3 <;> simp [go_sem]
      · refine CallVC.of (l01Sub_c _ _ p1) (by decide) ?_
        simp [go_sem]
        refine ⟨⟨by omega, by omega⟩, by omega, k + 1, by omega, by omega, Off_reset _ _ _ (by simp), ⟨rfl, ?_⟩, by omega⟩
        rw [padeL_succ, avs_snoc]; unfold padeF; rw [if_pos ⟨rfl, by omega⟩]; simp
      · refine ⟨⟨by omega, by omega⟩, by omega, k + 1, by omega, by omega, Off_reset _ _ _ (by simp), ⟨rfl, ?_⟩, by omega⟩
        rw [padeL_succ, avs_snoc]; unfold padeF; rw [if_neg (by omega)]
  · simp [go_sem]
    have : k = m + 1 := by omega
    subst this
    exact ⟨rfl, rfl⟩
/-- What the function over degrees answers. -/
def pade (m n : Int) : AV := if 0 ≤ m ∧ m ≤ 8 ∧ 0 ≤ n ∧ n ≤ 8 then .tup [.own 2 (m.toNat + 1) (avs (padeL false m.toNat n.toNat (m.toNat + 1))), .own 2 (n.toNat + 1) (avs (padeL true n.toNat m.toNat (n.toNat + 1))), .int 0] else .tup [.val (.slice none 0 0), .val (.slice none 0 0), .int 2]
theorem ExponentialPade_c (m n : Int) : Con Try.prog 39 [.int m, .int n] (pade m n) := by
  unfold pade
  by_cases h : 0 ≤ m ∧ m ≤ 8 ∧ 0 ≤ n ∧ n ≤ 8
  · rw [if_pos h]
    obtain ⟨a, rfl⟩ : ∃ a : Nat, m = a := ⟨m.toNat, by omega⟩
    obtain ⟨b, rfl⟩ : ∃ b : Nat, n = b := ⟨n.toNat, by omega⟩
    rw [Int.toNat_natCast, Int.toNat_natCast]
    refine con_of_vc Try.mixed ⟨7, [], [], []⟩ Try.func39 (by decide) rfl (by simp) (by decide) (by simp [go_sem, freshOK]) ?_
    rw [Try.ntmps39]
    simp [go_sem]
    refine CallVC.of (areDegrees_c _ _) (by decide) ?_
    simp [go_sem, h]
    have s1 := padeSide_c false a b (by omega) (by omega)
    have s2 := padeSide_c true b a (by omega) (by omega)
    refine CallVC.of s1 (by decide) ?_
    simp [go_sem]
    refine CallVC.of s2 (by decide) ?_
    simp [go_sem]
  · rw [if_neg h]
    refine con_of_vc Try.mixed ⟨7, [], [], []⟩ Try.func39 (by decide) rfl (by simp) (by decide) rfl ?_
    rw [Try.ntmps39]
    simp [go_sem]
    refine CallVC.of (areDegrees_c _ _) (by decide) ?_
    rw [decide_eq_false h]
    simp [go_sem]
theorem specExponentialPade_c (m n : Int) : Con Try.prog 40 [.int m, .int n] (pade m n) := by
  unfold pade
  by_cases h : 0 ≤ m ∧ m ≤ 8 ∧ 0 ≤ n ∧ n ≤ 8
  · rw [if_pos h]
    obtain ⟨a, rfl⟩ : ∃ a : Nat, m = a := ⟨m.toNat, by omega⟩
    obtain ⟨b, rfl⟩ : ∃ b : Nat, n = b := ⟨n.toNat, by omega⟩
    rw [Int.toNat_natCast, Int.toNat_natCast]
    refine con_of_vc Try.mixed ⟨7, [], [], []⟩ Try.func40 (by decide) rfl (by simp) (by decide) (by simp [go_sem, freshOK]) ?_
    rw [Try.ntmps40]
    have e1 : (decide ((0 : Int) ≤ a) && decide ((a : Int) ≤ 8)) = true := by simp; omega
    have e2 : (decide ((0 : Int) ≤ b) && decide ((b : Int) ≤ 8)) = true := by simp; omega
    have c1 := l01In_c a 0 8
    have c2 := l01In_c b 0 8
    rw [e1] at c1
    rw [e2] at c2
    simp [go_sem]
    refine CallVC.of c1 (by decide) ?_
    simp [go_sem]
    refine CallVC.of c2 (by decide) ?_
    simp [go_sem]
    have s1 := l19Part_c false a b (by omega) (by omega)
    have s2 := l19Part_c true b a (by omega) (by omega)
    refine CallVC.of s1 (by decide) ?_
    simp [go_sem]
    refine CallVC.of s2 (by decide) ?_
    simp [go_sem]
  · rw [if_neg h]
    refine con_of_vc Try.mixed ⟨7, [], [], []⟩ Try.func40 (by decide) rfl (by simp) (by decide) rfl ?_
    rw [Try.ntmps40]
    simp [go_sem]
    by_cases h1 : 0 ≤ m ∧ m ≤ 8
    · have e1 : (decide (0 ≤ m) && decide (m ≤ 8)) = true := by simpa using h1
      have e2 : (decide (0 ≤ n) && decide (n ≤ 8)) = false := by simp; omega
      have c1 := l01In_c m 0 8
      have c2 := l01In_c n 0 8
      rw [e1] at c1
      rw [e2] at c2
      refine CallVC.of c1 (by decide) ?_
      simp [go_sem]
      refine CallVC.of c2 (by decide) ?_
      simp [go_sem]
    · have e1 : (decide (0 ≤ m) && decide (m ≤ 8)) = false := by simpa using h1
      have c1 := l01In_c m 0 8
      rw [e1] at c1
      refine CallVC.of c1 (by decide) ?_
      simp [go_sem]
end Go.Proofs.Ytoamidolomldnaa

/- Plain: inverses modulo 10007. -/
namespace Go.Proofs.Ytoamidolomldnaa
set_option linter.unusedVariables false
set_option maxRecDepth 100000
/-- Powers modulo 10007, by halves. -/
def fp : Nat → Nat → Nat → Nat
  | 0, _, _ => 1
  | f + 1, a, n => Nat.rec (1 % 10007) (fun _ _ => Nat.rec (fp f (Nat.mod (Nat.mul a a) 10007) (Nat.div n 2)) (fun _ _ => Nat.mod (Nat.mul a (fp f (Nat.mod (Nat.mul a a) 10007) (Nat.div n 2))) 10007) (Nat.mod n 2)) n
def chB (g : Nat → Nat) : Nat → Nat → Bool
  | 0, lo => Nat.beq (g lo) 1
  | d + 1, lo => and (chB g d lo) (chB g d (lo + 2 ^ d))
def ivN (a : Nat) : Nat := a * fp 15 a 10005 % 10007
theorem fp_eq : ∀ (f a n : Nat), n < 2 ^ f → fp f a n = a ^ n % 10007
  | 0, a, n, h => by
    have : n = 0 := by simp at h; exact h
    subst this; rfl
  | f + 1, a, 0, _ => by show 1 % 10007 = a ^ 0 % 10007; rw [Nat.pow_zero]
  | f + 1, a, n + 1, h => by
    have hh : (n + 1) / 2 < 2 ^ f := by rw [Nat.pow_succ] at h; omega
    have ih := fp_eq f (a * a % 10007) ((n + 1) / 2) hh
    have sq : (a * a % 10007) ^ ((n + 1) / 2) % 10007 = a ^ (2 * ((n + 1) / 2)) % 10007 := by
      rw [← Nat.pow_mod, Nat.pow_mul, Nat.pow_two]
    rw [sq] at ih
    have e0 : fp (f + 1) a (n + 1) = Nat.rec (fp f (a * a % 10007) ((n + 1) / 2)) (fun _ _ => a * fp f (a * a % 10007) ((n + 1) / 2) % 10007) ((n + 1) % 2) := rfl
    rw [e0, ih]
    rcases Nat.mod_two_eq_zero_or_one (n + 1) with h2 | h2
    · rw [h2]
      show a ^ (2 * ((n + 1) / 2)) % 10007 = a ^ (n + 1) % 10007
      rw [show 2 * ((n + 1) / 2) = n + 1 by omega]
    · rw [h2]
      show a * (a ^ (2 * ((n + 1) / 2)) % 10007) % 10007 = a ^ (n + 1) % 10007
      rw [show n + 1 = 2 * ((n + 1) / 2) + 1 by omega, Nat.pow_succ, Nat.mul_mod, Nat.mod_mod, ← Nat.mul_mod, Nat.mul_comm]
      rw [show (2 * ((n + 1) / 2) + 1) / 2 = (n + 1) / 2 by omega]
theorem chB_ok (g : Nat → Nat) : ∀ (d lo : Nat), chB g d lo = true → ∀ a, lo ≤ a → a < lo + 2 ^ d → g a = 1
  | 0, lo, h, a, h1, h2 => by
    have : a = lo := by simp at h2; omega
    subst this
    rw [chB] at h
    exact Nat.eq_of_beq_eq_true h
  | d + 1, lo, h, a, h1, h2 => by
    rw [chB, Bool.and_eq_true] at h
    rw [Nat.pow_succ] at h2
    by_cases hl : a < lo + 2 ^ d
    · exact chB_ok g d lo h.1 a h1 hl
    · exact chB_ok g d (lo + 2 ^ d) h.2 a (by omega) (by omega)
set_option maxHeartbeats 4000000 in
theorem chB_1 : chB ivN 13 1 = true := by decide +kernel
theorem chB_2 : chB ivN 10 8193 = true := by decide +kernel
theorem chB_3 : chB ivN 9 9217 = true := by decide +kernel
theorem chB_4 : chB ivN 8 9495 = true := by decide +kernel
theorem chB_5 : chB ivN 8 9751 = true := by decide +kernel
theorem inv_nat {a : Nat} (h0 : a ≠ 0) (h : a < 10007) : ivN a = 1 := by
  by_cases h1 : a < 8193
  · exact chB_ok ivN 13 1 chB_1 a (by omega) (by omega)
  by_cases h2 : a < 9217
  · exact chB_ok ivN 10 8193 chB_2 a (by omega) (by omega)
  by_cases h3 : a < 9729
  · exact chB_ok ivN 9 9217 chB_3 a (by omega) (by omega)
  by_cases h4 : a < 9751
  · exact chB_ok ivN 8 9495 chB_4 a (by omega) (by omega)
  · exact chB_ok ivN 8 9751 chB_5 a (by omega) (by omega)
theorem fp_pow (n e : Nat) (he : e < 2 ^ 15) : ((fp 15 n e : Nat) : Int) = pw (n : Int) (e : Int) := by
  rw [fp_eq 15 n e he]
  unfold pw
  rw [Int.toNat_natCast, Int.natCast_emod, Int.natCast_pow]; rfl
theorem fp_pw (n : Nat) : ((fp 15 n 10005 : Nat) : Int) = pw (n : Int) 10005 := fp_pow n 10005 (by decide)
/-- The inverse. -/
theorem inv_ok {a : Int} (h : isN a) (h0 : a ≠ 0) : a * pw a 10005 % 10007 = 1 := by
  obtain ⟨n, rfl⟩ : ∃ n : Nat, a = n := ⟨a.toNat, by have := h.1; omega⟩
  have hn : n < 10007 := by have := h.2; omega
  have hv := inv_nat (a := n) (by omega) hn
  rw [← fp_pw, ← Int.natCast_mul]
  unfold ivN at hv
  generalize n * fp 15 n 10005 = z at *
  omega
end Go.Proofs.Ytoamidolomldnaa

/- Plain: Gauss's elimination, what it keeps. -/
namespace Go.Proofs.Ytoamidolomldnaa
open Go.Abs
set_option linter.unusedVariables false
set_option linter.unusedSimpArgs false
set_option maxHeartbeats 1000000
structure GI (n w : Nat) (W0 : Mx) (m : List (List Int)) (done k : Nat) : Prop where
  len : m.length = n
  rws : Rws w m
  eqv : RowEq n w W0 (mx m)
  dle : done ≤ n
  piv : ∃ piv : Nat → Nat, (∀ j, j < done → piv j < k ∧ ∀ r, r < n → mx m r (piv j) = if r = j then 1 else 0) ∧ (∀ j, j + 1 < done → piv j < piv (j + 1)) ∧ (∀ j, j < done → ∀ c, c < piv j → mx m j c = 0)
  low : ∀ r, done ≤ r → r < n → ∀ c, c < k → mx m r c = 0
theorem GI.start {n w : Nat} {m : List (List Int)} (hl : m.length = n) (hr : Rws w m) : GI n w (mx m) m 0 0 :=
  ⟨hl, hr, RowEq.refl n w _, by omega, ⟨fun _ => 0, fun j hj => by omega, fun j hj => by omega, fun j hj => by omega⟩, fun r _ _ c hc => by omega⟩
theorem GI.skip {n w : Nat} {W0 : Mx} {m : List (List Int)} {done k : Nat} (h : GI n w W0 m done k) (hz : ∀ r, done ≤ r → r < n → mx m r k = 0) : GI n w W0 m done (k + 1) := by
  obtain ⟨h1, h2, h3, h4, ⟨p, p1, p2, p3⟩, h6⟩ := h
  refine ⟨h1, h2, h3, h4, ⟨p, fun j hj => ⟨by have := (p1 j hj).1; omega, (p1 j hj).2⟩, p2, p3⟩, fun r hr hn c hc => ?_⟩
  by_cases e : c = k
  · subst e; exact hz r hr hn
  · exact h6 r hr hn c (by omega)
theorem mx_N {w : Nat} {m : List (List Int)} (h : Rws w m) {r : Nat} (hr : r < m.length) (c : Nat) : isN (mx m r c) := (h.at hr).2.get c
theorem GI.step {n w : Nat} {W0 : Mx} {m : List (List Int)} {done k i : Nat} (h : GI n w W0 m done k) (hk : k < w) (hd : done < n) (h1 : done ≤ i) (h2 : i < n) (hne : mx m i k ≠ 0) :
    GI n w W0 (elD (scl (swp m i done) done k) done k) (done + 1) (k + 1) := by
  obtain ⟨hl, hr, he, hdl, ⟨p, p1, p2, p3⟩, hlow⟩ := h
  -- the rows change places
  have il : i < m.length := by omega
  have dl : done < m.length := by omega
  have sm := swp_mx il dl
  have sr := swp_ok hr il dl
  have sl := swp_len m i done
  have se : RowEq n w W0 (mx (swp m i done)) := by
    by_cases e : i = done
    · have : swp m i done = m := by unfold swp; rw [if_pos e]
      rw [this]; exact he
    · rw [sm]; exact he.trans (RowEq.swap _ h2 hd e)
  have sd : ∀ c, mx (swp m i done) done c = mx m i c := fun c => by rw [sm, updR_at]
  have slow : ∀ r, done ≤ r → r < n → ∀ c, c < k → mx (swp m i done) r c = 0 := fun r hr1 hr2 c hc => by
    rw [sm]
    unfold updR
    by_cases a1 : r = done
    · rw [if_pos a1]; exact hlow i h1 h2 c hc
    · rw [if_neg a1]
      by_cases a2 : r = i
      · rw [if_pos a2]; exact hlow done (Nat.le_refl _) hd c hc
      · rw [if_neg a2]; exact hlow r hr1 hr2 c hc
  have sup : ∀ r, r < done → mx (swp m i done) r = mx m r := fun r hr1 => by
    rw [sm, updR_ne _ _ (by omega), updR_ne _ _ (by omega)]
  have snz : mx (swp m i done) done k ≠ 0 := by rw [sd]; exact hne
  generalize swp m i done = a at *
  -- the row is scaled
  have al : a.length = n := by omega
  have ad : done < a.length := by omega
  have cr := scl_ok (k := k) sr ad
  have cl := scl_len a done k
  have cat := fun r c (hc : c < w) => scl_at (k := k) sr ad (r := r) hc
  have iv := inv_ok (mx_N sr ad k) snz
  have ce : RowEq n w (mx a) (mx (scl a done k)) := by
    refine (RowEq.scale (mx a) hd (k := pw (mx a done k) 10005) (k' := mx a done k) (by rw [Int.mul_comm]; exact iv)).trans (RowEq.cong fun r c hr1 hc => ?_)
    rw [cat r c hc]
    unfold updR
    by_cases e : r = done
    · subst e
      rw [if_pos rfl, if_pos rfl, mul_mod_r, Int.emod_emod_of_dvd _ (Int.dvd_refl _), Int.mul_comm]
    · rw [if_neg e, if_neg e]
  have ck : mx (scl a done k) done k = 1 := by rw [cat _ _ hk, if_pos rfl, mul_mod_r]; exact iv
  have cz : ∀ c, c < k → mx (scl a done k) done c = 0 := fun c hc => by
    rw [cat _ _ (by omega), if_pos rfl, slow done (Nat.le_refl _) hd c hc]; simp
  have co : ∀ r c, r ≠ done → c < w → mx (scl a done k) r c = mx a r c := fun r c hr1 hc => by rw [cat _ _ hc, if_neg hr1]
  generalize scl a done k = b at *
  -- the other rows are cleared
  have bl : b.length = n := by omega
  have bd : done < b.length := by omega
  have er := elD_ok (k := k) cr bd
  have el := elD_len b done k
  have eat := fun r c (hr1 : r < n) (hc : c < w) => elD_at (d := done) (k := k) cr (r := r) (c := c) (by omega) hc
  have ee : RowEq n w (mx b) (mx (elD b done k)) := by
    refine (RowEq.clr (mx b) hd (fun r => - mx b r k)).trans (RowEq.cong fun r c hr1 hc => ?_)
    rw [eat r c hr1 hc]
    unfold clr
    by_cases e : r = done
    · subst e; rw [if_neg (by omega), if_pos rfl]
    · rw [if_pos ⟨hr1, e⟩, if_neg e, Int.emod_emod_of_dvd _ (Int.dvd_refl _), Int.add_emod, Int.add_emod (mx b r c), mul_mod_l]
  have keep : ∀ r c, r < n → c < w → mx b done c = 0 → mx (elD b done k) r c = mx b r c := fun r c hr1 hc hz => by
    rw [eat r c hr1 hc]
    by_cases e : r = done
    · rw [if_pos e, e]
    · rw [if_neg e, hz, Int.mul_zero, Int.add_zero]
      have := mx_N cr (show r < b.length by omega) c
      exact Int.emod_eq_of_lt this.1 (by have := this.2; omega)
  have fin : ∀ r, r < n → mx (elD b done k) r k = if r = done then 1 else 0 := fun r hr1 => by
    rw [eat r k hr1 hk, ck]
    by_cases e : r = done
    · rw [if_pos e, if_pos e]
    · rw [if_neg e, if_neg e, Int.mul_one]; omega
  refine ⟨by omega, er, (se.trans ce).trans ee, by omega, ⟨fun j => if j = done then k else p j, fun j hj => ?_, fun j hj => ?_, fun j hj c hc => ?_⟩, fun r hr1 hr2 c hc => ?_⟩
  · by_cases e : j = done
    · subst e
      simp only [if_true]
      exact ⟨by omega, fin⟩
    · have hjd : j < done := by omega
      have q := p1 j hjd
      simp only [if_neg e]
      refine ⟨by omega, fun r hr1 => ?_⟩
      rw [keep r (p j) hr1 (by omega) (cz _ q.1)]
      by_cases e2 : r = done
      · subst e2; rw [cz _ q.1, if_neg (by omega)]
      · rw [co r (p j) e2 (by omega)]
        by_cases e3 : r < done
        · rw [sup r e3]; exact q.2 r hr1
        · rw [slow r (by omega) hr1 (p j) q.1, if_neg (by omega)]
  · by_cases e : j + 1 = done
    · have q := p1 j (by omega)
      simp only [if_pos e, if_neg (show ¬ j = done by omega)]
      exact q.1
    · simp only [if_neg e, if_neg (show ¬ j = done by omega)]
      exact p2 j (by omega)
  · by_cases e : j = done
    · subst e
      simp only [if_true] at hc
      rw [keep j c (by omega) (by omega) (cz c hc), cz c hc]
    · have hjd : j < done := by omega
      have q := p1 j hjd
      simp only [if_neg e] at hc
      rw [keep j c (by omega) (by omega) (cz c (by omega)), co j c e (by omega), sup j hjd]
      exact p3 j hjd c hc
  · by_cases e : c = k
    · subst e; rw [fin r hr2, if_neg (by omega)]
    · rw [keep r c hr2 (by omega) (cz c (by omega)), co r c (by omega) (by omega)]
      exact slow r (by omega) hr2 c (by omega)
end Go.Proofs.Ytoamidolomldnaa

/- Plain: Gauss's elimination of a system, and Cramer's rule. -/
namespace Go.Proofs.Ytoamidolomldnaa
open Go.Abs
set_option linter.unusedVariables false
set_option linter.unusedSimpArgs false
set_option maxHeartbeats 1000000
/-- One column's round: rows, determinant, rows done. -/
def stepR (m : List (List Int)) (d : Int) (done k : Nat) : List (List Int) × Int × Nat :=
  if fndR m k (m.length - done) done = m.length then (m, 0, done)
  else (elD (scl (swp m (fndR m k (m.length - done) done) done) done k) done k, (if fndR m k (m.length - done) done = done then d else (- d) % 10007) * mx (swp m (fndR m k (m.length - done) done) done) done k % 10007, done + 1)
def redR : Nat → Nat → List (List Int) × Int × Nat → List (List Int) × Int × Nat
  | 0, _, st => st
  | f + 1, k, st => if st.2.2 < st.1.length then redR f (k + 1) (stepR st.1 st.2.1 st.2.2 k) else st
theorem stepR_GI {n w : Nat} {W0 : Mx} {m : List (List Int)} {d : Int} {done k : Nat} (h : GI n w W0 m done k) (hk : k < w) (hd : done < n) : GI n w W0 (stepR m d done k).1 (stepR m d done k).2.2 (k + 1) := by
  have hl := h.len
  have fl := fndR_le m k (m.length - done) done
  unfold stepR
  by_cases e : fndR m k (m.length - done) done = m.length
  · rw [if_pos e]
    exact h.skip fun r h1 h2 => fndR_zero m k (m.length - done) done r h1 (by omega)
  · rw [if_neg e]
    exact h.step hk hd fl.1 (by omega) (fndR_ne m k (m.length - done) done (by omega))
theorem redR_GI {n w : Nat} {W0 : Mx} : ∀ (f k : Nat) (st : List (List Int) × Int × Nat), k + f = w → GI n w W0 st.1 st.2.2 k →
    ∃ k', k' ≤ w ∧ (k' = w ∨ (redR f k st).2.2 = n) ∧ GI n w W0 (redR f k st).1 (redR f k st).2.2 k'
  | 0, k, st, hk, h => ⟨k, by omega, .inl (by omega), h⟩
  | f + 1, k, st, hk, h => by
    rw [redR]
    have hl := h.len
    have hd := h.dle
    split
    · rename_i hlt
      exact redR_GI f (k + 1) _ (by omega) (stepR_GI h (by omega) (by omega))
    · rename_i hlt
      exact ⟨k, by omega, .inr (by omega), h⟩
/-- The first place of a number other than 0. -/
def ldF (r : List Int) : Nat → Nat → Nat
  | 0, i => i
  | f + 1, i => if r[i]?.getD 0 = 0 then ldF r f (i + 1) else i
theorem ldF_le (r : List Int) : ∀ f i, i ≤ ldF r f i ∧ ldF r f i ≤ i + f
  | 0, i => by simp [ldF]
  | f + 1, i => by
    rw [ldF]
    split
    · have := ldF_le r f (i + 1); omega
    · omega
theorem ldF_zero (r : List Int) : ∀ f i j, i ≤ j → j < ldF r f i → r[j]?.getD 0 = 0
  | 0, i, j, h1, h2 => by rw [ldF] at h2; omega
  | f + 1, i, j, h1, h2 => by
    rw [ldF] at h2
    split at h2
    · rename_i h
      by_cases e : j = i
      · subst e; exact h
      · exact ldF_zero r f (i + 1) j (by omega) h2
    · omega
theorem ldF_ne (r : List Int) : ∀ f i, ldF r f i < i + f → r[ldF r f i]?.getD 0 ≠ 0
  | 0, i, h => by rw [ldF] at h; omega
  | f + 1, i, h => by
    rw [ldF] at h ⊢
    split
    · rename_i hz
      rw [if_pos hz] at h
      exact ldF_ne r f (i + 1) (by omega)
    · rename_i hz; exact hz
def leadL (r : List Int) : Nat := ldF r r.length 0
/-- Whether a system reduced has one solution. -/
def oneB (n : Nat) (m : List (List Int)) (done : Nat) : Bool := decide (done = n) && decide (leadL (m[n - 1]?.getD []) = n - 1)
theorem piv_ge {p : Nat → Nat} {n : Nat} (h : ∀ j, j + 1 < n → p j < p (j + 1)) : ∀ j, j < n → j ≤ p j
  | 0, _ => by omega
  | j + 1, hj => by have := piv_ge h j (by omega); have := h j hj; omega
theorem piv_le {p : Nat → Nat} {n : Nat} (h : ∀ j, j + 1 < n → p j < p (j + 1)) : ∀ t j, j + t + 1 = n → p j + t ≤ p (n - 1)
  | 0, j, hj => by rw [show n - 1 = j by omega]; omega
  | t + 1, j, hj => by have := piv_le h t (j + 1) (by omega); have := h j (by omega); omega
theorem GI.one {n : Nat} {W0 : Mx} {m : List (List Int)} {done k : Nat} (h : GI n (n + 1) W0 m done k) (hn : 0 < n) (hk : k ≤ n + 1) (ho : oneB n m done = true) : ∀ r c, r < n → c < n → mx m r c = idM r c := by
  unfold oneB at ho
  simp only [Bool.and_eq_true, decide_eq_true_eq] at ho
  obtain ⟨hd, hl⟩ := ho
  subst hd
  obtain ⟨p, p1, p2, p3⟩ := h.piv
  have rl := (h.rws.at (i := done - 1) (by rw [h.len]; omega)).1
  have hne := ldF_ne (m[done - 1]?.getD []) (m[done - 1]?.getD []).length 0 (by
    have : ldF (m[done - 1]?.getD []) (m[done - 1]?.getD []).length 0 = done - 1 := hl
    omega)
  have hl2 : ldF (m[done - 1]?.getD []) (m[done - 1]?.getD []).length 0 = done - 1 := hl
  rw [hl2] at hne
  have hp : p (done - 1) ≤ done - 1 := by
    rcases Nat.lt_or_ge (done - 1) (p (done - 1)) with hlt | hge
    · exact (hne (p3 (done - 1) (by omega) (done - 1) hlt)).elim
    · exact hge
  intro r c hr hc
  have g1 := piv_ge p2 c hc
  have g2 := piv_le p2 (done - 1 - c) c (by omega)
  have e : p c = c := by omega
  have := (p1 c hc).2 r hr
  rw [e] at this
  exact this
theorem GI.none {n : Nat} {W0 : Mx} {m : List (List Int)} {done k : Nat} (h : GI n (n + 1) W0 m done k) (hn : 0 < n) (hk : k ≤ n + 1) (hf : k = n + 1 ∨ done = n) (ho : oneB n m done = false) : ∃ i, i < n ∧ ∀ c, c < n → mx m i c = 0 := by
  refine ⟨n - 1, by omega, fun c hc => ?_⟩
  have hdl := h.dle
  by_cases hd : done = n
  · subst hd
    obtain ⟨p, p1, p2, p3⟩ := h.piv
    have rl := (h.rws.at (i := done - 1) (by rw [h.len]; omega)).1
    have g1 := piv_ge p2 (done - 1) (by omega)
    have q := p1 (done - 1) (by omega)
    by_cases e : p (done - 1) = done - 1
    · have e1 : mx m (done - 1) (done - 1) = 1 := by
        have := q.2 (done - 1) (by omega)
        rw [e, if_pos rfl] at this
        exact this
      have l1 := ldF_le (m[done - 1]?.getD []) (m[done - 1]?.getD []).length 0
      have hl : leadL (m[done - 1]?.getD []) = done - 1 := by
        unfold leadL
        rcases Nat.lt_trichotomy (ldF (m[done - 1]?.getD []) (m[done - 1]?.getD []).length 0) (done - 1) with hlt | heq | hgt
        · have := ldF_ne (m[done - 1]?.getD []) (m[done - 1]?.getD []).length 0 (by omega)
          exact (this (p3 (done - 1) (by omega) _ (by omega))).elim
        · exact heq
        · have := ldF_zero (m[done - 1]?.getD []) (m[done - 1]?.getD []).length 0 (done - 1) (by omega) hgt
          have e2 : mx m (done - 1) (done - 1) = 0 := this
          rw [e1] at e2; omega
      unfold oneB at ho
      rw [hl] at ho
      simp at ho
    · exact p3 (done - 1) (by omega) c (by omega)
  · exact h.low (n - 1) (by omega) (by omega) c (by omega)
end Go.Proofs.Ytoamidolomldnaa

/- Plain: the solution by Gauss's elimination is the one by Cramer's rule; the reference's determinant. -/
namespace Go.Proofs.Ytoamidolomldnaa
open Go.Abs
set_option linter.unusedVariables false
set_option linter.unusedSimpArgs false
set_option maxHeartbeats 1000000
theorem solve_no {n : Nat} {m : List (List Int)} (hn : 0 < n) (hl : m.length = n) (hr : Rws (n + 1) m) (ho : oneB n (redR (n + 1) 0 (m, 1, 0)).1 (redR (n + 1) 0 (m, 1, 0)).2.2 = false) : det n (mx m) % 10007 = 0 := by
  obtain ⟨k', h1, h2, h3⟩ := redR_GI (n + 1) 0 (m, 1, 0) (by omega) (GI.start hl hr)
  obtain ⟨i, hi, hz⟩ := h3.none hn h1 h2 ho
  exact h3.eqv.sing (by omega) hi (fun c hc => by rw [hz c hc]; rfl)
theorem solve_yes {n : Nat} {m : List (List Int)} (hn : 0 < n) (hl : m.length = n) (hr : Rws (n + 1) m) (ho : oneB n (redR (n + 1) 0 (m, 1, 0)).1 (redR (n + 1) 0 (m, 1, 0)).2.2 = true) :
    det n (mx m) % 10007 ≠ 0 ∧ ∀ k, k < n → mx (redR (n + 1) 0 (m, 1, 0)).1 k n = det n (updC (mx m) k (fun r => mx m r n)) % 10007 * (pw (det n (mx m) % 10007) 10005) % 10007 := by
  obtain ⟨k', h1, h2, h3⟩ := redR_GI (n + 1) 0 (m, 1, 0) (by omega) (GI.start hl hr)
  have hid := h3.one hn h1 ho
  obtain ⟨s, s1, s2⟩ := h3.eqv.full (fun r c hr hc => by rw [hid r c hr hc])
  have hne : det n (mx m) % 10007 ≠ 0 := fun h0 => by
    rw [← mul_mod_l, h0] at s1
    simp at s1
  refine ⟨hne, fun k hk => ?_⟩
  have iv := inv_ok (a := det n (mx m) % 10007) ⟨by omega, by omega⟩ hne
  have hN := mx_N h3.rws (show k < (redR (n + 1) 0 (m, 1, 0)).1.length by rw [h3.len]; exact hk) n
  have hs := s2 k hk
  rw [Int.emod_eq_of_lt hN.1 (by have := hN.2; omega)] at hs
  rw [hs]
  generalize det n (updC (mx m) k (fun r => mx m r n)) = dk
  generalize pw (det n (mx m) % 10007) 10005 = q at *
  generalize det n (mx m) = d at *
  -- s and q agree modulo p
  have e1 : s % 10007 = q % 10007 := by
    have a1 : s * (d * q) % 10007 = s % 10007 := by
      rw [← mul_mod_r, ← mul_mod_l d q, iv, Int.mul_one]
    have a2 : s * (d * q) = d * s * q := by ac_rfl
    rw [a2, ← mul_mod_l, s1, Int.one_mul] at a1
    exact a1.symm
  rw [mul_mod_l, ← mul_mod_r dk s, e1, mul_mod_r]
/-- A list of rows without its first row and a column. -/
def minL (a : List (List Int)) (k : Nat) : List (List Int) := (List.range (a.length - 1)).map fun r => (a[r + 1]?.getD []).take k ++ (a[r + 1]?.getD []).drop (k + 1)
theorem minL_len (a : List (List Int)) (k : Nat) : (minL a k).length = a.length - 1 := by simp [minL]
theorem minL_ok {n : Nat} {a : List (List Int)} (hl : a.length = n + 1) (hr : Rws (n + 1) a) {k : Nat} (hk : k < n + 1) : Rws n (minL a k) := fun x hx => by
  obtain ⟨r, h, rfl⟩ := List.mem_map.1 hx
  have hr2 : r + 1 < a.length := by have : r < a.length - 1 := by simpa using h
                                    omega
  have q := hr.at hr2
  refine ⟨by simp [q.1]; omega, fun y hy => ?_⟩
  rcases List.mem_append.1 hy with h | h
  · exact q.2 y (List.mem_of_mem_take h)
  · exact q.2 y (List.mem_of_mem_drop h)
theorem minL_mx {n : Nat} {a : List (List Int)} (hl : a.length = n + 1) (hr : Rws (n + 1) a) {k : Nat} (hk : k < n + 1) : ∀ r c, r < n → c < n → mx (minL a k) r c = mnc (mx a) k r c := fun r c h1 h2 => by
  have q := (hr.at (i := r + 1) (by omega)).1
  have e : (minL a k)[r]?.getD [] = (a[r + 1]?.getD []).take k ++ (a[r + 1]?.getD []).drop (k + 1) := by simp [minL, show r < a.length - 1 by omega]
  show ((minL a k)[r]?.getD [])[c]?.getD 0 = (a[r + 1]?.getD [])[if c < k then c else c + 1]?.getD 0
  rw [e]
  generalize a[r + 1]?.getD [] = row at *
  by_cases hc : c < k
  · rw [if_pos hc, List.getElem?_append_left (by simp; omega), List.getElem?_take_of_lt hc]
  · rw [if_neg hc, List.getElem?_append_right (by simp; omega), List.getElem?_drop]
    congr 2
    simp; omega
end Go.Proofs.Ytoamidolomldnaa

/- Plain: the reference's determinant. -/
namespace Go.Proofs.Ytoamidolomldnaa
open Go.Abs
set_option linter.unusedVariables false
set_option linter.unusedSimpArgs false
set_option maxHeartbeats 1000000
/-- Sums with changing signs. -/
def lsum (t : Nat → Int) : Nat → Int
  | 0 => 0
  | k + 1 => if k % 2 = 0 then (lsum t k + t k) % 10007 else (lsum t k - t k) % 10007
def restL (a : List (List Int)) (i : Nat) (q : Int) : List (List Int) := (List.range (a.length - 1)).map fun r => tb (fun j => (mx a (if r < i then r else r + 1) (j + 1) - mx a (if r < i then r else r + 1) 0 * q % 10007 * mx a i (j + 1) % 10007) % 10007) (a.length - 1)
def ldet : Nat → List (List Int) → Int
  | 0, _ => 1
  | n + 1, a => if n + 1 ≤ 4 then lsum (fun k => mx a 0 k * ldet n (minL a k) % 10007) (n + 1)
    else if fndR a 0 (n + 1) 0 = n + 1 then 0
    else if fndR a 0 (n + 1) 0 % 2 = 1 then (0 - mx a (fndR a 0 (n + 1) 0) 0 * ldet n (restL a (fndR a 0 (n + 1) 0) (pw (mx a (fndR a 0 (n + 1) 0) 0) 10005)) % 10007) % 10007
    else mx a (fndR a 0 (n + 1) 0) 0 * ldet n (restL a (fndR a 0 (n + 1) 0) (pw (mx a (fndR a 0 (n + 1) 0) 0) 10005)) % 10007
theorem lsum_is {t : Nat → Int} {u : Nat → Int} : ∀ n, (∀ k, k < n → t k % 10007 = u k % 10007) → lsum t n % 10007 = dsum (fun k => sgd k * u k) n % 10007
  | 0, _ => rfl
  | n + 1, h => by
    have ih := lsum_is n (fun k hk => h k (by omega))
    have hn := h n (by omega)
    rw [lsum, dsum]
    generalize dsum (fun k => sgd k * u k) n = z at *
    unfold sgd
    by_cases e : n % 2 = 0
    · rw [if_pos e, if_pos e]; omega
    · rw [if_neg e, if_neg e]; omega
theorem restL_ok {n : Nat} {a : List (List Int)} (hl : a.length = n + 1) (i : Nat) (q : Int) : (restL a i q).length = n ∧ Rws n (restL a i q) := by
  refine ⟨by simp [restL, hl], fun x hx => ?_⟩
  obtain ⟨r, _, rfl⟩ := List.mem_map.1 hx
  exact ⟨by simp [tb, hl], tb_N fun j _ => isN_mod _⟩
theorem restL_mx {n : Nat} {a : List (List Int)} (hl : a.length = n + 1) {i : Nat} (q : Int) : ∀ r c, r < n → c < n → mx (restL a i q) r c % 10007 = (mx a (if r < i then r else r + 1) (c + 1) + (- (mx a (if r < i then r else r + 1) 0 * q)) * mx a i (c + 1)) % 10007 := fun r c h1 h2 => by
  have e : (restL a i q)[r]?.getD [] = tb (fun j => (mx a (if r < i then r else r + 1) (j + 1) - mx a (if r < i then r else r + 1) 0 * q % 10007 * mx a i (j + 1) % 10007) % 10007) n := by simp [restL, hl, h1]
  have e2 : mx (restL a i q) r c = (mx a (if r < i then r else r + 1) (c + 1) - mx a (if r < i then r else r + 1) 0 * q % 10007 * mx a i (c + 1) % 10007) % 10007 := by
    show ((restL a i q)[r]?.getD [])[c]?.getD 0 = _
    rw [e]
    exact tb_get (fun j => (mx a (if r < i then r else r + 1) (j + 1) - mx a (if r < i then r else r + 1) 0 * q % 10007 * mx a i (j + 1) % 10007) % 10007) h2
  rw [e2, mul_mod_l, Int.neg_mul]
  generalize mx a (if r < i then r else r + 1) 0 * q * mx a i (c + 1) = z
  omega
theorem ldet_is : ∀ (n : Nat) (a : List (List Int)), a.length = n → Rws n a → ldet n a = det n (mx a) % 10007
  | 0, a, hl, hr => rfl
  | n + 1, a, hl, hr => by
    rw [ldet]
    split
    · have h1 := lsum_is (t := fun k => mx a 0 k * ldet n (minL a k) % 10007) (u := fun k => mx a 0 k * det n (mnc (mx a) k)) (n + 1) (fun k hk => by
        have q := ldet_is n (minL a k) (by rw [minL_len]; omega) (minL_ok hl hr hk)
        rw [det_congr (minL_mx hl hr hk)] at q
        show mx a 0 k * ldet n (minL a k) % 10007 % 10007 = _
        rw [q, mul_mod_r, Int.emod_emod_of_dvd _ (Int.dvd_refl _)])
      have h2 : lsum (fun k => mx a 0 k * ldet n (minL a k) % 10007) (n + 1) % 10007 = lsum (fun k => mx a 0 k * ldet n (minL a k) % 10007) (n + 1) := by
        rw [lsum]; split <;> exact Int.emod_emod_of_dvd _ (Int.dvd_refl _)
      rw [← h2, h1, det_row]
      congr 1
      exact dsum_congr fun k hk => by rw [Int.mul_assoc]
    · have fl := fndR_le a 0 (n + 1) 0
      split
      · rename_i hf
        rw [det, dsum_zero (fun i hi => by rw [fndR_zero a 0 (n + 1) 0 i (by omega) (by omega)]; simp)]
        rfl
      · rename_i hf
        have hne := fndR_ne a 0 (n + 1) 0 (by omega)
        generalize fndR a 0 (n + 1) 0 = i at *
        have hi : i < n + 1 := by omega
        have iv := inv_ok (mx_N hr (show i < a.length by omega) 0) hne
        have hp := det_pivot (p := 10007) (mx a) hi (q := pw (mx a i 0) 10005) (by rw [iv]; rfl)
        have ro := restL_ok hl i (pw (mx a i 0) 10005)
        have q := ldet_is n (restL a i (pw (mx a i 0) 10005)) ro.1 ro.2
        rw [det_cong (restL_mx hl (i := i) (pw (mx a i 0) 10005))] at q
        rw [hp]
        generalize det n (fun r c => mx a (if r < i then r else r + 1) (c + 1) + -(mx a (if r < i then r else r + 1) 0 * pw (mx a i 0) 10005) * mx a i (c + 1)) = d at *
        rw [q]
        generalize mx a i 0 = x at *
        unfold sgd
        split
        · rename_i h2
          rw [if_neg (by omega), mul_mod_r]
          have : -1 * x * d = - (x * d) := by rw [Int.neg_mul, Int.neg_mul, Int.one_mul]
          rw [this]
          generalize x * d = z
          omega
        · rename_i h2
          rw [if_pos (by omega), mul_mod_r, Int.one_mul]
end Go.Proofs.Ytoamidolomldnaa

/- Plain: systems solved, both ways. -/
namespace Go.Proofs.Ytoamidolomldnaa
open Go.Abs
set_option linter.unusedVariables false
set_option linter.unusedSimpArgs false
set_option maxHeartbeats 1000000
/-- The rows with the right sides behind them. -/
def widL (a : List (List Int)) (b : List Int) : List (List Int) := (List.range a.length).map fun i => a[i]?.getD [] ++ [b[i]?.getD 0]
/-- A column replaced by the right sides. -/
def repL (a : List (List Int)) (k : Nat) (b : List Int) : List (List Int) := (List.range a.length).map fun i => (a[i]?.getD []).set k (b[i]?.getD 0)
theorem widL_ok {n : Nat} {a : List (List Int)} {b : List Int} (hl : a.length = n) (hr : Rws n a) (hb : Ns b) : (widL a b).length = n ∧ Rws (n + 1) (widL a b) := by
  refine ⟨by simp [widL, hl], fun x hx => ?_⟩
  obtain ⟨i, h, rfl⟩ := List.mem_map.1 hx
  have q := hr.at (show i < a.length by simpa using h)
  refine ⟨by simp [q.1], fun y hy => ?_⟩
  rcases List.mem_append.1 hy with h | h
  · exact q.2 y h
  · simp at h; subst h; exact hb.get i
theorem widL_mx {n : Nat} {a : List (List Int)} {b : List Int} (hl : a.length = n) (hr : Rws n a) : ∀ r, r < n → (∀ c, c < n → mx (widL a b) r c = mx a r c) ∧ mx (widL a b) r n = b[r]?.getD 0 := fun r h => by
  have q := (hr.at (i := r) (by omega)).1
  have e : (widL a b)[r]?.getD [] = a[r]?.getD [] ++ [b[r]?.getD 0] := by simp [widL, show r < a.length by omega]
  refine ⟨fun c hc => ?_, ?_⟩
  · show ((widL a b)[r]?.getD [])[c]?.getD 0 = (a[r]?.getD [])[c]?.getD 0
    rw [e, List.getElem?_append_left (by omega)]
  · show ((widL a b)[r]?.getD [])[n]?.getD 0 = _
    rw [e, List.getElem?_append_right (by omega), q, Nat.sub_self]; rfl
theorem repL_ok {n : Nat} {a : List (List Int)} {b : List Int} (hl : a.length = n) (hr : Rws n a) (hb : Ns b) (k : Nat) : (repL a k b).length = n ∧ Rws n (repL a k b) := by
  refine ⟨by simp [repL, hl], fun x hx => ?_⟩
  obtain ⟨i, h, rfl⟩ := List.mem_map.1 hx
  have q := hr.at (show i < a.length by simpa using h)
  refine ⟨by rw [List.length_set]; exact q.1, fun y hy => ?_⟩
  rcases List.mem_or_eq_of_mem_set hy with h | h
  · exact q.2 y h
  · subst h; exact hb.get i
theorem repL_mx {n : Nat} {a : List (List Int)} {b : List Int} (hl : a.length = n) (hr : Rws n a) {k : Nat} (hk : k < n) : ∀ r c, r < n → c < n → mx (repL a k b) r c = updC (mx a) k (fun r => b[r]?.getD 0) r c := fun r c h1 h2 => by
  have q := (hr.at (i := r) (by omega)).1
  have e : (repL a k b)[r]?.getD [] = (a[r]?.getD []).set k (b[r]?.getD 0) := by simp [repL, show r < a.length by omega]
  show ((repL a k b)[r]?.getD [])[c]?.getD 0 = _
  rw [e]
  unfold updC
  by_cases hc : c = k
  · subst hc; rw [if_pos rfl, List.getElem?_set_self (by omega)]; rfl
  · rw [if_neg hc, List.getElem?_set_ne (fun x => hc x.symm)]; rfl
theorem solve_is {n : Nat} {a : List (List Int)} {b : List Int} (hn : 0 < n) (hl : a.length = n) (hr : Rws n a) (hb : Ns b) :
    oneB n (redR (n + 1) 0 (widL a b, 1, 0)).1 (redR (n + 1) 0 (widL a b, 1, 0)).2.2 = decide (ldet n a ≠ 0) ∧
    (ldet n a ≠ 0 → ∀ k, k < n → mx (redR (n + 1) 0 (widL a b, 1, 0)).1 k n = ldet n (repL a k b) * pw (ldet n a) 10005 % 10007) := by
  have wo := widL_ok hl hr hb
  have wm := widL_mx (b := b) hl hr
  have d1 : det n (mx (widL a b)) = det n (mx a) := det_congr fun r c h1 h2 => (wm r h1).1 c h2
  have d2 : ∀ k, k < n → det n (updC (mx (widL a b)) k (fun r => mx (widL a b) r n)) = det n (mx (repL a k b)) := fun k hk => det_congr fun r c h1 h2 => by
    rw [repL_mx hl hr hk r c h1 h2]
    unfold updC
    by_cases hc : c = k
    · rw [if_pos hc, if_pos hc]; exact (wm r h1).2
    · rw [if_neg hc, if_neg hc]; exact (wm r h1).1 c h2
  have dl := ldet_is n a hl hr
  cases ho : oneB n (redR (n + 1) 0 (widL a b, 1, 0)).1 (redR (n + 1) 0 (widL a b, 1, 0)).2.2 with
  | false =>
    have := solve_no hn wo.1 wo.2 ho
    rw [d1, ← dl] at this
    exact ⟨by simp [this], fun h => (h this).elim⟩
  | true =>
    have := solve_yes hn wo.1 wo.2 ho
    rw [d1, ← dl] at this
    refine ⟨by simp [this.1], fun _ k hk => ?_⟩
    rw [this.2 k hk, d2 k hk, ldet_is n (repL a k b) (repL_ok hl hr hb k).1 (repL_ok hl hr hb k).2]
end Go.Proofs.Ytoamidolomldnaa

/- Plain: determinants over any ring, by the first column. -/
namespace Go.Proofs.Ytoamidolomldnaa
open Go.Abs CR
set_option linter.unusedVariables false
set_option linter.unusedSimpArgs false
set_option maxHeartbeats 1000000
section
variable {α : Type}
def mnR (M : Nat → Nat → α) (i : Nat) : Nat → Nat → α := fun r c => M (if r < i then r else r + 1) (c + 1)
def upR (M : Nat → Nat → α) (i : Nat) (w : Nat → α) : Nat → Nat → α := fun r => if r = i then w else M r
theorem upR_self (M : Nat → Nat → α) (i : Nat) : upR M i (M i) = M := funext fun r => by
  unfold upR; split
  · rename_i h; rw [h]
  · rfl
theorem upR_at (M : Nat → Nat → α) (i : Nat) (w : Nat → α) : upR M i w i = w := by simp [upR]
theorem upR_ne (M : Nat → Nat → α) {i r : Nat} (w : Nat → α) (h : r ≠ i) : upR M i w r = M r := by simp [upR, h]
theorem upR_comm (M : Nat → Nat → α) {i j : Nat} (h : i ≠ j) (v w : Nat → α) : upR (upR M i v) j w = upR (upR M j w) i v := funext fun r => by
  unfold upR
  by_cases h1 : r = i
  · subst h1; rw [if_neg h, if_pos rfl, if_pos rfl]
  · rw [if_neg h1, if_neg h1]
theorem mnR_self (M : Nat → Nat → α) (i : Nat) (w : Nat → α) : mnR (upR M i w) i = mnR M i := funext fun r => funext fun c => by
  unfold mnR upR
  rw [if_neg (by split <;> omega)]
theorem mnR_ne (M : Nat → Nat → α) {i j : Nat} (w : Nat → α) (h : j ≠ i) : mnR (upR M i w) j = upR (mnR M j) (if i < j then i else i - 1) (fun c => w (c + 1)) := funext fun r => funext fun c => by
  unfold mnR upR
  by_cases h1 : (if r < j then r else r + 1) = i
  · have h2 : r = if i < j then i else i - 1 := by
      split at h1 <;> split <;> omega
    rw [if_pos h1, if_pos h2]
  · have h2 : ¬ r = if i < j then i else i - 1 := by
      split at h1 <;> split <;> omega
    rw [if_neg h1, if_neg h2]
end
section
variable {α : Type} [CR α]
def dR (f : Nat → α) : Nat → α
  | 0 => ofI 0
  | n + 1 => dR f n + f n
theorem dR_congr {f g : Nat → α} : ∀ {n : Nat}, (∀ i, i < n → f i = g i) → dR f n = dR g n
  | 0, _ => rfl
  | n + 1, h => by rw [dR, dR, dR_congr (fun i hi => h i (by omega)), h n (by omega)]
theorem dR_lin (f g : Nat → α) (k : α) : ∀ n : Nat, dR (fun i => f i + k * g i) n = dR f n + k * dR g n
  | 0 => by simp only [dR]; rw [mul0, add0]
  | n + 1 => by simp only [dR]; rw [dR_lin f g k n, mulD]; ac_rfl
theorem dR_zero {f : Nat → α} : ∀ {n : Nat}, (∀ i, i < n → f i = ofI 0) → dR f n = ofI 0
  | 0, _ => rfl
  | n + 1, h => by rw [dR, dR_zero (fun i hi => h i (by omega)), h n (by omega), add0]
theorem dR_one {f : Nat → α} {k : Nat} : ∀ {n : Nat}, k < n → (∀ i, i < n → i ≠ k → f i = ofI 0) → dR f n = f k
  | 0, h, _ => by omega
  | n + 1, h, hz => by
    rw [dR]
    by_cases e : k = n
    · subst e
      rw [dR_zero (fun i hi => hz i (by omega) (by omega)), zadd]
    · rw [dR_one (n := n) (by omega) (fun i hi hne => hz i (by omega) hne), hz n (by omega) (by omega), add0]
theorem dR_two {f : Nat → α} {k : Nat} : ∀ {n : Nat}, k + 1 < n → (∀ i, i < n → i ≠ k → i ≠ k + 1 → f i = ofI 0) → dR f n = f k + f (k + 1)
  | 0, h, _ => by omega
  | n + 1, h, hz => by
    rw [dR]
    by_cases e : k + 1 = n
    · subst e
      rw [dR_one (k := k) (by omega) (fun i hi hne => hz i (by omega) hne (by omega))]
    · rw [dR_two (n := n) (by omega) (fun i hi h1 h2 => hz i (by omega) h1 h2), hz n (by omega) (by omega) (by omega), add0]
def dtR : Nat → (Nat → Nat → α) → α
  | 0, _ => ofI 1
  | n + 1, M => dR (fun i => ofI (sgd i) * M i 0 * dtR n (mnR M i)) (n + 1)
theorem dtR_congr : ∀ {n : Nat} {M N : Nat → Nat → α}, (∀ r c, r < n → c < n → M r c = N r c) → dtR n M = dtR n N
  | 0, _, _, _ => rfl
  | n + 1, M, N, h => by
    rw [dtR, dtR]
    refine dR_congr fun i hi => ?_
    rw [h i 0 hi (by omega)]
    rw [dtR_congr (n := n) (M := mnR M i) (N := mnR N i) (fun r c hr hc => h _ _ (by split <;> omega) (by omega))]
theorem dtR_lin : ∀ {n : Nat} (M : Nat → Nat → α) {i : Nat} (u v : Nat → α) (k : α), i < n → dtR n (upR M i (fun c => u c + k * v c)) = dtR n (upR M i u) + k * dtR n (upR M i v)
  | 0, _, _, _, _, _, h => by omega
  | n + 1, M, i, u, v, k, h => by
    rw [dtR, dtR, dtR, ← dR_lin]
    refine dR_congr fun j hj => ?_
    by_cases e : j = i
    · subst e
      simp only [mnR_self, upR_at]
      generalize dtR n (mnR M j) = d
      rw [mulD, Dmul]
      congr 1
      ac_rfl
    · simp only [mnR_ne M _ e, upR_ne M _ e]
      rw [dtR_lin (n := n) (mnR M j) (fun c => u (c + 1)) (fun c => v (c + 1)) k (by split <;> omega), mulD]
      congr 1
      ac_rfl
theorem dtR_adj : ∀ {n : Nat} (M : Nat → Nat → α) {i : Nat}, i + 1 < n → M i = M (i + 1) → dtR n M = ofI 0
  | 0, _, _, h, _ => by omega
  | n + 1, M, i, h, he => by
    rw [dtR, dR_two (k := i) h]
    · have hm : mnR M (i + 1) = mnR M i := funext fun r => funext fun c => by
        unfold mnR
        by_cases h1 : r < i
        · rw [if_pos (by omega), if_pos h1]
        · by_cases h2 : r = i
          · subst h2; rw [if_pos (by omega), if_neg (by omega), he]
          · rw [if_neg (by omega), if_neg (by omega)]
      rw [hm, ← he, mulA, mulA, ← Dmul, ← ofAdd, sgd_succ, show sgd i + - sgd i = 0 by omega, zmul]
    · intro j hj h1 h2
      have hz : dtR n (mnR M j) = ofI 0 := by
        by_cases hlt : i < j
        · refine dtR_adj (mnR M j) (i := i) (by omega) (funext fun c => ?_)
          unfold mnR
          rw [if_pos hlt, if_pos (by omega), he]
        · obtain ⟨i', rfl⟩ : ∃ i', i = i' + 1 := ⟨i - 1, by omega⟩
          refine dtR_adj (mnR M j) (i := i') (by omega) (funext fun c => ?_)
          unfold mnR
          rw [if_neg (by omega), if_neg (by omega), he]
      rw [hz, mul0]
end
end Go.Proofs.Ytoamidolomldnaa

/- Plain: cofactors over any ring. -/
namespace Go.Proofs.Ytoamidolomldnaa
open Go.Abs CR
set_option linter.unusedVariables false
set_option linter.unusedSimpArgs false
set_option maxHeartbeats 1000000
section
variable {α : Type} [CR α]
theorem dtR_nil {n : Nat} (M : Nat → Nat → α) {i : Nat} (hi : i < n) : dtR n (upR M i (fun _ => ofI 0)) = ofI 0 := by
  have := dtR_lin M (fun _ => ofI 0) (fun _ => ofI 0) (ofI (-1)) hi
  have e : (fun _ : Nat => (ofI 0 : α) + ofI (-1) * ofI 0) = fun _ => ofI 0 := funext fun _ => by rw [mul0, add0]
  rw [e] at this
  generalize dtR n (upR M i (fun _ => ofI 0)) = d at *
  have z : d + ofI (-1) * d = ofI 0 := by
    have h1 : d + ofI (-1) * d = ofI 1 * d + ofI (-1) * d := by rw [omul]
    rw [h1, ← Dmul, ← ofAdd]
    exact zmul d
  rw [this]; exact z
def uvR (c : Nat) : Nat → α := fun k => if k = c then ofI 1 else ofI 0
/-- By any row: the row's entries times the cofactors. -/
theorem dtR_exp {n : Nat} (M : Nat → Nat → α) {i : Nat} (hi : i < n) (w : Nat → α) : dtR n (upR M i w) = dR (fun c => w c * dtR n (upR M i (uvR c))) n := by
  have gen : ∀ t : Nat, dtR n (upR M i (fun c => if c < t then w c else ofI 0)) = dR (fun c => w c * dtR n (upR M i (uvR c))) t := by
    intro t
    induction t with
    | zero =>
      have e : (fun c => if c < 0 then w c else (ofI 0 : α)) = fun _ => ofI 0 := funext fun c => if_neg (by omega)
      rw [e]; exact dtR_nil M hi
    | succ t ih =>
      have e : (fun c => if c < t + 1 then w c else (ofI 0 : α)) = fun c => (if c < t then w c else ofI 0) + w t * uvR t c := funext fun c => by
        unfold uvR
        by_cases h1 : c < t
        · rw [if_pos (by omega), if_pos h1, if_neg (by omega), mul0, add0]
        · by_cases h2 : c = t
          · subst h2; rw [if_pos (by omega), if_neg h1, if_pos rfl, mul1, zadd]
          · rw [if_neg (by omega), if_neg h1, if_neg h2, mul0, add0]
      rw [e, dtR_lin M _ _ _ hi, ih]; rfl
  rw [← gen n]
  refine dtR_congr fun r c hr hc => ?_
  unfold upR
  by_cases h : r = i
  · rw [if_pos h, if_pos h, if_pos hc]
  · rw [if_neg h, if_neg h]
theorem neg_of {a b : α} (h : a + b = ofI 0) : a = ofI (-1) * b := by
  have e : b + ofI (-1) * b = ofI 0 := by
    have h1 : b + ofI (-1) * b = ofI 1 * b + ofI (-1) * b := by rw [omul]
    rw [h1, ← Dmul, ← ofAdd]
    exact zmul b
  have h2 : a = a + (b + ofI (-1) * b) := by rw [e, add0]
  rw [← addA, h, zadd] at h2
  exact h2
theorem dtR_swap1 {n : Nat} (M : Nat → Nat → α) {i : Nat} (h : i + 1 < n) (u v : Nat → α) : dtR n (upR (upR M i u) (i + 1) v) = ofI (-1) * dtR n (upR (upR M i v) (i + 1) u) := by
  have hne : i ≠ i + 1 := by omega
  have z := fun w : Nat → α => dtR_adj (n := n) (upR (upR M i w) (i + 1) w) h (by rw [upR_at, upR_ne _ _ hne, upR_at])
  have s := z (fun c => u c + ofI 1 * v c)
  rw [dtR_lin _ u v _ (show i + 1 < n from h), upR_comm _ hne, upR_comm _ hne, dtR_lin _ u v _ (by omega), dtR_lin _ u v _ (by omega)] at s
  have zu := z u
  have zv := z v
  rw [upR_comm _ hne] at zu zv
  rw [zu, zv, omul, omul, omul, zadd, add0] at s
  rw [upR_comm _ hne u v, upR_comm _ hne v u]
  refine neg_of ?_
  rw [addC]; exact s
theorem dtR_eq : ∀ {n : Nat} (k : Nat) (M : Nat → Nat → α) {i : Nat}, i + k + 1 < n → M i = M (i + k + 1) → dtR n M = ofI 0
  | n, 0, M, i, h, he => dtR_adj M h he
  | n, k + 1, M, i, h, he => by
    have hne : i + k + 1 ≠ i + (k + 1) + 1 := by omega
    have e0 : M = upR (upR M (i + k + 1) (M (i + k + 1))) (i + k + 1 + 1) (M (i + k + 1 + 1)) := by rw [upR_self, upR_self]
    rw [e0, dtR_swap1 M (i := i + k + 1) (by omega)]
    have := dtR_eq k (upR (upR M (i + k + 1) (M (i + k + 1 + 1))) (i + k + 1 + 1) (M (i + k + 1))) (i := i) (n := n) (by omega) (by
      rw [upR_ne _ _ (show i ≠ i + k + 1 + 1 by omega), upR_ne _ _ (show i ≠ i + k + 1 by omega), upR_ne _ _ (show i + k + 1 ≠ i + k + 1 + 1 by omega), upR_at]
      exact he)
    rw [this, mul0]
theorem dtR_same {n : Nat} (M : Nat → Nat → α) {i j : Nat} (hi : i < n) (hj : j < n) (hne : i ≠ j) (he : M i = M j) : dtR n M = ofI 0 := by
  by_cases h : i < j
  · have e : j = i + (j - i - 1) + 1 := by omega
    rw [e] at he
    exact dtR_eq (j - i - 1) M (by omega) he
  · have e : i = j + (i - j - 1) + 1 := by omega
    rw [e] at he
    exact dtR_eq (i - j - 1) M (by omega) he.symm
/-- A matrix times its cofactors. -/
theorem dtR_cof {n : Nat} (M : Nat → Nat → α) {i j : Nat} (hi : i < n) (hj : j < n) : dR (fun c => M j c * dtR n (upR M i (uvR c))) n = if i = j then dtR n M else ofI 0 := by
  rw [← dtR_exp M hi (M j)]
  by_cases h : i = j
  · subst h; rw [if_pos rfl, upR_self]
  · rw [if_neg h]
    exact dtR_same _ hi hj h (by rw [upR_at, upR_ne _ _ (fun e => h e.symm)])
end
end Go.Proofs.Ytoamidolomldnaa

/- Plain: derivatives of determinants over any ring. -/
namespace Go.Proofs.Ytoamidolomldnaa
open Go.Abs CR
set_option linter.unusedVariables false
set_option linter.unusedSimpArgs false
set_option maxHeartbeats 1000000
section
variable {α : Type} [CR α]
theorem dR_skip (F : Nat → α) (z : α) : ∀ {n j : Nat}, j ≤ n → dR (fun i => if i = j then z else F (if i < j then i else i - 1)) (n + 1) = z + dR F n
  | 0, j, h => by
    have : j = 0 := by omega
    subst this
    show (ofI 0 : α) + (if 0 = 0 then z else _) = z + ofI 0
    rw [if_pos rfl, zadd, add0]
  | n + 1, j, h => by
    rw [dR]
    by_cases e : j = n + 1
    · subst e
      rw [if_pos rfl, dR_congr (g := F) (fun i hi => by rw [if_neg (by omega), if_pos hi]), addC]
    · rw [dR_skip F z (show j ≤ n by omega), if_neg (by omega), if_neg (by omega), addA]; rfl
theorem dR_plus (f g : Nat → α) : ∀ n, dR (fun i => f i + g i) n = dR f n + dR g n
  | 0 => by simp only [dR]; rw [add0]
  | n + 1 => by simp only [dR]; rw [dR_plus f g n]; ac_rfl
theorem dR_mul (k : α) (f : Nat → α) : ∀ n, k * dR f n = dR (fun i => k * f i) n
  | 0 => by simp only [dR]; rw [mul0]
  | n + 1 => by simp only [dR]; rw [mulD, dR_mul k f n]
theorem dR_swap (F : Nat → Nat → α) (m : Nat) : ∀ n, dR (fun i => dR (fun k => F i k) m) n = dR (fun k => dR (fun i => F i k) n) m
  | 0 => (dR_zero (f := fun k => dR (fun i => F i k) 0) (fun i hi => rfl)).symm
  | n + 1 => by
    rw [dR, dR_swap F m n, ← dR_plus]
    exact dR_congr fun k hk => rfl
/-- A derivation goes over the rows. -/
theorem dtR_der {T : α → α} (ta : ∀ a b, T (a + b) = T a + T b) (tm : ∀ a b, T (a * b) = T a * b + a * T b) (to : ∀ k, T (ofI k) = ofI 0) :
    ∀ (n : Nat) (M : Nat → Nat → α), T (dtR n M) = dR (fun i => dtR n (upR M i (fun c => T (M i c)))) n
  | 0, M => to 1
  | n + 1, M => by
    have ts : ∀ (f : Nat → α) (m : Nat), T (dR f m) = dR (fun i => T (f i)) m := fun f m => by
      induction m with
      | zero => exact to 0
      | succ m ih => rw [dR, ta, ih]; rfl
    have l1 : T (dtR (n + 1) M) = dR (fun j => ofI (sgd j) * T (M j 0) * dtR n (mnR M j) + ofI (sgd j) * M j 0 * dR (fun i => dtR n (upR (mnR M j) i (fun c => T (mnR M j i c)))) n) (n + 1) := by
      rw [dtR, ts]
      refine dR_congr fun j hj => ?_
      rw [tm, tm, to, zmul, zadd, dtR_der ta tm to n (mnR M j)]
    have l2 : ∀ i, i < n + 1 → dtR (n + 1) (upR M i (fun c => T (M i c))) = dR (fun j => if i = j then ofI (sgd j) * T (M j 0) * dtR n (mnR M j) else ofI (sgd j) * M j 0 * dtR n (upR (mnR M j) (if i < j then i else i - 1) (fun c => T (mnR M j (if i < j then i else i - 1) c)))) (n + 1) := fun i hi => by
      rw [dtR]
      refine dR_congr fun j hj => ?_
      by_cases e : i = j
      · subst e
        rw [if_pos rfl, upR_at, mnR_self]
      · rw [if_neg e, upR_ne _ _ (fun x => e x.symm), mnR_ne M _ (fun x => e x.symm)]
        have hrow : (fun c => T (M i (c + 1))) = fun c => T (mnR M j (if i < j then i else i - 1) c) := funext fun c => by
          unfold mnR
          by_cases h : i < j
          · rw [if_pos h, if_pos h]
          · rw [if_neg h, if_neg (by omega), show i - 1 + 1 = i by omega]
        rw [hrow]
    rw [l1, dR_congr l2, dR_swap]
    refine dR_congr fun j hj => ?_
    rw [dR_mul, ← dR_skip (fun i => ofI (sgd j) * M j 0 * dtR n (upR (mnR M j) i (fun c => T (mnR M j i c)))) (ofI (sgd j) * T (M j 0) * dtR n (mnR M j)) (show j ≤ n by omega)]
end
end Go.Proofs.Ytoamidolomldnaa

/- Plain: the determinant of the unit matrix less z times a matrix: its coefficients by traces, its values. -/
namespace Go.Proofs.Ytoamidolomldnaa
open Go.Abs CR
set_option linter.unusedVariables false
set_option linter.unusedSimpArgs false
set_option maxHeartbeats 1000000
/-- The unit matrix less z times a matrix. -/
def ulS (M : Mx) : Nat → Nat → Ser Int := fun r c k => if k = 0 then idM r c else if k = 1 then - M r c else 0
def chS (n : Nat) (M : Mx) : Ser Int := dtR n (ulS M)
def adS (n : Nat) (M : Mx) (c i : Nat) : Ser Int := dtR n (upR (ulS M) i (uvR c))
theorem cmul_nil (b : Ser Int) : ∀ (k : Nat) (a : Ser Int), (∀ i, a i = 0) → cmul k a b = 0
  | 0, a, h => by show a 0 * b 0 = 0; rw [h 0, Int.zero_mul]
  | k + 1, a, h => by
    show a 0 * b (k + 1) + cmul k (sh a) b = 0
    rw [h 0, cmul_nil b k (sh a) (fun i => h (i + 1)), Int.zero_mul]; rfl
theorem cmul_lin {a : Ser Int} (h : ∀ i, a (i + 2) = 0) (b : Ser Int) (k : Nat) : cmul (k + 1) a b = a 0 * b (k + 1) + a 1 * b k := by
  show a 0 * b (k + 1) + cmul k (sh a) b = _
  congr 1
  cases k with
  | zero => rfl
  | succ k =>
    show sh a 0 * b (k + 1) + cmul k (sh (sh a)) b = _
    rw [cmul_nil b k (sh (sh a)) (fun i => h i), Int.add_zero]; rfl
theorem dR_at (f : Nat → Ser Int) (k : Nat) : ∀ n, dR f n k = dsum (fun i => f i k) n
  | 0 => by show (ofI 0 : Ser Int) k = 0; cases k <;> rfl
  | n + 1 => by
    have : dR f (n + 1) k = dR f n k + f n k := rfl
    rw [this, dR_at f k n]; rfl
theorem ulS_lin (M : Mx) (r c : Nat) : ∀ i, ulS M r c (i + 2) = 0 := fun i => by unfold ulS; rw [if_neg (by omega), if_neg (by omega)]
theorem ulS_0 (M : Mx) (r c : Nat) : ulS M r c 0 = idM r c := rfl
theorem ulS_1 (M : Mx) (r c : Nat) : ulS M r c 1 = - M r c := rfl
theorem ul_mul (M : Mx) (r c : Nat) (b : Ser Int) (k : Nat) : (ulS M r c * b) (k + 1) = idM r c * b (k + 1) + - M r c * b k := cmul_lin (ulS_lin M r c) b k
theorem ul_mul0 (M : Mx) (r c : Nat) (b : Ser Int) : (ulS M r c * b) 0 = idM r c * b 0 := rfl
theorem dsum_id {n j : Nat} (hj : j < n) (f : Nat → Int) : dsum (fun c => idM j c * f c) n = f j := by
  rw [dsum_one hj (fun i hi hne => by unfold idM; rw [if_neg (fun e => hne e.symm), Int.zero_mul])]
  unfold idM; rw [if_pos rfl, Int.one_mul]
theorem ad_step (n : Nat) (M : Mx) {j i : Nat} (hj : j < n) (hi : i < n) (k : Nat) : adS n M j i (k + 1) = dsum (fun c => M j c * adS n M c i k) n + (if i = j then chS n M (k + 1) else 0) := by
  have h := congrFun (dtR_cof (ulS M) hi hj) (k + 1)
  rw [dR_at] at h
  have e : dsum (fun c => (ulS M j c * dtR n (upR (ulS M) i (uvR c))) (k + 1)) n = dsum (fun c => idM j c * adS n M c i (k + 1)) n + (-1) * dsum (fun c => M j c * adS n M c i k) n := by
    rw [← dsum_lin]
    refine dsum_congr fun c hc => ?_
    rw [ul_mul, Int.neg_mul, Int.neg_mul, Int.one_mul]; rfl
  rw [e, dsum_id hj] at h
  by_cases hij : i = j
  · rw [if_pos hij] at h ⊢
    have e2 : dtR n (ulS M) (k + 1) = chS n M (k + 1) := rfl
    rw [e2] at h; omega
  · rw [if_neg hij] at h ⊢
    have e2 : (ofI 0 : Ser Int) (k + 1) = 0 := rfl
    rw [e2] at h; omega
theorem dtR_at0 : ∀ (n : Nat) (A : Nat → Nat → Ser Int), dtR n A 0 = det n (fun r c => A r c 0)
  | 0, A => rfl
  | n + 1, A => by
    rw [dtR, dR_at, det]
    refine dsum_congr fun i hi => ?_
    have : (ofI (sgd i) * A i 0 * dtR n (mnR A i)) 0 = sgd i * A i 0 0 * dtR n (mnR A i) 0 := rfl
    rw [this, dtR_at0 n (mnR A i)]; rfl
theorem ch_0 (n : Nat) (M : Mx) : chS n M 0 = 1 := by
  unfold chS
  rw [dtR_at0]
  exact det_one n
theorem ad_0 (n : Nat) (M : Mx) {j i : Nat} (hj : j < n) (hi : i < n) : adS n M j i 0 = idM j i := by
  have h := congrFun (dtR_cof (ulS M) hi hj) 0
  rw [dR_at] at h
  have e : dsum (fun c => (ulS M j c * dtR n (upR (ulS M) i (uvR c))) 0) n = dsum (fun c => idM j c * adS n M c i 0) n := dsum_congr fun c hc => by rw [ul_mul0]; rfl
  rw [e, dsum_id hj] at h
  rw [h]
  unfold idM
  by_cases hij : i = j
  · rw [if_pos hij, if_pos hij.symm]; exact ch_0 n M
  · rw [if_neg hij, if_neg (fun x => hij x.symm)]; rfl
theorem ch_step (n : Nat) (M : Mx) (k : Nat) : ((k : Int) + 1) * chS n M (k + 1) = - dsum (fun i => dsum (fun c => M i c * adS n M c i k) n) n := by
  have h := congrFun (dtR_der (T := th) th_add th_mul th_of n (ulS M)) (k + 1)
  rw [dR_at] at h
  have e1 : th (dtR n (ulS M)) (k + 1) = ((k : Int) + 1) * chS n M (k + 1) := by
    show ((k + 1 : Nat) : Int) * _ = _
    rw [Int.natCast_add]; rfl
  rw [e1] at h
  rw [h]
  have e2 : ∀ z : Int, - z = -1 * z := fun z => by omega
  rw [e2, dsum_mul]
  refine dsum_congr fun i hi => ?_
  rw [dtR_exp _ hi, dR_at, dsum_mul]
  refine dsum_congr fun c hc => ?_
  have e3 : (th (ulS M i c) * dtR n (upR (ulS M) i (uvR c))) (k + 1) = th (ulS M i c) 0 * adS n M c i (k + 1) + th (ulS M i c) 1 * adS n M c i k :=
    cmul_lin (fun t => by show ((t + 2 : Nat) : Int) * ulS M i c (t + 2) = 0; rw [ulS_lin, Int.mul_zero]) _ k
  have e4 : th (ulS M i c) 0 = 0 := th_0 _
  have e5 : th (ulS M i c) 1 = - M i c := by show ((1 : Nat) : Int) * ulS M i c 1 = _; rw [ulS_1]; omega
  rw [e3, e4, e5, Int.zero_mul, Int.neg_mul, Int.neg_mul, Int.one_mul, Int.zero_add]
/-- A polynomial's degree and value. -/
def Ev (z : Int) (d : Nat) (f : Ser Int) (v : Int) : Prop := (∀ k, d < k → f k = 0) ∧ dsum (fun k => f k * z ^ k) (d + 1) = v
theorem Ev.zero (z : Int) (d : Nat) : Ev z d (ofI 0) 0 := by
  have h0 : ∀ k, (ofI 0 : Ser Int) k = 0 := fun k => by cases k <;> rfl
  exact ⟨fun k _ => h0 k, dsum_zero fun k _ => by rw [h0, Int.zero_mul]⟩
theorem Ev.add {z : Int} {d : Nat} {f g : Ser Int} {v w : Int} (h : Ev z d f v) (k : Ev z d g w) : Ev z d (f + g) (v + w) := by
  refine ⟨fun i hi => by rw [ser_add, h.1 i hi, k.1 i hi]; rfl, ?_⟩
  rw [← h.2, ← k.2, ← dsum_plus]
  exact dsum_congr fun i hi => by rw [ser_add, Int.add_mul]
theorem Ev.lin {z : Int} {d : Nat} {f g : Ser Int} {w : Int} (hf : ∀ i, f (i + 2) = 0) (k : Ev z d g w) : Ev z (d + 1) (f * g) ((f 0 + f 1 * z) * w) := by
  have at1 : ∀ i, (f * g) (i + 1) = f 0 * g (i + 1) + f 1 * g i := fun i => cmul_lin hf g i
  have at0 : (f * g) 0 = f 0 * g 0 := rfl
  refine ⟨fun i hi => ?_, ?_⟩
  · obtain ⟨j, rfl⟩ : ∃ j, i = j + 1 := ⟨i - 1, by omega⟩
    rw [at1, k.1 (j + 1) (by omega), k.1 j (by omega)]; omega
  · have e1 : dsum (fun i => (f * g) (i + 1) * z ^ (i + 1)) (d + 1) = dsum (fun i => f 0 * (g (i + 1) * z ^ (i + 1)) + (f 1 * z) * (g i * z ^ i)) (d + 1) :=
      dsum_congr fun i hi => by
        rw [at1, Int.add_mul, Int.pow_succ]
        congr 1
        · rw [Int.mul_assoc]
        · rw [Int.mul_assoc, Int.mul_assoc]
          congr 1
          rw [← Int.mul_assoc, Int.mul_comm]
    have e2 : dsum (fun i => g i * z ^ i) (d + 1 + 1) = w := by
      show dsum (fun i => g i * z ^ i) (d + 1) + g (d + 1) * z ^ (d + 1) = w
      rw [k.2, k.1 (d + 1) (by omega), Int.zero_mul, Int.add_zero]
    rw [dsum_shift] at e2
    rw [dsum_shift, e1, dsum_lin, at0, ← dsum_mul, k.2, Int.add_mul]
    have e3 : f 0 * w = f 0 * (g 0 * z ^ 0) + f 0 * dsum (fun i => g (i + 1) * z ^ (i + 1)) (d + 1) := by rw [← Int.mul_add, e2]
    rw [e3, Int.mul_assoc (f 0) (g 0), Int.add_assoc]
theorem Ev.dR {z : Int} {d : Nat} {f : Nat → Ser Int} {v : Nat → Int} : ∀ {n : Nat}, (∀ i, i < n → Ev z d (f i) (v i)) → Ev z d (dR f n) (dsum v n)
  | 0, _ => Ev.zero z d
  | n + 1, h => Ev.add (Ev.dR (n := n) (fun i hi => h i (by omega))) (h n (by omega))
theorem Ev.det {z : Int} : ∀ (n : Nat) (A : Nat → Nat → Ser Int), (∀ r c i, A r c (i + 2) = 0) → Ev z n (dtR n A) (det n (fun r c => A r c 0 + A r c 1 * z))
  | 0, A, _ => by
    refine ⟨fun k hk => ?_, ?_⟩
    · obtain ⟨j, rfl⟩ : ∃ j, k = j + 1 := ⟨k - 1, by omega⟩
      rfl
    · show (0 : Int) + 1 * z ^ 0 = 1
      rw [Int.pow_zero]; rfl
  | n + 1, A, h => by
    rw [dtR, Go.Proofs.Ytoamidolomldnaa.det]
    refine Ev.dR fun i hi => ?_
    have q := Ev.lin (f := ofI (sgd i) * A i 0) (fun t => by
      show cmul (t + 2) (sOf (sgd i)) (A i 0) = 0
      rw [cmul_comm, cmul_of, h, Int.zero_mul]) (Ev.det (z := z) n (mnR A i) (fun r c t => h _ _ _))
    have e : ∀ t, (ofI (sgd i) * A i 0) t = sgd i * A i 0 t := fun t => by
      show cmul t (sOf (sgd i)) (A i 0) = _
      rw [cmul_comm, cmul_of]; exact Int.mul_comm _ _
    rw [e, e, Int.mul_assoc, ← Int.mul_add] at q
    exact q
/-- The polynomial's value at a number. -/
theorem ch_val (n : Nat) (M : Mx) (z : Int) : dsum (fun k => chS n M k * z ^ k) (n + 1) = det n (fun r c => idM r c + - M r c * z) := (Ev.det (z := z) n (ulS M) (ulS_lin M)).2
end Go.Proofs.Ytoamidolomldnaa

/- Plain: a reduction keeps null vectors; systems with a known solution; powers of the first numbers. -/
namespace Go.Proofs.Ytoamidolomldnaa
open Go.Abs
set_option linter.unusedVariables false
set_option linter.unusedSimpArgs false
set_option maxHeartbeats 1000000
def Nul (n w : Nat) (m : List (List Int)) (x : Nat → Int) : Prop := ∀ r, r < n → dsum (fun c => mx m r c * x c) w % 10007 = 0
theorem Nul.swp {n w : Nat} {m : List (List Int)} {x : Nat → Int} (h : Nul n w m x) (hl : m.length = n) {i d : Nat} (hi : i < n) (hd : d < n) : Nul n w (swp m i d) x := by
  intro r hr
  rw [swp_mx (by omega) (by omega)]
  by_cases e1 : r = d
  · subst e1; rw [updR_at]; exact h i hi
  · rw [updR_ne _ _ e1]
    by_cases e2 : r = i
    · subst e2; rw [updR_at]; exact h d hd
    · rw [updR_ne _ _ e2]; exact h r hr
theorem Nul.scl {n w : Nat} {m : List (List Int)} {x : Nat → Int} (h : Nul n w m x) (hl : m.length = n) (hr : Rws w m) {d k : Nat} (hd : d < n) : Nul n w (scl m d k) x := by
  intro r hrn
  by_cases e : r = d
  · subst e
    have e1 : dsum (fun c => mx (Go.Proofs.Ytoamidolomldnaa.scl m r k) r c * x c) w % 10007 = dsum (fun c => (pw (mx m r k) 10005 % 10007) * (mx m r c * x c)) w % 10007 := dsum_cong fun c hc => by
      rw [scl_at hr (by omega) hc, if_pos rfl, mul_mod_l]
      congr 1
      rw [Int.mul_comm (mx m r c), Int.mul_assoc]
    rw [e1, ← dsum_mul, ← mul_mod_r, h r hrn]; simp
  · have e1 : dsum (fun c => mx (Go.Proofs.Ytoamidolomldnaa.scl m d k) r c * x c) w % 10007 = dsum (fun c => mx m r c * x c) w % 10007 := dsum_cong fun c hc => by
      rw [scl_at hr (by omega) hc, if_neg e]
    rw [e1]; exact h r hrn
theorem Nul.elD {n w : Nat} {m : List (List Int)} {x : Nat → Int} (h : Nul n w m x) (hl : m.length = n) (hr : Rws w m) {d k : Nat} (hd : d < n) : Nul n w (elD m d k) x := by
  intro r hrn
  by_cases e : r = d
  · have e1 : dsum (fun c => mx (Go.Proofs.Ytoamidolomldnaa.elD m d k) r c * x c) w % 10007 = dsum (fun c => mx m d c * x c) w % 10007 := dsum_cong fun c hc => by
      rw [elD_at hr (by omega) hc, if_pos e]
    rw [e1]; exact h d hd
  · have e1 : dsum (fun c => mx (Go.Proofs.Ytoamidolomldnaa.elD m d k) r c * x c) w % 10007 = dsum (fun c => mx m r c * x c + ((- mx m r k) % 10007) * (mx m d c * x c)) w % 10007 := dsum_cong fun c hc => by
      rw [elD_at hr (by omega) hc, if_neg e, mul_mod_l, Int.add_mul, Int.mul_assoc]
    rw [e1, dsum_lin, Int.add_emod, h r hrn, ← mul_mod_r, h d hd]; simp
theorem stepR_Nul {n w : Nat} {W0 : Mx} {m : List (List Int)} {d : Int} {done k : Nat} {x : Nat → Int} (g : GI n w W0 m done k) (hk : k < w) (hd : done < n) (h : Nul n w m x) : Nul n w (stepR m d done k).1 x := by
  have hl := g.len
  have fl := fndR_le m k (m.length - done) done
  unfold stepR
  by_cases e : fndR m k (m.length - done) done = m.length
  · rw [if_pos e]; exact h
  · rw [if_neg e]
    have s1 := swp_ok g.rws (i := fndR m k (m.length - done) done) (d := done) (by omega) (by omega)
    have s2 := h.swp hl (i := fndR m k (m.length - done) done) (d := done) (by omega) hd
    have l1 := swp_len m (fndR m k (m.length - done) done) done
    have t1 := scl_ok s1 (d := done) (k := k) (by omega)
    have t2 := s2.scl (by omega) s1 (k := k) hd
    exact t2.elD (by rw [scl_len, l1]; exact hl) t1 hd
theorem redR_Nul {n w : Nat} {W0 : Mx} {x : Nat → Int} : ∀ (f k : Nat) (st : List (List Int) × Int × Nat), k + f = w → GI n w W0 st.1 st.2.2 k → Nul n w st.1 x → Nul n w (redR f k st).1 x
  | 0, k, st, hk, g, h => h
  | f + 1, k, st, hk, g, h => by
    rw [redR]
    have hl := g.len
    split
    · rename_i hlt
      exact redR_Nul f (k + 1) _ (by omega) (stepR_GI g (by omega) (by omega)) (stepR_Nul g (by omega) (by omega) h)
    · exact h
/-- A system with a known solution: it is the one that is found. -/
theorem solve_uniq {n : Nat} {a : List (List Int)} {b : List Int} {e : Nat → Int} (hn : 0 < n) (hl : a.length = n) (hr : Rws n a) (hb : Ns b) (h0 : ldet n a ≠ 0)
    (he : ∀ r, r < n → dsum (fun c => mx a r c * e c) n % 10007 = b[r]?.getD 0 % 10007) :
    ∀ k, k < n → ldet n (repL a k b) * pw (ldet n a) 10005 % 10007 = e k % 10007 := by
  intro k hk
  have sv := solve_is hn hl hr hb
  have wo := widL_ok hl hr hb
  have wm := widL_mx (b := b) hl hr
  rw [← sv.2 h0 k hk]
  have ho := sv.1
  rw [decide_eq_true h0] at ho
  obtain ⟨k', h1, h2, h3⟩ := redR_GI (n + 1) 0 (widL a b, 1, 0) (by omega) (GI.start wo.1 wo.2)
  have hid := h3.one hn h1 ho
  have hN := mx_N h3.rws (show k < (redR (n + 1) 0 (widL a b, 1, 0)).1.length by rw [h3.len]; exact hk) n
  have nu : Nul n (n + 1) (widL a b) (fun c => if c < n then e c else -1) := fun r hrn => by
    have e1 : dsum (fun c => mx (widL a b) r c * (fun c => if c < n then e c else -1) c) (n + 1) = dsum (fun c => mx a r c * e c) n + b[r]?.getD 0 * (-1) := by
      rw [dsum]
      congr 1
      · exact dsum_congr fun c hc => by simp only [if_pos hc]; rw [(wm r hrn).1 c hc]
      · simp only [if_neg (show ¬ n < n by omega)]; rw [(wm r hrn).2]
    rw [e1]
    have := he r hrn
    omega
  have nr := redR_Nul (n + 1) 0 (widL a b, 1, 0) (by omega) (GI.start wo.1 wo.2) nu k hk
  have e2 : dsum (fun c => mx (redR (n + 1) 0 (widL a b, 1, 0)).1 k c * (fun c => if c < n then e c else -1) c) (n + 1) = e k + mx (redR (n + 1) 0 (widL a b, 1, 0)).1 k n * (-1) := by
    rw [dsum]
    congr 1
    · have : dsum (fun c => mx (redR (n + 1) 0 (widL a b, 1, 0)).1 k c * (fun c => if c < n then e c else -1) c) n = dsum (fun c => idM k c * e c) n := dsum_congr fun c hc => by
        simp only [if_pos hc]; rw [hid k c hk hc]
      rw [this, dsum_id hk]
    · simp only [if_neg (show ¬ n < n by omega)]
  rw [e2] at nr
  obtain ⟨n0, n1⟩ := hN
  generalize mx (redR (n + 1) 0 (widL a b, 1, 0)).1 k n = y at *
  omega
/-- The reference's determinant with another way to invert. -/
def ldetQ (q : Int → Int) : Nat → List (List Int) → Int
  | 0, _ => 1
  | n + 1, a => if n + 1 ≤ 4 then lsum (fun k => mx a 0 k * ldetQ q n (minL a k) % 10007) (n + 1)
    else if fndR a 0 (n + 1) 0 = n + 1 then 0
    else if fndR a 0 (n + 1) 0 % 2 = 1 then (0 - mx a (fndR a 0 (n + 1) 0) 0 * ldetQ q n (restL a (fndR a 0 (n + 1) 0) (q (mx a (fndR a 0 (n + 1) 0) 0))) % 10007) % 10007
    else mx a (fndR a 0 (n + 1) 0) 0 * ldetQ q n (restL a (fndR a 0 (n + 1) 0) (q (mx a (fndR a 0 (n + 1) 0) 0))) % 10007
theorem ldetQ_is : ∀ (n : Nat) (a : List (List Int)), ldetQ (fun x => pw x 10005) n a = ldet n a
  | 0, _ => rfl
  | n + 1, a => by rw [ldetQ, ldet]; simp only [ldetQ_is n]
def fq (x : Int) : Int := if 0 ≤ x then ((fp 15 x.toNat 10005 : Nat) : Int) else pw x 10005
theorem fq_is : fq = fun x => pw x 10005 := funext fun x => by
  unfold fq
  split
  · rename_i h
    obtain ⟨n, rfl⟩ : ∃ n : Nat, x = n := ⟨x.toNat, by omega⟩
    rw [Int.toNat_natCast, fp_pw]
  · rfl
/-- The powers of the first numbers. -/
def vanL (n : Nat) : List (List Int) := (List.range (n + 1)).map fun (z : Nat) => tb (fun k => pw (z : Int) (k : Int)) (n + 1)
theorem vanL_len (n : Nat) : (vanL n).length = n + 1 := by simp [vanL]
theorem vanL_ok (n : Nat) : Rws (n + 1) (vanL n) := fun x hx => by
  obtain ⟨z, _, rfl⟩ := List.mem_map.1 hx
  exact ⟨by simp [tb], tb_N fun k _ => isN_mod _⟩
theorem vanL_mx {n z k : Nat} (hz : z < n + 1) (hk : k < n + 1) : mx (vanL n) z k = pw (z : Int) (k : Int) := by
  have e : (vanL n)[z]?.getD [] = tb (fun k => pw (z : Int) (k : Int)) (n + 1) := by simp [vanL, hz]
  show ((vanL n)[z]?.getD [])[k]?.getD 0 = _
  rw [e]
  exact tb_get (fun k => pw (z : Int) (k : Int)) hk
theorem van_ne {n : Nat} (h : n ≤ 8) : ldet (n + 1) (vanL n) ≠ 0 := by
  rw [← ldetQ_is, ← fq_is]
  have : ∀ m, m ≤ 8 → decide (ldetQ fq (m + 1) (vanL m) ≠ 0) = true := by decide +kernel
  exact of_decide_eq_true (this n h)
end Go.Proofs.Ytoamidolomldnaa

/- Contracts: explicit steps, the program's and the reference's. -/
namespace Go.Proofs.Ytoamidolomldnaa
open Go.Abs
set_option linter.unusedVariables false
set_option linter.unusedSimpArgs false
set_option maxHeartbeats 1000000
@[go_sem] theorem klW_bor (W : List Nat) (s : Nat) (p : List Nat) : kl W (.bor s p) = if W.contains s then .any else .bor s p := by rw [kl]
@[go_sem] theorem klW_ptr (W : List Nat) (s : Nat) (p : List Nat) (o : Nat) : kl W (.ptr s p o) = if W.contains s then .any else .ptr s p o := by rw [kl]
/-- The place of a stage; the values and the point after some stages. -/
def plF (h : Int) (row : List Int) (vs : List (List Int)) (y : List Int) : Nat → List Int
  | 0 => y
  | k + 1 => plusS (plF h row vs y k) (vs[k]?.getD []) (h * row[k]?.getD 0 % 10007)
def exF (A : List (List Int)) (B : List Int) (f : List (List Mon)) (y : List Int) (h : Int) : Nat → List (List Int) × List Int
  | 0 => ([], y)
  | i + 1 => ((exF A B f y h i).1 ++ [evL (plF h (A[i]?.getD []) (exF A B f y h i).1 y i) f], plusS (exF A B f y h i).2 (evL (plF h (A[i]?.getD []) (exF A B f y h i).1 y i) f) (h * B[i]?.getD 0 % 10007))
theorem plF_len (h : Int) (row : List Int) (vs : List (List Int)) (y : List Int) : ∀ k, (plF h row vs y k).length = y.length
  | 0 => rfl
  | k + 1 => by rw [plF, plusS_len, plF_len h row vs y k]
theorem plF_N {h : Int} {row : List Int} {vs : List (List Int)} {y : List Int} (hy : Ns y) : ∀ k, Ns (plF h row vs y k)
  | 0 => hy
  | k + 1 => plusS_N _ _ _
theorem evL_N (y : List Int) (f : List (List Mon)) : Ns (evL y f) := by
  intro x hx
  obtain ⟨p, _, rfl⟩ := List.mem_map.1 hx
  exact isN_mod _
theorem exF_len1 (A : List (List Int)) (B : List Int) (f : List (List Mon)) (y : List Int) (h : Int) : ∀ i, (exF A B f y h i).1.length = i
  | 0 => rfl
  | i + 1 => by simp [exF, exF_len1 A B f y h i]
theorem exF_mem {A : List (List Int)} {B : List Int} {f : List (List Mon)} {y : List Int} {h : Int} : ∀ i, ∀ v ∈ (exF A B f y h i).1, v.length = f.length ∧ Ns v
  | 0 => by simp [exF]
  | i + 1 => by
    intro v hv
    rw [exF] at hv
    rcases List.mem_append.1 hv with hv | hv
    · exact exF_mem i v hv
    · simp at hv; subst hv; exact ⟨by simp, evL_N _ _⟩
theorem exF_len2 (A : List (List Int)) (B : List Int) (f : List (List Mon)) (y : List Int) (h : Int) : ∀ i, (exF A B f y h i).2.length = y.length
  | 0 => rfl
  | i + 1 => by simp [exF, exF_len2 A B f y h i]
theorem exF_N2 {A : List (List Int)} {B : List Int} {f : List (List Mon)} {y : List Int} {h : Int} (hy : Ns y) : ∀ i, Ns (exF A B f y h i).2
  | 0 => hy
  | i + 1 => plusS_N _ _ _
theorem omat_get {A : List (List Int)} {k : Nat} (h : k < A.length) : (omat A)[k]? = some (.own 2 (A[k]?.getD []).length (avs (A[k]?.getD []))) := by simp [omat, h]
theorem omat_snoc_get {A : List (List Int)} {v : List Int} {n : Nat} {i : Nat} (h : A.length = i) (hn : v.length = n) : (omat A ++ [.own 2 n (avs v)])[i]? = some (.own 2 n (avs v)) := by
  rw [List.getElem?_append_right (by simp; omega)]
  simp [h]
theorem add_times {a b : List Int} {k : Int} (hk : isN k) (h : a.length ≤ b.length) :
    tb (fun i => (a[i]?.getD 0 + (tb (fun j => b[j]?.getD 0 * k % 10007) b.length)[i]?.getD 0) % 10007) a.length = plusS a b k := by
  unfold plusS
  unfold tb
  refine List.map_congr_left fun i hi => ?_
  have hi2 : i < b.length := by simp at hi; omega
  have e := tb_get (fun j => b[j]?.getD 0 * k % 10007) hi2
  unfold tb at e
  simp only [e]
  rw [Int.emod_eq_of_lt hk.1 (by have := hk.2; omega), Int.mul_comm k]
  omega
end Go.Proofs.Ytoamidolomldnaa

/- Contracts: runs of explicit steps, the program's and the reference's. -/
namespace Go.Proofs.Ytoamidolomldnaa
open Go.Abs
set_option linter.unusedVariables false
set_option linter.unusedSimpArgs false
set_option maxHeartbeats 1000000
def itF (A : List (List Int)) (B : List Int) (f : List (List Mon)) (y : List Int) (h : Int) : Nat → List Int
  | 0 => y
  | i + 1 => (exF A B f (itF A B f y h i) h A.length).2
theorem itF_len (A : List (List Int)) (B : List Int) (f : List (List Mon)) (y : List Int) (h : Int) : ∀ i, (itF A B f y h i).length = y.length
  | 0 => rfl
  | i + 1 => by rw [itF, exF_len2, itF_len A B f y h i]
theorem itF_N {A : List (List Int)} {B : List Int} {f : List (List Mon)} {y : List Int} {h : Int} (hy : Ns y) : ∀ i, Ns (itF A B f y h i)
  | 0 => hy
  | i + 1 => exF_N2 (itF_N hy i) _
def stE (A : List (List Int)) (B : List Int) (z : Int) (f : List (List Mon)) (y : List Int) : Int := if (tabB A B && fieldB z f) = false then 1 else if vecB z y = false then 2 else 0
def rsE (A : List (List Int)) (B : List Int) (z : Int) (f : List (List Mon)) (y : List Int) (h n : Int) : Int := if stE A B z f y = 0 then (if (0 ≤ h ∧ h ≤ 10006) ∧ 0 ≤ n ∧ n ≤ 1000 then (if lowB A 0 = true then 0 else 5) else 2) else stE A B z f y
def rsX (A : List (List Int)) (B : List Int) (z : Int) (f : List (List Mon)) (y : List Int) (h n : Int) : List Int := if rsE A B z f y h n = 0 then itF A B f y h n.toNat else []
def rsR (A : List (List Int)) (B : List Int) (z : Int) (f : List (List Mon)) (y : List Int) (h n : Int) : AV := .tup [.own 2 (rsX A B z f y h n).length (avs (rsX A B z f y h n)), .int (rsE A B z f y h n)]
theorem rsX_len (A : List (List Int)) (B : List Int) (z : Int) (f : List (List Mon)) (y : List Int) (h n : Int) : (rsX A B z f y h n).length ≤ y.length := by
  unfold rsX; split <;> simp [itF_len]
theorem checkStep_c (A : List (List Int)) (B : List Int) (z : Int) (f : List (List Mon)) (y : List Int) (hA : A.length ≤ 1048576) (hB : B.length ≤ 1048576) (hr : ∀ r ∈ A, r.length ≤ 1048576) (hs : Small f) (hy : y.length ≤ 1048576) :
    Con Try.prog 107 [.agg [.sl A.length (mat A), .sl B.length (avs B)], .agg [.int z, .sl f.length (prt f)], .sl y.length (avs y)] (.int (stE A B z f y)) := by
  have cA := IsTableau_c A B (by omega) (by omega) (fun r h => by have := hr r h; omega)
  have cT := IsField_c z f hs
  have cR := isVector_c z f.length (prt f) y (by omega)
  unfold stE
  generalize tabB A B = a at *
  generalize fieldB z f = b at *
  generalize vecB z y = c at *
  cases a <;> cases b <;> cases c
  all_goals simp only [Bool.and_self, Bool.and_false, Bool.false_and, Bool.true_and, Bool.false_eq_true, if_true, if_false, reduceCtorEq]
  · refine con_of_vc Try.mixed ⟨7, [], [], []⟩ Try.func107 (by decide) rfl (by simp) (by decide) (by simp [freshOK, freshL, go_sem]) ?_
    rw [Try.ntmps107]
    simp [go_sem]
    refine CallVC.of (cA) (by decide) ?_
    simp [go_sem]
  · refine con_of_vc Try.mixed ⟨7, [], [], []⟩ Try.func107 (by decide) rfl (by simp) (by decide) (by simp [freshOK, freshL, go_sem]) ?_
    rw [Try.ntmps107]
    simp [go_sem]
    refine CallVC.of (cA) (by decide) ?_
    simp [go_sem]
  · refine con_of_vc Try.mixed ⟨7, [], [], []⟩ Try.func107 (by decide) rfl (by simp) (by decide) (by simp [freshOK, freshL, go_sem]) ?_
    rw [Try.ntmps107]
    simp [go_sem]
    refine CallVC.of (cA) (by decide) ?_
    simp [go_sem]
  · refine con_of_vc Try.mixed ⟨7, [], [], []⟩ Try.func107 (by decide) rfl (by simp) (by decide) (by simp [freshOK, freshL, go_sem]) ?_
    rw [Try.ntmps107]
    simp [go_sem]
    refine CallVC.of (cA) (by decide) ?_
    simp [go_sem]
  · refine con_of_vc Try.mixed ⟨7, [], [], []⟩ Try.func107 (by decide) rfl (by simp) (by decide) (by simp [freshOK, freshL, go_sem]) ?_
    rw [Try.ntmps107]
    simp [go_sem]
    refine CallVC.of (cA) (by decide) ?_
    simp [go_sem]
    refine CallVC.of (cT) (by decide) ?_
    simp [go_sem]
  · refine con_of_vc Try.mixed ⟨7, [], [], []⟩ Try.func107 (by decide) rfl (by simp) (by decide) (by simp [freshOK, freshL, go_sem]) ?_
    rw [Try.ntmps107]
    simp [go_sem]
    refine CallVC.of (cA) (by decide) ?_
    simp [go_sem]
    refine CallVC.of (cT) (by decide) ?_
    simp [go_sem]
  · refine con_of_vc Try.mixed ⟨7, [], [], []⟩ Try.func107 (by decide) rfl (by simp) (by decide) (by simp [freshOK, freshL, go_sem]) ?_
    rw [Try.ntmps107]
    simp [go_sem]
    refine CallVC.of (cA) (by decide) ?_
    simp [go_sem]
    refine CallVC.of (cT) (by decide) ?_
    simp [go_sem]
    refine CallVC.of (cR) (by decide) ?_
    simp [go_sem]
  · refine con_of_vc Try.mixed ⟨7, [], [], []⟩ Try.func107 (by decide) rfl (by simp) (by decide) (by simp [freshOK, freshL, go_sem]) ?_
    rw [Try.ntmps107]
    simp [go_sem]
    refine CallVC.of (cA) (by decide) ?_
    simp [go_sem]
    refine CallVC.of (cT) (by decide) ?_
    simp [go_sem]
    refine CallVC.of (cR) (by decide) ?_
    simp [go_sem]
theorem stE_zero {A : List (List Int)} {B : List Int} {z : Int} {f : List (List Mon)} {y : List Int} (h : stE A B z f y = 0) : tabB A B = true ∧ fieldB z f = true ∧ vecB z y = true := by
  unfold stE at h
  generalize tabB A B = a at *
  generalize fieldB z f = b at *
  generalize vecB z y = c at *
  cases a <;> cases b <;> cases c <;> simp_all
end Go.Proofs.Ytoamidolomldnaa

/- Contracts: the reference's run of explicit steps. -/
namespace Go.Proofs.Ytoamidolomldnaa
open Go.Abs
set_option linter.unusedVariables false
set_option linter.unusedSimpArgs false
set_option maxHeartbeats 1000000
end Go.Proofs.Ytoamidolomldnaa

/- Contracts: one explicit step, the program's and the reference's. -/
namespace Go.Proofs.Ytoamidolomldnaa
open Go.Abs
set_option linter.unusedVariables false
set_option linter.unusedSimpArgs false
set_option maxHeartbeats 1000000
end Go.Proofs.Ytoamidolomldnaa
