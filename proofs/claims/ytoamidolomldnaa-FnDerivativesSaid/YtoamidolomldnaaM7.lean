/- Texts of the own layer and contracts, part 7: P6 F7 Q0 G0 G1 Q1 Q2 Q29 V2 L3 Q9 Q3 Q35 Q37 V0 V1 W1 W3 O W2 Q4 E0 E1 Q5 L14. -/
import Derived.Test.YtoamidolomldnaaRows
import Derived.WalkKit
import Derived.ProofKit
import Derived.OpenShut
import Derived.Test.YtoamidolomldnaaM6
/- Derivatives along vectors, one after the other: the reference's recursion is the program's repeated derivative. -/
namespace Go.Proofs.Ytoamidolomldnaa
open Go.Abs
set_option linter.unusedVariables false
set_option linter.unusedSimpArgs false
set_option maxHeartbeats 1000000
def NN (k : Key) : Prop := 0 ≤ k.1 ∧ 0 ≤ k.2.1 ∧ 0 ≤ k.2.2
def Eqv (C D : Key → Int) : Prop := ∀ k, NN k → C k % 10007 = D k % 10007
theorem NN.box {k : Key} (h : k ∈ box) : NN k := by have := mem_box.1 h; exact ⟨by omega, by omega, by omega⟩
theorem NN.at3 {k : Key} (h : NN k) (i : Nat) : 0 ≤ at3 i k := by
  obtain ⟨a, b, c⟩ := h
  unfold Go.Proofs.Ytoamidolomldnaa.at3
  split
  · omega
  · split <;> omega
theorem NN.inc {k : Key} (h : NN k) (i : Nat) : NN (inc i k) := by
  obtain ⟨a, b, c⟩ := h
  unfold Go.Proofs.Ytoamidolomldnaa.inc NN
  split
  · exact ⟨by simp; omega, b, c⟩
  · split
    · exact ⟨a, by simp; omega, c⟩
    · exact ⟨a, b, by simp; omega⟩
theorem Eqv.refl (C : Key → Int) : Eqv C C := fun _ _ => rfl
theorem Eqv.symm {C D : Key → Int} (h : Eqv C D) : Eqv D C := fun k hk => (h k hk).symm
theorem Eqv.trans {C D E : Key → Int} (h : Eqv C D) (h2 : Eqv D E) : Eqv C E := fun k hk => (h k hk).trans (h2 k hk)
theorem mod_mul {a b : Int} (c : Int) (h : a % 10007 = b % 10007) : c * a % 10007 = c * b % 10007 := by rw [Int.mul_emod, h, ← Int.mul_emod]
theorem mod_add {a b c d : Int} (h : a % 10007 = b % 10007) (h2 : c % 10007 = d % 10007) : (a + c) % 10007 = (b + d) % 10007 := by omega
theorem der_eqv {C D : Key → Int} (h : Eqv C D) (i : Nat) : Eqv (der i C) (der i D) := fun k hk => mod_mul _ (h _ (hk.inc i))
theorem alo_eqv {C D : Key → Int} (h : Eqv C D) (v : Nat → Int) : ∀ n, Eqv (alo v C n) (alo v D n)
  | 0, k, hk => rfl
  | n + 1, k, hk => mod_add (alo_eqv h v n k hk) (mod_mul _ (der_eqv h n k hk))
theorem alo_add (v : Nat → Int) (C D : Key → Int) (k : Key) : ∀ n, alo v (fun k => C k + D k) n k = alo v C n k + alo v D n k
  | 0 => rfl
  | n + 1 => by simp only [alo, alo_add v C D k n, der_add, Int.mul_add]; omega
theorem alo_mul (v : Nat → Int) (c : Int) (C : Key → Int) (k : Key) : ∀ n, alo v (fun k => c * C k) n k = c * alo v C n k
  | 0 => by simp [alo]
  | n + 1 => by simp only [alo, alo_mul v c C k n, der_mul, Int.mul_add]; rw [Int.mul_left_comm]
/-- One vector after the other. -/
def Dv (n : Nat) : List (List Int) → (Key → Int) → Key → Int
  | [], C => C
  | v :: vs, C => Dv n vs (alo (yat v) C n)
theorem Dv_eqv (n : Nat) : ∀ (vs : List (List Int)) {C D : Key → Int}, Eqv C D → Eqv (Dv n vs C) (Dv n vs D)
  | [], _, _, h => h
  | v :: vs, _, _, h => Dv_eqv n vs (alo_eqv h (yat v) n)
theorem Dv_add (n : Nat) : ∀ (vs : List (List Int)) (C D : Key → Int), Dv n vs (fun k => C k + D k) = fun k => Dv n vs C k + Dv n vs D k
  | [], _, _ => rfl
  | v :: vs, C, D => by
    have : alo (yat v) (fun k => C k + D k) n = fun k => alo (yat v) C n k + alo (yat v) D n k := funext (fun k => alo_add (yat v) C D k n)
    rw [Dv, this, Dv_add n vs]; rfl
theorem Dv_mul (n : Nat) : ∀ (vs : List (List Int)) (c : Int) (C : Key → Int), Dv n vs (fun k => c * C k) = fun k => c * Dv n vs C k
  | [], _, _ => rfl
  | v :: vs, c, C => by
    have : alo (yat v) (fun k => c * C k) n = fun k => c * alo (yat v) C n k := funext (fun k => alo_mul (yat v) c C k n)
    rw [Dv, this, Dv_mul n vs]; rfl
theorem Dv_zero (n : Nat) : ∀ (vs : List (List Int)), Dv n vs (fun _ => 0) = fun _ => 0
  | [] => rfl
  | v :: vs => by
    have h0 : ∀ m (k : Key), alo (yat v) (fun _ => 0) m k = 0 := by
      intro m
      induction m with
      | zero => intro k; rfl
      | succ m ih => intro k; simp [alo, ih, der]
    have : alo (yat v) (fun _ => 0) n = fun _ => 0 := funext (h0 n)
    rw [Dv, this, Dv_zero n vs]
theorem Val_eqv (y : Nat → Int) {C D : Key → Int} (h : Eqv C D) : Val y C % 10007 = Val y D % 10007 := Val_mod y (fun k hk => h k (NN.box hk))
/-- The reference's recursion: the first m variables' part of the sum for the first vector. -/
def sumTo (f : Nat → Int) : Nat → Int
  | 0 => 0
  | m + 1 => sumTo f m + f m
def alongS (y : List Int) (n : Nat) : List (List Int) → List Mon → Int
  | [], p => vsum y p
  | v :: vs, p => sumTo (fun k => yat v k * alongS y n vs (derL k p)) n
theorem derL_eqv {n i : Nat} (hi : i < n) (hn : n ≤ 3) {p : List Mon} (hp : ∀ m ∈ p, VOk n m) : Eqv (cfL (derL i p)) (der i (cfL p)) := fun k hk => derL_cf hi hn (hk.at3 i) hp
theorem alongS_eq {y : List Int} {n : Nat} (hn : n ≤ 3) (hl : y.length = n) : ∀ (vs : List (List Int)) (p : List Mon), (∀ m ∈ p, VOk n m) → alongS y n vs p % 10007 = Val (yat y) (Dv n vs (cfL p)) % 10007
  | [], p, hp => vsum_Val (by omega) (by rw [hl]; exact hp)
  | v :: vs, p, hp => by
    have gen : ∀ m, m ≤ n → sumTo (fun k => yat v k * alongS y n vs (derL k p)) m % 10007 = Val (yat y) (Dv n vs (alo (yat v) (cfL p) m)) % 10007 := by
      intro m
      induction m with
      | zero =>
        intro _
        have : alo (yat v) (cfL p) 0 = fun _ => 0 := rfl
        rw [this, Dv_zero]
        have : Val (yat y) (fun _ => 0) = 0 := sumI_zero (fun _ _ => by simp)
        rw [this]; rfl
      | succ m ih =>
        intro hm
        have e : alo (yat v) (cfL p) (m + 1) = fun k => alo (yat v) (cfL p) m k + yat v m * der m (cfL p) k := rfl
        rw [e, Dv_add n vs (alo (yat v) (cfL p) m) (fun k => yat v m * der m (cfL p) k), Dv_mul n vs (yat v m) (der m (cfL p)), Val_add, Val_mul]
        refine mod_add (ih (by omega)) (mod_mul _ ?_)
        rw [alongS_eq hn hl vs (derL m p) (derL_ok (by omega) hp)]
        exact Val_eqv _ (Dv_eqv n vs (derL_eqv (by omega) hn hp))
    exact gen n (Nat.le_refl n)
/-- The program's derivative along a vector, on maps. -/
def aloM (v : List Int) (c : Key → Option Int) : Nat → Key → Option Int
  | 0 => mzero
  | n + 1 => addM (aloM v c n) (derM n c) (yat v n)
theorem aloM_gv (v : List Int) (c : Key → Option Int) : ∀ n, Eqv (gv (aloM v c n)) (alo (yat v) (gv c) n)
  | 0, k, hk => rfl
  | n + 1, k, hk => by
    rw [aloM, addM_gv]
    exact mod_add (aloM_gv v c n k hk) (mod_mul _ (derM_gv n c (hk.at3 n)))
def DvM (n : Nat) : List (List Int) → (Key → Option Int) → Key → Option Int
  | [], c => c
  | v :: vs, c => DvM n vs (aloM v c n)
theorem DvM_gv (n : Nat) : ∀ (vs : List (List Int)) (c : Key → Option Int), Eqv (gv (DvM n vs c)) (Dv n vs (gv c))
  | [], c => Eqv.refl _
  | v :: vs, c => (DvM_gv n vs (aloM v c n)).trans (Dv_eqv n vs (aloM_gv v c n))
/-- What derivatives along vectors are worth. -/
theorem along_eq {n : Nat} {p : List Mon} {y : List Int} (hn : n ≤ 3) (hl : y.length = n) (hp : partB (n : Int) p = true) (vs : List (List Int)) :
    alongS y n vs p % 10007 = Val (yat y) (gv (DvM n vs (polF p))) % 10007 := by
  have hv : ∀ m ∈ p, VOk n m := fun m hm => (partB_mem hp hm).vok
  have : gv (polF p) = cfL p := funext (polF_gv (keys_nd (by omega) hp))
  rw [alongS_eq hn hl vs p hv, Val_eqv _ (DvM_gv n vs (polF p)), this]
end Go.Proofs.Ytoamidolomldnaa

/- Fields: the program's values. -/
namespace Go.Proofs.Ytoamidolomldnaa
open Go.Abs
set_option linter.unusedVariables false
set_option linter.unusedSimpArgs false
set_option maxHeartbeats 1000000
theorem partValue_c {z : Int} {p : List Mon} {y : List Int} (hz : z ≤ 3) (hp : partB z p = true) (hpl : p.length ≤ 1048576) (hy : Ns y) (hl : (y.length : Int) = z) :
    Con Try.prog 137 [.fmp (polF p), .sl y.length (avs y)] (.int (vsum y p % 10007)) := by
  have hv := vsum_le y p (fun m hm => by have := partB_mem hp hm; have l1 := this.lo; have l2 := this.hi; exact ⟨by omega, by omega⟩)
  refine value_c (polF p) y (vsum y p) hy (by omega) (fun k x hk => part_entries hz hp hk) (by omega) (fun es he => ?_)
  rw [rest_perm y (enum_perm (keys_nd hz hp) he)]
  exact rest_map (by omega) p
theorem valuesAt_c (z : Int) (f : List (List Mon)) (y : List Int) (hf : FieldOk z f) (hs : Small f) (hy : Ns y) (hl : (y.length : Int) = z) :
    Con Try.prog 135 [.sl f.length (fpols f), .sl y.length (avs y)] (.own 2 f.length (avs (evL y f))) := by
  have fl := hs.1
  have z3 := hf.hi
  refine con_of_vc Try.mixed ⟨8, [], [], []⟩ Try.func135 (by decide) rfl (by simp) (by decide) (by simp [freshOK, freshL, go_sem]) ?_
  rw [Try.ntmps135]
  simp [go_sem]
  refine loop_inv (5 :: 7 :: List.range' 11 11) (fun i : Nat => [(5, .own 2 i (avs (evL y (f.take i)))), (11, .int i)]) (fun i => i ≤ f.length) (fun i => f.length - i) 0 (by simp) (by simp [go_sem, evL]) (by simp [go_sem]) ?_
  intro i hi
  simp [go_sem]
  refine ⟨fun h => ?_, fun h => ?_⟩ <;> simp at h
  · have hif := h
    have hx : f[i]?.getD [] ∈ f := by simp [h]
    have hv := evL_take (y := y) h
    simp [go_sem, fpols_drop hif]
    refine ⟨⟨hif, by rintro rfl; simp at hif⟩, ?_⟩
    refine CallVC.of (partValue_c z3 (hf.part _ hx) (hs.2 _ hx).1 hy hl) (by decide) ?_
    simp [go_sem]
    refine ⟨⟨by omega, by omega⟩, by omega, i + 1, by omega, by omega, Off_reset _ _ _ (by simp), ?_, by omega⟩
    rw [hv]; simp [avs_snoc, Nat.min_eq_left hi]
  · simp [go_sem]
    have e : i = f.length := by omega
    subst e; simp
theorem EvaluateField_c (z : Int) (f : List (List Mon)) (y : List Int) (hs : Small f) (hy : y.length ≤ 9223372036854775807) :
    Con Try.prog 45 [.agg [.int z, .sl f.length (prt f)], .sl y.length (avs y)] (evR z f y) := by
  have cK := checkVectors_c z f [y] hs (by simp) (by simpa using hy)
  have e1 : mat [y] = [.sl y.length (avs y)] := rfl
  have e2 : ([y] : List (List Int)).length = 1 := rfl
  rw [e1, e2] at cK
  unfold evR evX evE
  have hv : ([y] : List (List Int)).any (fun y => !vecB z y) = !vecB z y := by simp
  unfold chk at cK
  rw [hv] at cK
  have hvb : (decide ((y.length : Int) = z) && numsB y) = vecB z y := rfl
  rw [hvb]
  cases hT : fieldB z f with
  | false =>
    rw [hT] at cK
    refine Con.n1 _ ?_
    refine con_of_vc Try.mixed ⟨7, [], [], []⟩ Try.func45 (by decide) rfl (by simp) (by decide) (by simp [freshOK, freshL, go_sem]) ?_
    rw [Try.ntmps45]
    simp [go_sem]
    refine CallVC.of (cK) (by decide) ?_
    simp [go_sem]
  | true =>
    rw [hT] at cK
    cases hn : vecB z y with
    | true =>
      rw [hn] at cK
      simp at cK
      have hn2 : (y.length : Int) = z ∧ numsB y = true := by simpa [vecB] using hn
      have hF := fieldB_iff.1 hT
      simp only [and_self, if_true, evL_len]
      refine con_of_vc Try.mixed ⟨7, [], [], []⟩ Try.func45 (by decide) rfl (by simp) (by decide) (by simp [freshOK, freshL, go_sem]) ?_
      rw [Try.ntmps45]
      simp [go_sem]
      refine CallVC.of (cK) (by decide) ?_
      simp [go_sem]
      refine CallVC.of (polynomials_c z f hF hs) (by decide) ?_
      simp [go_sem]
      refine CallVC.of (valuesAt_c z f y hF hs (numsB_N.1 hn2.2) hn2.1) (by decide) ?_
      simp [go_sem]
    | false =>
      rw [hn] at cK
      simp at cK
      refine Con.n1 _ ?_
      refine con_of_vc Try.mixed ⟨7, [], [], []⟩ Try.func45 (by decide) rfl (by simp) (by decide) (by simp [freshOK, freshL, go_sem]) ?_
      rw [Try.ntmps45]
      simp [go_sem]
      refine CallVC.of (cK) (by decide) ?_
      simp [go_sem]
end Go.Proofs.Ytoamidolomldnaa

/- Contracts: copies and comparisons of rows, terms put into lists, the reference's derivatives. -/
namespace Go.Proofs.Ytoamidolomldnaa
open Go.Abs
set_option linter.unusedVariables false
set_option linter.unusedSimpArgs false
set_option maxHeartbeats 1000000
theorem l01Own_c (xs : List Int) (hl : xs.length ≤ 17592186044416) : Con Try.prog 168 [.sl xs.length (avs xs)] (.own 2 xs.length (avs xs)) := by
  refine con_of_vc Try.mixed ⟨3, [], [], []⟩ Try.func168 (by decide) rfl (by simp) (by decide) (by simp [freshOK, freshL, go_sem]) ?_
  rw [Try.ntmps168]
  simp [go_sem]
  try omega
theorem l01Same_c (a b : List Int) (ha : a.length ≤ 9223372036854775807) : Con Try.prog 186 [.sl a.length (avs a), .sl b.length (avs b)] (.bool (decide (a = b))) := by
  refine con_of_vc Try.mixed ⟨6, [], [], []⟩ Try.func186 (by decide) rfl (by simp) (by decide) (by simp [freshOK, freshL, go_sem]) ?_
  rw [Try.ntmps186]
  simp [go_sem]
  refine ⟨fun h => ?_, fun h => ?_⟩ <;> simp at h <;> simp [go_sem]
  · rintro rfl; omega
  have hl : a.length = b.length := by omega
  refine loop_inv (4 :: 5 :: List.range' 11 16) (fun i : Nat => [(5, .int i)]) (fun i => i ≤ a.length ∧ a.take i = b.take i) (fun i => a.length - i) 0 (by simp) (by simp [go_sem]) (by simp [go_sem]) ?_
  intro i hi
  simp [go_sem]
  refine ⟨fun h => ?_, fun h => ?_⟩ <;> simp at h
  · have h2 : i < b.length := by omega
    simp [go_sem, avs_drop h, avs_drop h2]
    refine ⟨by kernel_rfl, ⟨h, by rintro rfl; simp at h⟩, ⟨h2, by rintro rfl; simp at h2⟩, ?_⟩
    refine ⟨by kernel_rfl, ?_⟩
    simp [go_sem]
    refine ⟨fun h3 => ?_, fun h3 => ?_⟩ <;> simp at h3 <;> simp [go_sem]
    · rintro rfl; exact h3 rfl
    · refine ⟨by omega, i + 1, ⟨by omega, ?_⟩, by omega, Off_reset _ _ _ (by simp), by omega⟩
      rw [List.take_add_one, List.take_add_one, hi.2]
      rw [List.getElem?_eq_getElem h, List.getElem?_eq_getElem h2] at h3 ⊢
      simp only [Option.getD_some] at h3
      rw [h3]
  · simp [go_sem]
    have e : i = a.length := by omega
    subst e
    have := hi.2
    rw [List.take_length, hl, List.take_length] at this
    exact this
theorem omons_one (m : Mon) : omons [m] = [.int m.1, .own 2 m.2.length (avs m.2)] := rfl
theorem putGo_t (c : Int) (e : List Int) (m : Mon) (l : List Mon) : putGo c e (m :: l) true = (if m.1 = 0 then [] else [m]) ++ putGo c e l true := by
  rw [putGo, if_neg (by simp), if_neg (by simp)]
theorem putGo_e (c : Int) (m : Mon) (l : List Mon) : putGo c m.2 (m :: l) false = (if (m.1 + c) % 10007 = 0 then [] else [((m.1 + c) % 10007, m.2)]) ++ putGo c m.2 l true := by
  rw [putGo, if_pos (by simp)]
theorem putGo_l {c : Int} {e : List Int} {m : Mon} (l : List Mon) (h : ¬ m.2 = e) (h2 : ltL e m.2 = true) : putGo c e (m :: l) false = (c, e) :: ((if m.1 = 0 then [] else [m]) ++ putGo c e l true) := by
  rw [putGo, if_neg (by simp [h]), if_pos (by simp [h2])]
theorem putGo_g {c : Int} {e : List Int} {m : Mon} (l : List Mon) (h : ¬ m.2 = e) (h2 : ltL e m.2 = false) : putGo c e (m :: l) false = (if m.1 = 0 then [] else [m]) ++ putGo c e l false := by
  rw [putGo, if_neg (by simp [h]), if_neg (by simp [h2])]
set_option maxRecDepth 100000 in
theorem l13Put_c (L : List Mon) (c : Int) (e : List Int) (hc : isN c) (hL : ∀ m ∈ L, isN m.1 ∧ m.2.length ≤ 1048576) (hl : L.length ≤ 1000000000000) (he : e.length ≤ 1048576) :
    Con Try.prog 247 [.sl L.length (mons L), .int c, .sl e.length (avs e)] (.own 179 (putL L c e).length (omons (putL L c e))) := by
  refine con_of_vc Try.mixed ⟨11, [], [], []⟩ Try.func247 (by decide) rfl (by simp) (by decide) (by simp [freshOK, freshL, go_sem]) ?_
  rw [Try.ntmps247]
  simp [go_sem]
  refine loop_inv (List.range' 7 61) (fun x : Nat × Bool × List Mon => [(7, .own 179 x.2.2.length (omons x.2.2)), (8, .bool x.2.1), (9, .int x.1)]) (fun x => x.1 ≤ L.length ∧ x.2.2.length ≤ x.1 + (if x.2.1 = true then 1 else 0) ∧ x.2.2 ++ putGo c e (L.drop x.1) x.2.1 = putL L c e) (fun x => L.length - x.1) (0, decide (c = 0), []) ⟨by simp, by simp, by simp [putL]⟩ (by simp [go_sem]) (by simp [go_sem]) ?_
  rintro ⟨i, done, O⟩ ⟨hi, hO, he2⟩
  simp only at hi hO he2
  simp [go_sem]
  refine ⟨fun h => ?_, fun h => ?_⟩ <;> simp at h
  · have hif := h
    have hx : L[i]?.getD (0, []) ∈ L := by simp [h]
    have hd : L.drop i = L[i]?.getD (0, []) :: L.drop (i + 1) := by rw [List.drop_eq_getElem_cons h]; simp [h]
    obtain ⟨hm1, hm2⟩ := hL _ hx
    simp [go_sem, mons_drop hif]
    generalize hM : L[i]?.getD (0, []) = m at *
    refine ⟨by kernel_rfl, ⟨hif, by rintro rfl; simp at hif⟩, ?_⟩
    refine CallD.of (l01Own_c m.2 (by omega)) (by simp [roots, rootsL]) (by decide) ?_
    simp [go_sem]
    refine ⟨by kernel_rfl, ?_⟩
    simp [go_sem]
    rw [hd] at he2
    cases done with
    | true =>
      rw [putGo_t] at he2
      simp only [if_true] at hO
      simp [go_sem]
      by_cases h0 : m.1 = 0
      · simp [go_sem, h0]
        rw [if_pos h0] at he2
        exact ⟨by omega, i + 1, O, ⟨by omega, by omega, he2⟩, by omega, Off_reset _ _ _ (by simp), ⟨rfl, rfl⟩, by omega⟩
      · simp [go_sem, h0]
        rw [if_neg h0] at he2
        exact ⟨⟨by omega, by omega⟩, by omega, i + 1, O ++ [m], ⟨by omega, by simp; omega, by simpa using he2⟩, by omega, Off_reset _ _ _ (by simp), ⟨by simp, by simp [omons_app, omons_one]⟩, by omega⟩
    | false =>
      simp only [Bool.false_eq_true, if_false] at hO
      by_cases hme : m.2 = e
      · subst hme
        rw [putGo_e] at he2
        simp [go_sem]
        refine CallVC.of (l01Same_c m.2 m.2 (by omega)) (by decide) ?_
        simp [go_sem]
        refine CallVC.of (l01Add_c _ _ (add_fits hm1 hc)) (by decide) ?_
        simp [go_sem]
        by_cases h0 : (m.1 + c) % 10007 = 0
        · simp [go_sem, h0]
          rw [if_pos h0] at he2
          exact ⟨by omega, i + 1, O, ⟨by omega, by omega, he2⟩, by omega, Off_reset _ _ _ (by simp), ⟨rfl, rfl⟩, by omega⟩
        · simp [go_sem, h0]
          rw [if_neg h0] at he2
          exact ⟨⟨by omega, by omega⟩, by omega, i + 1, O ++ [((m.1 + c) % 10007, m.2)], ⟨by omega, by simp; omega, by simpa using he2⟩, by omega, Off_reset _ _ _ (by simp), ⟨by simp, by simp [omons_app, omons_one]⟩, by omega⟩
      · simp [go_sem]
        refine CallVC.of (l01Same_c m.2 e (by omega)) (by decide) ?_
        simp [go_sem]
        simp [go_sem, hme]
        refine CallVC.of (l01Less_c e m.2 (by omega) (by omega)) (by decide) ?_
        simp [go_sem]
        cases hlt : ltL e m.2 with
        | true =>
          rw [putGo_l _ hme hlt] at he2
          simp [go_sem]
          refine CallVC.of (l01Own_c e (by omega)) (by decide) ?_
          simp [go_sem]
          by_cases h0 : m.1 = 0
          · simp [go_sem, h0]
            rw [if_pos h0] at he2
            exact ⟨⟨by omega, by omega⟩, by omega, i + 1, O ++ [(c, e)], ⟨by omega, by simp; omega, by simpa using he2⟩, by omega, Off_reset _ _ _ (by simp), ⟨by simp, by simp [omons_app, omons_one]⟩, by omega⟩
          · simp [go_sem, h0]
            rw [if_neg h0] at he2
            exact ⟨⟨by omega, by omega⟩, ⟨by omega, by omega, by omega⟩, by omega, i + 1, O ++ [(c, e), m], ⟨by omega, by simp; omega, by simpa using he2⟩, by omega, Off_reset _ _ _ (by simp), ⟨by simp, by simp [omons]⟩, by omega⟩
        | false =>
          rw [putGo_g _ hme hlt] at he2
          simp [go_sem]
          by_cases h0 : m.1 = 0
          · simp [go_sem, h0]
            rw [if_pos h0] at he2
            exact ⟨by omega, i + 1, O, ⟨by omega, by omega, he2⟩, by omega, Off_reset _ _ _ (by simp), ⟨rfl, rfl⟩, by omega⟩
          · simp [go_sem, h0]
            rw [if_neg h0] at he2
            exact ⟨⟨by omega, by omega⟩, by omega, i + 1, O ++ [m], ⟨by omega, by simp; omega, by simpa using he2⟩, by omega, Off_reset _ _ _ (by simp), ⟨by simp, by simp [omons_app, omons_one]⟩, by omega⟩
  · simp [go_sem]
    rw [List.drop_eq_nil_of_le h] at he2
    cases done with
    | true =>
      simp [go_sem]
      rw [← he2]; simp [putGo]
    | false =>
      simp only [Bool.false_eq_true, if_false] at hO
      simp [go_sem]
      refine CallVC.of (l01Own_c e (by omega)) (by decide) ?_
      simp [go_sem]
      rw [← he2]
      exact ⟨⟨by omega, by omega⟩, by simp [putGo], by simp [putGo, omons_app, omons_one]⟩
end Go.Proofs.Ytoamidolomldnaa

/- Commutative rings with whole numbers in them, power series over them, polynomials and the chain rule: plain laws. -/
namespace Go.Proofs.Ytoamidolomldnaa
set_option linter.unusedVariables false
set_option linter.unusedSimpArgs false
class CR (α : Type) extends Add α, Mul α where
  ofI : Int → α
  addC : ∀ a b : α, a + b = b + a
  addA : ∀ a b c : α, a + b + c = a + (b + c)
  add0 : ∀ a : α, a + ofI 0 = a
  mulC : ∀ a b : α, a * b = b * a
  mulA : ∀ a b c : α, a * b * c = a * (b * c)
  mul1 : ∀ a : α, a * ofI 1 = a
  mulD : ∀ a b c : α, a * (b + c) = a * b + a * c
  mul0 : ∀ a : α, a * ofI 0 = ofI 0
  ofAdd : ∀ a b : Int, ofI (a + b) = ofI a + ofI b
  ofMul : ∀ a b : Int, ofI (a * b) = ofI a * ofI b
namespace CR
section
variable {α : Type} [CR α]
instance : Std.Associative (α := α) (· + ·) := ⟨addA⟩
instance : Std.Commutative (α := α) (· + ·) := ⟨addC⟩
instance : Std.Associative (α := α) (· * ·) := ⟨mulA⟩
instance : Std.Commutative (α := α) (· * ·) := ⟨mulC⟩
theorem zadd (a : α) : ofI 0 + a = a := by rw [addC, add0]
theorem omul (a : α) : ofI 1 * a = a := by rw [mulC, mul1]
theorem zmul (a : α) : ofI 0 * a = ofI 0 := by rw [mulC, mul0]
theorem Dmul (a b c : α) : (a + b) * c = a * c + b * c := by rw [mulC, mulD, mulC c, mulC c]
end
end CR
open CR
instance : CR Int where
  ofI := id
  addC := Int.add_comm
  addA := Int.add_assoc
  add0 := Int.add_zero
  mulC := Int.mul_comm
  mulA := Int.mul_assoc
  mul1 := Int.mul_one
  mulD := Int.mul_add
  mul0 := Int.mul_zero
  ofAdd := fun _ _ => rfl
  ofMul := fun _ _ => rfl
/-- Power series. -/
abbrev Ser (α : Type) := Nat → α
def sh {α : Type} (a : Ser α) : Ser α := fun n => a (n + 1)
def cmul {α : Type} [CR α] : Nat → Ser α → Ser α → α
  | 0, a, b => a 0 * b 0
  | n + 1, a, b => a 0 * b (n + 1) + cmul n (sh a) b
section
variable {α : Type} [CR α]
theorem cmul_add (n : Nat) : ∀ (a b c : Ser α), cmul n a (fun i => b i + c i) = cmul n a b + cmul n a c := by
  induction n with
  | zero => intro a b c; exact mulD _ _ _
  | succ n ih => intro a b c; simp only [cmul, ih, mulD]; ac_rfl
theorem cmul_last (n : Nat) : ∀ (a b : Ser α), cmul (n + 1) a b = cmul n a (sh b) + a (n + 1) * b 0 := by
  induction n with
  | zero => intro a b; rfl
  | succ n ih =>
    intro a b
    rw [cmul, ih, cmul]
    show a 0 * b (n + 1 + 1) + (cmul n (sh a) (sh b) + a (n + 1 + 1) * b 0) = a 0 * b (n + 1 + 1) + cmul n (sh a) (sh b) + a (n + 1 + 1) * b 0
    ac_rfl
theorem cmul_comm (n : Nat) : ∀ (a b : Ser α), cmul n a b = cmul n b a := by
  induction n with
  | zero => intro a b; exact mulC _ _
  | succ n ih => intro a b; rw [cmul, cmul_last, ih, mulC, addC]
theorem cmul_smul (c : α) (n : Nat) : ∀ (a b : Ser α), cmul n (fun i => c * a i) b = c * cmul n a b := by
  induction n with
  | zero => intro a b; exact mulA _ _ _
  | succ n ih =>
    intro a b
    have := ih (sh a) b
    simp only [cmul, mulD]
    rw [← this, mulA]; rfl
theorem cmul_addl (n : Nat) (a b c : Ser α) : cmul n (fun i => a i + b i) c = cmul n a c + cmul n b c := by
  rw [cmul_comm n (fun i => a i + b i) c, cmul_add, cmul_comm n c a, cmul_comm n c b]
theorem cmul_assoc (n : Nat) : ∀ (a b c : Ser α), cmul n (fun i => cmul i a b) c = cmul n a (fun i => cmul i b c) := by
  induction n with
  | zero => intro a b c; exact mulA _ _ _
  | succ n ih =>
    intro a b c
    have e : sh (fun i => cmul i a b) = fun i => a 0 * sh b i + cmul i (sh a) b := rfl
    simp only [cmul]
    rw [e, cmul_addl, cmul_smul, ih, mulD]
    show a 0 * b 0 * c (n + 1) + _ = _
    rw [mulA]; ac_rfl
def sOf (k : Int) : Ser α := fun n => if n = 0 then ofI k else ofI 0
theorem cmul_of (k : Int) : ∀ (n : Nat) (a : Ser α), cmul n a (sOf k) = a n * ofI k := by
  intro n
  induction n with
  | zero => intro a; rfl
  | succ n ih =>
    intro a
    rw [cmul, ih]
    show a 0 * ofI 0 + a (n + 1) * ofI k = _
    rw [mul0, zadd]
instance : CR (Ser α) where
  add := fun a b n => a n + b n
  mul := fun a b n => cmul n a b
  ofI := sOf
  addC := fun a b => funext fun n => addC _ _
  addA := fun a b c => funext fun n => addA _ _ _
  add0 := fun a => funext fun n => by show a n + (if n = 0 then ofI 0 else ofI 0) = a n; rw [ite_self, add0]
  mulC := fun a b => funext fun n => cmul_comm n a b
  mulA := fun a b c => funext fun n => cmul_assoc n a b c
  mul1 := fun a => funext fun n => by show cmul n a (sOf 1) = a n; rw [cmul_of, mul1]
  mulD := fun a b c => funext fun n => cmul_add n a b c
  mul0 := fun a => funext fun n => by show cmul n a (sOf 0) = if n = 0 then ofI 0 else ofI 0; rw [cmul_of, mul0, ite_self]
  ofAdd := fun a b => funext fun n => by
    show (if n = 0 then (ofI (a + b) : α) else ofI 0) = (if n = 0 then ofI a else ofI 0) + (if n = 0 then ofI b else ofI 0)
    split
    · exact ofAdd _ _
    · rw [add0]
  ofMul := fun a b => funext fun n => by
    show (if n = 0 then (ofI (a * b) : α) else ofI 0) = cmul n (sOf a) (sOf b)
    rw [cmul_of]
    show (if n = 0 then (ofI (a * b) : α) else ofI 0) = (if n = 0 then ofI a else ofI 0) * ofI b
    split
    · exact ofMul _ _
    · rw [zmul]
theorem ser_add (a b : Ser α) (n : Nat) : (a + b) n = a n + b n := rfl
theorem ser_mul (a b : Ser α) (n : Nat) : (a * b) n = cmul n a b := rfl
theorem ser_of0 (k : Int) : (ofI k : Ser α) 0 = ofI k := rfl
theorem ser_ofS (k : Int) (n : Nat) : (ofI k : Ser α) (n + 1) = ofI 0 := rfl
theorem mul_at0 (a b : Ser α) : (a * b : Ser α) 0 = a 0 * b 0 := rfl
/-- Multiplication of each coefficient by its index. -/
def th (a : Ser α) : Ser α := fun n => ofI (n : Int) * a n
theorem th_mul (a b : Ser α) : th (a * b) = th a * b + a * th b := by
  have gen : ∀ (n : Nat) (a b : Ser α), ofI (n : Int) * cmul n a b = cmul n (th a) b + cmul n a (th b) := by
    intro n
    induction n with
    | zero => intro a b; simp [cmul, th, zmul, mul0, add0]
    | succ n ih =>
      intro a b
      have e1 : sh (th a) = fun i => th (sh a) i + sh a i := funext fun i => by
        show ofI ((i + 1 : Nat) : Int) * a (i + 1) = ofI (i : Int) * a (i + 1) + a (i + 1)
        rw [show ((i + 1 : Nat) : Int) = (i : Int) + 1 by omega, ofAdd, Dmul, omul]
      have e2 : th a 0 = ofI 0 := by show ofI ((0 : Nat) : Int) * a 0 = _; exact zmul _
      have e3 : th b (n + 1) = ofI ((n + 1 : Nat) : Int) * b (n + 1) := rfl
      simp only [cmul]
      rw [e1, e2, e3, zmul, zadd, cmul_addl, mulD, show ((n + 1 : Nat) : Int) = (n : Int) + 1 by omega, ofAdd, Dmul (ofI (n : Int)) (ofI 1) (cmul n (sh a) b), ih, omul]
      have : (ofI (n : Int) + ofI 1) * (a 0 * b (n + 1)) = a 0 * ((ofI (n : Int) + ofI 1) * b (n + 1)) := by ac_rfl
      rw [this]; ac_rfl
  exact funext fun n => gen n a b
theorem th_add (a b : Ser α) : th (a + b) = th a + th b := funext fun n => mulD _ _ _
theorem th_of (k : Int) : th (ofI k : Ser α) = ofI 0 := funext fun n => by
  cases n with
  | zero => exact zmul _
  | succ n => show ofI _ * ofI 0 = ofI 0; exact mul0 _
def pwr (a : α) : Nat → α
  | 0 => ofI 1
  | n + 1 => pwr a n * a
theorem th_pwr (a : Ser α) : ∀ n : Nat, th (pwr a n) = ofI (n : Int) * (pwr a (n - 1) * th a)
  | 0 => by rw [pwr, th_of]; exact (zmul _).symm
  | n + 1 => by
    rw [pwr, th_mul, th_pwr a n, show ((n + 1 : Nat) : Int) = (n : Int) + 1 by omega, ofAdd, Dmul, omul, Nat.add_sub_cancel]
    cases n with
    | zero =>
      have z : (ofI ((0 : Nat) : Int) : Ser α) = ofI 0 := rfl
      rw [z, zmul, zmul, zadd]
    | succ n =>
      rw [Nat.add_sub_cancel, pwr]; ac_rfl
/-- Sums of lists, of the first numbers. -/
def sL {β : Type} (f : β → α) : List β → α
  | [] => ofI 0
  | b :: l => f b + sL f l
def sT (f : Nat → α) : Nat → α
  | 0 => ofI 0
  | n + 1 => sT f n + f n
/-- A monomial's exponents, one less at k. -/
def dx (k : Nat) (e : Nat → Nat) : Nat → Nat := fun j => if j = k then e j - 1 else e j
def mon (U : Nat → α) (e : Nat → Nat) : Nat → α
  | 0 => ofI 1
  | d + 1 => mon U e d * pwr (U d) (e d)
theorem mon_congr (U : Nat → α) {e e' : Nat → Nat} : ∀ {d : Nat}, (∀ j, j < d → e j = e' j) → mon U e d = mon U e' d
  | 0, _ => rfl
  | d + 1, h => by rw [mon, mon, mon_congr U (fun j hj => h j (by omega)), h d (by omega)]
theorem sT_congr {f g : Nat → α} : ∀ {n : Nat}, (∀ j, j < n → f j = g j) → sT f n = sT g n
  | 0, _ => rfl
  | n + 1, h => by rw [sT, sT, sT_congr (fun j hj => h j (by omega)), h n (by omega)]
theorem sT_mul (c : α) (f : Nat → α) : ∀ n, sT (fun k => c * f k) n = c * sT f n
  | 0 => (mul0 _).symm
  | n + 1 => by rw [sT, sT, sT_mul c f n, mulD]
theorem sT_add (f g : Nat → α) : ∀ n, sT (fun k => f k + g k) n = sT f n + sT g n
  | 0 => (add0 _).symm
  | n + 1 => by simp only [sT, sT_add f g n]; ac_rfl
theorem sT_zero : ∀ n, sT (fun _ => (ofI 0 : α)) n = ofI 0
  | 0 => rfl
  | n + 1 => by rw [sT, sT_zero n, add0]
theorem sL_app {β : Type} (f : β → α) (l r : List β) : sL f (l ++ r) = sL f l + sL f r := by
  induction l with
  | nil => exact (zadd _).symm
  | cons a l ih => simp only [List.cons_append, sL, ih]; ac_rfl
theorem sL_add {β : Type} (f g : β → α) : ∀ l : List β, sL (fun b => f b + g b) l = sL f l + sL g l
  | [] => (add0 _).symm
  | b :: l => by simp only [sL, sL_add f g l]; ac_rfl
theorem sL_mul {β : Type} (c : α) (f : β → α) : ∀ l : List β, sL (fun b => c * f b) l = c * sL f l
  | [] => (mul0 _).symm
  | b :: l => by rw [sL, sL, sL_mul c f l, mulD]
theorem sL_congr {β : Type} {f g : β → α} : ∀ {l : List β}, (∀ b ∈ l, f b = g b) → sL f l = sL g l
  | [], _ => rfl
  | b :: l, h => by rw [sL, sL, h b (by simp), sL_congr (fun c hc => h c (by simp [hc]))]
theorem sL_zero {β : Type} {f : β → α} : ∀ {l : List β}, (∀ b ∈ l, f b = ofI 0) → sL f l = ofI 0
  | [], _ => rfl
  | b :: l, h => by rw [sL, h b (by simp), zadd, sL_zero (fun c hc => h c (by simp [hc]))]
theorem sL_sT {β : Type} (f : β → Nat → α) (n : Nat) : ∀ l : List β, sL (fun b => sT (f b) n) l = sT (fun k => sL (fun b => f b k) l) n
  | [] => (sT_zero n).symm
  | b :: l => by
    simp only [sL]
    rw [sL_sT f n l, ← sT_add]
theorem th_mon (U : Nat → Ser α) (e : Nat → Nat) : ∀ d, th (mon U e d) = sT (fun k => ofI (e k : Int) * (mon U (dx k e) d * th (U k))) d
  | 0 => th_of 1
  | d + 1 => by
    rw [mon, th_mul, th_mon U e d, th_pwr, sT]
    have e1 : sT (fun k => ofI (e k : Int) * (mon U (dx k e) (d + 1) * th (U k))) d = sT (fun k => pwr (U d) (e d) * (ofI (e k : Int) * (mon U (dx k e) d * th (U k)))) d := by
      refine sT_congr (fun k hk => ?_)
      rw [mon]
      have : dx k e d = e d := by unfold dx; rw [if_neg (by omega)]
      rw [this]; ac_rfl
    have e2 : mon U (dx d e) (d + 1) = mon U e d * pwr (U d) (e d - 1) := by
      rw [mon, mon_congr U (e := dx d e) (e' := e) (fun j hj => by unfold dx; rw [if_neg (by omega)])]
      have : dx d e d = e d - 1 := by unfold dx; rw [if_pos rfl]
      rw [this]
    rw [e1, e2, sT_mul]
    ac_rfl
/-- A polynomial: a list of terms; its value; that of its derivative by a variable. -/
abbrev Trm := Int × (Nat → Nat)
def ev (d : Nat) (U : Nat → α) (L : List Trm) : α := sL (fun m => ofI m.1 * mon U m.2 d) L
def ev1 (d k : Nat) (U : Nat → α) (L : List Trm) : α := sL (fun m => ofI (m.1 * (m.2 k : Int)) * mon U (dx k m.2) d) L
/-- The chain rule. -/
theorem th_ev (d : Nat) (U : Nat → Ser α) : ∀ L : List Trm, th (ev d U L) = sT (fun k => ev1 d k U L * th (U k)) d := by
  intro L
  have h1 : ∀ L : List Trm, th (ev d U L) = sL (fun m => sT (fun k => ofI (m.1 * (m.2 k : Int)) * mon U (dx k m.2) d * th (U k)) d) L := by
    intro L
    induction L with
    | nil => exact th_of 0
    | cons m L ih =>
      have : ev d U (m :: L) = ofI m.1 * mon U m.2 d + ev d U L := rfl
      rw [this, th_add, ih, sL, th_mul, th_of, zmul, zadd, th_mon, ← sT_mul]
      congr 1
      refine sT_congr (fun k hk => ?_)
      rw [ofMul]; ac_rfl
  rw [h1, sL_sT]
  refine sT_congr (fun k hk => ?_)
  unfold ev1
  rw [mulC, ← sL_mul]
  exact sL_congr (fun m hm => mulC _ _)
/-- The coefficient of index 0. -/
theorem pwr_at0 (a : Ser α) : ∀ n, (pwr a n) 0 = pwr (a 0) n
  | 0 => rfl
  | n + 1 => by rw [pwr, mul_at0, pwr_at0 a n]; rfl
theorem mon_at0 (U : Nat → Ser α) (e : Nat → Nat) : ∀ d, (mon U e d) 0 = mon (fun k => U k 0) e d
  | 0 => rfl
  | d + 1 => by rw [mon, mul_at0, mon_at0 U e d, pwr_at0]; rfl
theorem ev_at0 (d : Nat) (U : Nat → Ser α) : ∀ L : List Trm, (ev d U L) 0 = ev d (fun k => U k 0) L
  | [] => rfl
  | m :: L => by
    have : ev d U (m :: L) = ofI m.1 * mon U m.2 d + ev d U L := rfl
    rw [this, ser_add, mul_at0, ser_of0, mon_at0, ev_at0 d U L]; rfl
theorem sh_mul (a b : Ser α) (h : b 0 = ofI 0) : sh (a * b) = a * sh b := funext fun n => by
  show cmul (n + 1) a b = cmul n a (sh b)
  rw [cmul_last, h, mul0, add0]
theorem sh_add (a b : Ser α) : sh (a + b) = sh a + sh b := rfl
theorem th_0 (a : Ser α) : th a 0 = ofI 0 := zmul _
theorem sh_sT (f : Nat → Ser α) : ∀ n, sh (sT f n) = sT (fun k => sh (f k)) n
  | 0 => funext fun n => by cases n <;> rfl
  | n + 1 => by rw [sT, sh_add, sh_sT f n, sT]
theorem sh_th_ev (d : Nat) (U : Nat → Ser α) (L : List Trm) : sh (th (ev d U L)) = sT (fun k => ev1 d k U L * sh (th (U k))) d := by
  rw [th_ev, sh_sT]
  exact sT_congr (fun k _ => sh_mul _ _ (th_0 _))
end
/-- Congruences. -/
structure Cg (α : Type) [CR α] where
  r : α → α → Prop
  refl : ∀ a, r a a
  symm : ∀ {a b}, r a b → r b a
  trans : ∀ {a b c}, r a b → r b c → r a c
  add : ∀ {a b c d}, r a b → r c d → r (a + c) (b + d)
  mul : ∀ {a b c d}, r a b → r c d → r (a * c) (b * d)
  of : ∀ {a b : Int}, a % 10007 = b % 10007 → r (ofI a) (ofI b)
def cgI : Cg Int where
  r := fun a b => a % 10007 = b % 10007
  refl := fun _ => rfl
  symm := fun h => h.symm
  trans := fun h k => h.trans k
  add := fun h k => by omega
  mul := fun {a b c d} h k => by rw [Int.mul_emod, h, k, ← Int.mul_emod]
  of := fun h => h
section
variable {α : Type} [CR α]
theorem cmul_cg (c : Cg α) {N : Nat} : ∀ {n : Nat} {a b a' b' : Ser α}, n < N → (∀ i, i < N → c.r (a i) (a' i)) → (∀ i, i < N → c.r (b i) (b' i)) → c.r (cmul n a b) (cmul n a' b')
  | n, a, b, a', b', hn, ha, hb => by
    have gen : ∀ (n : Nat) (a b a' b' : Ser α), (∀ i, i ≤ n → c.r (a i) (a' i)) → (∀ i, i ≤ n → c.r (b i) (b' i)) → c.r (cmul n a b) (cmul n a' b') := by
      intro n
      induction n with
      | zero => intro a b a' b' ha hb; exact c.mul (ha 0 (by omega)) (hb 0 (by omega))
      | succ n ih =>
        intro a b a' b' ha hb
        exact c.add (c.mul (ha 0 (by omega)) (hb (n + 1) (by omega))) (ih _ _ _ _ (fun i hi => ha (i + 1) (by omega)) (fun i hi => hb i (by omega)))
    exact gen n a b a' b' (fun i hi => ha i (by omega)) (fun i hi => hb i (by omega))
def cgS (c : Cg α) (N : Nat) : Cg (Ser α) where
  r := fun a b => ∀ n, n < N → c.r (a n) (b n)
  refl := fun a n _ => c.refl _
  symm := fun h n hn => c.symm (h n hn)
  trans := fun h k n hn => c.trans (h n hn) (k n hn)
  add := fun h k n hn => c.add (h n hn) (k n hn)
  mul := fun h k n hn => cmul_cg c hn h k
  of := fun {a b} h n hn => by
    show c.r (if n = 0 then ofI a else ofI 0) (if n = 0 then ofI b else ofI 0)
    split
    · exact c.of h
    · exact c.refl _
theorem Cg.sT (c : Cg α) {f g : Nat → α} : ∀ {n : Nat}, (∀ k, k < n → c.r (f k) (g k)) → c.r (sT f n) (sT g n)
  | 0, _ => c.refl _
  | n + 1, h => c.add (Cg.sT c (fun k hk => h k (by omega))) (h n (by omega))
theorem Cg.sL (c : Cg α) {β : Type} {f g : β → α} : ∀ {l : List β}, (∀ b ∈ l, c.r (f b) (g b)) → c.r (sL f l) (sL g l)
  | [], _ => c.refl _
  | b :: l, h => c.add (h b (by simp)) (Cg.sL c (fun x hx => h x (by simp [hx])))
theorem Cg.pwr (c : Cg α) {a b : α} (h : c.r a b) : ∀ n, c.r (pwr a n) (pwr b n)
  | 0 => c.refl _
  | n + 1 => c.mul (Cg.pwr c h n) h
theorem Cg.mon (c : Cg α) {U V : Nat → α} (e : Nat → Nat) : ∀ {d : Nat}, (∀ k, k < d → c.r (U k) (V k)) → c.r (mon U e d) (mon V e d)
  | 0, _ => c.refl _
  | d + 1, h => c.mul (Cg.mon c e (fun k hk => h k (by omega))) (Cg.pwr c (h d (by omega)) _)
theorem Cg.ev (c : Cg α) {d : Nat} {U V : Nat → α} (h : ∀ k, k < d → c.r (U k) (V k)) (L : List Trm) : c.r (ev d U L) (ev d V L) :=
  c.sL (fun m _ => c.mul (c.refl _) (c.mon m.2 h))
def fct : Nat → Int
  | 0 => 1
  | n + 1 => fct n * ((n : Int) + 1)
/-- What a series that the polynomials F drive is: A is any map of polynomials whose value is the derivative along F. -/
theorem flow_at (c : Cg α) {π : Type} (T : π → List Trm) {d N : Nat} {U : Nat → Ser α} {F : Nat → π} {A : π → π} {Ok : π → Prop}
    (hA : ∀ L, Ok L → Ok (A L) ∧ (cgS c N).r (ev d U (T (A L))) (sT (fun k => ev1 d k U (T L) * ev d U (T (F k))) d))
    (hU : ∀ k, k < d → ∀ n, n < N → c.r (ofI ((n + 1 : Nat) : Int) * U k (n + 1)) (ev d U (T (F k)) n)) :
    ∀ (n : Nat) (L : π), n ≤ N → Ok L → c.r (ofI (fct n) * ev d U (T L) n) (ev d (fun k => U k 0) (T (Nat.repeat A n L))) := by
  have step : ∀ L, Ok L → ∀ n, n < N → c.r (ofI ((n + 1 : Nat) : Int) * ev d U (T L) (n + 1)) (ev d U (T (A L)) n) := by
    intro L hL n hn
    refine c.trans ?_ (c.symm ((hA L hL).2 n hn))
    have : ofI ((n + 1 : Nat) : Int) * ev d U (T L) (n + 1) = sh (th (ev d U (T L))) n := rfl
    rw [this, sh_th_ev]
    exact (cgS c N).sT (fun k hk => (cgS c N).mul ((cgS c N).refl _) (fun n hn => hU k hk n hn)) n hn
  have rep : ∀ (n : Nat) (L : π), Nat.repeat A (n + 1) L = Nat.repeat A n (A L) := by
    intro n
    induction n with
    | zero => intro L; rfl
    | succ n ih => intro L; rw [Nat.repeat, ih]; rfl
  intro n
  induction n with
  | zero =>
    intro L _ _
    show c.r (ofI 1 * ev d U (T L) 0) (ev d (fun k => U k 0) (T L))
    rw [omul, ev_at0]; exact c.refl _
  | succ n ih =>
    intro L hn hL
    have h1 := ih (A L) (by omega) (hA L hL).1
    rw [rep]
    refine c.trans ?_ h1
    have : ofI (fct (n + 1)) * ev d U (T L) (n + 1) = ofI (fct n) * (ofI ((n + 1 : Nat) : Int) * ev d U (T L) (n + 1)) := by
      rw [fct, ofMul, mulA]; rfl
    rw [this]
    exact c.mul (c.refl _) (step L hL n (by omega))
end
end Go.Proofs.Ytoamidolomldnaa

/- Lists of monomials as polynomials over any ring: values of sums, products and derivatives along fields. -/
namespace Go.Proofs.Ytoamidolomldnaa
open CR
set_option linter.unusedVariables false
set_option linter.unusedSimpArgs false
set_option maxHeartbeats 1000000
def ex (e : List Int) : Nat → Nat := fun k => (e[k]?.getD 0).toNat
def tr (m : Mon) : Trm := (m.1, ex m.2)
/-- Monomials of n variables with exponents up to B. -/
structure WOk (n : Nat) (B : Int) (m : Mon) : Prop where
  num : isN m.1
  len : m.2.length = n
  pw : ∀ x ∈ m.2, 0 ≤ x ∧ x ≤ B
theorem VOk.wok {n : Nat} {m : Mon} (h : VOk n m) : WOk n 3 m := ⟨h.num, h.len, h.pw⟩
theorem WOk.le {n : Nat} {B C : Int} {m : Mon} (h : WOk n B m) (hBC : B ≤ C) : WOk n C m := ⟨h.num, h.len, fun x hx => ⟨(h.pw x hx).1, Int.le_trans (h.pw x hx).2 hBC⟩⟩
theorem WOk.get {n : Nat} {B : Int} {m : Mon} (h : WOk n B m) (hB : 0 ≤ B) (k : Nat) : 0 ≤ m.2[k]?.getD 0 ∧ m.2[k]?.getD 0 ≤ B := by
  rcases Nat.lt_or_ge k m.2.length with hk | hk
  · simp [hk]; exact h.pw _ (List.getElem_mem hk)
  · simp [hk]; exact hB
section
variable {α : Type} [CR α]
def evM (d : Nat) (U : Nat → α) (L : List Mon) : α := ev d U (L.map tr)
def evM1 (d k : Nat) (U : Nat → α) (L : List Mon) : α := ev1 d k U (L.map tr)
theorem evM_nil (d : Nat) (U : Nat → α) : evM d U [] = ofI 0 := rfl
theorem evM_cons (d : Nat) (U : Nat → α) (m : Mon) (L : List Mon) : evM d U (m :: L) = ofI m.1 * mon U (ex m.2) d + evM d U L := rfl
theorem evM_app (d : Nat) (U : Nat → α) (L R : List Mon) : evM d U (L ++ R) = evM d U L + evM d U R := by
  unfold evM ev; rw [List.map_append, sL_app]
theorem evM1_cons (d k : Nat) (U : Nat → α) (m : Mon) (L : List Mon) : evM1 d k U (m :: L) = ofI (m.1 * (ex m.2 k : Int)) * mon U (dx k (ex m.2)) d + evM1 d k U L := rfl
theorem evM_if (d : Nat) (U : Nat → α) (m : Mon) : evM d U (if m.1 = 0 then [] else [m]) = ofI m.1 * mon U (ex m.2) d := by
  split
  · rename_i h; rw [h, zmul]; rfl
  · rw [evM_cons, evM_nil, add0]
theorem Cg.eq (c : Cg α) {a b : α} (h : a = b) : c.r a b := by rw [h]; exact c.refl _
theorem putGo_ev (c : Cg α) (d : Nat) (U : Nat → α) (k : Int) (e : List Int) : ∀ (l : List Mon) (done : Bool),
    c.r (evM d U (putGo k e l done)) (evM d U l + if done = true then ofI 0 else ofI k * mon U (ex e) d)
  | [], true => c.eq (by simp [putGo]; rw [add0])
  | [], false => c.eq (by simp [putGo]; rw [evM_cons, evM_nil, addC])
  | m :: l, done => by
    rw [putGo]
    by_cases h1 : done = false ∧ m.2 = e
    · rw [if_pos h1, evM_app, h1.1, ← h1.2]
      have e1 := evM_if d U ((m.1 + k) % 10007, m.2)
      simp only at e1
      rw [e1]
      refine c.trans (c.add (c.mul (c.of (a := (m.1 + k) % 10007) (b := m.1 + k) (by omega)) (c.refl _)) (putGo_ev c d U k m.2 l true)) (c.eq ?_)
      simp only [if_true, Bool.false_eq_true, if_false]
      rw [evM_cons, ofAdd, Dmul, add0]; ac_rfl
    · rw [if_neg h1]
      by_cases h2 : done = false ∧ ltL e m.2 = true
      · rw [if_pos h2, evM_cons, evM_app, evM_if, h2.1]
        refine c.trans (c.add (c.refl _) (c.add (c.refl _) (putGo_ev c d U k e l true))) (c.eq ?_)
        simp only [if_true, Bool.false_eq_true, if_false]
        rw [evM_cons, add0]; ac_rfl
      · rw [if_neg h2, evM_app, evM_if]
        refine c.trans (c.add (c.refl _) (putGo_ev c d U k e l done)) (c.eq ?_)
        rw [evM_cons, addA]
theorem putL_ev (c : Cg α) (d : Nat) (U : Nat → α) (L : List Mon) (k : Int) (e : List Int) : c.r (evM d U (putL L k e)) (evM d U L + ofI k * mon U (ex e) d) := by
  unfold putL
  refine c.trans (putGo_ev c d U k e L _) (c.eq ?_)
  by_cases h : k = 0
  · simp [h]; rw [zmul]
  · simp [h]
/-- Sums. -/
def plusL (p : List Mon) (k : Int) : List Mon → List Mon
  | [] => p
  | m :: q => plusL (putL p (k * m.1 % 10007) m.2) k q
theorem plusL_app (p : List Mon) (k : Int) (q r : List Mon) : plusL p k (q ++ r) = plusL (plusL p k q) k r := by
  induction q generalizing p with
  | nil => rfl
  | cons m q ih => exact ih _
theorem plusL_ev (c : Cg α) (d : Nat) (U : Nat → α) (k : Int) : ∀ (q p : List Mon), c.r (evM d U (plusL p k q)) (evM d U p + ofI k * evM d U q)
  | [], p => c.eq (by rw [evM_nil, mul0, add0]; rfl)
  | m :: q, p => by
    rw [plusL]
    refine c.trans (plusL_ev c d U k q _) ?_
    refine c.trans (c.add (putL_ev c d U p _ m.2) (c.refl _)) ?_
    refine c.trans (c.add (c.add (c.refl _) (c.mul (c.of (a := k * m.1 % 10007) (b := k * m.1) (by omega)) (c.refl _))) (c.refl _)) (c.eq ?_)
    rw [evM_cons, mulD, ofMul]; ac_rfl
/-- Products. -/
def addE (a b : List Int) : List Int := List.zipWith (· + ·) a b
def prodRow (a : Mon) (acc : List Mon) : List Mon → List Mon
  | [] => acc
  | b :: q => prodRow a (putL acc (a.1 * b.1 % 10007) (addE a.2 b.2)) q
def prodGo (acc : List Mon) (q : List Mon) : List Mon → List Mon
  | [] => acc
  | a :: p => prodGo (prodRow a acc q) q p
def prodL (p q : List Mon) : List Mon := prodGo [] q p
theorem prodRow_app (a : Mon) (acc p q : List Mon) : prodRow a acc (p ++ q) = prodRow a (prodRow a acc p) q := by
  induction p generalizing acc with
  | nil => rfl
  | cons m p ih => exact ih _
theorem prodGo_app (acc q p r : List Mon) : prodGo acc q (p ++ r) = prodGo (prodGo acc q p) q r := by
  induction p generalizing acc with
  | nil => rfl
  | cons m p ih => exact ih _
theorem pwr_add (a : α) (n : Nat) : ∀ m : Nat, pwr a (n + m) = pwr a n * pwr a m
  | 0 => (mul1 _).symm
  | m + 1 => by rw [← Nat.add_assoc, pwr, pwr, pwr_add a n m, mulA]
theorem mon_add (U : Nat → α) (e f : Nat → Nat) : ∀ d, mon U (fun k => e k + f k) d = mon U e d * mon U f d
  | 0 => (mul1 _).symm
  | d + 1 => by rw [mon, mon, mon, mon_add U e f d, pwr_add]; ac_rfl
theorem ex_add {a b : List Int} {n : Nat} (ha : a.length = n) (hb : b.length = n) (h1 : ∀ x ∈ a, 0 ≤ x) (h2 : ∀ x ∈ b, 0 ≤ x) (k : Nat) : ex (addE a b) k = ex a k + ex b k := by
  unfold ex addE
  rcases Nat.lt_or_ge k n with hk | hk
  · rw [List.getElem?_eq_getElem (by simp; omega), List.getElem?_eq_getElem (by omega), List.getElem?_eq_getElem (by omega)]
    have := h1 _ (List.getElem_mem (show k < a.length by omega))
    have := h2 _ (List.getElem_mem (show k < b.length by omega))
    simp; omega
  · rw [List.getElem?_eq_none (by simp; omega), List.getElem?_eq_none (by omega), List.getElem?_eq_none (by omega)]; rfl
/-- Lists of n variables' monomials. -/
def LOk (n : Nat) (L : List Mon) : Prop := ∀ m ∈ L, m.2.length = n ∧ ∀ x ∈ m.2, 0 ≤ x
theorem LOk.tl {n : Nat} {m : Mon} {L : List Mon} (h : LOk n (m :: L)) : LOk n L := fun a ha => h a (by simp [ha])
theorem LOk.hd {n : Nat} {m : Mon} {L : List Mon} (h : LOk n (m :: L)) : m.2.length = n ∧ ∀ x ∈ m.2, 0 ≤ x := h m (by simp)
theorem prodRow_ev (c : Cg α) (d : Nat) (U : Nat → α) {n : Nat} {a : Mon} (ha : a.2.length = n ∧ ∀ x ∈ a.2, 0 ≤ x) : ∀ (q acc : List Mon), LOk n q → c.r (evM d U (prodRow a acc q)) (evM d U acc + ofI a.1 * mon U (ex a.2) d * evM d U q)
  | [], acc, _ => c.eq (by rw [evM_nil, mul0, add0]; rfl)
  | b :: q, acc, hq => by
    have hb := hq.hd
    rw [prodRow]
    refine c.trans (prodRow_ev c d U ha q _ hq.tl) ?_
    refine c.trans (c.add (putL_ev c d U acc _ _) (c.refl _)) ?_
    refine c.trans (c.add (c.add (c.refl _) (c.mul (c.of (a := a.1 * b.1 % 10007) (b := a.1 * b.1) (by omega)) (c.refl _))) (c.refl _)) (c.eq ?_)
    have : mon U (ex (addE a.2 b.2)) d = mon U (ex a.2) d * mon U (ex b.2) d := by
      rw [← mon_add]; exact mon_congr U (fun k _ => ex_add ha.1 hb.1 ha.2 hb.2 k)
    rw [this, evM_cons, mulD, ofMul]; ac_rfl
theorem prodGo_ev (c : Cg α) (d : Nat) (U : Nat → α) {n : Nat} {q : List Mon} (hq : LOk n q) : ∀ (p acc : List Mon), LOk n p → c.r (evM d U (prodGo acc q p)) (evM d U acc + evM d U p * evM d U q)
  | [], acc, _ => c.eq (by rw [evM_nil, zmul, add0]; rfl)
  | a :: p, acc, hp => by
    rw [prodGo]
    refine c.trans (prodGo_ev c d U hq p _ hp.tl) ?_
    refine c.trans (c.add (prodRow_ev c d U hp.hd q acc hq) (c.refl _)) (c.eq ?_)
    rw [evM_cons, Dmul]; ac_rfl
theorem prodL_ev (c : Cg α) (d : Nat) (U : Nat → α) {n : Nat} {p q : List Mon} (hp : LOk n p) (hq : LOk n q) : c.r (evM d U (prodL p q)) (evM d U p * evM d U q) :=
  c.trans (prodGo_ev c d U hq p [] hp) (c.eq (zadd _))
theorem ex_low {e : List Int} {i n : Nat} (hi : i < n) (hl : e.length = n) (k : Nat) : ex (e.set i (e[i]?.getD 0 - 1)) k = dx i (ex e) k := by
  unfold ex dx
  rw [List.getElem?_set]
  by_cases h : i = k
  · subst h
    rw [if_pos rfl, if_pos (by omega), if_pos rfl]
    simp
  · rw [if_neg h, if_neg (Ne.symm h)]
theorem derGo_ev (c : Cg α) (d : Nat) (U : Nat → α) {n i : Nat} (hi : i < n) : ∀ (p acc : List Mon), LOk n p → c.r (evM d U (derGo i acc p)) (evM d U acc + evM1 d i U p)
  | [], acc, _ => c.eq (add0 _).symm
  | m :: p, acc, h => by
    have hm := h.hd
    rw [derGo, evM1_cons]
    refine c.trans (derGo_ev c d U hi p _ h.tl) ?_
    have h0 : 0 ≤ m.2[i]?.getD 0 := by
      rw [List.getElem?_eq_getElem (by omega), Option.getD_some]; exact hm.2 _ (List.getElem_mem _)
    by_cases hpos : 0 < m.2[i]?.getD 0
    · rw [if_pos hpos]
      refine c.trans (c.add (putL_ev c d U acc _ _) (c.refl _)) ?_
      refine c.trans (c.add (c.add (c.refl _) (c.mul (c.of (a := m.1 * m.2[i]?.getD 0 % 10007) (b := m.1 * (ex m.2 i : Int)) ?_) (c.refl _))) (c.refl _)) (c.eq ?_)
      · unfold ex; rw [Int.toNat_of_nonneg h0, Int.emod_emod_of_dvd _ (Int.dvd_refl _)]
      · rw [mon_congr U (fun k _ => ex_low hi hm.1 k), addA]
    · rw [if_neg hpos]
      have : ex m.2 i = 0 := by unfold ex; omega
      rw [this]
      have z : ofI (m.1 * ((0 : Nat) : Int)) = (ofI 0 : α) := by simp
      rw [z, zmul, zadd]
      exact c.refl _
theorem derL_ev (c : Cg α) (d : Nat) (U : Nat → α) {n i : Nat} (hi : i < n) {p : List Mon} (hp : LOk n p) : c.r (evM d U (derL i p)) (evM1 d i U p) :=
  c.trans (derGo_ev c d U hi p [] hp) (c.eq (zadd _))
/-- The derivative along a field. -/
def alongGo (acc p : List Mon) (k : Nat) : List (List Mon) → List Mon
  | [] => acc
  | F :: f => alongGo (plusL acc 1 (prodL F (derL k p))) p (k + 1) f
def alongL (f : List (List Mon)) (p : List Mon) : List Mon := alongGo [] p 0 f
theorem alongGo_app (acc p : List Mon) (k : Nat) (f g : List (List Mon)) : alongGo acc p k (f ++ g) = alongGo (alongGo acc p k f) p (k + f.length) g := by
  induction f generalizing acc k with
  | nil => rfl
  | cons F f ih => simp only [List.cons_append, alongGo, ih, List.length_cons]; congr 1; omega
theorem putGo_lok {n : Nat} {k : Int} {e : List Int} (h : e.length = n ∧ ∀ x ∈ e, 0 ≤ x) : ∀ (l : List Mon) (done : Bool), LOk n l → LOk n (putGo k e l done)
  | [], true, _, m, hm => by simp [putGo] at hm
  | [], false, _, m, hm => by simp [putGo] at hm; rw [hm]; exact h
  | a :: l, done, hl, m, hm => by
    have ha := hl.hd
    have ih := fun d => putGo_lok (k := k) h l d hl.tl
    have one : ∀ b : Mon, (b.2.length = n ∧ ∀ x ∈ b.2, 0 ≤ x) → m ∈ (if b.1 = 0 then [] else [b]) → (m.2.length = n ∧ ∀ x ∈ m.2, 0 ≤ x) := fun b hb hmm => by
      split at hmm
      · simp at hmm
      · simp at hmm; rw [hmm]; exact hb
    rw [putGo] at hm
    split at hm
    · rcases List.mem_append.1 hm with hm | hm
      · exact one ((a.1 + k) % 10007, a.2) ha hm
      · exact ih _ m hm
    · split at hm
      · rcases List.mem_cons.1 hm with hm | hm
        · rw [hm]; exact h
        · rcases List.mem_append.1 hm with hm | hm
          · exact one a ha hm
          · exact ih _ m hm
      · rcases List.mem_append.1 hm with hm | hm
        · exact one a ha hm
        · exact ih _ m hm
theorem plusL_lok {n : Nat} {k : Int} : ∀ (q p : List Mon), LOk n q → LOk n p → LOk n (plusL p k q)
  | [], p, _, hp => hp
  | m :: q, p, hq, hp => plusL_lok q _ hq.tl (putGo_lok hq.hd p _ hp)
theorem addE_ok {n : Nat} {a b : List Int} (ha : a.length = n ∧ ∀ x ∈ a, 0 ≤ x) (hb : b.length = n ∧ ∀ x ∈ b, 0 ≤ x) : (addE a b).length = n ∧ ∀ x ∈ addE a b, 0 ≤ x := by
  refine ⟨by unfold addE; simp; omega, fun x hx => ?_⟩
  obtain ⟨i, hi, rfl⟩ := List.getElem_of_mem hx
  unfold addE at hi ⊢
  simp at hi ⊢
  have h1 := ha.2 _ (List.getElem_mem (show i < a.length by omega))
  have h2 := hb.2 _ (List.getElem_mem (show i < b.length by omega))
  omega
theorem prodRow_lok {n : Nat} {a : Mon} (ha : a.2.length = n ∧ ∀ x ∈ a.2, 0 ≤ x) : ∀ (q acc : List Mon), LOk n q → LOk n acc → LOk n (prodRow a acc q)
  | [], _, _, h => h
  | b :: q, acc, hq, h => prodRow_lok ha q _ hq.tl (putGo_lok (addE_ok ha hq.hd) acc _ h)
theorem prodGo_lok {n : Nat} {q : List Mon} (hq : LOk n q) : ∀ (p acc : List Mon), LOk n p → LOk n acc → LOk n (prodGo acc q p)
  | [], _, _, h => h
  | a :: p, acc, hp, h => prodGo_lok hq p _ hp.tl (prodRow_lok hp.hd q acc hq h)
theorem derGo_lok {n i : Nat} (hi : i < n) : ∀ (p acc : List Mon), LOk n p → LOk n acc → LOk n (derGo i acc p)
  | [], acc, _, ha => ha
  | a :: p, acc, hp, ha => by
    rw [derGo]
    have hav := hp.hd
    refine derGo_lok hi p _ hp.tl ?_
    split
    · rename_i hpos
      refine putGo_lok ⟨by simpa using hav.1, fun x hx => ?_⟩ acc _ ha
      rcases List.mem_or_eq_of_mem_set hx with hx | rfl
      · exact hav.2 x hx
      · omega
    · exact ha
theorem alongGo_lok {n : Nat} {p : List Mon} (hp : LOk n p) : ∀ (f : List (List Mon)) (k : Nat) (acc : List Mon), k + f.length ≤ n → (∀ F ∈ f, LOk n F) → LOk n acc → LOk n (alongGo acc p k f)
  | [], _, _, _, _, h => h
  | F :: f, k, acc, hk, hf, h => by
    rw [List.length_cons] at hk
    exact alongGo_lok hp f (k + 1) _ (by omega) (fun G hG => hf G (by simp [hG])) (plusL_lok _ _ (prodGo_lok (derGo_lok (by omega) p [] hp (by intro m hm; simp at hm)) F [] (hf F (by simp)) (by intro m hm; simp at hm)) h)
theorem alongL_lok {n : Nat} {f : List (List Mon)} {p : List Mon} (hp : LOk n p) (hf : ∀ F ∈ f, LOk n F) (hl : f.length ≤ n) : LOk n (alongL f p) := alongGo_lok hp f 0 [] (by omega) hf (by intro m hm; simp at hm)
theorem sT_shift (f : Nat → α) : ∀ n, sT f (n + 1) = f 0 + sT (fun k => f (k + 1)) n
  | 0 => by simp only [sT]; rw [addC]
  | n + 1 => by rw [sT, sT_shift f n, sT, addA]
theorem alongGo_ev (c : Cg α) (d : Nat) (U : Nat → α) {n : Nat} {p : List Mon} (hp : LOk n p) : ∀ (f : List (List Mon)) (k : Nat) (acc : List Mon), k + f.length ≤ n → (∀ F ∈ f, LOk n F) →
    c.r (evM d U (alongGo acc p k f)) (evM d U acc + sT (fun j => evM1 d (k + j) U p * evM d U (f[j]?.getD [])) f.length)
  | [], k, acc, _, _ => c.eq (add0 _).symm
  | F :: f, k, acc, hk, hf => by
    rw [List.length_cons] at hk
    rw [alongGo, List.length_cons, sT_shift]
    have hD : LOk n (derL k p) := derGo_lok (by omega) p [] hp (by intro m hm; simp at hm)
    refine c.trans (alongGo_ev c d U hp f (k + 1) _ (by omega) (fun G hG => hf G (by simp [hG]))) ?_
    refine c.trans (c.add (c.trans (plusL_ev c d U 1 _ acc) (c.add (c.refl _) (c.mul (c.refl _) (c.trans (prodL_ev c d U (hf F (by simp)) hD) (c.mul (c.refl _) (derL_ev c d U (by omega) hp)))))) (c.refl _)) (c.eq ?_)
    have e1 : sT (fun j => evM1 d (k + 1 + j) U p * evM d U (f[j]?.getD [])) f.length = sT (fun j => evM1 d (k + (j + 1)) U p * evM d U ((F :: f)[j + 1]?.getD [])) f.length :=
      sT_congr (fun j _ => by simp [Nat.add_assoc, Nat.add_comm 1 j])
    rw [e1, omul, addA]
    simp only [Nat.add_zero, List.getElem?_cons_zero, Option.getD_some]
    rw [mulC (evM d U F)]
theorem alongL_ev (c : Cg α) (d : Nat) (U : Nat → α) {n : Nat} {p : List Mon} (hp : LOk n p) {f : List (List Mon)} (hl : f.length ≤ n) (hf : ∀ F ∈ f, LOk n F) :
    c.r (evM d U (alongL f p)) (sT (fun j => evM1 d j U p * evM d U (f[j]?.getD [])) f.length) := by
  refine c.trans (alongGo_ev c d U hp f 0 [] (by omega) hf) (c.eq ?_)
  rw [evM_nil, zadd]
  exact sT_congr (fun j _ => by rw [Nat.zero_add])
/-- The flow that a field drives, by the derivatives along it. -/
theorem flow_is (c : Cg α) {d N : Nat} {U : Nat → Ser α} {f : List (List Mon)} (hl : f.length = d) (hf : ∀ F ∈ f, LOk d F)
    (hU : ∀ k, k < d → ∀ n, n < N → c.r (ofI ((n + 1 : Nat) : Int) * U k (n + 1)) (evM d U (f[k]?.getD []) n)) :
    ∀ (n : Nat) (L : List Mon), n ≤ N → LOk d L → c.r (ofI (fct n) * evM d U L n) (evM d (fun k => U k 0) (Nat.repeat (alongL f) n L)) := by
  refine flow_at c (π := List Mon) (fun L => L.map tr) (F := fun k => f[k]?.getD []) (A := alongL f) (Ok := LOk d) (fun L hL => ⟨alongL_lok hL hf (by omega), ?_⟩) hU
  have := alongL_ev (cgS c N) d U hL (f := f) (by omega) hf
  rw [hl] at this
  exact this
end
end Go.Proofs.Ytoamidolomldnaa

/- Contracts: the reference's derivative of a list, values of such lists, the program's derivative of a map. -/
namespace Go.Proofs.Ytoamidolomldnaa
open Go.Abs
set_option linter.unusedVariables false
set_option linter.unusedSimpArgs false
set_option maxHeartbeats 1000000
theorem putGo_len (c : Int) (e : List Int) : ∀ (l : List Mon) (done : Bool), (putGo c e l done).length ≤ l.length + 1
  | [], true => by simp [putGo]
  | [], false => by simp [putGo]
  | m :: l, done => by
    have one : ∀ b : Mon, (if b.1 = 0 then [] else [b]).length ≤ 1 := fun b => by split <;> simp
    have ht : ∀ l : List Mon, (putGo c e l true).length ≤ l.length := by
      intro l
      induction l with
      | nil => simp [putGo]
      | cons m l ih => rw [putGo_t]; have := one m; simp; omega
    have h1 := putGo_len c e l done
    have h2 := ht l
    have h3 := one m
    have h4 := one ((m.1 + c) % 10007, m.2)
    simp only at h4
    rw [putGo]
    split
    · simp only [List.length_append, List.length_cons]; omega
    · split
      · simp only [List.length_append, List.length_cons]; omega
      · simp only [List.length_append, List.length_cons]; omega
theorem putL_len (L : List Mon) (c : Int) (e : List Int) : (putL L c e).length ≤ L.length + 1 := putGo_len c e L _
theorem derGo_len (i : Nat) : ∀ (p acc : List Mon), (derGo i acc p).length ≤ acc.length + p.length
  | [], acc => by simp [derGo]
  | m :: p, acc => by
    rw [derGo]
    have := derGo_len i p (if 0 < m.2[i]?.getD 0 then putL acc (m.1 * m.2[i]?.getD 0 % 10007) (m.2.set i (m.2[i]?.getD 0 - 1)) else acc)
    have h : (if 0 < m.2[i]?.getD 0 then putL acc (m.1 * m.2[i]?.getD 0 % 10007) (m.2.set i (m.2[i]?.getD 0 - 1)) else acc).length ≤ acc.length + 1 := by
      split
      · exact putL_len _ _ _
      · omega
    simp; omega
/-- Monomials of n variables stay such. -/
theorem putGo_wok {n : Nat} {B c : Int} {e : List Int} (h : WOk n B (c, e)) : ∀ (l : List Mon) (done : Bool), (∀ m ∈ l, WOk n B m) → ∀ m ∈ putGo c e l done, WOk n B m
  | [], true, _, m, hm => by simp [putGo] at hm
  | [], false, _, m, hm => by simp [putGo] at hm; rw [hm]; exact h
  | a :: l, done, hl, m, hm => by
    have ha := hl a (by simp)
    have ih := fun d => putGo_wok h l d (fun b hb => hl b (by simp [hb]))
    have one : ∀ b : Mon, WOk n B b → m ∈ (if b.1 = 0 then [] else [b]) → WOk n B m := fun b hb hmm => by
      split at hmm
      · simp at hmm
      · simp at hmm; rw [hmm]; exact hb
    rw [putGo] at hm
    split at hm
    · rcases List.mem_append.1 hm with hm | hm
      · exact one ((a.1 + c) % 10007, a.2) ⟨isN_mod _, ha.len, ha.pw⟩ hm
      · exact ih _ m hm
    · split at hm
      · rcases List.mem_cons.1 hm with hm | hm
        · rw [hm]; exact h
        · rcases List.mem_append.1 hm with hm | hm
          · exact one a ha hm
          · exact ih _ m hm
      · rcases List.mem_append.1 hm with hm | hm
        · exact one a ha hm
        · exact ih _ m hm
theorem WOk.low {n i : Nat} {B : Int} {m : Mon} (h : WOk n B m) (hi : i < n) (hp : 0 < m.2[i]?.getD 0) : WOk n B (m.1 * m.2[i]?.getD 0 % 10007, m.2.set i (m.2[i]?.getD 0 - 1)) := by
  have hl := h.len
  refine ⟨isN_mod _, by simpa using hl, fun x hx => ?_⟩
  rcases List.mem_or_eq_of_mem_set hx with hx | rfl
  · exact h.pw x hx
  · have hm : m.2[i]?.getD 0 ∈ m.2 := by
      rw [List.getElem?_eq_getElem (by omega), Option.getD_some]; exact List.getElem_mem _
    have := h.pw _ hm
    omega
theorem derGo_wok {n i : Nat} {B : Int} (hi : i < n) : ∀ (p acc : List Mon), (∀ m ∈ p, WOk n B m) → (∀ m ∈ acc, WOk n B m) → ∀ m ∈ derGo i acc p, WOk n B m
  | [], acc, _, ha, m, hm => ha m hm
  | a :: p, acc, hp, ha, m, hm => by
    rw [derGo] at hm
    have hav := hp a (by simp)
    refine derGo_wok hi p _ (fun b hb => hp b (by simp [hb])) ?_ m hm
    split
    · rename_i hpos
      exact fun b hb => putGo_wok (hav.low hi hpos) acc _ ha b hb
    · exact ha
theorem small_mul {a b : Int} (ha : isN a) (h0 : 0 ≤ b) (h1 : b ≤ 1000000) : fits (a * b) := by
  obtain ⟨a0, a1⟩ := ha
  have := Int.mul_nonneg a0 h0
  have : a * b ≤ 10006 * 1000000 := Int.mul_le_mul (by omega) h1 h0 (by omega)
  exact ⟨by omega, by omega⟩
set_option maxRecDepth 100000 in
theorem l13Derive_c {n : Nat} {B : Int} (p : List Mon) (k : Nat) (hk : k < n) (hn : n ≤ 1000) (hB : 0 ≤ B) (hB2 : B ≤ 1000000) (hp : ∀ m ∈ p, WOk n B m) (hl : p.length ≤ 100000000000) :
    Con Try.prog 250 [.sl p.length (mons p), .int k] (.own 179 (derL k p).length (omons (derL k p))) := by
  refine con_of_vc Try.mixed ⟨9, [], [], []⟩ Try.func250 (by decide) rfl (by simp) (by decide) (by simp [freshOK, freshL, go_sem]) ?_
  rw [Try.ntmps250]
  simp [go_sem]
  refine loop_inv (List.range' 5 45) (fun i : Nat => [(5, .own 179 (derL k (p.take i)).length (omons (derL k (p.take i)))), (6, .int i)]) (fun i => i ≤ p.length) (fun i => p.length - i) 0 (by simp) (by simp [go_sem, derL, derGo]) (by simp [go_sem]) ?_
  intro i hi
  simp [go_sem]
  refine ⟨fun h => ?_, fun h => ?_⟩ <;> simp at h
  · have hif := h
    have hx : p[i]?.getD (0, []) ∈ p := by simp [h]
    have hm := hp _ hx
    have hd : derL k (p.take (i + 1)) = (if 0 < (p[i]?.getD (0, [])).2[k]?.getD 0 then putL (derL k (p.take i)) ((p[i]?.getD (0, [])).1 * (p[i]?.getD (0, [])).2[k]?.getD 0 % 10007) ((p[i]?.getD (0, [])).2.set k ((p[i]?.getD (0, [])).2[k]?.getD 0 - 1)) else derL k (p.take i)) := by
      unfold derL
      rw [List.take_add_one, derGo_app]; simp [hif, derGo]
    have hw : ∀ m ∈ derL k (p.take i), WOk n B m := derGo_wok hk _ [] (fun m hm => hp m (List.mem_of_mem_take hm)) (by simp)
    have hdl := derGo_len k (p.take i) []
    have hdl2 : (derL k (p.take i)).length ≤ i := by unfold derL; simp at hdl; omega
    simp [go_sem, mons_drop hif]
    generalize hM : p[i]?.getD (0, []) = m at *
    have hml := hm.len
    have g := hm.get hB k
    have hkl : k < m.2.length := by omega
    have cO := l01Own_c m.2 (by omega)
    refine ⟨⟨hif, by rintro rfl; simp at hif⟩, ?_⟩
    refine CallVC.of (cO) (by decide) ?_
    simp [go_sem]
    simp [go_sem, mons_drop hif, hM, avs_at hkl]
    refine ⟨by kernel_rfl, ⟨hif, by rintro rfl; simp at hif⟩, hkl, ?_⟩
    refine CallD.of (l01Mul_c _ _ (small_mul hm.num g.1 (by omega))) (by simp [roots, rootsL]) (by decide) ?_
    simp [go_sem]
    refine ⟨by kernel_rfl, ?_⟩
    simp [go_sem]
    simp [go_sem, avs_at hkl]
    refine ⟨hkl, ?_⟩
    by_cases hpos : 0 < m.2[k]?.getD 0
    · rw [if_pos hpos] at hd
      have hv := hm.low (by omega) hpos
      have cP := l13Put_c (derL k (p.take i)) (m.1 * m.2[k]?.getD 0 % 10007) (m.2.set k (m.2[k]?.getD 0 - 1)) (isN_mod _) (fun q hq => ⟨(hw q hq).num, by have := (hw q hq).len; omega⟩) (by omega) (by simp; omega)
      rw [List.length_set] at cP
      simp [go_sem, hpos, avs_at hkl]
      refine ⟨hkl, ⟨by omega, by omega⟩, hkl, ?_⟩
      rw [avs_set, avs_frz]
      refine CallVC.of (cP) (by decide) ?_
      simp [go_sem]
      exact ⟨by omega, i + 1, by omega, by omega, Off_reset _ _ _ (by simp), by rw [hd]; exact ⟨rfl, rfl⟩, by omega⟩
    · rw [if_neg hpos] at hd
      simp [go_sem, hpos]
      exact ⟨by omega, i + 1, by omega, by omega, Off_reset _ _ _ (by simp), by rw [hd]; exact ⟨rfl, rfl⟩, by omega⟩
  · simp [go_sem]
    rw [List.take_of_length_le h]
    simp
set_option maxRecDepth 100000 in
theorem l13ValueW_c {B : Int} (p : List Mon) (y : List Int) (hy : Ns y) (hl : y.length ≤ 1000) (hp : p.length ≤ 10000000) (hB : 0 ≤ B) (hB2 : B ≤ 1000000) (hm : ∀ m ∈ p, WOk y.length B m) :
    Con Try.prog 249 [.sl p.length (mons p), .sl y.length (avs y)] (.int (vsum y p % 10007)) := by
  refine con_of_vc Try.mixed ⟨9, [], [], []⟩ Try.func249 (by decide) rfl (by simp) (by decide) (by simp [freshOK, freshL, go_sem]) ?_
  rw [Try.ntmps249]
  simp [go_sem]
  refine loop_inv (5 :: 6 :: 7 :: 8 :: List.range' 9 35) (fun i : Nat => [(5, .int (vsum y (p.take i) % 10007)), (6, .int i)]) (fun i => i ≤ p.length) (fun i => p.length - i) 0 (by simp) (by simp [go_sem, vsum]) (by simp [go_sem]) ?_
  intro i hi
  simp [go_sem]
  refine ⟨fun h => ?_, fun h => ?_⟩ <;> simp at h
  · have hif := h
    have hx : p[i]?.getD (0, []) ∈ p := by simp [h]
    have ho := hm _ hx
    have hv := vsum_take (y := y) h
    simp [go_sem, mons_drop hif]
    refine ⟨⟨hif, by rintro rfl; simp at hif⟩, ?_⟩
    generalize hM : p[i]?.getD (0, []) = m at *
    have hml : m.2.length = y.length := ho.len
    have hx1 : isN m.1 := ho.num
    refine loop_inv (7 :: 8 :: List.range' 20 21) (fun k : Nat => [(7, .int (tmF y m.2 m.1 k)), (8, .int k)]) (fun k => k ≤ y.length) (fun k => y.length - k) 0 (by simp) (by simp [go_sem, tmF]) (by simp [go_sem]) ?_
    intro k hk
    simp [go_sem]
    refine ⟨fun h => ?_, fun h => ?_⟩ <;> simp at h
    · have hk2 : k < m.2.length := by omega
      have g := ho.get hB k
      simp [go_sem, mons_drop hif, hM, avs_drop h, avs_drop hk2]
      refine ⟨by kernel_rfl, ⟨h, by rintro rfl; simp at h⟩, ⟨hif, by rintro rfl; simp at hif⟩, ⟨hk2, fun e => by rw [e] at hk2; simp at hk2⟩, ?_⟩
      refine CallD.of (l01Pow_c _ _ (hy.get k) g.1 (by omega)) (by simp [roots, rootsL]) (by decide) ?_
      simp [go_sem]
      refine CallD.of (l01Mul_c _ _ (mul_fits (tmF_N hx1 k) (isN_mod _))) (by simp [roots, rootsL]) (by decide) ?_
      simp [go_sem]
      refine ⟨by kernel_rfl, ?_⟩
      simp [go_sem]
      refine ⟨by omega, k + 1, by omega, by omega, Off_reset _ _ _ (by simp), by simp [tmF], by omega⟩
    · have e : k = y.length := by omega
      subst e
      simp [go_sem]
      refine CallVC.of (l01Add_c _ _ (add_fits (isN_mod _) (tmF_N hx1 _))) (by decide) ?_
      simp [go_sem]
      refine ⟨by omega, i + 1, by omega, by omega, (Off.reset (by intro x hx; simp at hx ⊢; omega) (by simp) (by simp [go_sem, Off_reset])), ?_, by omega⟩
      rw [hv]
  · simp [go_sem]
    have e : i = p.length := by omega
    subst e; simp
set_option maxRecDepth 100000 in
theorem derivative_c {n : Nat} (c : Key → Option Int) (i : Nat) (hi : i < n) (hn : n ≤ 3) (hc : ∀ k x, c k = some x → isN x ∧ KOk n k) :
    Con Try.prog 136 [.fmp c, .int i] (.mp (derM i c)) := by
  refine con_of_vc Try.mixed ⟨9, [], [], []⟩ Try.func136 (by decide) rfl (by simp) (by decide) (by simp [freshOK, freshL, go_sem]) ?_
  rw [Try.ntmps136]
  simp [go_sem]
  intro es hes
  have hok : ∀ e ∈ es, c e.1 = some e.2 := fun e he => hes.val e he
  refine loop_inv (List.range' 5 34) (fun x : Option (Key × Int) × List (Key × Int) => [(5, .mp (remD i c x.2)), (11, .it x.1 x.2)]) (fun x => x.2.Pairwise (fun a b => a.1 ≠ b.1) ∧ ∀ e ∈ x.2, c e.1 = some e.2) (fun x => x.2.length) (none, es) ⟨hes.nd, hok⟩ (by simp [go_sem, remD_start hes]) (by simp [go_sem]) ?_
  rintro ⟨l, rem⟩ ⟨hnd, hrem⟩
  simp only at hnd hrem
  simp [go_sem, keyAV]
  refine ⟨fun hr => ?_, fun l1 k0 k1 k2 x l2 hr => ?_⟩
  · subst hr
    exact remD_end i c
  · subst hr
    have h3 : i = 0 ∨ i = 1 ∨ i = 2 := by omega
    have hcx := hrem ((k0, k1, k2), x) (by simp)
    have hx := hc _ _ hcx
    have hbx := mem_box.1 hx.2.1
    simp only at hcx hbx
    have hnum := hx.1
    have hnd2 : (l1 ++ l2).Pairwise (fun a b => a.1 ≠ b.1) := hnd.sublist (List.Sublist.append (List.Sublist.refl _) (List.sublist_cons_self _ _))
    have hrem2 : ∀ a b c' y, ((a, b, c'), y) ∈ l1 ++ l2 → c (a, b, c') = some y := fun a b c' y hm => hrem ((a, b, c'), y) (by
      rcases List.mem_append.1 hm with hm | hm <;> simp [hm])
    rcases h3 with rfl | rfl | rfl
    · have hz : remD 0 c (l1 ++ ((k0, k1, k2), x) :: l2) (k0 - 1, k1, k2) = none := remD_at (i := 0) (c := c) (l1 := l1) (l2 := l2) (k0 := (k0, k1, k2)) (x := x)
      simp [go_sem]
      by_cases hp : 0 < k0
      · have hs : mset (remD 0 c (l1 ++ ((k0, k1, k2), x) :: l2)) (k0 - 1, k1, k2) (k0 * x % 10007) = remD 0 c (l1 ++ l2) := remD_step (i := 0) hnd hcx hp
        have hf : fits (k0 * x) := by rw [Int.mul_comm]; exact small_mul hnum (by omega) (by omega)
        simp [go_sem, hp, hz]
        refine ⟨⟨by omega, by omega⟩, by kernel_rfl, hf, ?_⟩
        refine CallD.of (num_c _ hf.1 hf.2) (by simp [roots, rootsL]) (by decide) ?_
        simp [go_sem]
        refine ⟨by kernel_rfl, ?_⟩
        simp [go_sem]
        exact ⟨_, _, ⟨hnd2, hrem2⟩, by simp; try omega, Off_reset _ _ _ (by simp), hs, rfl, rfl⟩
      · have hs : remD 0 c (l1 ++ ((k0, k1, k2), x) :: l2) = remD 0 c (l1 ++ l2) := remD_skip (i := 0) hnd hcx hp
        simp [go_sem, hp]
        exact ⟨_, _, ⟨hnd2, hrem2⟩, by simp; try omega, Off_reset _ _ _ (by simp), hs, rfl, rfl⟩
    · have hz : remD 1 c (l1 ++ ((k0, k1, k2), x) :: l2) (k0, k1 - 1, k2) = none := remD_at (i := 1) (c := c) (l1 := l1) (l2 := l2) (k0 := (k0, k1, k2)) (x := x)
      simp [go_sem]
      by_cases hp : 0 < k1
      · have hs : mset (remD 1 c (l1 ++ ((k0, k1, k2), x) :: l2)) (k0, k1 - 1, k2) (k1 * x % 10007) = remD 1 c (l1 ++ l2) := remD_step (i := 1) hnd hcx hp
        have hf : fits (k1 * x) := by rw [Int.mul_comm]; exact small_mul hnum (by omega) (by omega)
        simp [go_sem, hp, hz]
        refine ⟨⟨by omega, by omega⟩, by kernel_rfl, hf, ?_⟩
        refine CallD.of (num_c _ hf.1 hf.2) (by simp [roots, rootsL]) (by decide) ?_
        simp [go_sem]
        refine ⟨by kernel_rfl, ?_⟩
        simp [go_sem]
        exact ⟨_, _, ⟨hnd2, hrem2⟩, by simp; try omega, Off_reset _ _ _ (by simp), hs, rfl, rfl⟩
      · have hs : remD 1 c (l1 ++ ((k0, k1, k2), x) :: l2) = remD 1 c (l1 ++ l2) := remD_skip (i := 1) hnd hcx hp
        simp [go_sem, hp]
        exact ⟨_, _, ⟨hnd2, hrem2⟩, by simp; try omega, Off_reset _ _ _ (by simp), hs, rfl, rfl⟩
    · have hz : remD 2 c (l1 ++ ((k0, k1, k2), x) :: l2) (k0, k1, k2 - 1) = none := remD_at (i := 2) (c := c) (l1 := l1) (l2 := l2) (k0 := (k0, k1, k2)) (x := x)
      simp [go_sem]
      by_cases hp : 0 < k2
      · have hs : mset (remD 2 c (l1 ++ ((k0, k1, k2), x) :: l2)) (k0, k1, k2 - 1) (k2 * x % 10007) = remD 2 c (l1 ++ l2) := remD_step (i := 2) hnd hcx hp
        have hf : fits (k2 * x) := by rw [Int.mul_comm]; exact small_mul hnum (by omega) (by omega)
        simp [go_sem, hp, hz]
        refine ⟨⟨by omega, by omega⟩, by kernel_rfl, hf, ?_⟩
        refine CallD.of (num_c _ hf.1 hf.2) (by simp [roots, rootsL]) (by decide) ?_
        simp [go_sem]
        refine ⟨by kernel_rfl, ?_⟩
        simp [go_sem]
        exact ⟨_, _, ⟨hnd2, hrem2⟩, by simp; try omega, Off_reset _ _ _ (by simp), hs, rfl, rfl⟩
      · have hs : remD 2 c (l1 ++ ((k0, k1, k2), x) :: l2) = remD 2 c (l1 ++ l2) := remD_skip (i := 2) hnd hcx hp
        simp [go_sem, hp]
        exact ⟨_, _, ⟨hnd2, hrem2⟩, by simp; try omega, Off_reset _ _ _ (by simp), hs, rfl, rfl⟩
end Go.Proofs.Ytoamidolomldnaa

/- Contracts: Jacobians, the reference's and the program's; rows of marks. -/
namespace Go.Proofs.Ytoamidolomldnaa
open Go.Abs
set_option linter.unusedVariables false
set_option linter.unusedSimpArgs false
set_option maxHeartbeats 1000000
/-- Rows of derivatives. -/
def jacR (n : Nat) (y : List Int) (p : List Mon) : List Int := (List.range n).map fun k => vsum y (derL k p) % 10007
def jacL (n : Nat) (y : List Int) (f : List (List Mon)) : List (List Int) := f.map (jacR n y)
@[simp] theorem jacR_len (n : Nat) (y : List Int) (p : List Mon) : (jacR n y p).length = n := by simp [jacR]
@[simp] theorem jacL_len (n : Nat) (y : List Int) (f : List (List Mon)) : (jacL n y f).length = f.length := by simp [jacL]
theorem jacR_succ (n : Nat) (y : List Int) (p : List Mon) : jacR (n + 1) y p = jacR n y p ++ [vsum y (derL n p) % 10007] := by simp [jacR, List.range_succ]
theorem jacL_take {n : Nat} {y : List Int} {f : List (List Mon)} {i : Nat} (h : i < f.length) : jacL n y (f.take (i + 1)) = jacL n y (f.take i) ++ [jacR n y (f[i]?.getD [])] := by
  rw [jacL, jacL, List.take_add_one, List.map_append, List.getElem?_eq_getElem h]; rfl
theorem omat_app (A C : List (List Int)) : omat (A ++ C) = omat A ++ omat C := by simp [omat]
theorem omat_one (r : List Int) : omat [r] = [.own 2 r.length (avs r)] := rfl
theorem omat_nil : omat [] = [] := rfl
def jcX (z : Int) (f : List (List Mon)) (y : List Int) : List (List Int) := if fieldB z f = true ∧ (decide ((y.length : Int) = z) && numsB y) = true then jacL y.length y f else []
def jcR (z : Int) (f : List (List Mon)) (y : List Int) : AV := .tup [.own 23 (jcX z f y).length (omat (jcX z f y)), .int (evE z f y)]
theorem polF_kok {n : Nat} {p : List Mon} (hn : n ≤ 3) (hp : partB (n : Int) p = true) {k : Key} {x : Int} (hk : polF p k = some x) : isN x ∧ KOk n k := by
  obtain ⟨m, hm, he⟩ := List.mem_map.1 ((polF_some (keys_nd (by omega) hp)).1 hk)
  simp only [keyM, Prod.mk.injEq] at he
  obtain ⟨rfl, rfl⟩ := he
  have := (partB_mem hp hm).vok
  exact ⟨this.num, this.kok hn⟩
set_option maxRecDepth 100000 in
theorem JacobianAt_c (z : Int) (f : List (List Mon)) (y : List Int) (hs : Small f) (hy : y.length ≤ 9223372036854775807) :
    Con Try.prog 46 [.agg [.int z, .sl f.length (prt f)], .sl y.length (avs y)] (jcR z f y) := by
  have cK := checkVectors_c z f [y] hs (by simp) (by simpa using hy)
  have e1 : mat [y] = [.sl y.length (avs y)] := rfl
  have e2 : ([y] : List (List Int)).length = 1 := rfl
  rw [e1, e2] at cK
  unfold jcR jcX evE
  have hv : ([y] : List (List Int)).any (fun y => !vecB z y) = !vecB z y := by simp
  unfold chk at cK
  rw [hv] at cK
  have hvb : (decide ((y.length : Int) = z) && numsB y) = vecB z y := rfl
  rw [hvb]
  cases hT : fieldB z f with
  | false =>
    rw [hT] at cK
    refine Con.n1 _ ?_
    refine con_of_vc Try.mixed ⟨12, [], [], []⟩ Try.func46 (by decide) rfl (by simp) (by decide) (by simp [freshOK, freshL, go_sem]) ?_
    rw [Try.ntmps46]
    simp [go_sem]
    refine CallVC.of (cK) (by decide) ?_
    simp [go_sem]
  | true =>
    rw [hT] at cK
    cases hn : vecB z y with
    | true =>
      rw [hn] at cK
      simp at cK
      have hn2 : (y.length : Int) = z ∧ numsB y = true := by simpa [vecB] using hn
      have hF := fieldB_iff.1 hT
      have hN := numsB_N.1 hn2.2
      have fl := hs.1
      have z3 := hF.hi
      simp only [and_self, if_true, jacL_len]
      refine con_of_vc Try.mixed ⟨12, [21], [], []⟩ Try.func46 (by decide) rfl (by simp) (by decide) (by simp [freshOK, freshL, go_sem]) ?_
      rw [Try.ntmps46]
      simp [go_sem]
      refine CallVC.of (cK) (by decide) ?_
      simp [go_sem]
      refine CallVC.of (polynomials_c z f hF hs) (by decide) ?_
      simp [go_sem]
      refine loop_inv (7 :: 9 :: 10 :: 11 :: List.range' 23 24) (fun i : Nat => [(7, .own 23 i (omat (jacL y.length y (f.take i)))), (23, .int i)]) (fun i => i ≤ f.length) (fun i => f.length - i) 0 (by simp) (by simp [go_sem, jacL, omat_nil]) (by simp [go_sem]) ?_
      intro i hi
      simp [go_sem]
      refine ⟨fun h => ?_, fun h => ?_⟩ <;> simp at h
      · have hif := h
        have hx : f[i]?.getD [] ∈ f := by simp [h]
        have hv := jacL_take (n := y.length) (y := y) h
        simp [go_sem, fpols_drop hif]
        refine ⟨⟨hif, by rintro rfl; simp at hif⟩, ?_⟩
        refine loop_inv (10 :: 11 :: List.range' 30 12) (fun k : Nat => [(10, .own 2 k (avs (jacR k y (f[i]?.getD [])))), (30, .int k)]) (fun k => k ≤ y.length) (fun k => y.length - k) 0 (by simp) (by simp [go_sem, jacR]) (by simp [go_sem]) ?_
        intro k hk
        simp [go_sem]
        refine ⟨fun h => ?_, fun h => ?_⟩ <;> simp at h
        · have hkl := h
          have hpp : partB (y.length : Int) (f[i]?.getD []) = true := by rw [hn2.1]; exact hF.part _ hx
          have hj := jacR_succ k y (f[i]?.getD [])
          have hq : ∀ kk x, polF (f[i]?.getD []) kk = some x → isN x ∧ KOk y.length kk := fun kk x hkx => polF_kok (by omega) hpp hkx
          have cD := derivative_c (n := y.length) (polF (f[i]?.getD [])) k hkl (by omega) hq
          have cV := value_c2 (derM k (polF (f[i]?.getD []))) y hN (by omega) (derM_ok hkl (by omega) hq)
          rw [← jac_eq (n := y.length) (by omega) hkl rfl hpp] at cV
          simp [go_sem]
          refine CallVC.of (cD) (by decide) ?_
          simp [go_sem]
          refine CallVC.of (cV) (by decide) ?_
          simp [go_sem]
          exact ⟨by omega, by omega, k + 1, by omega, by omega, Off_reset _ _ _ (by simp), by rw [hj]; simp [avs_snoc], by omega⟩
        · have e : k = y.length := by omega
          subst e
          simp [go_sem]
          exact ⟨by omega, by omega, i + 1, by omega, by omega, (Off.reset (by intro x hx; simp at hx ⊢; omega) (by simp) (by simp [go_sem, Off_reset])), by rw [hv, omat_app, omat_one]; simp, by omega⟩
      · simp [go_sem]
        have e : i = f.length := by omega
        subst e; simp
    | false =>
      rw [hn] at cK
      simp at cK
      refine Con.n1 _ ?_
      refine con_of_vc Try.mixed ⟨12, [], [], []⟩ Try.func46 (by decide) rfl (by simp) (by decide) (by simp [freshOK, freshL, go_sem]) ?_
      rw [Try.ntmps46]
      simp [go_sem]
      refine CallVC.of (cK) (by decide) ?_
      simp [go_sem]
end Go.Proofs.Ytoamidolomldnaa

/- Contracts: products and sums of polynomials, derivatives along fields, the reference's. -/
namespace Go.Proofs.Ytoamidolomldnaa
open Go.Abs
set_option linter.unusedVariables false
set_option linter.unusedSimpArgs false
set_option maxHeartbeats 1000000
theorem memD {α : Type} {l : List α} {i : Nat} (d : α) (h : i < l.length) : l[i]?.getD d ∈ l := by simp [h]
theorem mons_drop1 {p : List Mon} {k : Nat} (h : k < p.length) : (mons p).drop (k * 2 + 1) = .sl (p[k]?.getD (0, [])).2.length (avs (p[k]?.getD (0, [])).2) :: mons (p.drop (k + 1)) := by
  rw [← List.drop_drop, mons_drop h]; rfl
/-- Two rows of exponents while they are added up. -/
def adE (a b : List Int) (j : Nat) : List Int := (List.range a.length).map fun t => if t < j then a[t]?.getD 0 + b[t]?.getD 0 else a[t]?.getD 0
@[simp] theorem adE_len (a b : List Int) (j : Nat) : (adE a b j).length = a.length := by simp [adE]
theorem adE_zero (a b : List Int) : adE a b 0 = a := by
  refine List.ext_getElem (by simp) fun i h1 h2 => ?_
  simp [adE, h2]
theorem adE_all {a b : List Int} (h : b.length = a.length) : adE a b a.length = addE a b := by
  refine List.ext_getElem (by simp [addE, h]) fun i h1 h2 => ?_
  simp at h1
  simp [adE, addE, h1, show i < b.length by omega]
theorem adE_get {a b : List Int} {j : Nat} (h : j < a.length) : (adE a b j)[j]?.getD 0 = a[j]?.getD 0 := by simp [adE, h]
theorem adE_set {a b : List Int} {j : Nat} (h : j < a.length) : (adE a b j).set j (a[j]?.getD 0 + b[j]?.getD 0) = adE a b (j + 1) := by
  refine List.ext_getElem (by simp) fun i h1 h2 => ?_
  simp at h1
  rw [List.getElem_set]
  by_cases e : j = i
  · subst e; simp [adE]
  · simp only [e, if_false, adE, List.getElem_map, List.getElem_range]
    by_cases h3 : i < j
    · simp [h3, show i < j + 1 by omega]
    · simp [h3, show ¬ i < j + 1 by omega]
theorem WOk.prod {n : Nat} {B C : Int} {a b : Mon} (ha : WOk n B a) (hb : WOk n C b) : WOk n (B + C) (a.1 * b.1 % 10007, addE a.2 b.2) := by
  have h1 := ha.len
  have h2 := hb.len
  refine ⟨isN_mod _, by simp [addE]; omega, fun x hx => ?_⟩
  obtain ⟨i, hi, rfl⟩ := List.getElem_of_mem hx
  unfold addE at hi ⊢
  simp at hi ⊢
  have p1 := ha.pw _ (List.getElem_mem (show i < a.2.length by omega))
  have p2 := hb.pw _ (List.getElem_mem (show i < b.2.length by omega))
  omega
theorem prodRow_wok {n : Nat} {B C : Int} {a : Mon} (ha : WOk n B a) : ∀ (q acc : List Mon), (∀ m ∈ q, WOk n C m) → (∀ m ∈ acc, WOk n (B + C) m) → ∀ m ∈ prodRow a acc q, WOk n (B + C) m
  | [], _, _, h => h
  | b :: q, acc, hq, h => prodRow_wok ha q _ (fun m hm => hq m (by simp [hm])) (putGo_wok (ha.prod (hq b (by simp))) acc _ h)
theorem prodGo_wok {n : Nat} {B C : Int} {q : List Mon} (hq : ∀ m ∈ q, WOk n C m) : ∀ (p acc : List Mon), (∀ m ∈ p, WOk n B m) → (∀ m ∈ acc, WOk n (B + C) m) → ∀ m ∈ prodGo acc q p, WOk n (B + C) m
  | [], _, _, h => h
  | a :: p, acc, hp, h => prodGo_wok hq p _ (fun m hm => hp m (by simp [hm])) (prodRow_wok (hp a (by simp)) q acc hq h)
theorem prodRow_len (a : Mon) : ∀ (q acc : List Mon), (prodRow a acc q).length ≤ acc.length + q.length
  | [], _ => by simp [prodRow]
  | b :: q, acc => by
    rw [prodRow]
    have h1 := prodRow_len a q (putL acc (a.1 * b.1 % 10007) (addE a.2 b.2))
    have h2 := putL_len acc (a.1 * b.1 % 10007) (addE a.2 b.2)
    simp only [List.length_cons]; omega
theorem prodGo_len (q : List Mon) : ∀ (p acc : List Mon), (prodGo acc q p).length ≤ acc.length + p.length * q.length
  | [], _ => by simp [prodGo]
  | a :: p, acc => by
    rw [prodGo]
    have h1 := prodGo_len q p (prodRow a acc q)
    have h2 := prodRow_len a q acc
    simp only [List.length_cons, Nat.add_mul, Nat.one_mul]; omega
set_option maxRecDepth 100000 in
theorem l13Product_c {n : Nat} {B C : Int} (p q : List Mon) (hn : n ≤ 1000) (hB : 0 ≤ B) (hB2 : B ≤ 1000000) (hC : 0 ≤ C) (hC2 : C ≤ 1000000) (hp : ∀ m ∈ p, WOk n B m) (hq : ∀ m ∈ q, WOk n C m) (hpl : p.length ≤ 1000000000000) (hql : q.length ≤ 1000000000000) (hl : p.length * q.length ≤ 1000000000000) :
    Con Try.prog 258 [.sl p.length (mons p), .sl q.length (mons q)] (.own 179 (prodL p q).length (omons (prodL p q))) := by
  refine con_of_vc Try.mixed ⟨10, [], [], []⟩ Try.func258 (by decide) rfl (by simp) (by decide) (by simp [freshOK, freshL, go_sem]) ?_
  rw [Try.ntmps258]
  simp [go_sem]
  refine loop_inv (List.range' 5 5 ++ List.range' 11 54) (fun i : Nat => [(5, .own 179 (prodGo [] q (p.take i)).length (omons (prodGo [] q (p.take i)))), (6, .int i)]) (fun i => i ≤ p.length) (fun i => p.length - i) 0 (by simp) (by simp [go_sem, prodGo]) (by simp [go_sem]) ?_
  intro i hi
  simp [go_sem]
  refine ⟨fun h => ?_, fun h => ?_⟩ <;> simp at h
  · have hif := h
    have ha := hp _ (memD (0, []) hif)
    have hd : prodGo [] q (p.take (i + 1)) = prodRow (p[i]?.getD (0, [])) (prodGo [] q (p.take i)) q := by
      rw [List.take_add_one, prodGo_app]; simp [hif, prodGo]
    have hw : ∀ m ∈ prodGo [] q (p.take i), WOk n (B + C) m := prodGo_wok hq _ [] (fun m hm => hp m (List.mem_of_mem_take hm)) (by simp)
    have hdl := prodGo_len q (p.take i) []
    have hil : (i + 1) * q.length ≤ p.length * q.length := Nat.mul_le_mul_right _ hif
    rw [Nat.add_mul, Nat.one_mul] at hil
    have hml : (p.take i).length * q.length ≤ i * q.length := Nat.mul_le_mul_right _ (by simp; omega)
    simp only [List.length_nil, Nat.zero_add] at hdl
    generalize prodGo [] q (p.take i) = acc at *
    simp [go_sem]
    generalize hM : p[i]?.getD (0, []) = a at *
    refine loop_inv (5 :: 7 :: 8 :: 9 :: List.range' 17 48) (fun k : Nat => [(5, .own 179 (prodRow a acc (q.take k)).length (omons (prodRow a acc (q.take k)))), (7, .int k)]) (fun k => k ≤ q.length) (fun k => q.length - k) 0 (by simp) (by simp [go_sem, prodRow]) (by simp [go_sem]) ?_
    intro k hk
    simp [go_sem]
    refine ⟨fun h => ?_, fun h => ?_⟩ <;> simp at h
    · have hkf := h
      have hb := hq _ (memD (0, []) hkf)
      have hd2 : prodRow a acc (q.take (k + 1)) = putL (prodRow a acc (q.take k)) (a.1 * (q[k]?.getD (0, [])).1 % 10007) (addE a.2 (q[k]?.getD (0, [])).2) := by
        rw [List.take_add_one, prodRow_app]; simp [hkf, prodRow]
      have hw2 : ∀ m ∈ prodRow a acc (q.take k), WOk n (B + C) m := prodRow_wok ha _ _ (fun m hm => hq m (List.mem_of_mem_take hm)) hw
      have hdl2 := prodRow_len a (q.take k) acc
      have hkl : (q.take k).length ≤ k := by simp; omega
      generalize prodRow a acc (q.take k) = acc2 at *
      have al := ha.len
      have bl := hb.len
      have cO := l01Own_c a.2 (by omega)
      have wp := ha.prod hb
      simp [go_sem, mons_drop hif, hM]
      generalize hM2 : q[k]?.getD (0, []) = b at *
      refine ⟨⟨hif, by rintro rfl; simp at hif⟩, ?_⟩
      refine CallVC.of (cO) (by decide) ?_
      simp [go_sem]
      refine loop_inv (8 :: 9 :: List.range' 29 22) (fun j : Nat => [(8, .own 2 a.2.length (avs (adE a.2 b.2 j))), (9, .int j)]) (fun j => j ≤ a.2.length) (fun j => a.2.length - j) 0 (by simp) (by simp [go_sem, adE_zero]) (by simp [go_sem]) ?_
      intro j hj
      simp [go_sem]
      refine ⟨fun h => ?_, fun h => ?_⟩ <;> simp at h
      · have hja := h
        have hjb : j < b.2.length := by omega
        have hjs : j < (adE a.2 b.2 j).length := by simpa using hja
        have g1 := ha.get hB j
        have g2 := hb.get hC j
        have hset := adE_set (b := b.2) hja
        have hget := adE_get (b := b.2) hja
        simp [go_sem, mons_drop hkf, hM2, avs_drop hjb, avs_at hjs, hget]
        refine ⟨by kernel_rfl, hja, ⟨hkf, by rintro rfl; simp at hkf⟩, ⟨hjb, by intro e; simp [e] at hjb⟩, ⟨by omega, by omega⟩, hja, ?_⟩
        refine ⟨by kernel_rfl, ?_⟩
        simp [go_sem]
        exact ⟨by omega, j + 1, by omega, by omega, Off_reset _ _ _ (by simp), by rw [avs_set, hset], by omega⟩
      · have e : j = a.2.length := by omega
        subst e
        have hall := adE_all (a := a.2) (b := b.2) (by omega)
        have m1 := mul_fits ha.num hb.num
        have cP := l13Put_c acc2 (a.1 * b.1 % 10007) (addE a.2 b.2) (isN_mod _) (fun q hq => ⟨(hw2 q hq).num, by have := (hw2 q hq).len; omega⟩) (by omega) (by have := wp.len; simp at this; omega)
        have el : (addE a.2 b.2).length = a.2.length := by have := wp.len; simp at this; omega
        rw [el, ← hd2] at cP
        rw [hall]
        simp [go_sem, mons_drop hif, hM, mons_drop hkf, hM2]
        refine ⟨by kernel_rfl, ⟨hif, by rintro rfl; simp at hif⟩, ⟨hkf, by rintro rfl; simp at hkf⟩, ?_⟩
        refine CallD.of (l01Mul_c _ _ m1) (by simp [roots, rootsL]) (by decide) ?_
        simp [go_sem]
        refine CallD.of (cP) (by simp [roots, rootsL]) (by decide) ?_
        simp [go_sem]
        refine ⟨by kernel_rfl, ?_⟩
        simp [go_sem]
        exact ⟨by omega, k + 1, by omega, by omega, (Off.reset (by intro x hx; simp at hx ⊢; omega) (by simp) (by simp [go_sem, Off_reset])), ⟨rfl, rfl⟩, by omega⟩
    · have e : k = q.length := by omega
      subst e
      rw [List.take_length, ← hd]
      simp [go_sem]
      exact ⟨by omega, i + 1, by omega, by omega, (Off.reset (by intro x hx; simp at hx ⊢; omega) (by simp) (by simp [go_sem, Off_reset])), ⟨rfl, rfl⟩, by omega⟩
  · simp [go_sem]
    rw [List.take_of_length_le h]
    simp [prodL]
set_option maxRecDepth 100000 in
theorem l13Copy_c (p : List Mon) (hp : ∀ m ∈ p, m.2.length ≤ 1048576) (hl : p.length ≤ 1000000000000) :
    Con Try.prog 272 [.sl p.length (mons p)] (.own 179 p.length (omons p)) := by
  refine con_of_vc Try.mixed ⟨5, [], [], []⟩ Try.func272 (by decide) rfl (by simp) (by decide) (by simp [freshOK, freshL, go_sem]) ?_
  rw [Try.ntmps272]
  simp [go_sem]
  refine loop_inv (3 :: 4 :: List.range' 6 21) (fun i : Nat => [(3, .own 179 i (omons (p.take i))), (4, .int i)]) (fun i => i ≤ p.length) (fun i => p.length - i) 0 (by simp) (by simp [go_sem, omons]) (by simp [go_sem]) ?_
  intro i hi
  simp [go_sem]
  refine ⟨fun h => ?_, fun h => ?_⟩ <;> simp at h
  · have hif := h
    have hx := hp _ (memD (0, []) hif)
    have ht : omons (p.take (i + 1)) = omons (p.take i) ++ [.int (p[i]?.getD (0, [])).1, .own 2 (p[i]?.getD (0, [])).2.length (avs (p[i]?.getD (0, [])).2)] := by
      rw [List.take_add_one, omons_app]; simp [hif, omons]
    simp [go_sem, mons_drop hif]
    generalize hM : p[i]?.getD (0, []) = a at *
    refine ⟨by kernel_rfl, ⟨hif, by rintro rfl; simp at hif⟩, ?_⟩
    refine CallD.of (l01Own_c a.2 (by omega)) (by simp [roots, rootsL]) (by decide) ?_
    simp [go_sem]
    refine ⟨⟨by omega, by omega⟩, ?_⟩
    refine ⟨by kernel_rfl, ?_⟩
    simp [go_sem]
    exact ⟨by omega, i + 1, by omega, by omega, Off_reset _ _ _ (by simp), by rw [ht]; exact ⟨rfl, rfl⟩, by omega⟩
  · have e : i = p.length := by omega
    subst e
    simp [go_sem]
theorem plusL_wok {n : Nat} {B k : Int} : ∀ (q p : List Mon), (∀ m ∈ q, WOk n B m) → (∀ m ∈ p, WOk n B m) → ∀ m ∈ plusL p k q, WOk n B m
  | [], p, _, hp => hp
  | m :: q, p, hq, hp => plusL_wok q _ (fun a ha => hq a (by simp [ha])) (putGo_wok ⟨isN_mod _, (hq m (by simp)).len, (hq m (by simp)).pw⟩ p _ hp)
theorem plusL_len (k : Int) : ∀ (q p : List Mon), (plusL p k q).length ≤ p.length + q.length
  | [], _ => by simp [plusL]
  | m :: q, p => by
    rw [plusL]
    have h1 := plusL_len k q (putL p (k * m.1 % 10007) m.2)
    have h2 := putL_len p (k * m.1 % 10007) m.2
    simp only [List.length_cons]; omega
set_option maxRecDepth 100000 in
theorem l13Plus_c {n : Nat} {B k : Int} (p q : List Mon) (hn : n ≤ 1000) (hk : isN k) (hp : ∀ m ∈ p, WOk n B m) (hq : ∀ m ∈ q, WOk n B m) (hl : p.length + q.length ≤ 1000000000000) :
    Con Try.prog 257 [.sl p.length (mons p), .sl q.length (mons q), .int k] (.own 179 (plusL p k q).length (omons (plusL p k q))) := by
  refine con_of_vc Try.mixed ⟨9, [29], [], []⟩ Try.func257 (by decide) rfl (by simp) (by decide) (by simp [freshOK, freshL, go_sem]) ?_
  rw [Try.ntmps257]
  simp [go_sem]
  refine loop_inv (7 :: 8 :: List.range' 10 20) (fun i : Nat => [(7, .sl (plusL p k (q.take i)).length (mons (plusL p k (q.take i)))), (8, .int i)]) (fun i => i ≤ q.length) (fun i => q.length - i) 0 (by simp) (by simp [go_sem, plusL]) (by simp [go_sem]) ?_
  intro i hi
  simp [go_sem]
  refine ⟨fun h => ?_, fun h => ?_⟩ <;> simp at h
  · have hif := h
    have hb := hq _ (memD (0, []) hif)
    have hd : plusL p k (q.take (i + 1)) = putL (plusL p k (q.take i)) (k * (q[i]?.getD (0, [])).1 % 10007) (q[i]?.getD (0, [])).2 := by
      rw [List.take_add_one, plusL_app]; simp [hif, plusL]
    have hw : ∀ m ∈ plusL p k (q.take i), WOk n B m := plusL_wok _ p (fun m hm => hq m (List.mem_of_mem_take hm)) hp
    have hll := plusL_len k (q.take i) p
    have hkl : (q.take i).length ≤ i := by simp; omega
    generalize plusL p k (q.take i) = acc at *
    have bl := hb.len
    have m1 := mul_fits hk hb.num
    have cP := l13Put_c acc (k * (q[i]?.getD (0, [])).1 % 10007) (q[i]?.getD (0, [])).2 (isN_mod _) (fun q hq => ⟨(hw q hq).num, by have := (hw q hq).len; omega⟩) (by omega) (by omega)
    rw [← hd] at cP
    generalize hN : plusL p k (q.take (i + 1)) = nxt at *
    simp [go_sem, mons_drop hif]
    generalize hM : q[i]?.getD (0, []) = a at *
    refine ⟨by kernel_rfl, ⟨hif, by rintro rfl; simp at hif⟩, ?_⟩
    refine CallD.of (l01Mul_c _ _ m1) (by simp [roots, rootsL]) (by decide) ?_
    simp [go_sem]
    simp [go_sem, mons_drop hif, mons_drop1 hif, hM]
    refine ⟨⟨hif, by rintro rfl; simp at hif⟩, ?_⟩
    refine CallD.of (cP) (by simp [go_sem, roots, rootsL]) (by decide) ?_
    simp [go_sem]
    refine ⟨by kernel_rfl, ?_⟩
    simp [go_sem]
    exact ⟨by omega, i + 1, by omega, by omega, Off_reset _ _ _ (by simp), by rw [hN]; exact ⟨rfl, rfl⟩, by omega⟩
  · have e : i = q.length := by omega
    subst e
    have hw : ∀ m ∈ plusL p k q, WOk n B m := plusL_wok _ p hq hp
    have hll := plusL_len k q p
    simp [go_sem]
    refine CallVC.of (l13Copy_c (plusL p k q) (fun m hm => by have := (hw m hm).len; omega) (by omega)) (by decide) ?_
    simp [go_sem]
/-- The exponents of a variable. -/
def oneE (n k : Nat) : List Int := (List.replicate n 0).set k 1
@[simp] theorem oneE_len (n k : Nat) : (oneE n k).length = n := by simp [oneE]
theorem oneE_wok {n k : Nat} : WOk n 1 (1, oneE n k) := by
  refine ⟨⟨by omega, by omega⟩, by simp, fun x hx => ?_⟩
  rcases List.mem_or_eq_of_mem_set hx with hx | rfl
  · obtain ⟨_, rfl⟩ := List.mem_replicate.1 hx
    omega
  · omega
theorem l13One_c (n k : Nat) (hn : n ≤ 1048576) (hk : k < n) : Con Try.prog 203 [.int n, .int k] (.own 2 n (avs (oneE n k))) := by
  refine con_of_vc Try.mixed ⟨6, [], [], []⟩ Try.func203 (by decide) rfl (by simp) (by decide) (by simp [freshOK, freshL, go_sem]) ?_
  rw [Try.ntmps203]
  simp [go_sem]
  refine ⟨⟨by omega, by omega⟩, hk, ?_⟩
  rw [avs_repl, avs_set]; rfl
theorem derL_wok {n i : Nat} {B : Int} (hi : i < n) {p : List Mon} (hp : ∀ m ∈ p, WOk n B m) : ∀ m ∈ derL i p, WOk n B m := derGo_wok hi p [] hp (by simp)
theorem derL_len (i : Nat) (p : List Mon) : (derL i p).length ≤ p.length := by have := derGo_len i p []; unfold derL; simpa using this
theorem prodL_wok {n : Nat} {B C : Int} {p q : List Mon} (hp : ∀ m ∈ p, WOk n B m) (hq : ∀ m ∈ q, WOk n C m) : ∀ m ∈ prodL p q, WOk n (B + C) m := prodGo_wok hq p [] hp (by simp)
theorem prodL_len (p q : List Mon) : (prodL p q).length ≤ p.length * q.length := by have := prodGo_len q p []; unfold prodL; simpa using this
theorem alongGo_wok {n : Nat} {B : Int} {p : List Mon} (hp : ∀ m ∈ p, WOk n B m) : ∀ (f : List (List Mon)) (k : Nat) (acc : List Mon), k + f.length ≤ n → (∀ F ∈ f, ∀ m ∈ F, WOk n 3 m) → (∀ m ∈ acc, WOk n (3 + B) m) → ∀ m ∈ alongGo acc p k f, WOk n (3 + B) m
  | [], _, _, _, _, h => h
  | F :: f, k, acc, hk, hf, h => by
    rw [List.length_cons] at hk
    exact alongGo_wok hp f (k + 1) _ (by omega) (fun G hG => hf G (by simp [hG])) (plusL_wok _ _ (prodL_wok (hf F (by simp)) (derL_wok (by omega) hp)) h)
theorem alongGo_len {N : Nat} {p : List Mon} : ∀ (f : List (List Mon)) (k : Nat) (acc : List Mon), (∀ F ∈ f, F.length ≤ N) → (alongGo acc p k f).length ≤ acc.length + f.length * (N * p.length)
  | [], _, acc, _ => by simp [alongGo]
  | F :: f, k, acc, hf => by
    have h1 := alongGo_len (p := p) f (k + 1) (plusL acc 1 (prodL F (derL k p))) (fun G hG => hf G (by simp [hG]))
    have h2 := plusL_len 1 (prodL F (derL k p)) acc
    have h3 := prodL_len F (derL k p)
    have h4 := Nat.mul_le_mul (hf F (by simp)) (derL_len k p)
    rw [alongGo]
    simp only [List.length_cons, Nat.add_mul, Nat.one_mul]; omega
set_option maxRecDepth 100000 in
theorem l13Along2_c {z B : Int} (f : List (List Mon)) (p : List Mon) (hf : FieldOk z f) (hs : Small f) (h20 : ∀ F ∈ f, F.length ≤ 20) (hB : 0 ≤ B) (hB2 : B ≤ 1000) (hp : ∀ m ∈ p, WOk f.length B m) (hpl : p.length ≤ 10000000000) :
    Con Try.prog 223 [.agg [.int z, .sl f.length (prt f)], .sl p.length (mons p)] (.own 179 (alongL f p).length (omons (alongL f p))) := by
  have z3 := hf.hi
  have zl := hf.len
  have fl : f.length ≤ 3 := by omega
  have hfw : ∀ F ∈ f, ∀ m ∈ F, WOk f.length 3 m := fun F hF m hm => by
    have h := partB_mem (hf.part F hF) hm
    have h1 := h.lo
    have h2 := h.hi
    have h3 := h.len
    exact ⟨⟨by omega, by omega⟩, by omega, h.pw⟩
  refine con_of_vc Try.mixed ⟨7, [], [], []⟩ Try.func223 (by decide) rfl (by simp) (by decide) (by simp [freshOK, freshL, go_sem]) ?_
  rw [Try.ntmps223]
  simp [go_sem]
  refine loop_inv (5 :: 6 :: List.range' 8 18) (fun i : Nat => [(5, .own 179 (alongGo [] p 0 (f.take i)).length (omons (alongGo [] p 0 (f.take i)))), (6, .int i)]) (fun i => i ≤ f.length) (fun i => f.length - i) 0 (by simp) (by simp [go_sem, alongGo, omons]) (by simp [go_sem]) ?_
  intro i hi
  simp [go_sem]
  refine ⟨fun h => ?_, fun h => ?_⟩ <;> simp at h
  · have hif := h
    have hx := memD [] hif
    have hF := hfw _ hx
    have hF2 := h20 _ hx
    have hd : alongGo [] p 0 (f.take (i + 1)) = plusL (alongGo [] p 0 (f.take i)) 1 (prodL (f[i]?.getD []) (derL i p)) := by
      rw [List.take_add_one, alongGo_app]; simp [hif, alongGo, Nat.min_eq_left hi]
    have hw : ∀ m ∈ alongGo [] p 0 (f.take i), WOk f.length (3 + B) m := alongGo_wok hp _ 0 [] (by simp; omega) (fun F hF => hfw F (List.mem_of_mem_take hF)) (by simp)
    have hll := alongGo_len (p := p) (N := 20) (f.take i) 0 [] (fun F hF => h20 F (List.mem_of_mem_take hF))
    have hkl : (f.take i).length ≤ 3 := by simp; omega
    have hk2 := Nat.mul_le_mul_right (20 * p.length) hkl
    simp only [List.length_nil, Nat.zero_add] at hll
    generalize alongGo [] p 0 (f.take i) = acc at *
    generalize hN : alongGo [] p 0 (f.take (i + 1)) = nxt at *
    have cD := l13Derive_c p i hif (by omega) hB (by omega) hp (by omega)
    have dw := derL_wok hif hp
    have dl := derL_len i p
    have pl := prodL_len (f[i]?.getD []) (derL i p)
    have pm := Nat.mul_le_mul hF2 dl
    have cP := l13Product_c (f[i]?.getD []) (derL i p) (by omega) (by omega) (by omega) hB (by omega) hF dw (by omega) (by omega) (by omega)
    have cA := l13Plus_c (k := 1) acc (prodL (f[i]?.getD []) (derL i p)) (by omega) ⟨by omega, by omega⟩ hw (prodL_wok hF dw) (by omega)
    rw [← hd] at cA
    generalize prodL (f[i]?.getD []) (derL i p) = Q at *
    generalize derL i p = D at *
    simp [go_sem, prt_drop hif]
    refine ⟨by kernel_rfl, ⟨hif, by rintro rfl; simp at hif⟩, ?_⟩
    refine CallD.of (cD) (by simp [roots, rootsL]) (by decide) ?_
    simp [go_sem]
    refine CallD.of (cP) (by simp [roots, rootsL]) (by decide) ?_
    simp [go_sem]
    refine CallD.of (cA) (by simp [roots, rootsL]) (by decide) ?_
    simp [go_sem]
    refine ⟨by kernel_rfl, ?_⟩
    simp [go_sem]
    exact ⟨by omega, i + 1, by omega, by omega, Off_reset _ _ _ (by simp), by rw [hN]; exact ⟨rfl, rfl⟩, by omega⟩
  · have e : i = f.length := by omega
    subst e
    simp [go_sem]
    simp [alongL]
/-- A part has at most 20 monomials: there are no more exponents of a sum up to 3. -/
def keys20 : List Key := [(0,0,0),(0,0,1),(0,0,2),(0,0,3),(0,1,0),(0,1,1),(0,1,2),(0,2,0),(0,2,1),(0,3,0),(1,0,0),(1,0,1),(1,0,2),(1,1,0),(1,1,1),(1,2,0),(2,0,0),(2,0,1),(2,1,0),(3,0,0)]
theorem pigeon {α : Type} [DecidableEq α] : ∀ (l E : List α), l.Pairwise (fun a b => a ≠ b) → (∀ x ∈ l, x ∈ E) → l.length ≤ E.length
  | [], _, _, _ => by simp
  | a :: l, E, hn, hs => by
    obtain ⟨h1, h2⟩ := List.pairwise_cons.1 hn
    have ha := hs a (by simp)
    have := pigeon l (E.erase a) h2 (fun x hx => (List.mem_erase_of_ne (Ne.symm (h1 x hx))).2 (hs x (by simp [hx])))
    rw [List.length_erase_of_mem ha] at this
    have hp := List.length_pos_of_mem ha
    simp only [List.length_cons]; omega
theorem in20 {a b c : Int} (ha : 0 ≤ a) (hb : 0 ≤ b) (hc : 0 ≤ c) (h : a + b + c ≤ 3) : ((a, b, c) : Key) ∈ keys20 := by
  have h1 : a = 0 ∨ a = 1 ∨ a = 2 ∨ a = 3 := by omega
  have h2 : b = 0 ∨ b = 1 ∨ b = 2 ∨ b = 3 := by omega
  have h3 : c = 0 ∨ c = 1 ∨ c = 2 ∨ c = 3 := by omega
  rcases h1 with rfl | rfl | rfl | rfl <;> rcases h2 with rfl | rfl | rfl | rfl <;> rcases h3 with rfl | rfl | rfl | rfl <;> first | (exfalso; omega) | decide
theorem part20 {z : Int} {p : List Mon} (hz : z ≤ 3) (h : partB z p = true) : p.length ≤ 20 := by
  have hn := keys_nd hz h
  have := pigeon (p.map fun m => keyOf m.2) keys20 (List.pairwise_map.2 hn) (fun k hk => by
    obtain ⟨m, hm, rfl⟩ := List.mem_map.1 hk
    have ho := partB_mem h hm
    have hl := ho.len
    have hp := ho.pw
    have hd := ho.deg
    obtain ⟨x, e⟩ := m
    simp only at hl hp hd ⊢
    match e, hl, hp, hd with
    | [], _, _, _ => exact in20 (by decide) (by decide) (by decide) (by decide)
    | [a], _, hp, hd => have := hp a (by simp); simp at hd; exact in20 (by simpa [keyOf] using this.1) (by simp) (by simp) (by simp [keyOf]; omega)
    | [a, b], _, hp, hd => have h1 := hp a (by simp); have h2 := hp b (by simp); simp at hd; exact in20 (by simpa [keyOf] using h1.1) (by simpa [keyOf] using h2.1) (by simp) (by simp [keyOf]; omega)
    | [a, b, c], _, hp, hd => have h1 := hp a (by simp); have h2 := hp b (by simp); have h3 := hp c (by simp); simp at hd; exact in20 (by simpa [keyOf] using h1.1) (by simpa [keyOf] using h2.1) (by simpa [keyOf] using h3.1) (by simp [keyOf]; omega)
    | _ :: _ :: _ :: _ :: _, hl, _, _ => simp at hl; omega)
  simpa [keys20] using this
end Go.Proofs.Ytoamidolomldnaa

/- Contracts: held marks of fields. -/
namespace Go.Proofs.Ytoamidolomldnaa
open Go.Abs
set_option linter.unusedVariables false
set_option linter.unusedSimpArgs false
set_option maxHeartbeats 1000000
/-- Fields that are small enough to be counted. -/
def Tiny (f : List (List Mon)) : Prop := f.length ≤ 3 ∧ ∀ p ∈ f, p.length ≤ 100000 ∧ ∀ m ∈ p, m.2.length ≤ 3
theorem sumC_bound {α : Type} (c : α → Nat) (B : Nat) : ∀ l : List α, (∀ a ∈ l, c a ≤ B) → sumC c l ≤ l.length * B + l.length
  | [], _ => by simp [sumC]
  | a :: l, h => by
    have h1 := h a (by simp)
    have h2 := sumC_bound c B l (fun b hb => h b (by simp [hb]))
    simp only [sumC, List.length_cons, Nat.add_mul, Nat.one_mul]
    omega
theorem Tiny.small {f : List (List Mon)} (h : Tiny f) : f.length ≤ 1048576 ∧ ∀ p ∈ f, p.length ≤ 1048576 ∧ ∀ m ∈ p, m.2.length ≤ 1048576 :=
  ⟨by have := h.1; omega, fun p hp => ⟨by have := (h.2 p hp).1; omega, fun m hm => by have := (h.2 p hp).2 m hm; omega⟩⟩
theorem Tiny.fit {f : List (List Mon)} (h : Tiny f) : Fit f :=
  ⟨by have := h.1; omega, fun p hp => ⟨by have := (h.2 p hp).1; omega, fun m hm => by have := (h.2 p hp).2 m hm; omega⟩⟩
theorem Tiny.count {f : List (List Mon)} (h : Tiny f) : sumC cP f ≤ 10000000 := by
  have h1 : ∀ p ∈ f, cP p ≤ 600000 := fun p hp => by
    have l := (h.2 p hp).1
    have := sumC_bound cM 3 p (fun m hm => (h.2 p hp).2 m hm)
    unfold cP
    omega
  have := sumC_bound cP 600000 f h1
  have := h.1
  omega
theorem marksS_app : ∀ (p q : List Mon) (k : Int), marksS (p ++ q) k = marksS p k ++ marksS q (k + cP p)
  | [], q, k => by simp [marksS, cP, sumC]
  | m :: p, q, k => by
    have e : k + 1 + (m.2.length : Int) + cP p = k + cP (m :: p) := by simp [cP, sumC, cM]; omega
    simp [marksS, marksS_app p q, e]
theorem marksS_at {p : List Mon} {i : Nat} (h : i < p.length) (k : Int) : (marksS p k)[i]?.getD (0, []) = (k + cP (p.take i), marks p[i].2.length (k + cP (p.take i) + 1)) := by
  have hs : marksS p k = marksS (p.take i) k ++ marksS (p.drop i) (k + cP (p.take i)) := by rw [← marksS_app, List.take_append_drop]
  rw [hs, List.getElem?_append_right (by simp; omega), List.drop_eq_getElem_cons h]
  simp [marksS, Nat.min_eq_left (Nat.le_of_lt h)]
theorem marksP_app : ∀ (f g : List (List Mon)) (k : Int), marksP (f ++ g) k = marksP f k ++ marksP g (k + sumC cP f)
  | [], g, k => by simp [marksP, sumC]
  | q :: f, g, k => by
    have e : k + (cP q : Int) + sumC cP f = k + sumC cP (q :: f) := by simp [sumC]; omega
    simp [marksP, marksP_app f g, e]
end Go.Proofs.Ytoamidolomldnaa

/- The statement's function over stability series, walked: it answers true. -/
namespace Go.Proofs.Ytoamidolomldnaa
open Go.Abs
set_option linter.unusedVariables false
set_option linter.unusedSimpArgs false
set_option maxHeartbeats 1000000
theorem szRs_ok : ∀ (A : List (List Int)) {left : Int}, 0 ≤ left → 0 ≤ szRs left A → (sumL A : Int) ≤ left ∧ szRs left A = left - sumL A ∧ ∀ r ∈ A, (r.length : Int) ≤ left
  | [], left, h0, h => by simp [szRs, sumL]; exact h0
  | r :: rs, left, h0, h => by
    rw [szRs] at h ⊢
    split at h
    · omega
    · rename_i hs
      have e : szR left r.length = left - r.length := by
        unfold szR at hs ⊢
        by_cases h1 : left - (r.length : Int) < 0
        · rw [if_pos h1] at hs; omega
        · rw [if_neg h1]
      rw [e] at hs h
      have := szRs_ok rs (by omega) h
      rw [if_neg (by rw [e]; exact hs), e]
      refine ⟨by simp [sumL]; omega, by simp [sumL]; omega, fun q hq => ?_⟩
      rcases List.mem_cons.1 hq with rfl | hq
      · omega
      · have := this.2.2 q hq; omega
theorem szM_ok {A : List (List Int)} {left : Int} (h0 : 0 ≤ left) (h : 0 ≤ szM left A) : (A.length : Int) + sumL A ≤ left ∧ szM left A = left - A.length - sumL A ∧ ∀ r ∈ A, (r.length : Int) ≤ left := by
  unfold szM at h ⊢
  split at h
  · omega
  · rename_i hs
    have e : szR left A.length = left - A.length := by
      unfold szR at hs ⊢
      by_cases h1 : left - (A.length : Int) < 0
      · rw [if_pos h1] at hs; omega
      · rw [if_neg h1]
    rw [e] at hs h
    rw [if_neg (by rw [e]; exact hs), e]
    have := szRs_ok A (by omega) h
    refine ⟨by omega, by omega, fun r hr => by have := this.2.2 r hr; omega⟩
/-- What is left behind a tableau. -/
def szT (A : List (List Int)) (B : List Int) (left : Int) : Int := if szM left A < 0 then -1 else szR (szM left A) B.length
theorem szTableau_c (A : List (List Int)) (B : List Int) (left : Int) (hA : A.length ≤ 9223372036854775807) (hr : ∀ r ∈ A, r.length ≤ 9223372036854775807) (hB : B.length ≤ 9223372036854775807) (h0 : 0 ≤ left) (h1 : left ≤ 9223372036854775807) :
    Con Try.prog 11 [.agg [.sl A.length (mat A), .sl B.length (avs B)], .int left] (.int (szT A B left)) := by
  refine con_of_vc Try.mixed ⟨5, [], [], []⟩ Try.func11 (by decide) rfl (by simp) (by decide) (by simp [freshOK, freshL, go_sem]) ?_
  rw [Try.ntmps11]
  simp [go_sem]
  refine CallVC.of (szInt64SS_c A left hA hr h0 h1) (by decide) ?_
  simp [go_sem]
  unfold szT
  by_cases h : szM left A < 0
  · simp [go_sem, h]
  · have := szM_ok h0 (by omega : 0 ≤ szM left A)
    simp [go_sem, h]
    refine CallVC.of (szInt64S_c B.length _ (szM left A) hB (by omega) (by omega)) (by decide) ?_
    simp [go_sem]
    have h3 := szR_ge (szM left A) B.length
    by_cases h2 : szR (szM left A) B.length < 0
    · simp [go_sem, h2]
      omega
    · simp [go_sem, h2]
theorem szT_ok {A : List (List Int)} {B : List Int} {left : Int} (h0 : 0 ≤ left) (h : 0 ≤ szT A B left) : (A.length : Int) + sumL A + B.length ≤ left ∧ ∀ r ∈ A, (r.length : Int) ≤ left := by
  unfold szT at h
  split at h
  · omega
  · rename_i h1
    have := szM_ok h0 (by omega : 0 ≤ szM left A)
    unfold szR at h
    split at h
    · omega
    · exact ⟨by omega, this.2.2⟩
theorem stabX_len (A : List (List Int)) (B : List Int) (n : Int) : (stabX A B n).length ≤ 16 := by
  unfold stabX
  split
  · simp; omega
  · simp
end Go.Proofs.Ytoamidolomldnaa

/- Contracts: sums and multiples of rows, copies, explicit tableaus, the codes of steps. -/
namespace Go.Proofs.Ytoamidolomldnaa
open Go.Abs
set_option linter.unusedVariables false
set_option linter.unusedSimpArgs false
set_option maxHeartbeats 4000000
def plusS (a b : List Int) (k : Int) : List Int := tb (fun i => (a[i]?.getD 0 + k % 10007 * b[i]?.getD 0) % 10007) a.length
@[simp] theorem plusS_len (a b : List Int) (k : Int) : (plusS a b k).length = a.length := by simp [plusS]
theorem plusS_N (a b : List Int) (k : Int) : Ns (plusS a b k) := tb_N fun i _ => isN_mod _
def scalS (a : List Int) (k : Int) : List Int := tb (fun i => a[i]?.getD 0 * (k % 10007) % 10007) a.length
@[simp] theorem scalS_len (a : List Int) (k : Int) : (scalS a k).length = a.length := by simp [scalS]
theorem scalS_N (a : List Int) (k : Int) : Ns (scalS a k) := tb_N fun i _ => isN_mod _
theorem plus_c (a b : List Int) (k : Int) (ha : Ns a) (hb : Ns b) (hk : fits k) (hl : a.length ≤ 1048576) (hab : a.length ≤ b.length) :
    Con Try.prog 159 [.sl a.length (avs a), .sl b.length (avs b), .int k] (.own 2 a.length (avs (plusS a b k))) := by
  refine con_of_vc Try.mixed ⟨10, [], [], []⟩ Try.func159 (by decide) rfl (by simp) (by decide) (by simp [freshOK, freshL, go_sem]) ?_
  rw [Try.ntmps159]
  simp [go_sem]
  refine loop_inv (7 :: 8 :: 9 :: List.range' 13 19) (fun i : Nat => [(7, .own 2 i (avs (tb (fun i => (a[i]?.getD 0 + k % 10007 * b[i]?.getD 0) % 10007) i))), (13, .int i)]) (fun i => i ≤ a.length) (fun i => a.length - i) 0 (by simp) (by simp [go_sem]) (by simp [go_sem]) ?_
  intro i hi
  simp [go_sem]
  refine ⟨fun h => ?_, fun h => ?_⟩ <;> simp at h
  · have h2 : i < b.length := by omega
    have m1 := mul_bound (isN_mod k) (hb.get i)
    have m2 := ha.get i
    have f1 : fits (k % 10007 * b[i]?.getD 0) := ⟨by omega, by omega⟩
    have f2 : fits (a[i]?.getD 0 + k % 10007 * b[i]?.getD 0) := by obtain ⟨x0, x1⟩ := m2; exact ⟨by omega, by omega⟩
    simp [go_sem, avs_drop h, avs_drop h2]
    refine ⟨⟨h, by rintro rfl; simp at h⟩, by kernel_rfl, ?_⟩
    refine CallD.of (num_c _ hk.1 hk.2) (by simp [roots, rootsL]) (by decide) ?_
    simp [go_sem]
    simp [go_sem, avs_drop h, avs_drop h2]
    refine ⟨⟨h2, by rintro rfl; simp at h2⟩, f1, f2, ?_⟩
    refine CallD.of (num_c _ f2.1 f2.2) (by simp [roots, rootsL]) (by decide) ?_
    simp [go_sem]
    refine ⟨by omega, ?_⟩
    refine ⟨by kernel_rfl, ?_⟩
    simp [go_sem]
    exact ⟨by omega, i + 1, by omega, by omega, Off_reset _ _ _ (by simp), by simp [tb_succ, avs_snoc], by omega⟩
  · have e : i = a.length := by omega
    subst e
    simp [go_sem]
    rfl
theorem scaled_c (a : List Int) (k : Int) (ha : Ns a) (hk : fits k) (hl : a.length ≤ 1048576) :
    Con Try.prog 94 [.sl a.length (avs a), .int k] (.own 2 a.length (avs (scalS a k))) := by
  refine con_of_vc Try.mixed ⟨8, [], [], []⟩ Try.func94 (by decide) rfl (by simp) (by decide) (by simp [freshOK, freshL, go_sem]) ?_
  rw [Try.ntmps94]
  simp [go_sem]
  refine loop_inv (5 :: 7 :: List.range' 11 13) (fun i : Nat => [(5, .own 2 i (avs (tb (fun i => a[i]?.getD 0 * (k % 10007) % 10007) i))), (11, .int i)]) (fun i => i ≤ a.length) (fun i => a.length - i) 0 (by simp) (by simp [go_sem]) (by simp [go_sem]) ?_
  intro i hi
  simp [go_sem]
  refine ⟨fun h => ?_, fun h => ?_⟩ <;> simp at h
  · have f1 := mul_fits (ha.get i) (isN_mod k)
    simp [go_sem, avs_drop h]
    refine ⟨⟨h, by rintro rfl; simp at h⟩, ?_⟩
    refine CallVC.of (num_c _ hk.1 hk.2) (by decide) ?_
    simp [go_sem]
    refine ⟨f1, ?_⟩
    refine CallVC.of (num_c _ f1.1 f1.2) (by decide) ?_
    simp [go_sem]
    exact ⟨by omega, by omega, i + 1, by omega, by omega, Off_reset _ _ _ (by simp), by simp [tb_succ, avs_snoc], by omega⟩
  · have e : i = a.length := by omega
    subst e
    simp [go_sem]
    rfl
theorem Clone_c (xs : List Int) (hl : xs.length ≤ 1048576) : Con Try.prog 180 [.sl xs.length (avs xs)] (.own 2 xs.length (avs xs)) := by
  refine con_of_vcN Try.mixed ⟨3, [], [], []⟩ Try.func180 (by decide) rfl (by simp) (by decide) (by simp [freshOK, freshL, go_sem]) ?_
  rw [Try.ntmps180]
  simp [go_sem]
  exact ⟨by omega, by omega⟩
/-- That rows have zeros alone from a distance on. -/
def lowB (A : List (List Int)) (d : Nat) : Bool := (List.range A.length).all fun i => (List.range (A[i]?.getD []).length).all fun k => decide (k < i + d) || decide ((A[i]?.getD [])[k]?.getD 0 = 0)
theorem lowB_no {A : List (List Int)} {d i k : Nat} (hi : i < A.length) (hk : k < (A[i]?.getD []).length) (h1 : i + d ≤ k) (h2 : (A[i]?.getD [])[k]?.getD 0 ≠ 0) : lowB A d = false := by
  unfold lowB
  rw [List.all_eq_false]
  refine ⟨i, by simpa using hi, ?_⟩
  rw [Bool.not_eq_true, List.all_eq_false]
  exact ⟨k, by simpa using hk, by simp [h2]; omega⟩
theorem lowB_yes {A : List (List Int)} {d : Nat} (h : ∀ i, i < A.length → ∀ k, k < (A[i]?.getD []).length → i + d ≤ k → (A[i]?.getD [])[k]?.getD 0 = 0) : lowB A d = true := by
  unfold lowB
  rw [List.all_eq_true]
  intro i hi
  rw [List.all_eq_true]
  intro k hk
  by_cases h1 : k < i + d
  · simp [h1]
  · simp [h i (by simpa using hi) k (by simpa using hk) (by omega)]
end Go.Proofs.Ytoamidolomldnaa

/- Contracts: sums of maps, derivatives along vectors. -/
namespace Go.Proofs.Ytoamidolomldnaa
open Go.Abs
set_option linter.unusedVariables false
set_option linter.unusedSimpArgs false
set_option maxHeartbeats 1000000
def MapN (c : Key → Option Int) : Prop := ∀ k x, c k = some x → isN x
set_option maxRecDepth 100000 in
theorem add_c (o q : Key → Option Int) (x : Int) (ho : MapN o) (hq : MapN q) (hx : fits x) :
    MCon Try.prog 248 [.mp o, .fmp q, .int x] (.tup []) [.mp (addM o q x), .any, .any] := by
  refine mcon_of_vc Try.mixed ⟨8, [], [], []⟩ [] [0] Try.func248 (by decide) rfl rfl (by simp) (by simp) (by simp) (by decide) ?_
  rw [Try.ntmps248]
  simp [go_sem]
  intro es hes
  have hval : ∀ e ∈ es, q e.1 = some e.2 := fun e he => hes.val e he
  refine loop_inv (0 :: 6 :: 7 :: List.range' 9 17) (fun y : Option (Key × Int) × List (Key × Int) => [(0, .mp (remA o q x y.2)), (9, .it y.1 y.2)]) (fun y => y.2.Pairwise (fun a b => a.1 ≠ b.1) ∧ ∀ e ∈ y.2, q e.1 = some e.2) (fun y => y.2.length) (none, es) ⟨hes.nd, hval⟩ (by simp [go_sem, remA_start hes]) (by simp [go_sem]) ?_
  rintro ⟨l, rem⟩ ⟨hnd, hrem⟩
  simp only at hnd hrem
  simp [go_sem, keyAV]
  refine ⟨fun hr => ?_, fun l1 k0 k1 k2 b l2 hr => ?_⟩
  · subst hr
    exact remA_end o q x
  · subst hr
    have hcx := hrem ((k0, k1, k2), b) (by simp)
    have hb : isN b := hq _ _ hcx
    have hnd2 : (l1 ++ l2).Pairwise (fun a b => a.1 ≠ b.1) := hnd.sublist (List.Sublist.append (List.Sublist.refl _) (List.sublist_cons_self _ _))
    have hrem2 : ∀ a b c' y, ((a, b, c'), y) ∈ l1 ++ l2 → q (a, b, c') = some y := fun a b c' y hm => hrem ((a, b, c'), y) (by
      rcases List.mem_append.1 hm with hm | hm <;> simp [hm])
    have hz : remA o q x (l1 ++ ((k0, k1, k2), b) :: l2) (k0, k1, k2) = o (k0, k1, k2) := remA_at
    have hs : mset (remA o q x (l1 ++ ((k0, k1, k2), b) :: l2)) (k0, k1, k2) (((o (k0, k1, k2)).getD 0 + x % 10007 * b) % 10007) = remA o q x (l1 ++ l2) := remA_step hnd hcx
    have ho0 : isN ((o (k0, k1, k2)).getD 0) := by
      cases hh : o (k0, k1, k2) with
      | none => simp [isN]
      | some v => exact ho _ _ hh
    simp [go_sem, hz]
    refine ⟨by kernel_rfl, ?_⟩
    refine CallD.of (num_c _ hx.1 hx.2) (by simp [roots, rootsL]) (by decide) ?_
    simp [go_sem]
    generalize (o (k0, k1, k2)).getD 0 = w at *
    have hm := mul_bound (isN_mod x) hb
    have hf1 : fits (x % 10007 * b) := ⟨by omega, by omega⟩
    have hf2 : fits (w + x % 10007 * b) := by obtain ⟨w0, w1⟩ := ho0; exact ⟨by omega, by omega⟩
    refine ⟨hf1, hf2, ?_⟩
    refine CallD.of (num_c _ hf2.1 hf2.2) (by simp [roots, rootsL]) (by decide) ?_
    simp [go_sem]
    refine ⟨by kernel_rfl, ?_⟩
    simp [go_sem]
    exact ⟨_, _, ⟨hnd2, hrem2⟩, by simp; try omega, Off_reset _ _ _ (by simp), hs, rfl, rfl⟩
theorem derM_N {i : Nat} {c : Key → Option Int} : MapN (derM i c) := by
  intro k x hx
  unfold derM at hx
  split at hx
  · split at hx
    · injection hx with hx; rw [← hx]; exact isN_mod _
    · simp at hx
  · simp at hx
theorem addM_N {o q : Key → Option Int} {x : Int} (ho : MapN o) : MapN (addM o q x) := by
  intro k a ha
  unfold addM at ha
  split at ha
  · injection ha with ha; rw [← ha]; exact isN_mod _
  · exact ho k a ha
theorem aloM_N (v : List Int) (c : Key → Option Int) : ∀ n, MapN (aloM v c n)
  | 0 => by intro k a ha; simp [aloM, mzero] at ha
  | n + 1 => addM_N (aloM_N v c n)
theorem addM_kok {n : Nat} {o q : Key → Option Int} {x : Int} (ho : ∀ k a, o k = some a → isN a ∧ KOk n k) (hq : ∀ k a, q k = some a → isN a ∧ KOk n k) : ∀ k a, addM o q x k = some a → isN a ∧ KOk n k := by
  intro k a ha
  unfold addM at ha
  split at ha
  · rename_i b hb
    injection ha with ha; rw [← ha]; exact ⟨isN_mod _, (hq k b hb).2⟩
  · exact ho k a ha
theorem aloM_kok {n : Nat} {v : List Int} {c : Key → Option Int} (hn : n ≤ 3) (hc : ∀ k x, c k = some x → isN x ∧ KOk n k) : ∀ m, m ≤ n → ∀ k x, aloM v c m k = some x → isN x ∧ KOk n k
  | 0, _ => by intro k x hx; simp [aloM, mzero] at hx
  | m + 1, hm => addM_kok (aloM_kok hn hc m (by omega)) (derM_ok (by omega) hn hc)
set_option maxRecDepth 100000 in
theorem along_c {n : Nat} (c : Key → Option Int) (v : List Int) (hv : Ns v) (hl : v.length = n) (hn : n ≤ 3) (hc : ∀ k x, c k = some x → isN x ∧ KOk n k) :
    Con Try.prog 205 [.fmp c, .sl v.length (avs v)] (.mp (aloM v c n)) := by
  refine con_of_vc Try.mixed ⟨8, [19], [248], []⟩ Try.func205 (by decide) rfl (by simp) (by decide) (by simp [freshOK, freshL, go_sem]) ?_
  rw [Try.ntmps205]
  simp [go_sem]
  refine loop_inv (5 :: 6 :: 7 :: List.range' 11 12) (fun i : Nat => [(5, .mp (aloM v c i)), (11, .int i)]) (fun i => i ≤ n) (fun i => n - i) 0 (by simp) (by simp [go_sem, aloM]) (by simp [go_sem]) ?_
  intro i hi
  simp [go_sem]
  refine ⟨fun h => ?_, fun h => ?_⟩ <;> simp at h
  · have hy : yat v i = v[i]?.getD 0 := rfl
    have cD := derivative_c (n := n) c i (by omega) hn hc
    have cA := add_c (aloM v c i) (derM i c) (v[i]?.getD 0) (aloM_N v c i) derM_N (by have := hv.get i; exact ⟨by obtain ⟨a, b⟩ := this; omega, by obtain ⟨a, b⟩ := this; omega⟩)
    simp [go_sem, avs_drop h]
    refine ⟨⟨h, by rintro rfl; simp at h⟩, ?_⟩
    refine CallVC.of (cD) (by decide) ?_
    simp [go_sem]
    refine ⟨_, _, cA, ?_⟩
    simp [go_sem]
    exact ⟨by omega, i + 1, by omega, by omega, Off_reset _ _ _ (by simp), rfl, by omega⟩
  · simp [go_sem]
    have e : i = n := by omega
    subst e; rfl
end Go.Proofs.Ytoamidolomldnaa

/- Contracts: products of polynomials held in maps, linear polynomials, the program's. -/
namespace Go.Proofs.Ytoamidolomldnaa
open Go.Abs
set_option linter.unusedVariables false
set_option linter.unusedSimpArgs false
set_option maxHeartbeats 1000000
/-- Terms added up in a map. -/
def cfT (T : List (Key × Int)) (k : Key) : Int := coef Prod.fst Prod.snd T k
def mapT (T : List (Key × Int)) : Key → Option Int := fun k => if hasK T k = true then some (cfT T k % 10007) else none
theorem cfT_app (a b : List (Key × Int)) (k : Key) : cfT (a ++ b) k = cfT a k + cfT b k := sumI_app _ a b
theorem cfT_perm {a b : List (Key × Int)} (h : a.Perm b) (k : Key) : cfT a k = cfT b k := by
  induction h with
  | nil => rfl
  | cons x _ ih => simp only [cfT, coef, sumI] at ih ⊢; rw [ih]
  | swap x y l => simp only [cfT, coef, sumI]; omega
  | trans _ _ i1 i2 => rw [i1, i2]
theorem hasK_perm {a b : List (Key × Int)} (h : a.Perm b) (k : Key) : hasK a k = hasK b k := by
  cases hb : hasK b k with
  | true =>
    obtain ⟨e, he, hk⟩ := hasK_iff.1 hb
    exact hasK_iff.2 ⟨e, h.mem_iff.2 he, hk⟩
  | false =>
    cases ha : hasK a k with
    | false => rfl
    | true =>
      obtain ⟨e, he, hk⟩ := hasK_iff.1 ha
      rw [hasK_iff.2 ⟨e, h.mem_iff.1 he, hk⟩] at hb
      simp at hb
theorem mapT_perm {a b : List (Key × Int)} (h : a.Perm b) : mapT a = mapT b := by
  funext k
  unfold mapT
  rw [hasK_perm h, cfT_perm h]
theorem mapT_nil : mapT [] = mzero := by funext k; simp [mapT, hasK, mzero]
theorem cfT_none {T : List (Key × Int)} {k : Key} (h : hasK T k = false) : cfT T k = 0 := by
  unfold cfT coef
  refine sumI_zero (fun e he => if_neg (fun e1 => ?_))
  rw [hasK_iff.2 ⟨e, he, e1.symm⟩] at h
  simp at h
theorem mapT_get (T : List (Key × Int)) (k : Key) : (mapT T k).getD 0 = cfT T k % 10007 := by
  unfold mapT
  cases h : hasK T k with
  | true => simp
  | false => simp [cfT_none h]
theorem mapT_N {T : List (Key × Int)} {k : Key} : isN ((mapT T k).getD 0) := by rw [mapT_get]; exact isN_mod _
theorem mapT_snoc (T : List (Key × Int)) (k0 : Key) (v : Int) : mset (mapT T) k0 (((mapT T k0).getD 0 + v) % 10007) = mapT (T ++ [(k0, v)]) := by
  funext k
  unfold mset
  by_cases hk : k = k0
  · subst hk
    rw [if_pos rfl, mapT_get]
    have h1 : hasK (T ++ [(k, v)]) k = true := by simp [hasK]
    have h2 : cfT (T ++ [(k, v)]) k = cfT T k + v := by rw [cfT_app]; simp [cfT, coef, sumI]
    simp only [mapT, h1, h2, if_true]
    congr 1
    omega
  · rw [if_neg hk]
    have h1 : hasK (T ++ [(k0, v)]) k = hasK T k := by
      simp only [hasK, List.any_append, List.any_cons, List.any_nil, Bool.or_false]
      rw [decide_eq_false (fun e => hk e.symm)]; simp
    have h2 : cfT (T ++ [(k0, v)]) k = cfT T k := by rw [cfT_app]; simp [cfT, coef, sumI, hk]
    simp only [mapT, h1, h2]
def addK (a b : Key) : Key := (a.1 + b.1, a.2.1 + b.2.1, a.2.2 + b.2.2)
/-- The terms of a product. -/
def prE (e : Key × Int) (E : List (Key × Int)) : List (Key × Int) := E.map fun d => (addK e.1 d.1, e.2 * d.2)
def prT (D E : List (Key × Int)) : List (Key × Int) := D.flatMap fun e => prE e E
theorem prT_cons (e : Key × Int) (D E : List (Key × Int)) : prT (e :: D) E = prE e E ++ prT D E := rfl
theorem prT_app (A D E : List (Key × Int)) : prT (A ++ D) E = prT A E ++ prT D E := by simp [prT]
theorem prE_app (e : Key × Int) (A E : List (Key × Int)) : prE e (A ++ E) = prE e A ++ prE e E := by simp [prE]
theorem prE_perm (e : Key × Int) {A E : List (Key × Int)} (h : A.Perm E) : (prE e A).Perm (prE e E) := h.map _
theorem prT_perm {A D : List (Key × Int)} (E : List (Key × Int)) (h : A.Perm D) : (prT A E).Perm (prT D E) := by
  induction h with
  | nil => exact .refl _
  | cons x _ ih => rw [prT_cons, prT_cons]; exact ih.append_left _
  | swap x y l =>
    rw [prT_cons, prT_cons, prT_cons, prT_cons, ← List.append_assoc, ← List.append_assoc]
    exact List.perm_append_comm.append_right _
  | trans _ _ i1 i2 => exact i1.trans i2
theorem prT_mid (l1 l2 E : List (Key × Int)) (e : Key × Int) (T : List (Key × Int)) : ((T ++ prE e E) ++ prT (l1 ++ l2) E).Perm (T ++ prT (l1 ++ e :: l2) E) := by
  rw [List.append_assoc]
  refine List.Perm.append_left _ ?_
  rw [prT_app, prT_app, prT_cons, ← List.append_assoc, ← List.append_assoc]
  exact List.perm_append_comm.append_right _
theorem prE_mid (l1 l2 : List (Key × Int)) (e d : Key × Int) (T : List (Key × Int)) : ((T ++ [(addK e.1 d.1, e.2 * d.2)]) ++ prE e (l1 ++ l2)).Perm (T ++ prE e (l1 ++ d :: l2)) := by
  rw [List.append_assoc]
  refine List.Perm.append_left _ ?_
  rw [prE_app, prE_app]
  show ([(addK e.1 d.1, e.2 * d.2)] ++ (prE e l1 ++ prE e l2)).Perm (prE e l1 ++ ([(addK e.1 d.1, e.2 * d.2)] ++ prE e l2))
  rw [← List.append_assoc, ← List.append_assoc]
  exact List.perm_append_comm.append_right _
def zdE (a b : List Int) (j : Nat) : List Int := (List.range 3).map fun t => if t < j then a[t]?.getD 0 + b[t]?.getD 0 else 0
@[simp] theorem zdE_len (a b : List Int) (j : Nat) : (zdE a b j).length = 3 := by simp [zdE]
theorem zdE_set {a b : List Int} {j : Nat} (h : j < 3) : (zdE a b j).set j (a[j]?.getD 0 + b[j]?.getD 0) = zdE a b (j + 1) := by
  refine List.ext_getElem (by simp) fun i h1 h2 => ?_
  simp at h1
  rw [List.getElem_set]
  by_cases e : j = i
  · subst e; simp [zdE]
  · simp only [e, if_false, zdE, List.getElem_map, List.getElem_range]
    by_cases h3 : i < j
    · simp [h3, show i < j + 1 by omega]
    · simp [h3, show ¬ i < j + 1 by omega]
theorem zdE_all (a b c d e f : Int) : avs (zdE [a, b, c] [d, e, f] 3) = [.int (a + d), .int (b + e), .int (c + f)] := by
  simp [zdE, avs, List.range, List.range.loop]
theorem eok_at {k0 k1 k2 x : Int} (h : EOk ((k0, k1, k2), x)) : ∀ i : Nat, 0 ≤ ([k0, k1, k2] : List Int)[i]?.getD 0 ∧ ([k0, k1, k2] : List Int)[i]?.getD 0 ≤ 1000 := by
  obtain ⟨_, a1, a2, a3, a4, a5, a6⟩ := h
  intro i
  match i with
  | 0 => exact ⟨a1, a2⟩
  | 1 => exact ⟨a3, a4⟩
  | 2 => exact ⟨a5, a6⟩
  | i + 3 => simp
end Go.Proofs.Ytoamidolomldnaa

/- Plain: sorted lists of monomials, their coefficients; sums of products both ways. -/
namespace Go.Proofs.Ytoamidolomldnaa
open Go.Abs
set_option linter.unusedVariables false
set_option linter.unusedSimpArgs false
set_option maxHeartbeats 1000000
theorem ltL_tri : ∀ {a b : List Int}, a.length = b.length → a ≠ b → ltL a b = false → ltL b a = true
  | [], [], _, h, _ => absurd rfl h
  | x :: a, y :: b, hl, h, h2 => by
    simp only [ltL] at h2 ⊢
    by_cases e : x = y
    · subst e
      simp only [if_true] at h2 ⊢
      exact ltL_tri (by simpa using hl) (fun e => h (by rw [e])) h2
    · rw [if_neg e] at h2
      rw [if_neg (fun x => e x.symm)]
      simp at h2 ⊢
      omega
/-- Sorted lists, without zero factors. -/
def Srt (L : List Mon) : Prop := L.Pairwise (fun a b => ltL a.2 b.2 = true)
def Nzl (L : List Mon) : Prop := ∀ m ∈ L, 1 ≤ m.1 ∧ m.1 ≤ 10006
theorem putGo_keys {c : Int} {e : List Int} : ∀ (l : List Mon) (done : Bool), ∀ x ∈ putGo c e l done, (∃ m ∈ l, x.2 = m.2) ∨ (done = false ∧ x.2 = e)
  | [], true, x, hx => by simp [putGo] at hx
  | [], false, x, hx => by simp [putGo] at hx; rw [hx]; exact .inr ⟨rfl, rfl⟩
  | a :: l, done, x, hx => by
    have one : ∀ b : Mon, b.2 = a.2 → x ∈ (if b.1 = 0 then [] else [b]) → (∃ m ∈ a :: l, x.2 = m.2) ∨ (done = false ∧ x.2 = e) := fun b hb hxx => by
      split at hxx
      · simp at hxx
      · simp at hxx; exact .inl ⟨a, by simp, by rw [hxx, hb]⟩
    have tl : ∀ d, (d = true ∨ d = done) → x ∈ putGo c e l d → (∃ m ∈ a :: l, x.2 = m.2) ∨ (done = false ∧ x.2 = e) := fun d hd hxx => by
      rcases putGo_keys l d x hxx with ⟨m, hm, hk⟩ | ⟨h1, h2⟩
      · exact .inl ⟨m, by simp [hm], hk⟩
      · rcases hd with rfl | rfl
        · simp at h1
        · exact .inr ⟨h1, h2⟩
    rw [putGo] at hx
    split at hx
    · rcases List.mem_append.1 hx with hx | hx
      · exact one ((a.1 + c) % 10007, a.2) rfl hx
      · exact tl true (.inl rfl) hx
    · split at hx
      · rename_i h
        rcases List.mem_cons.1 hx with hx | hx
        · exact .inr ⟨h.1, by rw [hx]⟩
        · rcases List.mem_append.1 hx with hx | hx
          · exact one a rfl hx
          · exact tl true (.inl rfl) hx
      · rcases List.mem_append.1 hx with hx | hx
        · exact one a rfl hx
        · exact tl done (.inr rfl) hx
theorem putGo_srt {n : Nat} {c : Int} {e : List Int} (he : e.length = n) : ∀ (l : List Mon) (done : Bool), (∀ m ∈ l, m.2.length = n) → Srt l → Srt (putGo c e l done)
  | [], true, _, _ => by simp [putGo, Srt]
  | [], false, _, _ => by simp [putGo, Srt]
  | a :: l, done, hl, hs => by
    obtain ⟨h1, h2⟩ := List.pairwise_cons.1 hs
    have ih := fun d => putGo_srt (c := c) he l d (fun m hm => hl m (by simp [hm])) h2
    have cons : ∀ (b : Mon) (d : Bool), b.2 = a.2 → (d = true ∨ ltL a.2 e = true) → Srt ((if b.1 = 0 then [] else [b]) ++ putGo c e l d) := fun b d hb hd => by
      split
      · exact ih d
      · refine List.pairwise_cons.2 ⟨fun x hx => ?_, ih d⟩
        rw [hb]
        rcases putGo_keys l d x hx with ⟨m, hm, hk⟩ | ⟨h3, h4⟩
        · rw [hk]; exact h1 m hm
        · rw [h4]
          rcases hd with rfl | hd
          · simp at h3
          · exact hd
    rw [putGo]
    split
    · exact cons ((a.1 + c) % 10007, a.2) true rfl (.inl rfl)
    · rename_i n1
      split
      · rename_i h
        refine List.pairwise_cons.2 ⟨fun x hx => ?_, cons a true rfl (.inl rfl)⟩
        have key : (∃ m ∈ a :: l, x.2 = m.2) := by
          rcases List.mem_append.1 hx with hx | hx
          · split at hx
            · simp at hx
            · simp at hx; exact ⟨a, by simp, by rw [hx]⟩
          · rcases putGo_keys l true x hx with ⟨m, hm, hk⟩ | ⟨h3, _⟩
            · exact ⟨m, by simp [hm], hk⟩
            · simp at h3
        obtain ⟨m, hm, hk⟩ := key
        show ltL e x.2 = true
        rw [hk]
        rcases List.mem_cons.1 hm with rfl | hm
        · exact h.2
        · exact ltL_trans h.2 (h1 m hm)
      · rename_i n2
        cases done with
        | true => exact cons a true rfl (.inl rfl)
        | false =>
          have ne : a.2 ≠ e := fun x => n1 ⟨rfl, x⟩
          have nl : ltL e a.2 = false := by
            cases hb : ltL e a.2 with
            | false => rfl
            | true => exact absurd ⟨rfl, hb⟩ n2
          exact cons a false rfl (.inr (ltL_tri (by rw [he, hl a (by simp)]) (fun x => ne x.symm) nl))
theorem putGo_nz {c : Int} {e : List Int} (hc : 1 ≤ c ∧ c ≤ 10006) : ∀ (l : List Mon) (done : Bool), Nzl l → Nzl (putGo c e l done)
  | [], true, _ => by simp [putGo, Nzl]
  | [], false, _ => by intro m hm; simp [putGo] at hm; rw [hm]; exact hc
  | a :: l, done, hl => by
    have ha := hl a (by simp)
    have ih := fun d => putGo_nz (e := e) hc l d (fun m hm => hl m (by simp [hm]))
    have one : ∀ b : Mon, (b.1 = 0 ∨ 1 ≤ b.1 ∧ b.1 ≤ 10006) → ∀ L, Nzl L → Nzl ((if b.1 = 0 then [] else [b]) ++ L) := fun b hb L hL m hm => by
      rcases List.mem_append.1 hm with hm | hm
      · split at hm
        · simp at hm
        · rename_i h; simp at hm; rw [hm]; rcases hb with hb | hb; exact absurd hb h; exact hb
      · exact hL m hm
    rw [putGo]
    split
    · exact one ((a.1 + c) % 10007, a.2) (by simp only; omega) _ (ih true)
    · split
      · intro m hm
        rcases List.mem_cons.1 hm with rfl | hm
        · exact hc
        · exact one a (.inr ha) _ (ih true) m hm
      · exact one a (.inr ha) _ (ih done)
theorem putGo_done {c c' : Int} {e : List Int} : ∀ l : List Mon, putGo c e l true = putGo c' e l true
  | [] => rfl
  | a :: l => by rw [putGo_t, putGo_t, putGo_done l]
theorem putL_nz {L : List Mon} {c : Int} {e : List Int} (hc : isN c) (hL : Nzl L) : Nzl (putL L c e) := by
  unfold putL
  by_cases h : c = 0
  · rw [decide_eq_true h, putGo_done (c' := 1)]
    exact putGo_nz ⟨by omega, by omega⟩ L true hL
  · exact putGo_nz ⟨by have := hc.1; omega, by have := hc.2; omega⟩ L _ hL
theorem plusL_srt {n : Nat} {B k : Int} : ∀ (q p : List Mon), (∀ m ∈ q, WOk n B m) → (∀ m ∈ p, WOk n B m) → Srt p ∧ Nzl p → Srt (plusL p k q) ∧ Nzl (plusL p k q)
  | [], _, _, _, h => h
  | m :: q, p, hq, hp, h => by
    have hm := hq m (by simp)
    exact plusL_srt q _ (fun a ha => hq a (by simp [ha])) (putGo_wok ⟨isN_mod _, hm.len, hm.pw⟩ p _ hp) ⟨putGo_srt hm.len p _ (fun a ha => (hp a ha).len) h.1, putL_nz (isN_mod _) h.2⟩
/-- A sorted list's coefficients. -/
theorem cfL_at {n : Nat} (hn : n ≤ 3) : ∀ {L : List Mon}, (∀ m ∈ L, m.2.length = n) → Srt L → ∀ m ∈ L, cfL L (keyOf m.2) = m.1
  | a :: L, hl, hs, m, hm => by
    obtain ⟨h1, h2⟩ := List.pairwise_cons.1 hs
    have ne : ∀ b ∈ L, keyOf a.2 ≠ keyOf b.2 := fun b hb e => by
      have := keyOf_inj (by rw [hl a (by simp), hl b (by simp [hb])]) (by rw [hl a (by simp)]; exact hn) e
      have h3 := h1 b hb
      rw [this, ltL_irr] at h3
      simp at h3
    rw [cfL_cons]
    rcases List.mem_cons.1 hm with rfl | hm
    · rw [if_pos rfl]
      have : cfL L (keyOf m.2) = 0 := by
        unfold cfL coef
        exact sumI_zero (fun b hb => if_neg (ne b hb))
      rw [this]; omega
    · rw [if_neg (fun e => ne m hm e.symm), cfL_at hn (fun b hb => hl b (by simp [hb])) h2 m hm]; omega
theorem plusL_cf (k : Int) (K : Key) : ∀ (q p : List Mon), cfL (plusL p k q) K % 10007 = (cfL p K + k * cfL q K) % 10007
  | [], p => by simp [plusL, cfL, coef, sumI]
  | m :: q, p => by
    rw [plusL, plusL_cf k K q, cfL_cons, Int.add_emod, putL_cf, Int.mul_add]
    by_cases h : K = keyOf m.2
    · simp only [h, if_true]; omega
    · simp only [h, if_false]; omega
/-- Products. -/
def pcf (p q : List Mon) (K : Key) : Int := sumI (fun a => sumI (fun b => if K = keyOf (addE a.2 b.2) then a.1 * b.1 else 0) q) p
theorem prodRow_cf (a : Mon) (K : Key) : ∀ (q acc : List Mon), cfL (prodRow a acc q) K % 10007 = (cfL acc K + sumI (fun b => if K = keyOf (addE a.2 b.2) then a.1 * b.1 else 0) q) % 10007
  | [], acc => by simp [prodRow, sumI]
  | b :: q, acc => by
    rw [prodRow, prodRow_cf a K q, Int.add_emod, putL_cf]
    simp only [sumI]
    by_cases h : K = keyOf (addE a.2 b.2)
    · simp only [h, if_true]; omega
    · simp only [h, if_false]; omega
theorem prodGo_cf (q : List Mon) (K : Key) : ∀ (p acc : List Mon), cfL (prodGo acc q p) K % 10007 = (cfL acc K + pcf p q K) % 10007
  | [], acc => by simp [prodGo, pcf, sumI]
  | a :: p, acc => by
    rw [prodGo, prodGo_cf q K p, Int.add_emod, prodRow_cf]
    simp only [pcf, sumI]
    omega
theorem prodL_cf (p q : List Mon) (K : Key) : cfL (prodL p q) K % 10007 = pcf p q K % 10007 := by
  unfold prodL
  rw [prodGo_cf]; simp [cfL, coef, sumI]
theorem keyOf_add {a b : List Int} (hl : a.length = b.length) (h3 : a.length ≤ 3) : keyOf (addE a b) = addK (keyOf a) (keyOf b) := by
  match a, b, hl, h3 with
  | [], [], _, _ => rfl
  | [x], [y], _, _ => simp [keyOf, addE, addK]
  | [x, x'], [y, y'], _, _ => simp [keyOf, addE, addK]
  | [x, x', x''], [y, y', y''], _, _ => simp [keyOf, addE, addK]
/-- The same of terms held in maps. -/
theorem cfT_prE (e : Key × Int) (K : Key) : ∀ E : List (Key × Int), cfT (prE e E) K = sumI (fun d => if K = addK e.1 d.1 then e.2 * d.2 else 0) E
  | [] => rfl
  | d :: E => by
    show cfT ((addK e.1 d.1, e.2 * d.2) :: prE e E) K = _
    simp only [sumI, ← cfT_prE e K E]; rfl
theorem cfT_prT (K : Key) (E : List (Key × Int)) : ∀ D : List (Key × Int), cfT (prT D E) K = sumI (fun e => sumI (fun d => if K = addK e.1 d.1 then e.2 * d.2 else 0) E) D
  | [] => rfl
  | e :: D => by
    rw [prT_cons, cfT_app, cfT_prE, cfT_prT K E D]; rfl
theorem cfT_lists {n : Nat} (hn : n ≤ 3) {p q : List Mon} (hp : ∀ m ∈ p, m.2.length = n) (hq : ∀ m ∈ q, m.2.length = n) (K : Key) : cfT (prT (p.map keyM) (q.map keyM)) K = pcf p q K := by
  rw [cfT_prT, sumI_map]
  unfold pcf
  refine sumI_congr (fun a ha => ?_)
  rw [sumI_map]
  refine sumI_congr (fun b hb => ?_)
  simp only [keyM]
  rw [keyOf_add (by rw [hp a ha, hq b hb]) (by rw [hp a ha]; exact hn)]
  rfl
end Go.Proofs.Ytoamidolomldnaa

/- The program's parts out of polynomials: monomials sorted. -/
namespace Go.Proofs.Ytoamidolomldnaa
open Go.Abs Go.Shelf Go.Sort
set_option linter.unusedVariables false
set_option linter.unusedSimpArgs false
set_option maxHeartbeats 1000000

theorem ltL_tot : ∀ {a b : List Int}, a ≠ b → ltL a b = false → ltL b a = true
  | [], [], h, _ => absurd rfl h
  | [], y :: b, _, h => by simp [ltL] at h
  | x :: a, [], _, _ => by simp [ltL]
  | x :: a, y :: b, h, h2 => by
    simp only [ltL] at h2 ⊢
    by_cases e : x = y
    · subst e
      simp only [if_true] at h2 ⊢
      exact ltL_tot (fun e => h (by rw [e])) h2
    · rw [if_neg e] at h2
      rw [if_neg (fun x => e x.symm)]
      simp at h2 ⊢
      omega
theorem cmpL_neg (a b : List Int) : decide (cmpL a b < 0) = ltL a b := by
  have h := cmpL_lt a b
  cases hl : ltL a b <;> rw [hl] at h <;> simp at h ⊢ <;> omega
theorem swo_mon : SWO (Go.Proofs.ltOf fun m n : Mon => cmpL m.2 n.2) := by
  have e : (Go.Proofs.ltOf fun m n : Mon => cmpL m.2 n.2) = fun m n => ltL m.2 n.2 := by
    funext m n; exact cmpL_neg _ _
  rw [e]
  refine ⟨fun m => ltL_irr _, fun _ _ _ => ltL_trans, fun x y z h1 h2 => ?_⟩
  cases h3 : ltL x.2 z.2 with
  | false => rfl
  | true =>
    by_cases e : x.2 = y.2
    · rw [← e, h3] at h2; exact h2
    · have := ltL_trans (ltL_tot e h1) h3
      rw [this] at h2; exact h2
theorem srt_two : ∀ {L : List Mon}, Srt L → ∀ a ∈ L, ∀ b ∈ L, a = b ∨ ltL a.2 b.2 = true ∨ ltL b.2 a.2 = true
  | [], _, a, ha, _, _ => by simp at ha
  | m :: L, h, a, ha, b, hb => by
    obtain ⟨h1, h2⟩ := List.pairwise_cons.1 h
    rcases List.mem_cons.1 ha with ha2 | ha2
    · rcases List.mem_cons.1 hb with hb2 | hb2
      · exact .inl (ha2.trans hb2.symm)
      · exact .inr (.inl (by rw [ha2]; exact h1 b hb2))
    · rcases List.mem_cons.1 hb with hb2 | hb2
      · exact .inr (.inr (by rw [hb2]; exact h1 a ha2))
      · exact srt_two h2 a ha2 b hb2
theorem sort_unique {ys L : List Mon} (hp : ys.Perm L) (hS : Srt L) (hy : ys.Pairwise (fun x y => ¬ cmpL y.2 x.2 < 0)) : ys = L := by
  have hy' : ys.Pairwise (fun x y => ltL y.2 x.2 = false) := hy.imp (fun {a b} h => by
    have := cmpL_neg b.2 a.2
    rw [← this]; simpa using h)
  have hL' : L.Pairwise (fun x y => ltL y.2 x.2 = false) := hS.imp (fun {a b} h => by
    cases h2 : ltL b.2 a.2 with
    | false => rfl
    | true => have := ltL_trans h h2; rw [ltL_irr] at this; simp at this)
  refine hp.eq_of_pairwise (fun a b ha hb h1 h2 => ?_) hy' hL'
  rcases srt_two hS a (hp.mem_iff.1 ha) b hb with h | h | h
  · exact h
  · rw [h2] at h; simp at h
  · rw [h1] at h; simp at h
/-- A slice that is read alone, seen with more cells than its contract knows. -/
theorem pref1 {P : Program} {f : FuncId} {n m : Nat} {cs : List AV} {r : AV} (h : Con P f [.sl n (cs.take m)] r) : Con P f [.sl n cs] r := by
  refine ⟨h.1, fun w vs hl hr => h.2 w vs (by simpa using hl) fun tm oss => ?_⟩
  have h1 := hr tm oss
  obtain ⟨v, rfl⟩ := List.length_eq_one_iff.1 hl.symm
  generalize ho : ([] : List Nat) = os at h1
  cases h1 with
  | cons _ _ o1 _ _ o2 h2 h3 =>
    cases h3
    have e : o1 = [] := by simpa using ho.symm
    subst e
    refine .cons _ _ [] _ _ [] ?_ (.nil _)
    cases h2 with
    | cell _ _ _ hc =>
      refine .cell _ _ _ ?_
      cases hc with
      | sl0 base cap => simpa using RepC.sl0 base cap
      | sl b off _ cap c e fr _ hF hb hL hn => exact .sl b off _ cap c e fr _ hF hb (hL.pref m) hn
theorem CloneN_c (k : List Int) (n : Nat) (hn : n ≤ k.length) (hl : k.length ≤ 1048576) : Con Try.prog 180 [.sl n (avs k)] (.own 2 n (avs (k.take n))) := by
  have h := Clone_c (k.take n) (by simp; omega)
  have e : (k.take n).length = n := by simp [hn]
  have e2 : avs (k.take n) = (avs k).take n := by simp [avs, List.map_take]
  rw [e, e2] at h
  rw [e2]
  exact pref1 h
/-- The monomials that are still to come. -/
def restM (n : Nat) (es : List (Key × Int)) : List Mon := (es.filter fun e => decide (e.2 ≠ 0)).map fun e => (e.2, [e.1.1, e.1.2.1, e.1.2.2].take n)
theorem restM_split (n : Nat) (l1 l2 : List (Key × Int)) (e : Key × Int) : (restM n (l1 ++ e :: l2)).Perm (if e.2 = 0 then restM n (l1 ++ l2) else (e.2, [e.1.1, e.1.2.1, e.1.2.2].take n) :: restM n (l1 ++ l2)) := by
  unfold restM
  by_cases h : e.2 = 0
  · simp [h]
  · rw [if_neg h]
    have e1 : decide (e.2 ≠ 0) = true := by simp [h]
    rw [List.filter_append, List.filter_cons, e1, if_pos rfl, List.filter_append, List.map_append, List.map_append, List.map_cons]
    exact List.perm_middle
theorem keyOf_take {m : Mon} {n : Nat} (hm : m.2.length = n) (hn : n ≤ 3) : [(keyOf m.2).1, (keyOf m.2).2.1, (keyOf m.2).2.2].take n = m.2 := by
  obtain ⟨a, e⟩ := m
  subst hm
  rcases e with _ | ⟨a, _ | ⟨b, _ | ⟨c, _ | ⟨d, e⟩⟩⟩⟩
  all_goals first | rfl | (simp at hn)
theorem restM_perm {c : Key → Option Int} {n : Nat} {L : List Mon} (hn : n ≤ 3) (hS : Srt L) (hL : ∀ k a, (c k = some a ∧ a ≠ 0) ↔ (k, a) ∈ L.map keyM) (hl : ∀ m ∈ L, m.2.length = n) {es : List (Key × Int)} (he : Enum c es) : (restM n es).Perm L := by
  have hmem : ∀ k a, (k, a) ∈ es ↔ c k = some a := fun k a => ⟨fun h => he.val _ h, fun h => by
    by_cases hx : ∃ p ∈ es, p.1 = k
    · obtain ⟨p, hp, rfl⟩ := hx
      have := he.val p hp
      rw [h] at this
      injection this with this
      subst this
      exact hp
    · have := he.out k (fun p hp e => hx ⟨p, hp, e⟩)
      rw [h] at this; simp at this⟩
  have hin : ∀ e ∈ es, e.2 ≠ 0 → ∃ m ∈ L, keyM m = e := fun e he h0 => by
    have := (hL e.1 e.2).1 ⟨(hmem _ _).1 he, h0⟩
    obtain ⟨m, hm, h⟩ := List.mem_map.1 this
    exact ⟨m, hm, h⟩
  have hmono : ∀ e ∈ es, e.2 ≠ 0 → ∃ m ∈ L, keyM m = e ∧ (e.2, [e.1.1, e.1.2.1, e.1.2.2].take n) = m := fun e he h0 => by
    obtain ⟨m, hm, rfl⟩ := hin e he h0
    refine ⟨m, hm, rfl, ?_⟩
    show (m.1, [(keyOf m.2).1, (keyOf m.2).2.1, (keyOf m.2).2.2].take n) = m
    rw [keyOf_take (hl m hm) hn]
  have hLn : L.Nodup := hS.imp (fun {a b} h e => by rw [e, ltL_irr] at h; simp at h)
  refine (List.perm_ext_iff_of_nodup ?_ hLn).2 fun m => ?_
  · unfold restM
    rw [List.nodup_iff_pairwise_ne, List.pairwise_map, List.pairwise_filter]
    refine List.Pairwise.imp_of_mem (fun {a b} ha hb h h1 h2 e => ?_) he.nd
    simp at h1 h2
    obtain ⟨m1, _, g1, g2⟩ := hmono a ha h1
    obtain ⟨m2, _, g3, g4⟩ := hmono b hb h2
    rw [g2, g4] at e
    rw [← g1, ← g3, e] at h
    exact h rfl
  · unfold restM
    rw [List.mem_map]
    constructor
    · rintro ⟨e, h1, rfl⟩
      obtain ⟨h1, h2⟩ := List.mem_filter.1 h1
      obtain ⟨m, hm, _, h⟩ := hmono e h1 (by simpa using h2)
      rw [h]; exact hm
    · intro hm
      have h1 := (hL (keyOf m.2) m.1).2 (List.mem_map.2 ⟨m, hm, rfl⟩)
      refine ⟨(keyOf m.2, m.1), List.mem_filter.2 ⟨(hmem _ _).2 h1.1, by simpa using h1.2⟩, ?_⟩
      show (m.1, [(keyOf m.2).1, (keyOf m.2).2.1, (keyOf m.2).2.2].take n) = m
      rw [keyOf_take (hl m hm) hn]
end Go.Proofs.Ytoamidolomldnaa

/- The program's fields out of polynomials. -/
namespace Go.Proofs.Ytoamidolomldnaa
open Go.Abs
set_option linter.unusedVariables false
set_option linter.unusedSimpArgs false
set_option maxHeartbeats 1000000
theorem cfL_key : ∀ {L : List Mon} {K : Key}, cfL L K ≠ 0 → ∃ m ∈ L, keyOf m.2 = K
  | [], K, h => absurd rfl h
  | m :: L, K, h => by
    by_cases e : K = keyOf m.2
    · exact ⟨m, by simp, e.symm⟩
    · rw [cfL_cons, if_neg e, Int.zero_add] at h
      obtain ⟨m', h1, h2⟩ := cfL_key h
      exact ⟨m', by simp [h1], h2⟩
theorem part_list {c : Key → Option Int} {n : Nat} {L : List Mon} (hn : n ≤ 3) (hc : MapN c) (hS : Srt L) (hZ : Nzl L) (hl : ∀ m ∈ L, m.2.length = n) (hv : ∀ K, gv c K % 10007 = cfL L K % 10007) (k : Key) (a : Int) :
    (c k = some a ∧ a ≠ 0) ↔ (k, a) ∈ L.map keyM := by
  have hv := hv k
  constructor
  · rintro ⟨h1, h2⟩
    have ha := hc k a h1
    have g : gv c k = a := by simp [gv, h1]
    rw [g] at hv
    have h3 : cfL L k ≠ 0 := fun e => by rw [e] at hv; have := ha.1; have := ha.2; omega
    obtain ⟨m, hm, rfl⟩ := cfL_key h3
    have e := cfL_at hn hl hS m hm
    have hz := hZ m hm
    rw [e] at hv
    have : m.1 = a := by have := ha.1; have := ha.2; omega
    exact List.mem_map.2 ⟨m, hm, by rw [← this]; rfl⟩
  · intro h
    obtain ⟨m, hm, e⟩ := List.mem_map.1 h
    have e1 : keyOf m.2 = k := congrArg Prod.fst e
    have e2 : m.1 = a := congrArg Prod.snd e
    subst e1 e2
    have hz := hZ m hm
    rw [cfL_at hn hl hS m hm] at hv
    cases hc' : c (keyOf m.2) with
    | none => simp [gv, hc'] at hv; omega
    | some b =>
      have hb := hc _ _ hc'
      have g : gv c (keyOf m.2) = b := by simp [gv, hc']
      rw [g] at hv
      have : b = m.1 := by have := hb.1; have := hb.2; omega
      exact ⟨by rw [this], by omega⟩
/-- The parts that are there already: none is nil. -/
def ptA (Ls : List (List Mon)) : Nat → AV
  | 0 => .val (.slice none 0 0)
  | i + 1 => .own 177 (i + 1) (oprt (Ls.take (i + 1)))
theorem ptA_zero (Ls : List (List Mon)) : ptA Ls 0 = .val (.slice none 0 0) := rfl
theorem ptA_succ (Ls : List (List Mon)) (i : Nat) : ptA Ls (i + 1) = .own 177 (i + 1) (oprt (Ls.take (i + 1))) := rfl
theorem oprt_snoc (Ls : List (List Mon)) {i : Nat} (h : i < Ls.length) : oprt (Ls.take (i + 1)) = oprt (Ls.take i) ++ [.own 179 (Ls[i]?.getD []).length (omons (Ls[i]?.getD []))] := by
  rw [List.take_add_one, List.getElem?_eq_getElem h, Option.toList_some, oprt_app]; simp [oprt, h]
theorem fmps_drop {cs : List (Key → Option Int)} {k : Nat} (h : k < cs.length) : (cs.map AV.fmp).drop k = .fmp (cs[k]?.getD mzero) :: (cs.drop (k + 1)).map AV.fmp := by
  rw [← List.map_drop, List.drop_eq_getElem_cons h, List.map_cons]; simp [h]
end Go.Proofs.Ytoamidolomldnaa

/- Contracts: fields that are drawn. -/
namespace Go.Proofs.Ytoamidolomldnaa
open Go.Abs
set_option linter.unusedVariables false
set_option linter.unusedSimpArgs false
set_option maxHeartbeats 1000000
/-- The state of a source as a whole. -/
theorem srcA_eq (c : List Int) (σ : Src) : srcA c σ = .box 183 [.sl c.length (bys c), .int σ.1, .val (.int .u64 σ.2)] := rfl
/-- Parts that are drawn. -/
def DrP (n : Nat) (p : List Mon) : Prop := p.length ≤ 3 ∧ ∀ m ∈ p, WOk n 3 m
theorem set_bump {w : List Int} {B : Int} {k : Nat} (hw : ∀ x ∈ w, 0 ≤ x ∧ x ≤ B) (hk : k < w.length) : ∀ x ∈ w.set k (w[k]?.getD 0 + 1), 0 ≤ x ∧ x ≤ B + 1 := fun x hx => by
  rcases List.mem_or_eq_of_mem_set hx with hx | rfl
  · have := hw x hx; omega
  · have := hw (w[k]?.getD 0) (by simp [hk])
    omega
set_option maxRecDepth 100000 in
theorem l13Draw_r (c : List Int) (σ : Src) (hc : Byt c) (hs : SOk σ) :
    RCon Try.prog 202 [srcA c σ] (fun r o => ∃ (τ : Src) (n : Nat) (f : List (List Mon)), SOk τ ∧ o = [srcA c τ] ∧ 1 ≤ n ∧ n ≤ 3 ∧ f.length = n ∧ (∀ p ∈ f, DrP n p) ∧ r = .agg [.int n, .own 177 n (oprt f)]) := by
  have c1 := l01Next_c c σ 3 hc hs
  have s1 := nx2_ok hc hs 3
  have b1 := nx1_b hc σ (n := 3) (by omega)
  obtain ⟨n, hn⟩ : ∃ n : Nat, 1 + nx1 c σ 3 = n := ⟨(1 + nx1 c σ 3).toNat, by omega⟩
  generalize nx1 c σ 3 = v1 at *
  generalize nx2 c σ 3 = σ1 at *
  simp only [srcA_eq] at *
  refine rcon_of_vcH Try.mixed ⟨10, [], [1000000 + 110, 1000000 + 114, 1000000 + 246], []⟩ [0] Try.func202 (by decide) rfl (by simp) (by simp) (by decide) ?_
  rw [Try.ntmps202]
  simp [go_sem]
  refine ⟨_, _, c1, ?_⟩
  simp [go_sem]
  refine ⟨⟨by omega, by omega⟩, ?_⟩
  rw [hn]
  refine loop_inv (0 :: 3 :: 4 :: 5 :: 6 :: 7 :: 8 :: 9 :: List.range' 14 46) (fun x : Src × List (List Mon) => [(0, .box 183 [.sl c.length (bys c), .int x.1.1, .val (.int .u64 x.1.2)]), (3, .box 52 [.int n, ptA x.2 x.2.length]), (4, .int x.2.length)]) (fun x => SOk x.1 ∧ x.2.length ≤ n ∧ ∀ p ∈ x.2, DrP n p) (fun x => n - x.2.length) (σ1, []) (by simp; exact s1) (by simp [go_sem, ptA_zero]) (by simp [go_sem]) ?_
  rintro ⟨τ, f⟩ ⟨h1, h2, h3⟩
  simp only at h1 h2 h3
  simp [go_sem]
  refine ⟨fun h => ?_, fun h => ?_⟩ <;> simp at h
  · have c4 := l01Next_c c τ 4 hc h1
    have s4 := nx2_ok hc h1 4
    have b4 := nx1_b hc τ (n := 4) (by omega)
    obtain ⟨m, hm⟩ : ∃ m : Nat, nx1 c τ 4 = m := ⟨(nx1 c τ 4).toNat, by omega⟩
    rw [hm] at c4 b4
    generalize nx2 c τ 4 = τ1 at *
    simp only [srcA_eq] at c4
    simp [go_sem]
    refine ⟨_, _, c4, ?_⟩
    simp [go_sem]
    refine loop_inv (0 :: 5 :: 6 :: 7 :: 8 :: 9 :: List.range' 23 31) (fun x : Src × List Mon × Nat => [(0, .box 183 [.sl c.length (bys c), .int x.1.1, .val (.int .u64 x.1.2)]), (5, .own 179 x.2.1.length (omons x.2.1)), (6, .int x.2.2)]) (fun x => SOk x.1 ∧ x.2.1.length + x.2.2 ≤ 3 ∧ ∀ m ∈ x.2.1, WOk n 3 m) (fun x => x.2.2) (τ1, [], m) ⟨s4, by simp; omega, by simp⟩ (by simp [go_sem]) (by simp [go_sem]) ?_
    rintro ⟨ρ, p, k⟩ ⟨g1, g2, g3⟩
    simp only at g1 g2 g3
    simp [go_sem]
    refine ⟨fun h => ?_, fun h => ?_⟩ <;> simp at h
    · have c5 := l01Pick_c c ρ [0, 1, 1, 2, 2, 3] hc g1 (by simp) (by simp)
      have m5 := pk_mem c hc ρ (xs := [0, 1, 1, 2, 2, 3]) (by simp)
      have s5 := nx2_ok hc g1 6
      obtain ⟨d0, hd0⟩ : ∃ d0 : Nat, pk c ρ [0, 1, 1, 2, 2, 3] = d0 := ⟨(pk c ρ [0, 1, 1, 2, 2, 3]).toNat, by simp at m5; omega⟩
      have hd3 : d0 ≤ 3 := by rw [hd0] at m5; simp at m5; omega
      have e6 : (([0, 1, 1, 2, 2, 3] : List Int).length : Int) = 6 := rfl
      rw [hd0, e6] at c5
      generalize nx2 c ρ 6 = ρ1 at *
      simp only [srcA_eq] at c5
      simp [go_sem]
      refine ⟨⟨by omega, by omega⟩, ?_⟩
      refine ⟨_, _, c5, ?_⟩
      simp [go_sem]
      rw [avs_repl]
      refine loop_inv (0 :: 7 :: 8 :: 9 :: List.range' 33 16) (fun x : Src × List Int × Nat => [(0, .box 183 [.sl c.length (bys c), .int x.1.1, .val (.int .u64 x.1.2)]), (7, .own 2 n (avs x.2.1)), (8, .int x.2.2)]) (fun x => SOk x.1 ∧ x.2.1.length = n ∧ x.2.2 ≤ 3 ∧ ∀ y ∈ x.2.1, 0 ≤ y ∧ y + x.2.2 ≤ 3) (fun x => x.2.2) (ρ1, List.replicate n 0, d0) ⟨s5, by simp, by simpa using hd3, by intro y hy; have := List.eq_of_mem_replicate hy; simp only; omega⟩ (by simp [go_sem]) (by simp [go_sem]) ?_
      rintro ⟨κ, w, d⟩ ⟨q1, q2, q3, q4⟩
      simp only at q1 q2 q3 q4
      simp [go_sem]
      refine ⟨fun h => ?_, fun h => ?_⟩ <;> simp at h
      · obtain ⟨e, rfl⟩ : ∃ e, d = e + 1 := ⟨d - 1, by omega⟩
        have hnn : 1 ≤ n := by omega
        have c6 := l01Next_c c κ n hc q1
        have s6 := nx2_ok hc q1 n
        have b6 := nx1_b hc κ (n := n) (by omega)
        obtain ⟨j, hj⟩ : ∃ j : Nat, nx1 c κ n = j := ⟨(nx1 c κ n).toNat, by omega⟩
        rw [hj] at c6 b6
        have hjn : j < w.length := by omega
        have hA := avs_at hjn
        have hB := set_bump (B := 3 - (e + 1)) (fun y hy => by have := q4 y hy; constructor <;> omega) hjn
        have wj := q4 (w[j]?.getD 0) (by simp [hjn])
        have hS := avs_set w j (w[j]?.getD 0 + 1)
        generalize w[j]?.getD 0 = u at *
        generalize nx2 c κ n = κ1 at *
        simp only [srcA_eq] at c6
        simp [go_sem]
        refine ⟨_, _, c6, ?_⟩
        simp [go_sem]
        simp [go_sem, hA]
        refine ⟨by omega, ⟨by omega, by omega⟩, by omega, by omega, by omega, κ1.1, κ1.2, w.set j (u + 1), e, ⟨s6, by simpa using q2, by omega, fun y hy => ?_⟩, by omega, Off_reset _ _ _ (by simp), ?_⟩
        · have := hB y hy; omega
        · simp [hS]
      · have e0 : d = 0 := by omega
        subst e0
        have c7 := l01Number_c c κ hc q1
        have h7 := nbV_ok hc q1
        have c8 := l13Put_c p (nbV c κ).1 w h7.1 (fun m hm => ⟨(g3 m hm).num, by have := (g3 m hm).len; omega⟩) (by omega) (by omega)
        have l8 := putL_len p (nbV c κ).1 w
        have w8 := putGo_wok (n := n) (B := 3) (c := (nbV c κ).1) (e := w) ⟨h7.1, q2, fun y hy => by have := q4 y hy; constructor <;> omega⟩ p (decide ((nbV c κ).1 = 0)) g3
        have w9 : ∀ m ∈ putL p (nbV c κ).1 w, WOk n 3 m := w8
        rw [q2] at c8
        generalize putL p (nbV c κ).1 w = p2 at *
        generalize nbV c κ = r7 at *
        simp only [srcA_eq] at c7
        simp [go_sem]
        refine ⟨_, _, c7, ?_⟩
        simp [go_sem]
        refine CallVC.of (c8) (by decide) ?_
        simp [go_sem]
        exact ⟨⟨by omega, by omega⟩, r7.2.1, r7.2.2, p2, k - 1, ⟨h7.2, by omega, fun a b hab => w9 (a, b) hab⟩, by omega, (Off.reset (by intro x hx; simp at hx ⊢; omega) (by simp) (by simp [go_sem, Off_reset])), ⟨rfl, rfl⟩, ⟨rfl, rfl⟩, by omega⟩
    · have k0 : k = 0 := by omega
      subst k0
      have hsn : ptA (f ++ [p]) (f.length + 1) = .own 177 (f.length + 1) (oprt f ++ [.own 179 p.length (omons p)]) := by
        rw [ptA_succ, List.take_of_length_le (by simp), oprt_app]; rfl
      have hdr : DrP n p := ⟨by omega, g3⟩
      rcases f with _ | ⟨q, f⟩
      · simp [go_sem, ptA_zero]
        refine ⟨ρ.1, ρ.2, [p], ⟨g1, by simp; omega, by simpa using hdr⟩, by simp; omega, (by repeat (first | exact Off_reset _ _ _ (by simp) | (refine Off.reset (by intro x hx; simp at hx ⊢; omega) (by simp) ?_; simp -failIfUnchanged [go_sem, Off_reset]))), ?_⟩
        exact ⟨⟨rfl, rfl⟩, rfl, by simp⟩
      · rw [List.length_cons] at *
        simp [go_sem, ptA_succ]
        refine ⟨⟨by omega, by omega⟩, by omega, ρ.1, ρ.2, q :: f ++ [p], ⟨g1, by simp; omega, fun t ht => ?_⟩, by simp; omega, (by repeat (first | exact Off_reset _ _ _ (by simp) | (refine Off.reset (by intro x hx; simp at hx ⊢; omega) (by simp) ?_; simp -failIfUnchanged [go_sem, Off_reset]))), ?_⟩
        · rcases List.mem_append.1 ht with ht | ht
          · exact h3 t ht
          · simp at ht; rw [ht]; exact hdr
        · have e1 : (q :: f ++ [p]).length = f.length + 1 + 1 := by simp
          rw [e1, hsn]
          exact ⟨⟨rfl, rfl⟩, rfl, by omega⟩
  · have e0 : f.length = n := by omega
    rcases f with _ | ⟨q, f⟩
    · simp at e0; omega
    · rw [List.length_cons] at *
      simp [go_sem, ptA_succ]
      exact ⟨τ.1, τ.2, h1, ⟨rfl, rfl⟩, n, by omega, by omega, q :: f, by simpa using e0, h3, rfl, e0, rfl⟩
/-- A field's parts, all own, or with a first part whose powers are frozen. -/
def spr : Bool → List (List Mon) → List AV
  | true, p :: f => .own 179 p.length (mons p) :: oprt f
  | true, [] => []
  | false, f => oprt f
@[simp] theorem spr_len : ∀ (b : Bool) (f : List (List Mon)), (spr b f).length = f.length
  | true, p :: f => by simp [spr]
  | true, [] => rfl
  | false, f => by simp [spr]
@[simp] theorem spr_frz : ∀ (b : Bool) (f : List (List Mon)), frzL (spr b f) = prt f
  | true, p :: f => by simp [spr, frzL, frz, prt, mons_frz]
  | true, [] => rfl
  | false, f => by simp [spr]
/-- Fields that are drawn, some of them spoilt. -/
def DrS (z : Int) (f : List (List Mon)) : Prop := -1 ≤ z ∧ z ≤ 4 ∧ f.length ≤ 4 ∧ ∀ p ∈ f, p.length ≤ 4 ∧ ∀ m ∈ p, m.2.length ≤ 3
theorem DrS.of {n : Nat} {f : List (List Mon)} (hn : n ≤ 3) (hl : f.length ≤ 3) (h : ∀ p ∈ f, DrP n p) {z : Int} (h1 : -1 ≤ z) (h2 : z ≤ 4) : DrS z f :=
  ⟨h1, h2, by omega, fun p hp => ⟨by have := (h p hp).1; omega, fun m hm => by have := ((h p hp).2 m hm).len; omega⟩⟩
end Go.Proofs.Ytoamidolomldnaa

/- Contracts: fields that are drawn, some spoilt; points. -/
namespace Go.Proofs.Ytoamidolomldnaa
open Go.Abs
set_option linter.unusedVariables false
set_option linter.unusedSimpArgs false
set_option maxHeartbeats 1000000
theorem oprt_cons (q : List Mon) (f : List (List Mon)) : oprt (q :: f) = .own 179 q.length (omons q) :: oprt f := rfl
set_option maxRecDepth 100000 in
theorem l13Spoil_r (c : List Int) (σ : Src) (hc : Byt c) (hs : SOk σ) :
    RCon Try.prog 129 [srcA c σ] (fun r o => ∃ (τ : Src) (z : Int) (b : Bool) (f : List (List Mon)), SOk τ ∧ o = [srcA c τ] ∧ DrS z f ∧ r = .agg [.int z, .own 177 f.length (spr b f)]) := by
  have cD := l13Draw_r c σ hc hs
  simp only [srcA_eq] at *
  refine rcon_of_vcH Try.mixed ⟨5, [48], [1000000 + 110, 1000000 + 114, 2000000 + 202], [2000614000117]⟩ [0] Try.func129 (by decide) rfl (by simp) (by simp) (by decide) ?_
  rw [Try.ntmps129]
  simp [go_sem]
  refine ⟨_, cD, ?_⟩
  rintro _ _ ⟨τ, n, f, h1, rfl, h2, h3, h4, h5, rfl⟩
  have c4 := l01Next_c c τ 40 hc h1
  have s4 := nx2_ok hc h1 40
  generalize nx1 c τ 40 = v at *
  generalize nx2 c τ 40 = τ1 at *
  simp only [srcA_eq] at c4
  simp [go_sem]
  refine ⟨_, _, c4, ?_⟩
  simp [go_sem]
  rcases f with _ | ⟨q, f⟩
  · simp at h4; omega
  · have hq : q.length ≤ 3 := (h5 q (by simp)).1
    by_cases v0 : v = 0
    · have c5 := l01Pick_c c τ1 [0, (n : Int) + 1, -1, 4] hc s4 (by simp) (by simp)
      have m5 := pk_mem c hc τ1 (xs := [0, (n : Int) + 1, -1, 4]) (by simp)
      have s5 := nx2_ok hc s4 4
      have e4 : (([0, (n : Int) + 1, -1, 4] : List Int).length : Int) = 4 := rfl
      rw [e4] at c5
      simp only [srcA_eq] at c5
      generalize pk c τ1 [0, (n : Int) + 1, -1, 4] = z at *
      generalize nx2 c τ1 4 = τ2 at *
      simp [go_sem, v0]
      refine ⟨⟨by omega, by omega⟩, ?_⟩
      refine ⟨_, _, c5, ?_⟩
      simp [go_sem]
      refine ⟨τ2.1, τ2.2, s5, ⟨rfl, rfl⟩, z, .inl ⟨q :: f, DrS.of h3 (by omega) h5 ?_ ?_, rfl, h4.symm, rfl⟩⟩
      all_goals (simp at m5; omega)
    · have hfs : DrS n (q :: f) := DrS.of h3 (by omega) h5 (by omega) (by omega)
      by_cases v1 : v = 1
      · have c5 := l01Pick_c c τ1 [0, 10007, 1] hc s4 (by simp) (by simp)
        have s5 := nx2_ok hc s4 3
        have e4 : (([0, 10007, 1] : List Int).length : Int) = 3 := rfl
        have c6 := l13One_c n 0 (by omega) (by omega)
        rw [e4] at c5
        simp only [srcA_eq] at c5
        generalize pk c τ1 [0, 10007, 1] = x at *
        generalize nx2 c τ1 3 = τ2 at *
        have fin : ∃ a b, SOk (a, b) ∧ ((τ2.1 : Int) = a ∧ τ2.2 = b) ∧ ∃ z, (∃ g, DrS z g ∧ (n : Int) = z ∧ n = g.length ∧ AV.own 179 (q.length + 1) (omons q ++ [AV.val (Value.int IntKind.i64 x), AV.own 2 n (avs (oneE n 0))]) :: oprt f = spr false g) ∨ ∃ g, DrS z g ∧ (n : Int) = z ∧ n = g.length ∧ AV.own 179 (q.length + 1) (omons q ++ [AV.val (Value.int IntKind.i64 x), AV.own 2 n (avs (oneE n 0))]) :: oprt f = spr true g := by
          refine ⟨τ2.1, τ2.2, s5, ⟨rfl, rfl⟩, n, .inl ⟨(q ++ [(x, oneE n 0)]) :: f, ⟨by omega, by omega, hfs.2.2.1, fun p hp => ?_⟩, rfl, h4.symm, ?_⟩⟩
          · rcases List.mem_cons.1 hp with rfl | hp
            · refine ⟨by simp; omega, fun m hm => ?_⟩
              rcases List.mem_append.1 hm with hm | hm
              · exact (hfs.2.2.2 q (by simp)).2 m hm
              · simp at hm; subst hm; simp [oneE]; omega
            · exact hfs.2.2.2 p (by simp [hp])
          · have e1 : ((oneE n 0).length : Nat) = n := by simp [oneE]
            rw [spr, oprt_cons, omons_app]
            simp [omons_cons, e1]
        simp [go_sem, v0, v1]
        rw [DrawVC4_app]
        refine ⟨fun i => if i = 8 then [.n 0 .any, .n 27 .any, .n 0 (.box 183 [.sl c.length (bys c), .int τ2.1, .val (.int .u64 τ2.2)]), .n 27 .any, .w 28 (.int x)] else [.w 31 (.own 2 n (avs (oneE n 0)))], by kernel_rfl, ?_, ?_, ?_⟩
        · simp [go_sem, oprt_cons]
          refine ⟨by omega, ?_⟩
          refine ⟨_, _, c5, ?_⟩
          simp [go_sem]
          refine CallD.of (c6) (by simp [roots, rootsL]) (by decide) ?_
          simp [go_sem]
          refine ⟨⟨by omega, by omega⟩, by omega, by kernel_rfl, ?_⟩
          exact fin
        · simp [go_sem, oprt_cons]
          refine ⟨by omega, ?_⟩
          refine ⟨_, _, c5, ?_⟩
          simp [go_sem]
          refine CallD.of (c6) (by simp [roots, rootsL]) (by decide) ?_
          simp [go_sem]
          refine ⟨⟨by omega, by omega⟩, by omega, by kernel_rfl, ?_⟩
          exact fin
        · simp [go_sem, oprt_cons]
          refine ⟨by omega, ?_⟩
          refine ⟨_, _, c5, ?_⟩
          simp [go_sem]
          refine CallD.of (c6) (by simp [roots, rootsL]) (by decide) ?_
          simp [go_sem]
          refine ⟨⟨by omega, by omega⟩, by omega, by kernel_rfl, ?_⟩
          exact fin
      · by_cases v2 : v = 2
        · have c5 := l01Pick_c c τ1 [4, -1, 1099511627776] hc s4 (by simp) (by simp)
          have s5 := nx2_ok hc s4 3
          have e4 : (([4, -1, 1099511627776] : List Int).length : Int) = 3 := rfl
          rw [e4] at c5
          simp only [srcA_eq] at c5
          generalize pk c τ1 [4, -1, 1099511627776] = x at *
          generalize nx2 c τ1 3 = τ2 at *
          simp [go_sem, v0, v1, v2]
          refine ⟨⟨by omega, by omega⟩, ?_⟩
          refine ⟨_, _, c5, ?_⟩
          simp [go_sem]
          refine ⟨by omega, τ2.1, τ2.2, s5, ⟨rfl, rfl⟩, n, .inr ⟨[(1, (List.replicate n 0).set 0 x)] :: f, ⟨by omega, by omega, hfs.2.2.1, fun p hp => ?_⟩, rfl, h4.symm, ?_⟩⟩
          · rcases List.mem_cons.1 hp with rfl | hp
            · exact ⟨by simp, by simp; omega⟩
            · exact hfs.2.2.2 p (by simp [hp])
          · have e1 : avs ((List.replicate n 0).set 0 x) = (List.replicate n (AV.val (.int .i64 0))).set 0 (.val (.int .i64 x)) := by rw [← avs_set, avs_repl]
            have e2 := avs_frz ((List.replicate n 0).set 0 x)
            rw [e1] at e2
            rw [e2, ← e1]
            simp [spr, oprt, mons_cons]
        · by_cases v3 : v = 3
          · simp [go_sem, v0, v1, v2, v3]
            refine ⟨⟨by simpa using h4, by omega, by omega⟩, τ1.1, τ1.2, s4, ⟨rfl, rfl⟩, n, .inl ⟨q :: f ++ [[]], ⟨by omega, by omega, by simp at h4 ⊢; omega, fun p hp => ?_⟩, rfl, by simp at h4 ⊢; omega, ?_⟩⟩
            · rcases List.mem_append.1 hp with hp | hp
              · exact hfs.2.2.2 p hp
              · simp at hp; subst hp; exact ⟨by simp, by simp⟩
            · rw [spr, oprt_app]; rfl
          · simp [go_sem, v0, v1, v2, v3]
            exact ⟨τ1.1, τ1.2, s4, ⟨rfl, rfl⟩, n, .inl ⟨q :: f, hfs, rfl, h4.symm, rfl⟩⟩
theorem RCon.fz {P : Program} {f : FuncId} {args : List AV} {R : AV → List AV → Prop} (h : RCon P f args R) : RCon P f args (fun r o => ∃ r0, R r0 o ∧ r = frz r0) := by
  refine ⟨h.1, fun w vs os F0 hl hn ho hF hr => (h.2 w vs os F0 hl hn ho hF hr).mono ?_⟩
  rintro e w' ⟨r, o, hR, v, orr, oo, F', k1, k2, k3, k4, k5, k6, k7, k8, k9⟩
  refine ⟨frz r, o, ⟨r, hR, rfl⟩, v, [], oo, fun b => F' b ∨ b ∈ orr, k1, k2, fun b hb => .inl (k3 b hb), fun b hb => hb.elim (k4 b) (fun hb => .inr ⟨(k9 b (.inl hb)).1, (k9 b (.inl hb)).2.1⟩), fun tm oss => (k5 tm oss).frz (fun b h => .inl h) (fun b h => .inr h), fun tm oss => ?_, k7, ?_, fun b hb => ?_⟩
  · have := RepTL.kl (w' := w') (F' := fun b => F' b ∨ b ∈ orr) (tm' := tm) (oss' := oss) [] (fun b hb => .inl hb) (fun _ _ _ _ h => h) (k6 tm oss) (fun _ _ => rfl)
    rwa [klL_nil] at this
  · simpa using (List.nodup_append.1 k8).2.1
  · rcases hb with hb | hb
    · simp at hb
    · obtain ⟨j1, j2, j3⟩ := k9 b (.inr hb)
      exact ⟨j1, j2, fun hf => hf.elim j3 (fun hf => (List.nodup_append.1 k8).2.2 b hf b hb rfl)⟩
theorem l13Spoil_f (c : List Int) (σ : Src) (hc : Byt c) (hs : SOk σ) :
    RCon Try.prog 129 [srcA c σ] (fun r o => ∃ (τ : Src) (z : Int) (f : List (List Mon)), SOk τ ∧ o = [srcA c τ] ∧ DrS z f ∧ r = .agg [.int z, .sl f.length (prt f)]) := by
  refine (RCon.fz (l13Spoil_r c σ hc hs)).mono ?_
  rintro r o ⟨_, ⟨τ, z, b, f, h1, h2, h3, rfl⟩, rfl⟩
  refine ⟨τ, z, f, h1, h2, h3, ?_⟩
  simp [frz, frzL]
set_option maxRecDepth 100000 in
theorem l13DrawPoint_r (c : List Int) (σ : Src) (z : Int) (f : List (List Mon)) (hc : Byt c) (hs : SOk σ) :
    RCon Try.prog 130 [srcA c σ, .agg [.int z, .sl f.length (prt f)]] (fun r o => ∃ (τ : Src) (y : List Int), SOk τ ∧ o = [srcA c τ, .agg [.int z, .sl f.length (prt f)]] ∧ y.length ≤ 4 ∧ r = .own 2 y.length (avs y)) := by
  obtain ⟨n, hn1, hn, hnz⟩ : ∃ n : Nat, 1 ≤ n ∧ n ≤ 3 ∧ (if 1 ≤ z ∧ z ≤ 3 then z else 2) = n := by
    by_cases h : 1 ≤ z ∧ z ≤ 3
    · rw [if_pos h]; exact ⟨z.toNat, by omega, by omega, by omega⟩
    · rw [if_neg h]; exact ⟨2, by omega, by omega, rfl⟩
  have cL := l01List_c c σ n hc hs (by omega)
  have hL := lsV_ok (f := nbV c) (fun σ h => nbV_ok hc h) n σ hs
  generalize lsV (nbV c) n σ = r at *
  obtain ⟨y, σ1⟩ := r
  obtain ⟨hy, hN, s1⟩ := hL
  simp only at hy hN s1 cL
  subst hy
  have c4 := l01Next_c c σ1 40 hc s1
  have s4 := nx2_ok hc s1 40
  have hbn := nx1_b hc σ1 (n := 40) (by omega)
  generalize nx1 c σ1 40 = v at *
  generalize nx2 c σ1 40 = τ1 at *
  have cP := l01Pick_c c τ1 [-1, 10007] hc s4 (by simp) (by simp)
  have sP := nx2_ok hc s4 2
  have e2 : (([-1, 10007] : List Int).length : Int) = 2 := rfl
  rw [e2] at cP
  generalize pk c τ1 [-1, 10007] = x at *
  generalize nx2 c τ1 2 = τ2 at *
  simp only [srcA_eq] at *
  by_cases hz : 1 ≤ z ∧ z ≤ 3
  · rw [if_pos hz] at hnz
    subst hnz
    refine rcon_of_vcH Try.mixed ⟨7, [], [1000000 + 198, 1000000 + 110, 1000000 + 114], []⟩ [0, 1] Try.func130 (by decide) rfl (by simp) (by simp) (by decide) ?_
    rw [Try.ntmps130]
    simp [go_sem]
    refine CallVC.of (l01In_c _ 1 3) (by decide) ?_
    simp [go_sem]
    simp [go_sem, hz.1, hz.2]
    refine ⟨_, _, cL, ?_⟩
    simp [go_sem]
    refine ⟨_, _, c4, ?_⟩
    simp [go_sem]
    by_cases v0 : v = 0
    · simp [go_sem, v0]
      exact ⟨⟨by omega, by omega⟩, τ1.1, τ1.2, s4, ⟨rfl, rfl⟩, y ++ [0], by simp; omega, by simp, by simp [avs]⟩
    · by_cases v1 : v = 1
      · simp [go_sem, v0, v1]
        refine ⟨_, _, cP, ?_⟩
        simp [go_sem]
        exact ⟨by omega, τ2.1, τ2.2, sP, ⟨rfl, rfl⟩, y.set 0 x, by simp; omega, by simp, avs_set _ _ _⟩
      · simp [go_sem, v0, v1]
        exact ⟨τ1.1, τ1.2, s4, ⟨rfl, rfl⟩, by omega⟩
  · rw [if_neg hz] at hnz
    have hz' : (decide (1 ≤ z) && decide (z ≤ 3)) = false := by simp; omega
    refine rcon_of_vcH Try.mixed ⟨7, [], [1000000 + 198, 1000000 + 110, 1000000 + 114], []⟩ [0, 1] Try.func130 (by decide) rfl (by simp) (by simp) (by decide) ?_
    rw [Try.ntmps130]
    simp [go_sem]
    refine CallVC.of (l01In_c z 1 3) (by decide) ?_
    rw [hz']
    simp [go_sem]
    rw [hnz]
    refine ⟨_, _, cL, ?_⟩
    simp [go_sem]
    refine ⟨_, _, c4, ?_⟩
    simp [go_sem]
    by_cases v0 : v = 0
    · simp [go_sem, v0]
      exact ⟨⟨by omega, by omega⟩, τ1.1, τ1.2, s4, ⟨rfl, rfl⟩, y ++ [0], by simp; omega, by simp, by simp [avs]⟩
    · by_cases v1 : v = 1
      · simp [go_sem, v0, v1]
        refine ⟨_, _, cP, ?_⟩
        simp [go_sem]
        exact ⟨by omega, τ2.1, τ2.2, sP, ⟨rfl, rfl⟩, y.set 0 x, by simp; omega, by simp, avs_set _ _ _⟩
      · simp [go_sem, v0, v1]
        exact ⟨τ1.1, τ1.2, s4, ⟨rfl, rfl⟩, by omega⟩
set_option maxRecDepth 100000 in
theorem DrawDerivativeAt_r (c : List Int) (hc : Byt c) :
    RCon Try.prog 42 [.sl c.length (bys c)] (fun r o => o = [.any] ∧ ∃ (z : Int) (f : List (List Mon)) (y : List Int) (vs : List (List Int)), DrS z f ∧ y.length ≤ 4 ∧ vs.length ≤ 9 ∧ (∀ v ∈ vs, v.length ≤ 4) ∧
      r = .tup [.agg [.int z, .sl f.length (prt f)], .own 2 y.length (avs y), .own 23 vs.length (omat vs)]) := by
  have c0 := l01From_r c hc
  refine rcon_of_vcH Try.mixed ⟨10, [], [1000000 + 114, 2000000 + 109, 2000000 + 129, 2000000 + 130], []⟩ [] Try.func42 (by decide) rfl (by simp) (by simp) (by decide) ?_
  rw [Try.ntmps42]
  simp [go_sem]
  refine ⟨_, c0, ?_⟩
  rintro _ _ ⟨rfl, h, rfl⟩
  have c1 := l13Spoil_f c (0, h) hc (by unfold SOk; simp)
  simp only [srcA_eq] at *
  simp [go_sem]
  refine ⟨_, c1, ?_⟩
  rintro _ _ ⟨τ, z, f, h1, rfl, hD, rfl⟩
  have c2 := l13DrawPoint_r c τ z f hc h1
  simp only [srcA_eq] at *
  simp [go_sem]
  refine ⟨_, c2, ?_⟩
  rintro _ _ ⟨σ, y, h2, rfl, hy, rfl⟩
  have c3 := l01Pick_c c σ [0, 1, 2, 3, 2, 1, 4, 8, 9] hc h2 (by simp) (by simp)
  have m3 := pk_mem c hc σ (xs := [0, 1, 2, 3, 2, 1, 4, 8, 9]) (by simp)
  have s3 := nx2_ok hc h2 9
  have e3 : (([0, 1, 2, 3, 2, 1, 4, 8, 9] : List Int).length : Int) = 9 := rfl
  obtain ⟨k, hk⟩ : ∃ k : Nat, pk c σ [0, 1, 2, 3, 2, 1, 4, 8, 9] = k := ⟨(pk c σ [0, 1, 2, 3, 2, 1, 4, 8, 9]).toNat, by simp at m3; omega⟩
  have hk9 : k ≤ 9 := by rw [hk] at m3; simp at m3; omega
  rw [hk, e3] at c3
  generalize nx2 c σ 9 = τ2 at *
  simp only [srcA_eq] at *
  simp [go_sem]
  refine ⟨_, _, c3, ?_⟩
  simp [go_sem]
  refine loop_inv (5 :: 6 :: 8 :: 9 :: List.range' 21 10) (fun x : Src × List (List Int) × Nat => [(5, .box 183 [.sl c.length (bys c), .int x.1.1, .val (.int .u64 x.1.2)]), (6, .box 52 [.int z, .sl f.length (prt f)]), (8, .own 23 x.2.1.length (omat x.2.1)), (9, .int x.2.2)]) (fun x => SOk x.1 ∧ x.2.1.length + x.2.2 ≤ 9 ∧ ∀ v ∈ x.2.1, v.length ≤ 4) (fun x => x.2.2) (τ2, [], k) ⟨s3, by simpa using hk9, by simp⟩ (by simp [go_sem, omat_nil]) (by simp [go_sem]) ?_
  rintro ⟨ρ, vs, m⟩ ⟨q1, q2, q3⟩
  simp only at q1 q2 q3
  simp [go_sem]
  refine ⟨fun h => ?_, fun h => ?_⟩ <;> simp at h
  · have c4 := l13DrawPoint_r c ρ z f hc q1
    simp only [srcA_eq] at c4
    simp [go_sem]
    refine ⟨_, c4, ?_⟩
    rintro _ _ ⟨κ, v, j1, rfl, j2, rfl⟩
    simp [go_sem]
    refine ⟨⟨by omega, by omega⟩, by omega, κ.1, κ.2, vs ++ [v], m - 1, ⟨j1, by simp; omega, fun t ht => ?_⟩, by omega, Off_reset _ _ _ (by simp), ?_⟩
    · rcases List.mem_append.1 ht with ht | ht
      · exact q3 t ht
      · simp at ht; rw [ht]; exact j2
    · exact ⟨⟨rfl, rfl⟩, ⟨by simp, by simp [omat]⟩, by omega⟩
  · simp [go_sem]
    exact ⟨z, f, hD, y, hy, vs, by omega, q3, ⟨rfl, rfl, rfl⟩, ⟨rfl, rfl⟩, rfl, rfl⟩
end Go.Proofs.Ytoamidolomldnaa

/- What comes in at the statements of this part: tableaus, vectors, matrices. -/
namespace Go.Proofs.Ytoamidolomldnaa
open Go.ChangeShapes Go.WideShapes Go.ChangeAt Go.RowKit Go.Abs Go.Deep
set_option linter.unusedVariables false
section
variable {H : Type} {enc : TypeId × Value → H} {w : World} {sp : Nat → Bool} {held : Bool} {base : Nat}
theorem kids : Kids Try.prog (· < Try.prog.types.size) := kids_rows (by kernel_rfl) (by kernel_rfl)
theorem full : ∀ t e, t < Try.prog.types.size → Try.prog.underlying t = some (.slice e) → 0 < Try.prog.cellsOf e := slices_full_of Try.prog (by kernel_rfl)

theorem flat1 {α β : Type} (g : α → β) : ∀ qs : List α, qs.flatMap (fun a => [g a]) = qs.map g
  | [] => rfl
  | a :: qs => by rw [List.flatMap_cons, flat1 g qs]; rfl
theorem open_vec {n : Nat} {cs : List Value} {x : DataW H × List MemPlace} (h : DataW.trod enc Try.prog w base sp held n 23 cs = some x) :
    ∃ xs : List Int, (∀ z ∈ xs, (Lit.int .i64 z).wf = true) ∧ xs.length ≤ 9223372036854775807 ∧ RepL Try.prog w (fun b => b < w.heap.size) [.sl xs.length (avs xs)] cs [] ∧ cs.length = 1 := by
  obtain ⟨qs, h1, h2, h3, h4⟩ := open_sl (f := fun z : Int => [AV.int z]) (Good := fun z => (Lit.int .i64 z).wf = true) Try.underlying23 (s := 1) (by kernel_rfl) (by decide) (fun _ => rfl)
    (fun n cs y hy => by obtain ⟨z, k1, k2, _⟩ := open_i Try.underlying2 hy; exact ⟨z, k1, k2⟩) h
  exact ⟨qs, h1, h2, by rw [flat1] at h3; exact h3, h4⟩
theorem open_mat {n : Nat} {cs : List Value} {x : DataW H × List MemPlace} (h : DataW.trod enc Try.prog w base sp held n 22 cs = some x) :
    ∃ xs : List (List Int), (∀ r ∈ xs, (∀ z ∈ r, (Lit.int .i64 z).wf = true) ∧ r.length ≤ 9223372036854775807) ∧ xs.length ≤ 9223372036854775807 ∧ RepL Try.prog w (fun b => b < w.heap.size) [.sl xs.length (mat xs)] cs [] ∧ cs.length = 1 := by
  obtain ⟨qs, h1, h2, h3, h4⟩ := open_sl (f := fun r : List Int => [AV.sl r.length (avs r)]) (Good := fun r => (∀ z ∈ r, (Lit.int .i64 z).wf = true) ∧ r.length ≤ 9223372036854775807) Try.underlying22 (s := 1) (by kernel_rfl) (by decide) (fun _ => rfl)
    (fun n cs y hy => by obtain ⟨z, k1, k2, k3, _⟩ := open_vec hy; exact ⟨z, ⟨k1, k2⟩, k3⟩) h
  exact ⟨qs, h1, h2, by rw [flat1] at h3; exact h3, h4⟩
/-- A number's worth of cells of the tuple is what the walk takes. -/
theorem rep_one {F : Nat → Prop} {tm : Nat → Value} {oss : Nat → List Nat} {c : AV} {v : Value} (h : RepL Try.prog w F [c] [v] []) : RepT Try.prog w F tm oss c v [] := .cell _ _ _ (RepL.one h)
set_option maxRecDepth 100000 in
theorem repV {F : Nat → Prop} {tm : Nat → Value} {oss : Nat → List Nat} {t e : TypeId} {v : Value} {c : AV} {r : Reach} {b0 : Nat} (ht : Try.prog.underlying t = some (.slice e)) (hv : Value.okWide Try.prog w r b0 t v) (h : RepL Try.prog w F [c] v.cells.toList []) :
    RepT Try.prog w F tm oss c v [] := by
  have hc : v.cells.toList = [v] := by
    simp only [Value.okWide, ht] at hv
    cases v <;> simp_all [Value.cells, Cell.okWide, Cell.ok]
  rw [hc] at h
  exact rep_one h
set_option maxRecDepth 100000 in
/-- A tableau. -/
theorem open_tabl {r : Reach} {b0 : Nat} {v : Value} {d : DataW H} {p : List MemPlace} (hv : Value.okWide Try.prog w r b0 25 v) (h : DataW.Trod enc Try.prog w base sp held 25 v d p) :
    ∃ (xs : List (List Int)) (b : List Int), (∀ r ∈ xs, (∀ z ∈ r, (Lit.int .i64 z).wf = true) ∧ r.length ≤ 9223372036854775807) ∧ xs.length ≤ 9223372036854775807 ∧ (∀ z ∈ b, (Lit.int .i64 z).wf = true) ∧ b.length ≤ 9223372036854775807 ∧
      ∀ tm oss, RepT Try.prog w (fun b => b < w.heap.size) tm oss (.agg [.sl xs.length (mat xs), .sl b.length (avs b)]) v [] := by
  obtain ⟨v0, v1, y0, y1, n, rfl, rfl, rfl, k0, k1⟩ := Joins.open_agg2 Try.underlying25 (by kernel_rfl) (by kernel_rfl) hv h
  obtain ⟨xs, a1, a2, a3, _⟩ := open_mat k0
  obtain ⟨b, b1, b2, b3, _⟩ := open_vec k1
  exact ⟨xs, b, a1, a2, b1, b2, fun tm oss => .agg _ [v0, v1] [] rfl (.cons _ _ [] _ _ [] (rep_one a3) (.cons _ _ [] _ _ [] (rep_one b3) (.nil _)))⟩
end
end Go.Proofs.Ytoamidolomldnaa

/- Contracts: what the laws of drawn things call. -/
namespace Go.Proofs.Ytoamidolomldnaa
open Go.Abs
set_option linter.unusedVariables false
set_option linter.unusedSimpArgs false
set_option maxHeartbeats 1000000
open Go.ChangeShapes Go.WideShapes Go.ChangeAt Go.RowKit Go.Deep
theorem big_c (c : List Int) (hl : c.length ≤ 9223372036854775807) : Con Try.prog 32 [.sl c.length (bys c)] (.bool (decide (4096 < c.length))) := by
  refine con_of_vc Try.mixed ⟨3, [], [], []⟩ Try.func32 (by decide) rfl (by simp) (by decide) (by simp [freshOK, freshL, go_sem]) ?_
  rw [Try.ntmps32]
  simp [go_sem]
  omega
theorem DotOf_c (a b : List Int) (h : a.length = b.length) (hl : a.length ≤ 16) (ha : Ns a) (hb : Ns b) : Con Try.prog 52 [.sl a.length (avs a), .sl b.length (avs b)] (.tup [.int (dotI a b % 10007), .int 0]) := by
  have c1 := areNumbers_c a (by omega)
  have c2 := areNumbers_c b (by omega)
  have c3 := dot_c a b (by omega) (by omega) ha hb
  rw [numsB_N.2 ha] at c1
  rw [numsB_N.2 hb] at c2
  have h2 : (a.length : Int) = b.length := by omega
  have h64 : ¬ (64 : Int) < b.length := by omega
  rw [h] at c1 c3
  refine con_of_vc Try.mixed ⟨6, [], [], []⟩ Try.func52 (by decide) rfl (by simp) (by decide) (by simp [freshOK, freshL, go_sem]) ?_
  rw [Try.ntmps52]
  simp [go_sem]
  simp [go_sem, h, h64]
  refine CallVC.of (c1) (by decide) ?_
  simp [go_sem]
  refine CallVC.of (c2) (by decide) ?_
  simp [go_sem]
  refine CallVC.of (c3) (by decide) ?_
  simp [go_sem]
section
variable {H : Type} {enc : TypeId × Value → H} {w : World} {sp : Nat → Bool} {held : Bool} {base : Nat}
/-- Bytes that come in. -/
theorem open_bys {n : Nat} {cs : List Value} {x : DataW H × List MemPlace} (h : DataW.trod enc Try.prog w base sp held n 58 cs = some x) :
    ∃ xs : List Int, (∀ z ∈ xs, 0 ≤ z ∧ z ≤ 255) ∧ xs.length ≤ 9223372036854775807 ∧ RepL Try.prog w (fun b => b < w.heap.size) [.sl xs.length (bys xs)] cs [] ∧ cs.length = 1 := by
  obtain ⟨qs, h1, h2, h3, h4⟩ := open_sl (f := fun z : Int => [AV.val (.int .u8 z)]) (Good := fun z => (Lit.int .u8 z).wf = true) Try.underlying58 (s := 1) (by kernel_rfl) (by decide) (fun _ => rfl)
    (fun n cs y hy => by obtain ⟨z, k1, k2, _⟩ := open_i Try.underlying5 hy; exact ⟨z, k1, k2⟩) h
  refine ⟨qs, fun z hz => ?_, h2, by rw [flat1] at h3; exact h3, h4⟩
  have := h1 z hz
  simp [Lit.wf, IntKind.min, IntKind.max, IntKind.signed, IntKind.bits] at this
  omega
end
end Go.Proofs.Ytoamidolomldnaa

/- Contracts: derivatives at points for vectors, the reference's and the program's. -/
namespace Go.Proofs.Ytoamidolomldnaa
open Go.Abs
set_option linter.unusedVariables false
set_option linter.unusedSimpArgs false
set_option maxHeartbeats 1000000
def sum3 (k : Key) : Int := k.1 + k.2.1 + k.2.2
def DegLe (C : Key → Int) (D : Int) : Prop := ∀ k, NN k → D < sum3 k → C k = 0
theorem sum3_inc (i : Nat) (k : Key) : sum3 (inc i k) = sum3 k + 1 := by
  obtain ⟨a, b, c⟩ := k
  unfold inc sum3
  split
  · simp; omega
  · split <;> (simp; omega)
theorem DegLe.der {C : Key → Int} {D : Int} (h : DegLe C D) (i : Nat) : DegLe (der i C) (D - 1) := by
  intro k hk hd
  unfold Go.Proofs.Ytoamidolomldnaa.der
  rw [h (inc i k) (hk.inc i) (by rw [sum3_inc]; omega), Int.mul_zero]
theorem DegLe.alo {C : Key → Int} {D : Int} (h : DegLe C D) (v : Nat → Int) : ∀ n, DegLe (alo v C n) (D - 1)
  | 0 => fun _ _ _ => rfl
  | n + 1 => fun k hk hd => by
    show Go.Proofs.Ytoamidolomldnaa.alo v C n k + v n * Go.Proofs.Ytoamidolomldnaa.der n C k = 0
    rw [DegLe.alo h v n k hk hd, h.der n k hk hd]; simp
theorem DegLe.dv {n : Nat} : ∀ (vs : List (List Int)) {C : Key → Int} {D : Int}, DegLe C D → DegLe (Dv n vs C) (D - vs.length)
  | [], C, D, h => by simpa [Dv] using h
  | v :: vs, C, D, h => by
    have := DegLe.dv (n := n) vs (h.alo (yat v) n)
    rw [Dv]
    intro k hk hd
    exact this k hk (by simp at hd; omega)
theorem sum3_key {e : List Int} (h : e.length ≤ 3) : sum3 (keyOf e) = e.sum := by
  match e, h with
  | [], _ => rfl
  | [a], _ => simp [sum3, keyOf]
  | [a, b], _ => simp [sum3, keyOf]
  | [a, b, c], _ => simp [sum3, keyOf]; omega
theorem part_deg {n : Nat} {p : List Mon} (hn : n ≤ 3) (hp : partB (n : Int) p = true) : DegLe (cfL p) 3 := by
  intro k hk hd
  unfold cfL coef
  refine sumI_zero (fun m hm => if_neg (fun e => ?_))
  have ho := partB_mem hp hm
  have := ho.deg
  rw [e, sum3_key (by have := ho.len; omega)] at hd
  omega
theorem along_zero {n : Nat} {p : List Mon} {y : List Int} (hn : n ≤ 3) (hp : partB (n : Int) p = true) (vs : List (List Int)) (hv : 3 < vs.length) :
    Val (yat y) (gv (DvM n vs (polF p))) % 10007 = 0 := by
  rw [Val_eqv _ (DvM_gv n vs (polF p))]
  have e : gv (polF p) = cfL p := funext (polF_gv (keys_nd (by omega) hp))
  rw [e]
  have hd := (part_deg hn hp).dv (n := n) vs
  have : Val (yat y) (Dv n vs (cfL p)) = 0 := by
    unfold Val
    refine sumI_zero (fun k hk => ?_)
    have hN := NN.box hk
    obtain ⟨a, b, c⟩ := hN
    rw [hd k (NN.box hk) (by unfold sum3; omega), Int.zero_mul]
  rw [this]; rfl
theorem DvM_snoc (n : Nat) (v : List Int) : ∀ (vs : List (List Int)) (c : Key → Option Int), DvM n (vs ++ [v]) c = aloM v (DvM n vs c) n
  | [], c => rfl
  | u :: vs, c => by rw [List.cons_append, DvM, DvM_snoc n v vs, DvM]
theorem DvM_take {n : Nat} {vs : List (List Int)} {i : Nat} (h : i < vs.length) (c : Key → Option Int) : DvM n (vs.take (i + 1)) c = aloM (vs[i]?.getD []) (DvM n (vs.take i) c) n := by
  rw [List.take_add_one, List.getElem?_eq_getElem h, Option.toList_some, DvM_snoc]; rfl
theorem DvM_kok {n : Nat} (hn : n ≤ 3) : ∀ (vs : List (List Int)) {c : Key → Option Int}, (∀ k x, c k = some x → isN x ∧ KOk n k) → ∀ k x, DvM n vs c k = some x → isN x ∧ KOk n k
  | [], c, h => h
  | v :: vs, c, h => DvM_kok hn vs (aloM_kok hn h n (Nat.le_refl n))
/-- The derivative of a part. -/
def drvP (y : List Int) (n : Nat) (vs : List (List Int)) (p : List Mon) : Int := if 3 < vs.length then 0 else alongS y n vs p % 10007
def drvL (y : List Int) (n : Nat) (vs : List (List Int)) (f : List (List Mon)) : List Int := f.map (drvP y n vs)
@[simp] theorem drvL_len (y : List Int) (n : Nat) (vs : List (List Int)) (f : List (List Mon)) : (drvL y n vs f).length = f.length := by simp [drvL]
theorem drvL_take {y : List Int} {n : Nat} {vs : List (List Int)} {f : List (List Mon)} {i : Nat} (h : i < f.length) : drvL y n vs (f.take (i + 1)) = drvL y n vs (f.take i) ++ [drvP y n vs (f[i]?.getD [])] := by
  rw [drvL, drvL, List.take_add_one, List.map_append, List.getElem?_eq_getElem h]; rfl
theorem drvP_eq {n : Nat} {p : List Mon} {y : List Int} (hn : n ≤ 3) (hl : y.length = n) (hp : partB (n : Int) p = true) (vs : List (List Int)) :
    Val (yat y) (gv (DvM n vs (polF p))) % 10007 = drvP y n vs p := by
  unfold drvP
  by_cases h : 3 < vs.length
  · rw [if_pos h, along_zero hn hp vs h]
  · rw [if_neg h, along_eq hn hl hp vs]
@[simp] theorem mat_frz (A : List (List Int)) : frzL (mat A) = mat A := by
  induction A with
  | nil => rfl
  | cons r A ih => simp only [mat, List.map_cons, frzL] at ih ⊢; rw [ih]; rfl
/-- Vectors of n numbers. -/
def Vecs (n : Nat) (vs : List (List Int)) : Prop := ∀ v ∈ vs, v.length = n ∧ Ns v
set_option maxRecDepth 100000 in
theorem derivativeAt_c (z : Int) (f : List (List Mon)) (y : List Int) (vs : List (List Int)) (hf : FieldOk z f) (hs : Small f) (hy : Ns y) (hl : (y.length : Int) = z) (hv : Vecs y.length vs) (hvl : vs.length ≤ 1048576) :
    Con Try.prog 132 [.sl f.length (fpols f), .sl y.length (avs y), .sl vs.length (mat vs)] (.own 2 f.length (avs (drvL y y.length vs f))) := by
  have fl := hs.1
  have z3 := hf.hi
  refine con_of_vc Try.mixed ⟨12, [27], [], []⟩ Try.func132 (by decide) rfl (by simp) (by decide) (by simp [freshOK, freshL, go_sem]) ?_
  rw [Try.ntmps132]
  simp [go_sem]
  refine loop_inv (7 :: 9 :: 11 :: List.range' 15 21) (fun i : Nat => [(7, .own 2 i (avs (drvL y y.length vs (f.take i)))), (15, .int i)]) (fun i => i ≤ f.length) (fun i => f.length - i) 0 (by simp) (by simp [go_sem, drvL]) (by simp [go_sem]) ?_
  intro i hi
  simp [go_sem]
  refine ⟨fun h => ?_, fun h => ?_⟩ <;> simp at h
  · have hif := h
    have hx : f[i]?.getD [] ∈ f := by simp [h]
    have hdl := drvL_take (y := y) (n := y.length) (vs := vs) h
    have hpp : partB (y.length : Int) (f[i]?.getD []) = true := by rw [hl]; exact hf.part _ hx
    have hq : ∀ kk x, polF (f[i]?.getD []) kk = some x → isN x ∧ KOk y.length kk := fun kk x hkx => polF_kok (by omega) hpp hkx
    simp [go_sem, fpols_drop hif]
    refine ⟨⟨hif, by rintro rfl; simp at hif⟩, ?_⟩
    refine loop_inv (9 :: 11 :: List.range' 21 8) (fun j : Nat => [(9, .fmp (DvM y.length (vs.take j) (polF (f[i]?.getD [])))), (21, .int j)]) (fun j => j ≤ vs.length) (fun j => vs.length - j) 0 (by simp) (by simp [go_sem, DvM]) (by simp [go_sem]) ?_
    intro j hj
    simp [go_sem]
    refine ⟨fun h => ?_, fun h => ?_⟩ <;> simp at h
    · have hvm : vs[j]?.getD [] ∈ vs := by simp [h]
      have hvj := hv _ hvm
      have cA := along_c (n := y.length) (DvM y.length (vs.take j) (polF (f[i]?.getD []))) (vs[j]?.getD []) hvj.2 hvj.1 (by omega) (DvM_kok (by omega) _ hq)
      have ht := DvM_take (n := y.length) h (polF (f[i]?.getD []))
      simp [go_sem, mat_drop h]
      refine ⟨⟨h, by rintro rfl; simp at h⟩, ?_⟩
      refine CallVC.of (cA) (by decide) ?_
      simp [go_sem]
      exact ⟨by omega, j + 1, by omega, by omega, Off_reset _ _ _ (by simp), ht.symm, by omega⟩
    · have e : j = vs.length := by omega
      subst e
      have cV := value_c2 (DvM y.length vs (polF (f[i]?.getD []))) y hy (by omega) (DvM_kok (by omega) _ hq)
      rw [drvP_eq (by omega) rfl hpp] at cV
      rw [List.take_length]
      simp [go_sem]
      refine CallVC.of (cV) (by decide) ?_
      simp [go_sem]
      exact ⟨by omega, by omega, i + 1, by omega, by omega, (Off.reset (by intro x hx; simp at hx ⊢; omega) (by simp) (by simp [go_sem, Off_reset])), by rw [hdl]; simp [avs_snoc], by omega⟩
  · simp [go_sem]
    have e : i = f.length := by omega
    subst e; simp
theorem add_mul_mod (s a b : Int) : (s % 10007 + a * (b % 10007) % 10007) % 10007 = (s + a * b) % 10007 := by
  rw [mod_mul_r, ← Int.add_emod]
set_option maxRecDepth 100000 in
theorem l13Along_c {n : Nat} (y : List Int) (hy : Ns y) (hl : y.length = n) (hn : n ≤ 3) : ∀ (vs : List (List Int)) (p : List Mon), Vecs n vs → vs.length ≤ 1048576 → (∀ m ∈ p, WOk n 3 m) → p.length ≤ 1048576 →
    Con Try.prog 207 [.sl p.length (mons p), .sl y.length (avs y), .sl vs.length (mat vs)] (.int (alongS y n vs p % 10007))
  | [], p, _, _, hp, hpl => by
    have cV := l13ValueW_c (B := 3) p y hy (by omega) (by omega) (by omega) (by omega) (by rw [hl]; exact hp)
    refine con_of_vc Try.mixed ⟨9, [], [], []⟩ Try.func207 (by decide) rfl (by simp) (by decide) (by simp [freshOK, freshL, go_sem]) ?_
    rw [Try.ntmps207]
    simp [go_sem]
    refine CallVC.of (cV) (by decide) ?_
    simp [go_sem]
    rfl
  | v :: vs, p, hv, hvl, hp, hpl => by
    have hv0 := hv v (by simp)
    have em : mat (v :: vs) = .sl v.length (avs v) :: mat vs := rfl
    have el : ((v :: vs).length : Int) = (vs.length : Int) + 1 := by simp
    have ih := fun q hq hql => l13Along_c (n := n) y hy hl hn vs q (fun u hu => hv u (by simp [hu])) (by simp at hvl; omega) hq hql
    simp at hvl
    rw [em]
    refine con_of_vc Try.mixed ⟨9, [], [], []⟩ Try.func207 (by decide) rfl (by simp) (by decide) (by simp [freshOK, freshL, go_sem]) ?_
    rw [Try.ntmps207]
    simp [go_sem]
    refine ⟨fun h => ?_, fun h => ?_⟩
    · simp at h; omega
    simp [go_sem]
    refine loop_inv (7 :: 8 :: List.range' 15 22) (fun k : Nat => [(7, .int (sumTo (fun k => yat v k * alongS y n vs (derL k p)) k % 10007)), (8, .int k)]) (fun k => k ≤ n) (fun k => n - k) 0 (by simp) (by simp [go_sem, sumTo]) (by simp [go_sem]) ?_
    intro k hk
    simp [go_sem]
    refine ⟨fun h => ?_, fun h => ?_⟩ <;> simp at h
    · have hkn : k < n := by omega
      have hkv : k < v.length := by omega
      have hdl := derGo_len k p []
      have cD := l13Derive_c (n := n) (B := 3) p k hkn (by omega) (by omega) (by omega) hp (by omega)
      have cA := ih (derL k p) (derGo_wok hkn _ [] hp (by simp)) (by unfold derL; simp at hdl; omega)
      have hm := mul_fits (hv0.2.get k) (isN_mod (alongS y n vs (derL k p)))
      have hst : sumTo (fun k => yat v k * alongS y n vs (derL k p)) (k + 1) = sumTo (fun k => yat v k * alongS y n vs (derL k p)) k + v[k]?.getD 0 * alongS y n vs (derL k p) := rfl
      generalize sumTo (fun k => yat v k * alongS y n vs (derL k p)) k = s at *
      have ha := add_fits (isN_mod s) (isN_mod (v[k]?.getD 0 * (alongS y n vs (derL k p) % 10007)))
      simp [go_sem, avs_drop hkv]
      refine ⟨by kernel_rfl, ⟨hkv, by rintro rfl; simp at hkv⟩, ?_⟩
      refine CallD.of (cD) (by simp [roots, rootsL]) (by decide) ?_
      simp [go_sem]
      refine ⟨by omega, ?_⟩
      rw [List.take_of_length_le (by simp)]
      refine CallD.of (cA) (by simp [roots, rootsL]) (by decide) ?_
      simp [go_sem]
      refine CallD.of (l01Mul_c _ _ hm) (by simp [roots, rootsL]) (by decide) ?_
      simp [go_sem]
      refine CallD.of (l01Add_c _ _ ha) (by simp [roots, rootsL]) (by decide) ?_
      simp [go_sem]
      refine ⟨by kernel_rfl, ?_⟩
      simp [go_sem]
      exact ⟨by omega, k + 1, by omega, by omega, Off_reset _ _ _ (by simp), by rw [hst, Int.add_emod, mod_mul_r, ← Int.add_emod], by omega⟩
    · simp [go_sem]
      have e : k = n := by omega
      subst e
      rfl
theorem l13Derivative_c (z : Int) (f : List (List Mon)) (y : List Int) (vs : List (List Int)) (hf : FieldOk z f) (hs : Small f) (hy : Ns y) (hl : (y.length : Int) = z) (hv : Vecs y.length vs) (hvl : vs.length ≤ 1048576) :
    Con Try.prog 134 [.agg [.int z, .sl f.length (prt f)], .sl y.length (avs y), .sl vs.length (mat vs)] (.own 2 f.length (avs (drvL y y.length vs f))) := by
  have fl := hs.1
  have z3 := hf.hi
  refine con_of_vc Try.mixed ⟨9, [], [], []⟩ Try.func134 (by decide) rfl (by simp) (by decide) (by simp [freshOK, freshL, go_sem]) ?_
  rw [Try.ntmps134]
  simp [go_sem]
  refine loop_inv (7 :: 8 :: List.range' 10 24) (fun i : Nat => [(7, .own 2 i (avs (drvL y y.length vs (f.take i)))), (8, .int i)]) (fun i => i ≤ f.length) (fun i => f.length - i) 0 (by simp) (by simp [go_sem, drvL]) (by simp [go_sem]) ?_
  intro i hi
  simp [go_sem]
  refine ⟨fun h => ?_, fun h => ?_⟩ <;> simp at h
  · have hif := h
    have hx : f[i]?.getD [] ∈ f := by simp [h]
    have hdl := drvL_take (y := y) (n := y.length) (vs := vs) h
    have hpp : partB (y.length : Int) (f[i]?.getD []) = true := by rw [hl]; exact hf.part _ hx
    by_cases h3 : 3 < vs.length
    · have h3' : (3 : Int) < vs.length := by omega
      have hd : drvP y y.length vs (f[i]?.getD []) = 0 := by unfold drvP; rw [if_pos h3]
      rw [hd] at hdl
      simp [go_sem, h3, h3']
      exact ⟨by omega, by omega, i + 1, by omega, by omega, Off_reset _ _ _ (by simp), by rw [hdl]; simp [avs_snoc], by omega⟩
    · have h3' : ¬ (3 : Int) < vs.length := by omega
      have hd : drvP y y.length vs (f[i]?.getD []) = alongS y y.length vs (f[i]?.getD []) % 10007 := by unfold drvP; rw [if_neg h3]
      rw [hd] at hdl
      have cA := l13Along_c (n := y.length) y hy rfl (by omega) vs (f[i]?.getD []) hv hvl (fun m hm => (partB_mem hpp hm).vok.wok) (hs.2 _ hx).1
      simp [go_sem, h3, h3', prt_drop hif]
      refine ⟨⟨hif, by rintro rfl; simp at hif⟩, ?_⟩
      refine CallVC.of (cA) (by decide) ?_
      simp [go_sem]
      exact ⟨by omega, by omega, i + 1, by omega, by omega, Off_reset _ _ _ (by simp), by rw [hdl]; simp [avs_snoc], by omega⟩
  · simp [go_sem]
    have e : i = f.length := by omega
    subst e; simp
/-- What derivatives at a point answer. -/
def daB (z : Int) (y : List Int) (vs : List (List Int)) : Bool := vecB z y && decide (vs.length ≤ 8) && vs.all (vecB z)
def daX (z : Int) (f : List (List Mon)) (y : List Int) (vs : List (List Int)) : List Int := if fieldB z f = true ∧ daB z y vs = true then drvL y y.length vs f else []
def daE (z : Int) (f : List (List Mon)) (y : List Int) (vs : List (List Int)) : Int := if fieldB z f = true then if daB z y vs = true then 0 else 2 else 1
def daR (z : Int) (f : List (List Mon)) (y : List Int) (vs : List (List Int)) : AV := .tup [.own 2 (daX z f y vs).length (avs (daX z f y vs)), .int (daE z f y vs)]
theorem vecB_iff {z : Int} {y : List Int} : vecB z y = true ↔ (y.length : Int) = z ∧ Ns y := by
  unfold vecB; simp [numsB_N]
theorem daB_ok {z : Int} {y : List Int} {vs : List (List Int)} (h : daB z y vs = true) : ((y.length : Int) = z ∧ Ns y) ∧ vs.length ≤ 8 ∧ Vecs y.length vs := by
  unfold daB at h
  simp only [Bool.and_eq_true, decide_eq_true_eq, List.all_eq_true] at h
  obtain ⟨⟨h1, h2⟩, h3⟩ := h
  have h1 := vecB_iff.1 h1
  exact ⟨h1, h2, fun v hv => by have := vecB_iff.1 (h3 v hv); exact ⟨by omega, this.2⟩⟩
set_option maxRecDepth 100000 in
theorem DerivativeAt_c (z : Int) (f : List (List Mon)) (y : List Int) (vs : List (List Int)) (hs : Small f) (hy : y.length ≤ 1048576) (hvl : vs.length ≤ 1048576) (hvr : ∀ v ∈ vs, v.length ≤ 1048576) :
    Con Try.prog 43 [.agg [.int z, .sl f.length (prt f)], .sl y.length (avs y), .sl vs.length (mat vs)] (daR z f y vs) := by
  have cK := checkVectors_c z f (y :: vs) hs (by simp; omega) (fun v hv => by rcases List.mem_cons.1 hv with rfl | hv; omega; have := hvr v hv; omega)
  have em : mat (y :: vs) = .sl y.length (avs y) :: mat vs := rfl
  have el : (y :: vs).length = 1 + vs.length := by simp; omega
  rw [em, el] at cK
  unfold daR daX daE
  unfold chk at cK
  have hany : (y :: vs).any (fun y => !vecB z y) = !(vecB z y && vs.all (vecB z)) := by
    rw [List.any_cons]
    cases vecB z y with
    | false => rfl
    | true => rw [← List.not_all_eq_any_not]; simp
  rw [hany] at cK
  have hda : daB z y vs = (decide (vs.length ≤ 8) && (vecB z y && vs.all (vecB z))) := by
    unfold daB
    cases vecB z y <;> cases decide (vs.length ≤ 8) <;> simp
  cases hT : fieldB z f with
  | false =>
    rw [hT] at cK
    refine Con.n1 _ ?_
    refine con_of_vc Try.mixed ⟨9, [], [], []⟩ Try.func43 (by decide) rfl (by simp) (by decide) (by simp [freshOK, freshL, go_sem]) ?_
    rw [Try.ntmps43]
    simp [go_sem]
    refine ⟨by kernel_rfl, ⟨by omega, by omega⟩, ?_⟩
    refine CallD.of (cK) (by simp [roots, rootsL]) (by decide) ?_
    simp [go_sem]
    refine ⟨by kernel_rfl, ?_⟩
    simp [go_sem]
  | true =>
    rw [hT] at cK
    rw [hda]
    cases hb : (vecB z y && vs.all (vecB z)) with
    | false =>
      rw [hb] at cK
      simp only [Bool.not_false, if_true] at cK
      simp only [Bool.and_false, Bool.false_eq_true, and_false, if_false, if_true]
      refine Con.n1 _ ?_
      refine con_of_vc Try.mixed ⟨9, [], [], []⟩ Try.func43 (by decide) rfl (by simp) (by decide) (by simp [freshOK, freshL, go_sem]) ?_
      rw [Try.ntmps43]
      simp [go_sem]
      refine ⟨by kernel_rfl, ⟨by omega, by omega⟩, ?_⟩
      refine CallD.of (cK) (by simp [roots, rootsL]) (by decide) ?_
      simp [go_sem]
      refine ⟨by kernel_rfl, ?_⟩
      simp [go_sem]
    | true =>
      rw [hb] at cK
      simp only [Bool.not_true, Bool.false_eq_true, if_false, if_true] at cK
      by_cases h8 : vs.length ≤ 8
      · have h8' : ¬ (8 : Int) < vs.length := by omega
        have h8n : ¬ 8 < vs.length := by omega
        have hF := fieldB_iff.1 hT
        have hd : daB z y vs = true := by rw [hda, hb, decide_eq_true h8]; rfl
        obtain ⟨hy2, _, hV⟩ := daB_ok hd
        simp only [h8, decide_true, Bool.and_self, and_self, if_true, drvL_len]
        refine con_of_vc Try.mixed ⟨9, [], [], []⟩ Try.func43 (by decide) rfl (by simp) (by decide) (by simp [freshOK, freshL, go_sem]) ?_
        rw [Try.ntmps43]
        simp [go_sem]
        refine ⟨by kernel_rfl, ⟨by omega, by omega⟩, ?_⟩
        refine CallD.of (cK) (by simp [roots, rootsL]) (by decide) ?_
        simp [go_sem]
        refine ⟨by kernel_rfl, ?_⟩
        simp [go_sem]
        simp [go_sem, h8', h8n]
        refine CallVC.of (polynomials_c z f hF hs) (by decide) ?_
        simp [go_sem]
        refine CallVC.of (derivativeAt_c z f y vs hF hs hy2.2 hy2.1 hV hvl) (by decide) ?_
        simp [go_sem]
      · have h8' : (8 : Int) < vs.length := by omega
        have h8n : 8 < vs.length := by omega
        simp only [h8, decide_false, Bool.false_and, Bool.false_eq_true, and_false, if_false, if_true]
        refine Con.n1 _ ?_
        refine con_of_vc Try.mixed ⟨9, [], [], []⟩ Try.func43 (by decide) rfl (by simp) (by decide) (by simp [freshOK, freshL, go_sem]) ?_
        rw [Try.ntmps43]
        simp [go_sem]
        refine ⟨by kernel_rfl, ⟨by omega, by omega⟩, ?_⟩
        refine CallD.of (cK) (by simp [roots, rootsL]) (by decide) ?_
        simp [go_sem]
        refine ⟨by kernel_rfl, ?_⟩
        simp [go_sem]
        simp [go_sem, h8', h8n]
end Go.Proofs.Ytoamidolomldnaa

/- Derivatives along vectors: in any order, linear in each vector; with the Jacobian. -/
namespace Go.Proofs.Ytoamidolomldnaa
open Go.Abs
set_option linter.unusedVariables false
set_option linter.unusedSimpArgs false
set_option maxHeartbeats 1000000
theorem der_comm (i j : Nat) (C : Key → Int) : der i (der j C) = der j (der i C) := by
  funext ⟨a, b, c⟩
  unfold der inc at3
  have hi : i = 0 ∨ i = 1 ∨ (¬ i = 0 ∧ ¬ i = 1) := by omega
  have hj : j = 0 ∨ j = 1 ∨ (¬ j = 0 ∧ ¬ j = 1) := by omega
  rcases hi with rfl | rfl | ⟨h1, h2⟩ <;> rcases hj with rfl | rfl | ⟨h3, h4⟩
  · rfl
  · exact Int.mul_left_comm _ _ _
  · simp only [if_true, h3, h4, if_false]; exact Int.mul_left_comm _ _ _
  · exact Int.mul_left_comm _ _ _
  · rfl
  · simp only [if_true, h3, h4, if_false, Nat.one_ne_zero]; exact Int.mul_left_comm _ _ _
  · simp only [if_true, h1, h2, if_false]; exact Int.mul_left_comm _ _ _
  · simp only [if_true, h1, h2, if_false, Nat.one_ne_zero]; exact Int.mul_left_comm _ _ _
  · simp only [h1, h2, h3, h4, if_false]
theorem alo_fun_add (v : Nat → Int) (C D : Key → Int) (n : Nat) : alo v (fun k => C k + D k) n = fun k => alo v C n k + alo v D n k := funext (fun k => alo_add v C D k n)
theorem alo_fun_mul (v : Nat → Int) (c : Int) (C : Key → Int) (n : Nat) : alo v (fun k => c * C k) n = fun k => c * alo v C n k := funext (fun k => alo_mul v c C k n)
theorem der_alo (m : Nat) (w : Nat → Int) (C : Key → Int) : ∀ n, der m (alo w C n) = alo w (der m C) n
  | 0 => by funext k; simp [alo, der]
  | n + 1 => by
    have e : alo w C (n + 1) = fun k => alo w C n k + w n * der n C k := rfl
    rw [e]
    funext k
    rw [der_add, der_mul, der_alo m w C n, der_comm m n C]
    rfl
theorem alo_comm (v w : Nat → Int) (C : Key → Int) (n : Nat) : ∀ m, alo v (alo w C n) m = alo w (alo v C m) n
  | 0 => by
    have h0 : ∀ m (k : Key), alo w (fun _ => 0) m k = 0 := by
      intro m
      induction m with
      | zero => intro k; rfl
      | succ m ih => intro k; simp [alo, ih, der]
    funext k
    have : alo v C 0 = fun _ => 0 := rfl
    rw [this, h0]; rfl
  | m + 1 => by
    have e : alo v C (m + 1) = fun k => alo v C m k + v m * der m C k := rfl
    rw [e, alo_fun_add, alo_fun_mul, ← alo_comm v w C n m, ← der_alo]
    rfl
theorem Dv_perm (n : Nat) {vs us : List (List Int)} (h : vs.Perm us) : ∀ C, Dv n vs C = Dv n us C := by
  induction h with
  | nil => intro C; rfl
  | cons v _ ih => intro C; exact ih _
  | swap v u l => intro C; simp only [Dv]; rw [alo_comm]
  | trans _ _ i1 i2 => intro C; rw [i1, i2]
theorem alo_lin {u v w : Nat → Int} {c : Int} (C : Key → Int) : ∀ n, (∀ i, i < n → u i % 10007 = (c * v i + w i) % 10007) → Eqv (alo u C n) (fun k => c * alo v C n k + alo w C n k)
  | 0, _, k, _ => by simp [alo]
  | n + 1, h, k, hk => by
    have h1 := alo_lin C n (fun i hi => h i (by omega)) k hk
    have h2 := h n (by omega)
    simp only [alo] at h1 ⊢
    have h3 : u n * der n C k % 10007 = (c * (v n * der n C k) + w n * der n C k) % 10007 := by
      rw [Int.mul_emod, h2, ← Int.mul_emod, Int.add_mul, Int.mul_assoc]
    have e : c * (alo v C n k + v n * der n C k) = c * alo v C n k + c * (v n * der n C k) := Int.mul_add _ _ _
    rw [e]
    generalize c * alo v C n k = t1 at *
    generalize c * (v n * der n C k) = t2 at *
    generalize u n * der n C k = t3 at *
    generalize w n * der n C k = t4 at *
    omega
theorem drvP_dv {n : Nat} {p : List Mon} {y : List Int} (hn : n ≤ 3) (hl : y.length = n) (hp : partB (n : Int) p = true) (vs : List (List Int)) : drvP y n vs p = Val (yat y) (Dv n vs (cfL p)) % 10007 := by
  have e : gv (polF p) = cfL p := funext (polF_gv (keys_nd (by omega) hp))
  rw [← drvP_eq hn hl hp vs, Val_eqv _ (DvM_gv n vs (polF p)), e]
/-- Derivatives do not depend on the order of the vectors. -/
theorem drvP_perm {n : Nat} {p : List Mon} {y : List Int} (hn : n ≤ 3) (hl : y.length = n) (hp : partB (n : Int) p = true) {vs us : List (List Int)} (h : vs.Perm us) : drvP y n vs p = drvP y n us p := by
  rw [drvP_dv hn hl hp, drvP_dv hn hl hp, Dv_perm n h]
/-- They are linear in the first vector. -/
theorem drvP_lin {n : Nat} {p : List Mon} {y : List Int} (hn : n ≤ 3) (hl : y.length = n) (hp : partB (n : Int) p = true) {u v w : List Int} {c : Int} (vs : List (List Int))
    (h : ∀ i, i < n → yat u i % 10007 = (c * yat v i + yat w i) % 10007) : drvP y n (u :: vs) p = (drvP y n (v :: vs) p * c % 10007 + drvP y n (w :: vs) p) % 10007 := by
  have e := Dv_eqv n vs (alo_lin (cfL p) n h)
  have e2 : Dv n vs (fun k => c * alo (yat v) (cfL p) n k + alo (yat w) (cfL p) n k) = fun k => c * Dv n vs (alo (yat v) (cfL p) n) k + Dv n vs (alo (yat w) (cfL p) n) k := by
    rw [Dv_add, Dv_mul]
  rw [e2] at e
  have e3 := Val_eqv (yat y) e
  rw [Val_add, Val_mul] at e3
  rw [drvP_dv hn hl hp, drvP_dv hn hl hp, drvP_dv hn hl hp]
  show Val (yat y) (Dv n vs (alo (yat u) (cfL p) n)) % 10007 = _
  rw [e3]
  show _ = (Val (yat y) (Dv n vs (alo (yat v) (cfL p) n)) % 10007 * c % 10007 + Val (yat y) (Dv n vs (alo (yat w) (cfL p) n)) % 10007) % 10007
  generalize Val (yat y) (Dv n vs (alo (yat v) (cfL p) n)) = a
  generalize Val (yat y) (Dv n vs (alo (yat w) (cfL p) n)) = b
  rw [mod_mul_l, Int.mul_comm c a]
  omega
theorem sumTo_dot (f g : Nat → Int) : ∀ n, (∀ i, i < n → f i % 10007 = g i % 10007) → sumTo f n % 10007 = sumTo g n % 10007
  | 0, _ => rfl
  | n + 1, h => by
    have h1 := sumTo_dot f g n (fun i hi => h i (by omega))
    have h2 := h n (by omega)
    simp only [sumTo]
    omega
end Go.Proofs.Ytoamidolomldnaa

/- The plain law of derivatives: any order, linear in the first vector, the Jacobian for one, the value for none. -/
namespace Go.Proofs.Ytoamidolomldnaa
open Go.Abs
set_option linter.unusedVariables false
set_option linter.unusedSimpArgs false
set_option maxHeartbeats 1000000
theorem da_fine {z : Int} {f : List (List Mon)} {y : List Int} {vs : List (List Int)} (h : daE z f y vs = 0) : fieldB z f = true ∧ daB z y vs = true := by
  unfold daE at h
  cases h1 : fieldB z f <;> cases h2 : daB z y vs <;> simp [h1, h2] at h ⊢
theorem da_zero {z : Int} {f : List (List Mon)} {y : List Int} {vs : List (List Int)} (h1 : fieldB z f = true) (h2 : daB z y vs = true) : daE z f y vs = 0 := by
  unfold daE; simp [h1, h2]
theorem daX_eq {z : Int} {f : List (List Mon)} {y : List Int} {vs : List (List Int)} (h1 : fieldB z f = true) (h2 : daB z y vs = true) : daX z f y vs = drvL y y.length vs f := by
  unfold daX; rw [if_pos ⟨h1, h2⟩]
theorem daB_mk {z : Int} {y : List Int} {vs : List (List Int)} (h1 : vecB z y = true) (h2 : vs.length ≤ 8) (h3 : ∀ v ∈ vs, vecB z v = true) : daB z y vs = true := by
  unfold daB; simp [h1, h2]; exact h3
theorem daB_un {z : Int} {y : List Int} {vs : List (List Int)} (h : daB z y vs = true) : vecB z y = true ∧ vs.length ≤ 8 ∧ ∀ v ∈ vs, vecB z v = true := by
  unfold daB at h; simp at h; exact ⟨h.1.1, h.1.2, h.2⟩
theorem fld_un {z : Int} {f : List (List Mon)} (h : fieldB z f = true) : 1 ≤ z ∧ z ≤ 3 ∧ (f.length : Int) = z ∧ ∀ p ∈ f, partB z p = true := by
  unfold fieldB at h; simp at h; exact ⟨h.1.1.1, h.1.1.2, h.1.2, h.2⟩
theorem law_none {z : Int} {f : List (List Mon)} {y : List Int} (h1 : fieldB z f = true) (h2 : vecB z y = true) :
    evE z f y = 0 ∧ daE z f y [] = 0 ∧ evX z f y = daX z f y [] := by
  have hb : daB z y [] = true := daB_mk h2 (by simp) (by simp)
  refine ⟨?_, da_zero h1 hb, ?_⟩
  · unfold evE; unfold vecB at h2; simp [h1, h2]
  · rw [daX_eq h1 hb]
    unfold evX; unfold vecB at h2
    rw [if_pos ⟨h1, h2⟩]
    rfl
theorem law_back {z : Int} {f : List (List Mon)} {y : List Int} {vs : List (List Int)} (h1 : fieldB z f = true) (h2 : daB z y vs = true) :
    daE z f y vs.reverse = 0 ∧ daX z f y vs.reverse = daX z f y vs := by
  obtain ⟨q1, q2, q3⟩ := daB_un h2
  have hb : daB z y vs.reverse = true := daB_mk q1 (by simpa using q2) (fun v hv => q3 v (by simpa using hv))
  refine ⟨da_zero h1 hb, ?_⟩
  rw [daX_eq h1 hb, daX_eq h1 h2]
  have hy := (vecB_iff.1 q1).1
  obtain ⟨z1, z3, zl, zp⟩ := fld_un h1
  refine List.map_congr_left fun p hp => ?_
  exact drvP_perm (by omega) rfl (by rw [hy]; exact zp p hp) (List.reverse_perm vs)
theorem vec_mk {z : Int} {v : List Int} (h1 : (v.length : Int) = z) (h2 : Ns v) : vecB z v = true := vecB_iff.2 ⟨h1, h2⟩
theorem law_lin {z : Int} {f : List (List Mon)} {y v w : List Int} {vs : List (List Int)} {k : Int} (h1 : fieldB z f = true) (h2 : daB z y (v :: vs) = true) (hw : vecB z w = true) :
    daE z f y (pl5 (tm5 v k) w :: vs) = 0 ∧ daE z f y (w :: vs) = 0 ∧ daX z f y (pl5 (tm5 v k) w :: vs) = pl5 (tm5 (daX z f y (v :: vs)) k) (daX z f y (w :: vs)) := by
  obtain ⟨q1, q2, q3⟩ := daB_un h2
  have hv := vecB_iff.1 (q3 v (by simp))
  have hw2 := vecB_iff.1 hw
  have hu : vecB z (pl5 (tm5 v k) w) = true := vec_mk (by simpa using hv.1) (pl5_N _ _)
  have hb1 : daB z y (pl5 (tm5 v k) w :: vs) = true := daB_mk q1 (by simpa using q2) (fun t ht => by
    rcases List.mem_cons.1 ht with rfl | ht
    · exact hu
    · exact q3 t (by simp [ht]))
  have hb2 : daB z y (w :: vs) = true := daB_mk q1 (by simpa using q2) (fun t ht => by
    rcases List.mem_cons.1 ht with rfl | ht
    · exact hw
    · exact q3 t (by simp [ht]))
  refine ⟨da_zero h1 hb1, da_zero h1 hb2, ?_⟩
  rw [daX_eq h1 hb1, daX_eq h1 hb2, daX_eq h1 h2]
  have hy := (vecB_iff.1 q1).1
  obtain ⟨z1, z3, zl, zp⟩ := fld_un h1
  refine List.ext_getElem (by simp) fun i hi hj => ?_
  simp only [drvL_len, pl5_len, tm5_len] at hi hj
  have hp := zp (f[i]) (List.getElem_mem hi)
  rw [← hy] at hp
  have e := drvP_lin (u := pl5 (tm5 v k) w) (v := v) (w := w) (c := k) (n := y.length) (y := y) (by omega) rfl hp vs (fun j hj => by
    have j1 : j < v.length := by omega
    have j2 : j < (tm5 v k).length := by simpa using j1
    unfold yat
    rw [pl5_get j2, tm5_get j1, Int.mul_comm k]
    omega)
  have i2 : i < (tm5 (drvL y y.length (v :: vs) f) k).length := by simpa using hi
  have i3 : i < (drvL y y.length (v :: vs) f).length := by simpa using hi
  have g := pl5_get (b := drvL y y.length (w :: vs) f) i2
  rw [tm5_get i3] at g
  have g2 : (pl5 (tm5 (drvL y y.length (v :: vs) f) k) (drvL y y.length (w :: vs) f))[i]?.getD 0 = (pl5 (tm5 (drvL y y.length (v :: vs) f) k) (drvL y y.length (w :: vs) f))[i]'(by simpa using hi) := by simp [hi]
  rw [← g2, g]
  have d1 : ∀ us, (drvL y y.length us f)[i]?.getD 0 = drvP y y.length us f[i] := fun us => by simp [drvL, hi]
  rw [d1, d1]
  have d2 : ∀ us (h : i < (drvL y y.length us f).length), (drvL y y.length us f)[i] = drvP y y.length us f[i] := fun us h => by simp [drvL]
  rw [d2, e]
theorem dot_sumTo (a b : List Int) (h : a.length = b.length) : dotI a b = sumTo (fun i => yat a i * yat b i) a.length := by
  have gen : ∀ k, k ≤ a.length → dotI (a.take k) (b.take k) = sumTo (fun i => yat a i * yat b i) k := by
    intro k
    induction k with
    | zero => intro _; simp [dotI, sumTo]
    | succ k ih =>
      intro hk
      rw [dotI_take (by omega) (by omega), ih (by omega)]
      rfl
  have := gen a.length (Nat.le_refl _)
  rw [List.take_length] at this
  rw [h, List.take_length] at this
  rw [this, h]
theorem law_first {z : Int} {f : List (List Mon)} {y v : List Int} {vs : List (List Int)} (h1 : fieldB z f = true) (h2 : daB z y (v :: vs) = true) :
    daE z f y [v] = 0 ∧ ((daX z f y [v]).length : Int) = z ∧ ((jcX z f y).length : Int) = z ∧ jcX z f y = jacL y.length y f ∧ ∀ i, i < (jcX z f y).length → ((jcX z f y)[i]?.getD []).length = v.length ∧ Ns ((jcX z f y)[i]?.getD []) ∧ dotI ((jcX z f y)[i]?.getD []) v % 10007 = (daX z f y [v])[i]?.getD 0 := by
  obtain ⟨q1, q2, q3⟩ := daB_un h2
  have hv := vecB_iff.1 (q3 v (by simp))
  have hb : daB z y [v] = true := daB_mk q1 (by simp) (fun t ht => by simp at ht; rw [ht]; exact q3 v (by simp))
  have hy := (vecB_iff.1 q1).1
  obtain ⟨z1, z3, zl, zp⟩ := fld_un h1
  have hj : jcX z f y = jacL y.length y f := by
    unfold jcX; unfold vecB at q1; rw [if_pos ⟨h1, q1⟩]
  refine ⟨da_zero h1 hb, by rw [daX_eq h1 hb]; simpa using zl, by rw [hj]; simpa using zl, hj, fun i hi => ?_⟩
  rw [hj] at hi ⊢
  rw [daX_eq h1 hb]
  have hif : i < f.length := by simpa using hi
  have e1 : (jacL y.length y f)[i]?.getD [] = jacR y.length y f[i] := by simp [jacL, hif]
  have e2 : (drvL y y.length [v] f)[i]?.getD 0 = drvP y y.length [v] f[i] := by simp [drvL, hif]
  rw [e1, e2]
  have hlen : (jacR y.length y f[i]).length = v.length := by simp; omega
  refine ⟨hlen, ?_, ?_⟩
  · intro x hx
    unfold jacR at hx
    obtain ⟨k, _, rfl⟩ := List.mem_map.1 hx
    exact isN_mod _
  · rw [dot_sumTo _ _ hlen]
    unfold drvP
    rw [if_neg (by simp)]
    show _ = sumTo (fun k => yat v k * vsum y (derL k f[i])) y.length % 10007
    rw [jacR_len]
    refine sumTo_dot _ _ _ fun k hk => ?_
    have : yat (jacR y.length y f[i]) k = vsum y (derL k f[i]) % 10007 := by unfold yat jacR; simp [hk]
    rw [this, mod_mul_l, Int.mul_comm]
end Go.Proofs.Ytoamidolomldnaa

/- Contracts: the reference's derivatives at points; the marks of lists of rows handed in. -/
namespace Go.Proofs.Ytoamidolomldnaa
open Go.Abs
set_option linter.unusedVariables false
set_option linter.unusedSimpArgs false
set_option maxHeartbeats 4000000
set_option maxRecDepth 100000 in
theorem specDerivativeAt_c (z : Int) (f : List (List Mon)) (y : List Int) (vs : List (List Int)) (hs : Small f) (hy : y.length ≤ 1048576) (hvl : vs.length ≤ 1048576) (hvr : ∀ v ∈ vs, v.length ≤ 1048576) :
    Con Try.prog 44 [.agg [.int z, .sl f.length (prt f)], .sl y.length (avs y), .sl vs.length (mat vs)] (daR z f y vs) := by
  have cT := l13Is_c z f hs
  have cR := l13Point_c z y (by omega)
  unfold daR daX daE
  cases hT : fieldB z f with
  | false =>
    rw [hT] at cT
    refine Con.n1 _ ?_
    refine con_of_vc Try.mixed ⟨9, [], [], []⟩ Try.func44 (by decide) rfl (by simp) (by decide) (by simp [freshOK, freshL, go_sem]) ?_
    rw [Try.ntmps44]
    simp [go_sem]
    refine CallVC.of (cT) (by decide) ?_
    simp [go_sem]
  | true =>
    rw [hT] at cT
    have hvb : (decide ((y.length : Int) = z) && numsB y) = vecB z y := rfl
    rw [hvb] at cR
    have hda : daB z y vs = (vecB z y && decide (vs.length ≤ 8) && vs.all (vecB z)) := rfl
    cases hn : vecB z y with
    | false =>
      rw [hn] at cR
      rw [hda, hn]
      simp only [Bool.false_and, Bool.false_eq_true, and_false, if_false, if_true]
      refine Con.n1 _ ?_
      refine con_of_vc Try.mixed ⟨9, [], [], []⟩ Try.func44 (by decide) rfl (by simp) (by decide) (by simp [freshOK, freshL, go_sem]) ?_
      rw [Try.ntmps44]
      simp [go_sem]
      refine CallVC.of (cT) (by decide) ?_
      simp [go_sem]
      refine CallVC.of (cR) (by decide) ?_
      simp [go_sem]
    | true =>
      rw [hn] at cR
      rw [hn] at hda
      by_cases h8 : vs.length ≤ 8
      · have h8' : ¬ (8 : Int) < vs.length := by omega
        have h8n : ¬ 8 < vs.length := by omega
        simp only [h8, decide_true, Bool.and_self, Bool.true_and] at hda
        rw [hda]
        cases ha : vs.all (vecB z) with
        | true =>
          rw [ha] at hda
          have hF := fieldB_iff.1 hT
          obtain ⟨hy2, _, hV⟩ := daB_ok hda
          have hall : ∀ v ∈ vs, vecB z v = true := List.all_eq_true.1 ha
          simp only [and_self, if_true, drvL_len]
          refine con_of_vc Try.mixed ⟨9, [], [], []⟩ Try.func44 (by decide) rfl (by simp) (by decide) (by simp [freshOK, freshL, go_sem]) ?_
          rw [Try.ntmps44]
          simp [go_sem]
          refine CallVC.of (cT) (by decide) ?_
          simp [go_sem]
          refine CallVC.of (cR) (by decide) ?_
          simp [go_sem]
          simp [go_sem, h8', h8n]
          refine loop_inv (6 :: 7 :: 8 :: List.range' 22 14) (fun i : Nat => [(8, .int i)]) (fun i => i ≤ vs.length) (fun i => vs.length - i) 0 (by simp) (by simp [go_sem]) (by simp [go_sem]) ?_
          intro i hi
          simp [go_sem]
          refine ⟨fun h => ?_, fun h => ?_⟩ <;> simp at h
          · have hx : vs[i]?.getD [] ∈ vs := by simp [h]
            have cV := l13Point_c z (vs[i]?.getD []) (by have := hvr _ hx; omega)
            have hv : (decide (((vs[i]?.getD []).length : Int) = z) && numsB (vs[i]?.getD [])) = true := hall _ hx
            rw [hv] at cV
            simp [go_sem, mat_drop h]
            refine ⟨by kernel_rfl, ⟨h, by rintro rfl; simp at h⟩, ?_⟩
            refine CallD.of (cV) (by simp [roots, rootsL]) (by decide) ?_
            simp [go_sem]
            refine ⟨by kernel_rfl, ?_⟩
            simp [go_sem]
            exact ⟨by omega, i + 1, by omega, by omega, Off_reset _ _ _ (by simp), by omega⟩
          · simp [go_sem]
            refine CallVC.of (l13Derivative_c z f y vs hF hs hy2.2 hy2.1 hV hvl) (by decide) ?_
            simp [go_sem]
        | false =>
          simp only [Bool.false_eq_true, and_false, if_false, if_true]
          refine Con.n1 _ ?_
          refine con_of_vc Try.mixed ⟨9, [], [], []⟩ Try.func44 (by decide) rfl (by simp) (by decide) (by simp [freshOK, freshL, go_sem]) ?_
          rw [Try.ntmps44]
          simp [go_sem]
          refine CallVC.of (cT) (by decide) ?_
          simp [go_sem]
          refine CallVC.of (cR) (by decide) ?_
          simp [go_sem]
          simp [go_sem, h8', h8n]
          refine loop_inv (6 :: 7 :: 8 :: List.range' 22 14) (fun i : Nat => [(8, .int i)]) (fun i => i ≤ vs.length ∧ ∀ v ∈ vs.take i, vecB z v = true) (fun i => vs.length - i) 0 (by simp) (by simp [go_sem]) (by simp [go_sem]) ?_
          rintro i ⟨hi, hp⟩
          simp [go_sem]
          refine ⟨fun h => ?_, fun h => ?_⟩ <;> simp at h
          · have hx : vs[i]?.getD [] ∈ vs := by simp [h]
            have cV := l13Point_c z (vs[i]?.getD []) (by have := hvr _ hx; omega)
            have hvb2 : (decide (((vs[i]?.getD []).length : Int) = z) && numsB (vs[i]?.getD [])) = vecB z (vs[i]?.getD []) := rfl
            rw [hvb2] at cV
            cases hv : vecB z (vs[i]?.getD []) with
            | false =>
              rw [hv] at cV
              simp [go_sem, mat_drop h]
              refine ⟨by kernel_rfl, ⟨h, by rintro rfl; simp at h⟩, ?_⟩
              refine CallD.of (cV) (by simp [roots, rootsL]) (by decide) ?_
              simp [go_sem]
              refine ⟨by kernel_rfl, ?_⟩
              simp [go_sem]
            | true =>
              rw [hv] at cV
              simp [go_sem, mat_drop h]
              refine ⟨by kernel_rfl, ⟨h, by rintro rfl; simp at h⟩, ?_⟩
              refine CallD.of (cV) (by simp [roots, rootsL]) (by decide) ?_
              simp [go_sem]
              refine ⟨by kernel_rfl, ?_⟩
              simp [go_sem]
              refine ⟨by omega, i + 1, ⟨by omega, fun v hv2 => ?_⟩, by omega, Off_reset _ _ _ (by simp), by omega⟩
              rw [List.take_add_one, List.getElem?_eq_getElem h, Option.toList_some, List.mem_append, List.mem_singleton] at hv2
              rcases hv2 with hv2 | hv2
              · exact hp v hv2
              · rw [hv2]; simpa [h] using hv
          · have hbad : False := by
              rw [List.take_of_length_le h] at hp
              rw [List.all_eq_true.2 hp] at ha
              exact Bool.noConfusion ha
            exact hbad.elim
      · have h8' : (8 : Int) < vs.length := by omega
        have h8n : 8 < vs.length := by omega
        rw [hda]
        simp only [h8, decide_false, Bool.and_false, Bool.false_and, Bool.false_eq_true, and_false, if_false, if_true]
        refine Con.n1 _ ?_
        refine con_of_vc Try.mixed ⟨9, [], [], []⟩ Try.func44 (by decide) rfl (by simp) (by decide) (by simp [freshOK, freshL, go_sem]) ?_
        rw [Try.ntmps44]
        simp [go_sem]
        refine CallVC.of (cT) (by decide) ?_
        simp [go_sem]
        refine CallVC.of (cR) (by decide) ?_
        simp [go_sem]
        simp [go_sem, h8', h8n]
theorem daX_len (z : Int) (f : List (List Mon)) (y : List Int) (vs : List (List Int)) : (daX z f y vs).length ≤ f.length := by
  unfold daX; split <;> simp
end Go.Proofs.Ytoamidolomldnaa

/- Derivatives do not depend on the order of the vectors, are linear in the first one, and are the products with the Jacobian for one vector and the value for none. -/
namespace Go.Proofs.Ytoamidolomldnaa
open Go.Abs
set_option linter.unusedVariables false
set_option linter.unusedSimpArgs false
set_option maxHeartbeats 4000000
theorem DrS.small {z : Int} {f : List (List Mon)} (h : DrS z f) : Small f := ⟨by have := h.2.2.1; omega, fun p hp => ⟨by have := (h.2.2.2 p hp).1; omega, fun q hq => by have := (h.2.2.2 p hp).2 q hq; omega⟩⟩
theorem drvL_N (y : List Int) (n : Nat) (vs : List (List Int)) (f : List (List Mon)) : Ns (drvL y n vs f) := fun x hx => by
  obtain ⟨p, _, rfl⟩ := List.mem_map.1 hx
  unfold drvP
  split
  · exact ⟨by omega, by omega⟩
  · exact isN_mod _
set_option maxRecDepth 100000 in
theorem FnDerivatives_c (c : List Int) (hl : c.length ≤ 9223372036854775807) (hb : ∀ x ∈ c, 0 ≤ x ∧ x ≤ 255) : Con Try.prog 7 [.sl c.length (bys c)] (.bool true) := by
  have cB := big_c c hl
  by_cases hc4 : 4096 < c.length
  · refine con_of_vc Try.mixed ⟨33, [5, 22, 170, 204], [1000000 + 48, 1000000 + 49, 2000000 + 42, 2000000 + 47], [2002401990208]⟩ Try.func7 (by decide) rfl (by simp) (by decide) (by simp [freshOK, freshL, go_sem]) ?_
    rw [Try.ntmps7]
    simp [go_sem]
    refine CallVC.of (cB) (by decide) ?_
    simp [go_sem]
    simp [go_sem, hc4]
  · have hc : Byt c := ⟨by omega, hb⟩
    have cD := DrawDerivativeAt_r c hc
    have cR := roll_r c 609 hc
    refine con_of_vc Try.mixed ⟨33, [5, 22, 170, 204], [1000000 + 48, 1000000 + 49, 2000000 + 42, 2000000 + 47], [2002401990208]⟩ Try.func7 (by decide) rfl (by simp) (by decide) (by simp [freshOK, freshL, go_sem]) ?_
    rw [Try.ntmps7]
    simp [go_sem]
    refine CallVC.of (cB) (by decide) ?_
    simp [go_sem]
    simp [go_sem, hc4]
    refine ⟨_, cD, ?_⟩
    rintro _ _ ⟨rfl, z, f, y, vs, hD, hy, hvs, hv, rfl⟩
    have hS := hD.small
    have cA := DerivativeAt_c z f y vs hS (by omega) (by omega) (fun v h => by have := hv v h; omega)
    have cS := specDerivativeAt_c z f y vs hS (by omega) (by omega) (fun v h => by have := hv v h; omega)
    unfold daR at cA cS
    have hX : (daX z f y vs).length ≤ 4 := by
      unfold daX; split
      · simp; exact hD.2.2.1
      · simp
    simp [go_sem]
    refine CallVC.of (cA) (by decide) ?_
    simp [go_sem]
    refine CallVC.of (cS) (by decide) ?_
    simp [go_sem]
    refine CallVC.of (likeInts_c _ _ (by omega)) (by decide) ?_
    simp [go_sem]
    by_cases hE : daE z f y vs = 0
    · obtain ⟨h1, h2⟩ := da_fine hE
      obtain ⟨q1, q2, q3⟩ := daB_un h2
      have hz := (vecB_iff.1 q1).1
      obtain ⟨z1, z3, zl, zp⟩ := fld_un h1
      obtain ⟨n, rfl⟩ : ∃ n : Nat, z = n := ⟨z.toNat, by omega⟩
      have cE := EvaluateField_c n f y hS (by omega)
      have c0 := DerivativeAt_c n f y [] hS (by omega) (by simp) (by simp)
      have cJ := JacobianAt_c n f y hS (by omega)
      unfold evR at cE
      unfold daR at c0
      unfold jcR at cJ
      obtain ⟨n1, n2, n3⟩ := law_none h1 q1
      rw [n1, n3] at cE
      rw [n2] at c0
      rw [n1] at cJ
      simp [go_sem, hE]
      refine CallVC.of (cE) (by decide) ?_
      simp [go_sem]
      refine CallVC.of (c0) (by decide) ?_
      simp [go_sem]
      refine CallVC.of (cJ) (by decide) ?_
      simp [go_sem]
      have hX0 : (daX n f y []).length ≤ 4 := by
        rw [daX_eq h1 (daB_mk q1 (by simp) (by simp))]; simp; omega
      have hJl : ((jcX n f y).length : Int) = n := by
        have q := q1; unfold vecB at q
        unfold jcX; rw [if_pos ⟨h1, q⟩]; simpa using zl
      refine CallVC.of (likeInts_c _ _ (by omega)) (by decide) ?_
      simp [go_sem]
      simp [go_sem, hJl]
      rcases vs with _ | ⟨v, vs⟩
      · simp [go_sem]
        refine CallVC.of (likeInts_c _ _ (by omega)) (by decide) ?_
        simp [go_sem]
      · have hw1 := law_back h1 h2
        have cBk := DerivativeAt_c n f y (v :: vs).reverse hS (by omega) (by simp at hvs ⊢; omega) (fun t ht => by have := hv t (List.mem_reverse.1 ht); omega)
        unfold daR at cBk
        have el : (v :: vs).reverse.length = vs.length + 1 := by simp
        rw [hw1.1, hw1.2, el, List.reverse_cons] at cBk
        have hvl : (v :: vs).length = vs.length + 1 := rfl
        simp [go_sem]
        refine ⟨by simp at hvs; omega, ?_⟩
        refine loop_inv (List.range' 16 2 ++ List.range' 118 11) (fun r : Nat => [(16, .own 23 (vs.length + 1 - r) (mat ((v :: vs).drop r).reverse)), (17, .int ((r : Int) - 1))]) (fun r => r ≤ vs.length + 1) (fun r => r) (vs.length + 1) (by simp) (by simp [go_sem, mat]) (by simp [go_sem]) ?_
        intro r hr
        simp [go_sem]
        refine ⟨fun h => ?_, fun h => ?_⟩ <;> simp at h
        · obtain ⟨k, rfl⟩ : ∃ k, r = k + 1 := ⟨r - 1, by omega⟩
          have hkl : k < (v :: vs).length := by simp; omega
          have hM := mat_drop hkl
          have hk1 : ((k + 1 : Nat) : Int) - 1 = k := by omega
          rw [hk1]
          simp [go_sem, hM]
          refine ⟨by omega, ⟨by omega, by omega⟩, ⟨by omega, by omega⟩, k, by omega, by omega, Off_reset _ _ _ (by simp), ?_⟩
          refine ⟨⟨by omega, ?_⟩, by omega⟩
          have hd : (v :: vs).drop k = (v :: vs)[k]?.getD [] :: (v :: vs).drop (k + 1) := by
            rw [List.drop_eq_getElem_cons hkl]; simp [List.getElem?_eq_getElem hkl]
          rw [hd, List.reverse_cons]
          simp [mat]
        · have e : r = 0 := by omega
          subst e
          have hvn := vecB_iff.1 (q3 v (by simp))
          rw [hvl] at hvs
          have hF := law_first h1 h2
          have f1 := hF.1
          have f2 := hF.2.1
          have f3 := hF.2.2.1
          have f5 := hF.2.2.2.2
          have cF := DerivativeAt_c n f y [v] hS (by omega) (by simp) (fun t ht => by have := hv t (by simp at ht; simp [ht]); omega)
          unfold daR at cF
          have m3 : mat [v] = [.sl v.length (avs v)] := rfl
          have m4 : ([v] : List (List Int)).length = 1 := rfl
          rw [f1, m3, m4] at cF
          simp [go_sem]
          refine CallVC.of (cBk) (by decide) ?_
          simp [go_sem]
          refine ⟨_, cR, ?_⟩
          rintro _ _ ⟨rfl, h, rfl⟩
          have s0 : SOk ((0, h) : Src) := by unfold SOk; simp
          have cN := number5_c c (0, h) hc s0
          have hN := n5V_ok hc s0
          generalize n5V c (0, h) = r at *
          have cL := list5_c c r.2 n hc hN.2 (by omega)
          have hL := lsV_ok (f := n5V c) (fun σ h => n5V_ok hc h) n r.2 hN.2
          generalize lsV (n5V c) n r.2 = u at *
          have hwl := hL.1
          have hwN := hL.2.1
          clear hL
          generalize u.1 = w at *
          generalize u.2 = u2 at *
          have hkN := hN.1
          have hr2 := hN.2
          clear hN
          generalize r.1 = kk at *
          generalize r.2 = r2 at *
          have hwB : vecB n w = true := vec_mk (by omega) hwN
          have hG := law_lin (k := kk) h1 h2 hwB
          have g1 := hG.1
          have g2 := hG.2.1
          have g3 := hG.2.2
          unfold dicA at *
          have cA1 := DerivativeAt_c n f y (pl5 (tm5 v kk) w :: vs) hS (by omega) (by simp; omega) (fun t ht => by
            rcases List.mem_cons.1 ht with rfl | ht
            · simp; omega
            · have := hv t (by simp [ht]); omega)
          have cA2 := DerivativeAt_c n f y (w :: vs) hS (by omega) (by simp; omega) (fun t ht => by
            rcases List.mem_cons.1 ht with rfl | ht
            · omega
            · have := hv t (by simp [ht]); omega)
          unfold daR at cA1 cA2
          rw [g1] at cA1
          rw [g2] at cA2
          have x1 : (daX n f y (w :: vs)).length ≤ 4 ∧ Ns (daX n f y (w :: vs)) ∧ (daX n f y (v :: vs)).length = (daX n f y (w :: vs)).length ∧ Ns (daX n f y (v :: vs)) := by
            have e1 := daX_eq h1 (da_fine g2).2
            have e2 := daX_eq h1 h2
            rw [e1, e2]
            refine ⟨by simp; omega, drvL_N _ _ _ _, by simp, drvL_N _ _ _ _⟩
          have cT := times5_c v kk (by omega) hvn.2 hkN
          have cPl := plus5_c (tm5 v kk) w (by simp; omega) (by simp; omega) (tm5_N _ _) hwN
          rw [tm5_len, hwl] at cPl
          have cT2 := times5_c (daX n f y (v :: vs)) kk (by omega) x1.2.2.2 hkN
          have cP2 := plus5_c (tm5 (daX n f y (v :: vs)) kk) (daX n f y (w :: vs)) (by simp; omega) (by simpa using x1.2.2.1) (tm5_N _ _) x1.2.1
          rw [tm5_len] at cP2
          have cL2 := likeInts_c (pl5 (tm5 (daX n f y (v :: vs)) kk) (daX n f y (w :: vs))) (pl5 (tm5 (daX n f y (v :: vs)) kk) (daX n f y (w :: vs))) (by simp; omega)
          rw [pl5_len, tm5_len] at cL2
          rw [g3, pl5_len, tm5_len] at cA1
          have m1 : mat (pl5 (tm5 v kk) w :: vs) = .sl v.length (avs (pl5 (tm5 v kk) w)) :: mat vs := by
            show AV.sl (pl5 (tm5 v kk) w).length _ :: _ = _
            rw [pl5_len, tm5_len]; rfl
          have m2 : mat (w :: vs) = .sl n (avs w) :: mat vs := by
            show AV.sl w.length _ :: _ = _
            rw [hwl]; rfl
          rw [m1, List.length_cons, Nat.add_comm] at cA1
          rw [m2, List.length_cons, Nat.add_comm] at cA2
          simp [go_sem]
          refine DrawVC5.mono (K := fun S' => S' 3 = .box 52 [.int n, .sl f.length (prt f)] ∧ S' 4 = .own 2 y.length (avs y) ∧ S' 5 = .sl (vs.length + 1) (.sl v.length (avs v) :: mat vs) ∧
            S' 6 = .own 2 (daX n f y (v :: vs)).length (avs (daX n f y (v :: vs))) ∧ S' 14 = .own 23 (jcX n f y).length (omat (jcX n f y)) ∧ S' 18 = .own 2 (daX n f y (v :: vs)).length (avs (daX n f y (v :: vs))) ∧
            S' 19 = .int 0 ∧ S' 21 = .int kk ∧ S' 22 = .sl n (avs w)) ?_ ?_
          · rw [DrawVC5_app]
            refine ⟨fun i => if i = 1 then [.n 20 .any, .n 20 (.box 145 [.sl c.length (bys c), .int r2.1, .val (.int .u64 r2.2)]), .w 139 (.int kk)] else [.n 20 .any, .n 20 (.box 145 [.sl c.length (bys c), .int u2.1, .val (.int .u64 u2.2)]), .w 143 (.own 2 n (avs w))], by kernel_rfl, ?_, ?_⟩
            · simp [go_sem]
              refine ⟨_, _, cN, ?_⟩
              simp [go_sem]
              refine ⟨_, _, cL, ?_⟩
              simp [go_sem]
              refine ⟨by kernel_rfl, ?_⟩
              rfl
            · simp [go_sem]
              refine ⟨_, _, cN, ?_⟩
              simp [go_sem]
              refine ⟨_, _, cL, ?_⟩
              simp [go_sem]
              refine ⟨by kernel_rfl, ?_⟩
              rfl
          · rintro S ⟨e3, e4, e5, e6, e14, e18, e19, e21, e22⟩
            simp [go_sem, e3, e4, e5, e6, e14, e18, e19, e21, e22]
            refine ⟨by kernel_rfl, ?_⟩
            refine CallD.of (cT) (by simp [roots, rootsL]) (by decide) ?_
            simp [go_sem]
            simp [go_sem, e3, e4, e5, e6, e14, e18, e19, e21, e22]
            have hTk : List.take vs.length (mat vs) = mat vs := List.take_of_length_le (by simp)
            refine CallD.of (cPl) (by simp [roots, rootsL]) (by decide) ?_
            simp [go_sem]
            simp [go_sem, e3, e4, e5, e6, e14, e18, e19, e21, e22, hTk]
            refine ⟨by omega, ⟨by omega, by omega⟩, ?_⟩
            refine ⟨by kernel_rfl, ?_⟩
            simp [go_sem]
            simp [go_sem, e3, e4, e5, e6, e14, e18, e19, e21, e22, hTk]
            refine CallVC.of (cA1) (by decide) ?_
            simp [go_sem]
            simp [go_sem, e3, e4, e5, e6, e14, e18, e19, e21, e22, hTk]
            refine ⟨by kernel_rfl, by omega, ⟨by omega, by omega⟩, ?_⟩
            refine CallD.of (cA2) (by simp [roots, rootsL, frz, frzL]) (by decide) ?_
            simp [go_sem]
            simp -failIfUnchanged [go_sem, e3, e4, e5, e6, e14, e18, e19, e21, e22, hTk]
            refine ⟨by kernel_rfl, ?_⟩
            simp [go_sem]
            simp -failIfUnchanged [go_sem, e3, e4, e5, e6, e14, e18, e19, e21, e22, hTk]
            refine CallVC.of (likeInts_c _ _ (by omega)) (by decide) ?_
            simp [go_sem]
            simp -failIfUnchanged [go_sem, e3, e4, e5, e6, e14, e18, e19, e21, e22, hTk]
            refine CallVC.of (cT2) (by decide) ?_
            simp [go_sem]
            simp -failIfUnchanged [go_sem, e3, e4, e5, e6, e14, e18, e19, e21, e22, hTk]
            refine CallVC.of (cP2) (by decide) ?_
            simp [go_sem]
            simp -failIfUnchanged [go_sem, e3, e4, e5, e6, e14, e18, e19, e21, e22, hTk]
            refine CallVC.of (cL2) (by decide) ?_
            simp [go_sem]
            simp -failIfUnchanged [go_sem, e3, e4, e5, e6, e14, e18, e19, e21, e22, hTk]
            refine ⟨by kernel_rfl, by omega, ?_⟩
            refine CallD.of (cF) (by simp [roots, rootsL, frz, frzL]) (by decide) ?_
            simp [go_sem]
            simp -failIfUnchanged [go_sem, e3, e4, e5, e6, e14, e18, e19, e21, e22, hTk]
            refine ⟨by kernel_rfl, ?_⟩
            simp [go_sem]
            simp -failIfUnchanged [go_sem, e3, e4, e5, e6, e14, e18, e19, e21, e22, hTk, f2]
            refine loop_inv (2 :: (List.range' 30 3 ++ List.range' 216 27)) (fun i : Nat => [(30, .int i)]) (fun i => i ≤ (jcX n f y).length) (fun i => (jcX n f y).length - i) 0 (by simp) (by simp [go_sem]) (by simp [go_sem]) ?_
            intro i hi
            simp -failIfUnchanged [go_sem, e3, e4, e5, e6, e14, e18, e19, e21, e22, hTk]
            refine ⟨fun h => ?_, fun h => ?_⟩ <;> simp at h
            · have hij : i < (jcX n f y).length := by omega
              have hf := f5 i hij
              have hxi : i < (daX n f y [v]).length := by omega
              have hO : (omat (jcX n f y))[i]? = some (.own 2 ((jcX n f y)[i]?.getD []).length (avs ((jcX n f y)[i]?.getD []))) := by simp [omat, hij]
              have cDt := DotOf_c ((jcX n f y)[i]?.getD []) v hf.1 (by rw [hf.1]; omega) hf.2.1 hvn.2
              rw [hf.2.2] at cDt
              have hDr := avs_drop hxi
              rw [List.getD_eq_getElem?_getD] at hDr
              have hne : ¬ daX n f y [v] = [] := by intro e; rw [e] at hxi; simp at hxi
              generalize (daX n f y [v])[i]?.getD 0 = xv at *
              generalize (jcX n f y)[i]?.getD [] = row at *
              simp -failIfUnchanged [go_sem, e3, e4, e5, e6, e14, e18, e19, e21, e22, hTk, hO]
              refine ⟨by kernel_rfl, hij, ?_⟩
              refine CallD.of (cDt) (by simp [roots, rootsL]) (by decide) ?_
              simp [go_sem]
              simp -failIfUnchanged [go_sem, e3, e4, e5, e6, e14, e18, e19, e21, e22, hTk]
              refine ⟨by kernel_rfl, ?_⟩
              simp [go_sem]
              simp -failIfUnchanged [go_sem, e3, e4, e5, e6, e14, e18, e19, e21, e22, hTk, hDr]
              exact ⟨⟨hxi, hne⟩, ⟨by omega, by omega⟩, i + 1, by omega, by omega, (by repeat (first | exact Off_reset _ _ _ (by simp) | (refine Off.reset (by intro x hx; simp at hx ⊢; omega) (by simp) ?_; simp -failIfUnchanged [go_sem, Off_reset]))), by omega⟩
            · simp -failIfUnchanged [go_sem, e3, e4, e5, e6, e14, e18, e19, e21, e22, hTk]
    · generalize daE z f y vs = e at *
      simp [go_sem, hE]
end Go.Proofs.Ytoamidolomldnaa
