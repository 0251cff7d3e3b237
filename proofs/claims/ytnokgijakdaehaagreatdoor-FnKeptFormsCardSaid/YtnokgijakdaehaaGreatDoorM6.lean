/- Texts of the own layer and contracts, part 6: P0 C0 C1 C4 C5 C6 C7 C8 C2 C9 C10 C11 C12 F0 F1 F2 F3 F4 F5 F6 P1 P2 P3 P4 P5 P6 C13 F7 Q0 G0 G1 Q1 Q2 Q29 L3 Q9 Q10 Q11 Q12 Q13 Q3 Q4 Q5 P7 Q6 Q7 Q8 Q14 Q15 Q16 Q17 Q18 Q19 Q20 Q21 Q22 Q23 Q24 Q25 Q26 Q30 Q31 Q32 Q33 C14 Q40 Q27 Q28. -/
import Derived.Test.YtnokgijakdaehaaGreatDoorM5
namespace Go.Proofs.YtnokgijakdaehaaGreatDoor
set_option linter.unusedSectionVars false
set_option linter.unusedVariables false
set_option linter.unusedSimpArgs false
abbrev Key3 := Int × Int × Int
def sumI {α : Type} (f : α → Int) : List α → Int
  | [] => 0
  | a :: l => f a + sumI f l
theorem sumI_app {α : Type} (f : α → Int) (l r : List α) : sumI f (l ++ r) = sumI f l + sumI f r := by
  induction l with
  | nil => simp [sumI]
  | cons a l ih => simp [sumI, ih]; omega
theorem sumI_add {α : Type} (f g : α → Int) : ∀ l : List α, sumI (fun a => f a + g a) l = sumI f l + sumI g l
  | [] => rfl
  | a :: l => by simp only [sumI, sumI_add f g l]; omega
theorem sumI_mul {α : Type} (c : Int) (f : α → Int) : ∀ l : List α, sumI (fun a => c * f a) l = c * sumI f l
  | [] => by simp [sumI]
  | a :: l => by simp only [sumI, sumI_mul c f l, Int.mul_add]
theorem sumI_zero {α : Type} {f : α → Int} : ∀ {l : List α}, (∀ a ∈ l, f a = 0) → sumI f l = 0
  | [], _ => rfl
  | a :: l, h => by simp only [sumI, h a (by simp), sumI_zero (l := l) (fun b hb => h b (by simp [hb]))]; rfl
theorem sumI_congr {α : Type} {f g : α → Int} : ∀ {l : List α}, (∀ a ∈ l, f a = g a) → sumI f l = sumI g l
  | [], _ => rfl
  | a :: l, h => by simp only [sumI, h a (by simp), sumI_congr (l := l) (fun b hb => h b (by simp [hb]))]
theorem sumI_swap {α β : Type} (f : α → β → Int) : ∀ (l : List α) (r : List β), sumI (fun a => sumI (fun b => f a b) r) l = sumI (fun b => sumI (fun a => f a b) l) r
  | [], r => by simp only [sumI]; exact (sumI_zero (fun _ _ => rfl)).symm
  | a :: l, r => by
    simp only [sumI]
    rw [sumI_swap f l r, ← sumI_add]
def r4 : List Int := [0, 1, 2, 3]
def box : List Key3 := r4.flatMap fun i => r4.flatMap fun j => r4.map fun k => (i, j, k)
theorem mem_box {k : Key3} : k ∈ box ↔ 0 ≤ k.1 ∧ k.1 ≤ 3 ∧ 0 ≤ k.2.1 ∧ k.2.1 ≤ 3 ∧ 0 ≤ k.2.2 ∧ k.2.2 ≤ 3 := by
  obtain ⟨a, b, c⟩ := k
  have h4 : ∀ x : Int, x ∈ r4 ↔ 0 ≤ x ∧ x ≤ 3 := fun x => by simp [r4]; omega
  simp only [box, List.mem_flatMap, List.mem_map, Prod.mk.injEq]
  constructor
  · rintro ⟨i, hi, j, hj, k, hk, rfl, rfl, rfl⟩
    have := (h4 i).1 hi; have := (h4 j).1 hj; have := (h4 k).1 hk
    omega
  · rintro ⟨h1, h2, h3, h5, h6, h7⟩
    exact ⟨a, (h4 a).2 ⟨h1, h2⟩, b, (h4 b).2 ⟨h3, h5⟩, c, (h4 c).2 ⟨h6, h7⟩, rfl, rfl, rfl⟩
def coef {α : Type} (key : α → Key3) (num : α → Int) (l : List α) (k : Key3) : Int := sumI (fun a => if k = key a then num a else 0) l
def inc (i : Nat) (k : Key3) : Key3 := if i = 0 then (k.1 + 1, k.2.1, k.2.2) else if i = 1 then (k.1, k.2.1 + 1, k.2.2) else (k.1, k.2.1, k.2.2 + 1)
def at3 (i : Nat) (k : Key3) : Int := if i = 0 then k.1 else if i = 1 then k.2.1 else k.2.2
def der (i : Nat) (C : Key3 → Int) (k : Key3) : Int := (at3 i k + 1) * C (inc i k)
def alo (v : Nat → Int) (C : Key3 → Int) : Nat → Key3 → Int
  | 0, _ => 0
  | n + 1, k => alo v C n k + v n * der n C k
end Go.Proofs.YtnokgijakdaehaaGreatDoor


namespace Go.Abs
def avs (xs : List Int) : List AV := xs.map AV.int
@[simp] theorem avs_len (xs : List Int) : (avs xs).length = xs.length := by simp [avs]
@[simp] theorem avs_nil : avs [] = [] := rfl
theorem avs_snoc (xs : List Int) (x : Int) : avs (xs ++ [x]) = avs xs ++ [.val (.int .i64 x)] := by simp [avs]
theorem avs_cons (xs : List Int) (x : Int) : avs (x :: xs) = .val (.int .i64 x) :: avs xs := by simp [avs]
theorem avs_drop {xs : List Int} {k : Nat} (h : k < xs.length) : (avs xs).drop k = .val (.int .i64 (xs.getD k 0)) :: avs (xs.drop (k + 1)) := by
  rw [avs, ← List.map_drop, List.drop_eq_getElem_cons h, List.map_cons]; simp [h, avs]
@[simp] theorem avs_inj {xs ys : List Int} : (avs xs = avs ys) = (xs = ys) := by
  apply propext
  constructor
  · intro h
    induction xs generalizing ys with
    | nil => cases ys with
      | nil => rfl
      | cons y ys => simp [avs] at h
    | cons x xs ih => cases ys with
      | nil => simp [avs] at h
      | cons y ys =>
        rw [avs_cons, avs_cons] at h
        injection h with h1 h2
        injection h1 with h1
        injection h1 with _ h1
        rw [h1, ih h2]
  · rintro rfl; rfl
theorem avs_set (xs : List Int) (k : Nat) (x : Int) : (avs xs).set k (.val (.int .i64 x)) = avs (xs.set k x) := by
  simp [avs, List.map_set]
theorem avs_repl (n : Nat) (x : Int) : List.replicate n (AV.val (.int .i64 x)) = avs (List.replicate n x) := by simp [avs]
@[simp] theorem avs_fresh (xs : List Int) : freshL (avs xs) = true := by
  induction xs with
  | nil => rfl
  | cons x xs ih => simp [avs_cons, freshL, ih, freshOK]
@[simp] theorem avs_frz (xs : List Int) : frzL (avs xs) = avs xs := by
  induction xs with
  | nil => rfl
  | cons x xs ih => simp [avs_cons, frzL, ih, frz]
@[simp] theorem avs_kl (W : List Nat) (xs : List Int) : klL W (avs xs) = avs xs := by
  induction xs with
  | nil => rfl
  | cons x xs ih => simp [avs_cons, klL, ih, kl]
@[simp] theorem avs_own (xs : List Int) : hasOwnL (avs xs) = false := by
  induction xs with
  | nil => rfl
  | cons x xs ih => simp [avs_cons, hasOwnL, ih, hasOwn]
@[simp] theorem avs_ne {xs : List Int} : (avs xs = []) = (xs = []) := by
  cases xs <;> simp [avs]
theorem tmod_up {n : Int} (h : 0 ≤ n) (m : Int) : n.tmod m = n % m := Int.tmod_eq_emod_of_nonneg h
theorem tdiv_up {n : Int} (h : 0 ≤ n) (m : Int) : n.tdiv m = n / m := Int.tdiv_eq_ediv_of_nonneg h
theorem num_law (n : Int) : (n.tmod 10007 + 10007).tmod 10007 = n % 10007 := by
  rw [Int.tmod_eq_emod, Int.tmod_eq_emod]; split <;> split <;> simp_all <;> omega
theorem num_low (n : Int) : -10007 < n.tmod 10007 ∧ n.tmod 10007 < 10007 := by
  constructor
  · rw [Int.tmod_eq_emod]; split <;> simp_all <;> omega
  · exact Int.tmod_lt_of_pos n (by omega)
end Go.Abs


namespace Go.Proofs.YtnokgijakdaehaaGreatDoor
open Go.Abs
set_option linter.unusedSectionVars false
set_option linter.unusedVariables false
set_option linter.unusedSimpArgs false
set_option maxHeartbeats 400000
theorem inRange_c (n a b : Int) : Con Tryz.prog 111 [.int n, .int a, .int b] (.bool (decide (a ≤ n) && decide (n ≤ b))) := by
  refine con_of_vc Tryz.mixed ⟨4, [], [], []⟩ Tryz.func111 (by decide) rfl (by simp) (by decide) rfl ?_
  rw [Tryz.ntmps111]
  simp [go_sem]
  refine ⟨fun h => ?_, fun h => ?_⟩ <;> simp at h <;> simp [go_sem, h] <;> omega
theorem l01In_c (n a b : Int) : Con Tryz.prog 126 [.int n, .int a, .int b] (.bool (decide (a ≤ n) && decide (n ≤ b))) := by
  refine con_of_vc Tryz.mixed ⟨4, [], [], []⟩ Tryz.func126 (by decide) rfl (by simp) (by decide) rfl ?_
  rw [Tryz.ntmps126]
  simp [go_sem]
  refine ⟨fun h => ?_, fun h => ?_⟩ <;> simp at h <;> simp [go_sem, h] <;> omega
def held (xs : List Int) (k : Int) : Int := if xs = (List.range xs.length).map (fun (i : Nat) => k + i) then k + xs.length else -1
end Go.Proofs.YtnokgijakdaehaaGreatDoor


namespace Go.Proofs.YtnokgijakdaehaaGreatDoor
open Go.Abs
set_option linter.unusedSectionVars false
set_option linter.unusedVariables false
set_option linter.unusedSimpArgs false
set_option maxHeartbeats 1000000
def idxF {α : Type} (p : α → Bool) : List α → Int
  | [] => -1
  | x :: xs => if p x then 0 else if idxF p xs = -1 then -1 else idxF p xs + 1
theorem idxF_ge {α : Type} (p : α → Bool) : ∀ xs : List α, -1 ≤ idxF p xs ∧ idxF p xs < xs.length
  | [] => by simp [idxF]
  | x :: xs => by
    have := idxF_ge p xs
    simp only [idxF, List.length_cons]
    split
    · omega
    · split <;> omega
theorem idxF_any {α : Type} (p : α → Bool) (xs : List α) : decide (0 ≤ idxF p xs) = xs.any p := by
  induction xs with
  | nil => simp [idxF]
  | cons x xs ih =>
    have := idxF_ge p xs
    simp only [idxF, List.any_cons, ← ih]
    by_cases hp : p x = true
    · simp [hp]
    · simp only [hp]
      simp
      split
      · rename_i e; simp [e]
      · by_cases h : 0 ≤ idxF p xs <;> simp [h] <;> omega
theorem idxF_skip {α : Type} (p : α → Bool) : ∀ (xs : List α) (i : Nat), (∀ x ∈ xs.take i, p x = false) → i ≤ xs.length → (idxF p xs = if idxF p (xs.drop i) = -1 then -1 else idxF p (xs.drop i) + i)
  | xs, 0, h, hl => by simp
  | [], i + 1, h, hl => by simp at hl
  | x :: xs, i + 1, h, hl => by
    have h1 : p x = false := h x (by simp)
    have h2 := idxF_skip p xs i (fun y hy => h y (by simp [hy])) (by simpa using hl)
    simp only [idxF, h1, List.drop_succ_cons]
    have := (idxF_ge p (xs.drop i)).1
    simp
    rw [h2]
    split
    · simp
    · rename_i hne
      rw [if_neg (by omega)]
      omega
theorem IndexFuncI_c (g : FuncId) (p : Int → Bool) (xs : List Int) (hl : xs.length ≤ 9223372036854775807) (hg : ∀ x ∈ xs, Con Tryz.prog g [.int x] (.bool (p x))) :
    Con Tryz.prog 170 [.sl xs.length (avs xs), .val (.func (.func g) #[] #[])] (.int (idxF p xs)) := by
  refine con_of_vc Tryz.mixed ⟨6, [], [], []⟩ Tryz.func170 (by decide) rfl (by simp) (by decide) rfl ?_
  rw [Tryz.ntmps170]
  simp [go_sem]
  refine loop_inv (5 :: List.range' 8 20) (fun i : Nat => [(8, .int i)]) (fun i => i ≤ xs.length ∧ ∀ x ∈ xs.take i, p x = false) (fun i => xs.length - i) 0 (by simp) (by simp [go_sem]) (by simp [go_sem]) ?_
  rintro i ⟨hi, hf⟩
  simp [go_sem]
  have sk := idxF_skip p xs i hf hi
  refine ⟨fun h => ?_, fun h => ?_⟩ <;> simp at h
  · have hx : xs[i]?.getD 0 ∈ xs := by simp [h]
    have hd : xs.drop i = xs[i]?.getD 0 :: xs.drop (i + 1) := by rw [List.drop_eq_getElem_cons h]; simp [h]
    simp [go_sem, avs_drop h]
    refine ⟨⟨h, by rintro rfl; simp at h⟩, CallVC.of (hg _ hx) (by decide) ?_⟩
    simp [go_sem]
    refine ⟨fun h2 => ?_, fun h2 => ?_⟩ <;> simp [go_sem]
    · rw [sk, hd]; simp [idxF, h2]
    · refine ⟨by omega, i + 1, ⟨by omega, ?_⟩, by omega, Off_reset _ _ _ (by simp), by omega⟩
      intro x hx2
      rw [List.take_add_one, List.getElem?_eq_getElem h, Option.toList_some, List.mem_append, List.mem_singleton] at hx2
      rcases hx2 with hx2 | hx2
      · exact hf x hx2
      · rw [hx2]; simpa [h] using h2
  · simp [go_sem]
    rw [sk, List.drop_eq_nil_of_le h]; simp [idxF]
theorem ContainsFuncI_c (g : FuncId) (p : Int → Bool) (xs : List Int) (hl : xs.length ≤ 9223372036854775807) (hg : ∀ x ∈ xs, Con Tryz.prog g [.int x] (.bool (p x))) :
    Con Tryz.prog 116 [.sl xs.length (avs xs), .val (.func (.func g) #[] #[])] (.bool (xs.any p)) := by
  refine con_of_vc Tryz.mixed ⟨5, [], [], []⟩ Tryz.func116 (by decide) rfl (by simp) (by decide) rfl ?_
  rw [Tryz.ntmps116]
  simp [go_sem]
  refine CallVC.of (IndexFuncI_c g p xs hl hg) (by decide) ?_
  simp [go_sem, idxF_any]
theorem IsNumber_c (a : Int) : Con Tryz.prog 45 [.int a] (.bool (decide (0 ≤ a ∧ a ≤ 10006))) := by
  refine con_of_vc Tryz.mixed ⟨3, [], [], []⟩ Tryz.func45 (by decide) rfl (by simp) (by decide) rfl ?_
  rw [Tryz.ntmps45]
  simp [go_sem]
  refine CallVC.of (inRange_c _ _ _) (by decide) ?_
  simp [go_sem]
theorem notNumber_c (a : Int) : Con Tryz.prog 117 [.int a] (.bool (!decide (0 ≤ a ∧ a ≤ 10006))) := by
  refine con_of_vc Tryz.mixed ⟨3, [], [], []⟩ Tryz.func117 (by decide) rfl (by simp) (by decide) rfl ?_
  rw [Tryz.ntmps117]
  simp [go_sem]
  refine CallVC.of (IsNumber_c _) (by decide) ?_
  simp [go_sem]
def numsB (xs : List Int) : Bool := xs.all fun a => decide (0 ≤ a ∧ a ≤ 10006)
theorem areNumbers_c (xs : List Int) (hl : xs.length ≤ 9223372036854775807) : Con Tryz.prog 44 [.sl xs.length (avs xs)] (.bool (numsB xs)) := by
  refine con_of_vc Tryz.mixed ⟨3, [], [], []⟩ Tryz.func44 (by decide) rfl (by simp) (by decide) rfl ?_
  rw [Tryz.ntmps44]
  simp [go_sem]
  refine CallVC.of (ContainsFuncI_c _ _ xs hl (fun x _ => notNumber_c x)) (by decide) ?_
  simp [go_sem, numsB, List.not_any_eq_all_not]
end Go.Proofs.YtnokgijakdaehaaGreatDoor


namespace Go.Proofs.YtnokgijakdaehaaGreatDoor
open Go.Abs
set_option linter.unusedSectionVars false
set_option linter.unusedVariables false
set_option linter.unusedSimpArgs false
set_option maxHeartbeats 1000000
def mat (xss : List (List Int)) : List AV := xss.map fun r => .sl r.length (avs r)
@[simp] theorem mat_len (xss : List (List Int)) : (mat xss).length = xss.length := by simp [mat]
theorem mat_drop {xss : List (List Int)} {k : Nat} (h : k < xss.length) : (mat xss).drop k = .sl (xss[k]?.getD []).length (avs (xss[k]?.getD [])) :: mat (xss.drop (k + 1)) := by
  rw [mat, ← List.map_drop, List.drop_eq_getElem_cons h, List.map_cons]; simp [h, mat]
@[simp] theorem mat_ne {xss : List (List Int)} : (mat xss = []) = (xss = []) := by cases xss <;> simp [mat]
theorem IndexFuncM_c (g : FuncId) (s : Int) (p : List Int → Bool) (xss : List (List Int)) (hl : xss.length ≤ 9223372036854775807) (hg : ∀ x ∈ xss, Con Tryz.prog g [.sl x.length (avs x), .fptr [.int s]] (.bool (p x))) :
    Con Tryz.prog 169 [.sl xss.length (mat xss), .fn g [.fptr [.int s]]] (.int (idxF p xss)) := by
  refine con_of_vc Tryz.mixed ⟨6, [], [], []⟩ Tryz.func169 (by decide) rfl (by simp) (by decide) rfl ?_
  rw [Tryz.ntmps169]
  simp [go_sem]
  refine loop_inv (5 :: List.range' 8 20) (fun i : Nat => [(8, .int i)]) (fun i => i ≤ xss.length ∧ ∀ x ∈ xss.take i, p x = false) (fun i => xss.length - i) 0 (by simp) (by simp [go_sem]) (by simp [go_sem]) ?_
  rintro i ⟨hi, hf⟩
  simp [go_sem]
  have sk := idxF_skip p xss i hf hi
  refine ⟨fun h => ?_, fun h => ?_⟩ <;> simp at h
  · have hx : xss[i]?.getD [] ∈ xss := by simp [h]
    have hd : xss.drop i = xss[i]?.getD [] :: xss.drop (i + 1) := by rw [List.drop_eq_getElem_cons h]; simp [h]
    simp [go_sem, mat_drop h]
    refine ⟨⟨h, by rintro rfl; simp at h⟩, CallVC.of (hg _ hx) (by decide) ?_⟩
    simp [go_sem]
    refine ⟨fun h2 => ?_, fun h2 => ?_⟩ <;> simp [go_sem]
    · rw [sk, hd]; simp [idxF, h2]
    · refine ⟨by omega, i + 1, ⟨by omega, ?_⟩, by omega, Off_reset _ _ _ (by simp), by omega⟩
      intro x hx2
      rw [List.take_add_one, List.getElem?_eq_getElem h, Option.toList_some, List.mem_append, List.mem_singleton] at hx2
      rcases hx2 with hx2 | hx2
      · exact hf x hx2
      · rw [hx2]; simpa [h] using h2
  · simp [go_sem]
    rw [sk, List.drop_eq_nil_of_le h]; simp [idxF]
theorem ContainsFuncM_c (g : FuncId) (s : Int) (p : List Int → Bool) (xss : List (List Int)) (hl : xss.length ≤ 9223372036854775807) (hg : ∀ x ∈ xss, Con Tryz.prog g [.sl x.length (avs x), .fptr [.int s]] (.bool (p x))) :
    Con Tryz.prog 113 [.sl xss.length (mat xss), .fn g [.fptr [.int s]]] (.bool (xss.any p)) := by
  refine con_of_vc Tryz.mixed ⟨5, [], [], []⟩ Tryz.func113 (by decide) rfl (by simp) (by decide) rfl ?_
  rw [Tryz.ntmps113]
  simp [go_sem]
  refine CallVC.of (IndexFuncM_c g s p xss hl hg) (by decide) ?_
  simp [go_sem, idxF_any]
theorem badRow_c (x : List Int) (s : Int) (hl : x.length ≤ 9223372036854775807) : Con Tryz.prog 114 [.sl x.length (avs x), .fptr [.int s]] (.bool (!(decide ((x.length : Int) = s) && numsB x))) := by
  refine con_of_vc Tryz.mixed ⟨4, [], [], []⟩ Tryz.func114 (by decide) rfl (by simp) (by decide) rfl ?_
  rw [Tryz.ntmps114]
  simp [go_sem]
  by_cases h : (x.length : Int) = s
  · simp [go_sem, h]
    refine CallVC.of (areNumbers_c x hl) (by decide) ?_
    simp [go_sem, h]
  · simp [go_sem, h]
theorem length_c (n : Nat) (cs : List AV) (hn : n ≤ 9223372036854775807) : Con Tryz.prog 112 [.sl n cs] (.int n) := by
  refine con_of_vc Tryz.mixed ⟨3, [], [], []⟩ Tryz.func112 (by decide) rfl (by simp) (by decide) rfl ?_
  rw [Tryz.ntmps112]
  simp [go_sem]
  try omega
def tabB (A : List (List Int)) (B : List Int) : Bool := decide (1 ≤ B.length ∧ B.length ≤ 8 ∧ A.length = B.length) && numsB B && A.all fun r => decide (r.length = B.length) && numsB r
theorem IsTableau_c (A : List (List Int)) (B : List Int) (hA : A.length ≤ 9223372036854775807) (hB : B.length ≤ 9223372036854775807) (hr : ∀ r ∈ A, r.length ≤ 9223372036854775807) :
    Con Tryz.prog 42 [.agg [.sl A.length (mat A), .sl B.length (avs B)]] (.bool (tabB A B)) := by
  refine con_of_vc Tryz.mixed ⟨4, [], [], []⟩ Tryz.func42 (by decide) rfl (by simp) (by decide) rfl ?_
  rw [Tryz.ntmps42]
  simp [go_sem]
  refine CallVC.of (length_c _ _ hB) (by decide) ?_
  simp [go_sem]
  have cR := inRange_c B.length 1 8
  by_cases h1 : 1 ≤ B.length ∧ B.length ≤ 8
  · have e1 : (decide ((1 : Int) ≤ B.length) && decide ((B.length : Int) ≤ 8)) = true := by simp; omega
    rw [e1] at cR
    refine CallVC.of cR (by decide) ?_
    by_cases h2 : A.length = B.length
    · have h2' : (A.length : Int) = B.length := by omega
      simp [go_sem, h2, h2']
      refine CallVC.of (areNumbers_c B hB) (by decide) ?_
      by_cases h3 : numsB B = true
      · simp [go_sem, h3]
        have cM := ContainsFuncM_c 114 B.length (fun x => !(decide ((x.length : Int) = B.length) && numsB x)) A hA (fun x hx => badRow_c x B.length (hr x hx))
        rw [h2] at cM
        refine CallVC.of cM (by decide) ?_
        simp [go_sem, tabB, h1, h2, h3]
        rw [List.any_eq_not_all_not]
        congr 2
        funext r
        simp [show ((r.length : Int) = B.length) = (r.length = B.length) from propext ⟨fun e => by omega, fun e => by omega⟩]
      · simp at h3
        simp [go_sem, h3, tabB]
    · have h2' : ¬ (A.length : Int) = B.length := by omega
      simp [go_sem, h2, h2', tabB]
  · have e1 : (decide ((1 : Int) ≤ B.length) && decide ((B.length : Int) ≤ 8)) = false := by simp; omega
    rw [e1] at cR
    refine CallVC.of cR (by decide) ?_
    have e3 : tabB A B = false := by
      unfold tabB
      have : decide (1 ≤ B.length ∧ B.length ≤ 8 ∧ A.length = B.length) = false := by simp; omega
      rw [this]; simp
    rw [e3]
    simp [go_sem]
end Go.Proofs.YtnokgijakdaehaaGreatDoor


namespace Go.Proofs.YtnokgijakdaehaaGreatDoor
open Go.Abs
set_option linter.unusedSectionVars false
set_option linter.unusedVariables false
set_option linter.unusedSimpArgs false
set_option maxHeartbeats 1000000
end Go.Proofs.YtnokgijakdaehaaGreatDoor


namespace Go.Proofs.YtnokgijakdaehaaGreatDoor
open Go.Abs
set_option linter.unusedSectionVars false
set_option linter.unusedVariables false
set_option linter.unusedSimpArgs false
set_option maxHeartbeats 1000000
def omat (A : List (List Int)) : List AV := A.map fun r => .own 2 r.length (avs r)
@[simp] theorem omat_len (A : List (List Int)) : (omat A).length = A.length := by simp [omat]
@[simp] theorem omat_frz (A : List (List Int)) : frzL (omat A) = mat A := by
  induction A with
  | nil => rfl
  | cons r A ih => simp only [omat, mat, List.map_cons, frzL] at ih ⊢; rw [ih]; simp [frz]
@[simp] theorem omat_fresh (A : List (List Int)) : freshL (omat A) = true := by
  induction A with
  | nil => rfl
  | cons r A ih => simp only [omat, List.map_cons, freshL] at ih ⊢; rw [ih]; simp [freshOK]
end Go.Proofs.YtnokgijakdaehaaGreatDoor


namespace Go.Proofs.YtnokgijakdaehaaGreatDoor
open Go.Abs
set_option linter.unusedSectionVars false
set_option linter.unusedVariables false
set_option linter.unusedSimpArgs false
set_option maxHeartbeats 1000000
end Go.Proofs.YtnokgijakdaehaaGreatDoor


namespace Go.Proofs.YtnokgijakdaehaaGreatDoor
open Go.Abs
set_option linter.unusedSectionVars false
set_option linter.unusedVariables false
set_option linter.unusedSimpArgs false
set_option maxHeartbeats 1000000
def pw (a k : Int) : Int := a ^ k.toNat % 10007
theorem num_c (n : Int) (h0 : -9223372036854775808 ≤ n) (h1 : n ≤ 9223372036854775807) : Con Tryz.prog 63 [.int n] (.int (n % 10007)) := by
  have e := num_law n
  have b := num_low n
  refine con_of_vc Tryz.mixed ⟨3, [], [], []⟩ Tryz.func63 (by decide) rfl (by simp) (by decide) rfl ?_
  rw [Tryz.ntmps63]
  simp [go_sem, e]
  omega
theorem l01Mod_c (n : Int) (h0 : -9223372036854775808 ≤ n) (h1 : n ≤ 9223372036854775807) : Con Tryz.prog 154 [.int n] (.int (n % 10007)) := by
  have e := num_law n
  have b := num_low n
  refine con_of_vc Tryz.mixed ⟨3, [], [], []⟩ Tryz.func154 (by decide) rfl (by simp) (by decide) rfl ?_
  rw [Tryz.ntmps154]
  simp [go_sem, e]
  omega
def fits (n : Int) : Prop := -9223372036854775808 ≤ n ∧ n ≤ 9223372036854775807
theorem l01Mul_c (a b : Int) (h : fits (a * b)) : Con Tryz.prog 84 [.int a, .int b] (.int (a * b % 10007)) := by
  refine con_of_vc Tryz.mixed ⟨5, [], [], []⟩ Tryz.func84 (by decide) rfl (by simp) (by decide) rfl ?_
  rw [Tryz.ntmps84]
  simp [go_sem]
  refine ⟨h, CallVC.of (l01Mod_c _ h.1 h.2) (by decide) ?_⟩
  simp [go_sem]
theorem l01Sub_c (a b : Int) (h : fits (a - b)) : Con Tryz.prog 159 [.int a, .int b] (.int ((a - b) % 10007)) := by
  refine con_of_vc Tryz.mixed ⟨5, [], [], []⟩ Tryz.func159 (by decide) rfl (by simp) (by decide) rfl ?_
  rw [Tryz.ntmps159]
  simp [go_sem]
  refine ⟨h, CallVC.of (l01Mod_c _ h.1 h.2) (by decide) ?_⟩
  simp [go_sem]
theorem l01Add_c (a b : Int) (h : fits (a + b)) : Con Tryz.prog 88 [.int a, .int b] (.int ((a + b) % 10007)) := by
  refine con_of_vc Tryz.mixed ⟨5, [], [], []⟩ Tryz.func88 (by decide) rfl (by simp) (by decide) rfl ?_
  rw [Tryz.ntmps88]
  simp [go_sem]
  refine ⟨h, CallVC.of (l01Mod_c _ h.1 h.2) (by decide) ?_⟩
  simp [go_sem]
def isN (a : Int) : Prop := 0 ≤ a ∧ a < 10007
theorem isN_mod (n : Int) : isN (n % 10007) := ⟨Int.emod_nonneg _ (by omega), Int.emod_lt_of_pos _ (by omega)⟩
theorem mul_bound {a b : Int} (ha : isN a) (hb : isN b) : 0 ≤ a * b ∧ a * b ≤ 100120036 := by
  obtain ⟨a0, a1⟩ := ha
  obtain ⟨b0, b1⟩ := hb
  exact ⟨Int.mul_nonneg a0 b0, Int.le_trans (Int.mul_le_mul_of_nonneg_right (show a ≤ 10006 by omega) b0) (by omega)⟩
theorem mul_fits {a b : Int} (ha : isN a) (hb : isN b) : fits (a * b) := by
  have := mul_bound ha hb
  exact ⟨by omega, by omega⟩
theorem add_fits {a b : Int} (ha : isN a) (hb : isN b) : fits (a + b) := by
  obtain ⟨a0, a1⟩ := ha
  obtain ⟨b0, b1⟩ := hb
  exact ⟨by omega, by omega⟩
theorem sub_fits {a b : Int} (ha : isN a) (hb : isN b) : fits (a - b) := by
  obtain ⟨a0, a1⟩ := ha
  obtain ⟨b0, b1⟩ := hb
  exact ⟨by omega, by omega⟩
theorem pow_mod (a : Int) (k : Nat) : (a % 10007) ^ k % 10007 = a ^ k % 10007 := by
  induction k with
  | zero => simp
  | succ k ih => rw [Int.pow_succ, Int.pow_succ, Int.mul_emod, ih, Int.emod_emod, ← Int.mul_emod]
theorem sq_pow (a : Int) (q : Nat) : (a * a) ^ q = a ^ (2 * q) := by
  induction q with
  | zero => simp
  | succ q ih => rw [Int.pow_succ, ih, show 2 * (q + 1) = 2 * q + 1 + 1 by omega, Int.pow_succ, Int.pow_succ, Int.mul_assoc]
theorem mod_mul_r (o x : Int) : o * (x % 10007) % 10007 = o * x % 10007 := by
  rw [Int.mul_emod, Int.emod_emod, ← Int.mul_emod]
theorem mod_mul_l (o x : Int) : (x % 10007) * o % 10007 = x * o % 10007 := by
  rw [Int.mul_emod, Int.emod_emod, ← Int.mul_emod]
theorem pw_even (o a : Int) (q : Nat) : o * (a * a % 10007) ^ q % 10007 = o * a ^ (2 * q) % 10007 := by
  rw [← mod_mul_r, pow_mod, mod_mul_r, sq_pow]
theorem pw_odd (o a : Int) (q : Nat) : (o * a % 10007) * (a * a % 10007) ^ q % 10007 = o * a ^ (2 * q + 1) % 10007 := by
  rw [pw_even, mod_mul_l, Int.pow_succ, Int.mul_assoc, Int.mul_comm (a ^ (2 * q)) a]
theorem half_cast (j : Nat) : (j : Int).tdiv 2 = ((j / 2 : Nat) : Int) := by rw [tdiv_up (by omega)]; omega
theorem bit_cast (j : Nat) : (j : Int).tmod 2 = ((j % 2 : Nat) : Int) := by rw [tmod_up (by omega)]; omega
theorem pow_c (a k : Int) (ha : isN a) (hk : 0 ≤ k) (hk2 : k ≤ 9223372036854775807) : Con Tryz.prog 134 [.int a, .int k] (.int (pw a k)) := by
  refine con_of_vc Tryz.mixed ⟨6, [], [], []⟩ Tryz.func134 (by decide) rfl (by simp) (by decide) rfl ?_
  rw [Tryz.ntmps134]
  simp [go_sem]
  refine loop_inv (0 :: 1 :: List.range' 4 30) (fun x : Int × Nat × Int => [(0, .int x.1), (1, .int x.2.1), (5, .int x.2.2)])
    (fun x => isN x.1 ∧ (x.2.1 : Int) ≤ 9223372036854775807 ∧ isN x.2.2 ∧ x.2.2 * x.1 ^ x.2.1 % 10007 = a ^ k.toNat % 10007) (fun x => x.2.1) (a, k.toNat, 1) ⟨ha, by simp; omega, ⟨by simp, by simp⟩, by simp⟩ (by simp [go_sem]; omega) (by simp [go_sem]) ?_
  rintro ⟨b, j, o⟩ ⟨hb, hj, ho, he⟩
  simp only at hb hj ho he
  have f1 := mul_fits hb hb
  have f2 := mul_fits ho hb
  simp [go_sem]
  refine ⟨fun h => ?_, fun h => ?_⟩ <;> simp at h
  · simp [go_sem, half_cast, bit_cast]
    refine ⟨fun h2 => ?_, fun h2 => ?_⟩ <;> simp at h2 <;> simp [go_sem]
    · refine ⟨f2, CallVC.of (num_c _ f2.1 f2.2) (by decide) ?_⟩
      simp [go_sem]
      refine ⟨f1, CallVC.of (num_c _ f1.1 f1.2) (by decide) ?_⟩
      simp [go_sem, half_cast, bit_cast]
      refine ⟨by omega, b * b % 10007, j / 2, o * b % 10007, ⟨isN_mod _, by omega, isN_mod _, ?_⟩, by omega, Off_reset _ _ _ (by simp), rfl, by omega, rfl⟩
      rw [pw_odd, show 2 * (j / 2) + 1 = j by omega, he]
    · refine ⟨f1, CallVC.of (num_c _ f1.1 f1.2) (by decide) ?_⟩
      simp [go_sem, half_cast, bit_cast]
      refine ⟨by omega, b * b % 10007, j / 2, o, ⟨isN_mod _, by omega, ho, ?_⟩, by omega, Off_reset _ _ _ (by simp), rfl, by omega, rfl⟩
      rw [pw_even, show 2 * (j / 2) = j by omega, he]
  · simp [go_sem]
    subst h
    unfold pw
    rw [← he]
    simp
    rw [Int.emod_eq_of_lt ho.1 ho.2]
theorem l01Pow_c (a k : Int) (ha : isN a) (hk : 0 ≤ k) (hk2 : k ≤ 9223372036854775807) : Con Tryz.prog 153 [.int a, .int k] (.int (pw a k)) := by
  refine con_of_vc Tryz.mixed ⟨6, [], [], []⟩ Tryz.func153 (by decide) rfl (by simp) (by decide) rfl ?_
  rw [Tryz.ntmps153]
  simp [go_sem]
  refine loop_inv (0 :: 1 :: List.range' 4 30) (fun x : Int × Nat × Int => [(0, .int x.1), (1, .int x.2.1), (5, .int x.2.2)])
    (fun x => isN x.1 ∧ (x.2.1 : Int) ≤ 9223372036854775807 ∧ isN x.2.2 ∧ x.2.2 * x.1 ^ x.2.1 % 10007 = a ^ k.toNat % 10007) (fun x => x.2.1) (a, k.toNat, 1) ⟨ha, by simp; omega, ⟨by simp, by simp⟩, by simp⟩ (by simp [go_sem]; omega) (by simp [go_sem]) ?_
  rintro ⟨b, j, o⟩ ⟨hb, hj, ho, he⟩
  simp only at hb hj ho he
  have f1 := mul_fits hb hb
  have f2 := mul_fits ho hb
  simp [go_sem]
  refine ⟨fun h => ?_, fun h => ?_⟩ <;> simp at h
  · simp [go_sem, half_cast, bit_cast]
    refine ⟨fun h2 => ?_, fun h2 => ?_⟩ <;> simp at h2 <;> simp [go_sem]
    · refine CallVC.of (l01Mul_c _ _ f2) (by decide) ?_
      simp [go_sem]
      refine CallVC.of (l01Mul_c _ _ f1) (by decide) ?_
      simp [go_sem, half_cast, bit_cast]
      refine ⟨by omega, b * b % 10007, j / 2, o * b % 10007, ⟨isN_mod _, by omega, isN_mod _, ?_⟩, by omega, Off_reset _ _ _ (by simp), rfl, by omega, rfl⟩
      rw [pw_odd, show 2 * (j / 2) + 1 = j by omega, he]
    · refine CallVC.of (l01Mul_c _ _ f1) (by decide) ?_
      simp [go_sem, half_cast, bit_cast]
      refine ⟨by omega, b * b % 10007, j / 2, o, ⟨isN_mod _, by omega, ho, ?_⟩, by omega, Off_reset _ _ _ (by simp), rfl, by omega, rfl⟩
      rw [pw_even, show 2 * (j / 2) = j by omega, he]
  · simp [go_sem]
    subst h
    unfold pw
    rw [← he]
    simp
    rw [Int.emod_eq_of_lt ho.1 ho.2]
theorem inv_c (a : Int) (ha : isN a) : Con Tryz.prog 64 [.int a] (.int (pw a 10005)) := by
  refine con_of_vc Tryz.mixed ⟨3, [], [], []⟩ Tryz.func64 (by decide) rfl (by simp) (by decide) rfl ?_
  rw [Tryz.ntmps64]
  simp [go_sem]
  refine CallVC.of (pow_c _ _ ha (by omega) (by omega)) (by decide) ?_
  simp [go_sem]
theorem l01Inv_c (a : Int) (ha : isN a) : Con Tryz.prog 82 [.int a] (.int (pw a 10005)) := by
  refine con_of_vc Tryz.mixed ⟨3, [], [], []⟩ Tryz.func82 (by decide) rfl (by simp) (by decide) rfl ?_
  rw [Tryz.ntmps82]
  simp [go_sem]
  refine CallVC.of (l01Pow_c _ _ ha (by omega) (by omega)) (by decide) ?_
  simp [go_sem]
end Go.Proofs.YtnokgijakdaehaaGreatDoor


namespace Go.Proofs.YtnokgijakdaehaaGreatDoor
open Go.Abs
set_option linter.unusedSectionVars false
set_option linter.unusedVariables false
set_option linter.unusedSimpArgs false
set_option maxHeartbeats 1000000
end Go.Proofs.YtnokgijakdaehaaGreatDoor


namespace Go.Proofs.YtnokgijakdaehaaGreatDoor
open Go.Abs
set_option linter.unusedSectionVars false
set_option linter.unusedVariables false
set_option linter.unusedSimpArgs false
set_option maxHeartbeats 1000000
def Ns (xs : List Int) : Prop := ∀ x ∈ xs, isN x
theorem Ns.get {xs : List Int} (h : Ns xs) (k : Nat) : isN (xs[k]?.getD 0) := by
  rcases Nat.lt_or_ge k xs.length with hk | hk
  · simp [hk]; exact h _ (List.getElem_mem hk)
  · simp [hk]; exact ⟨by omega, by omega⟩
theorem Ns.take {xs : List Int} (h : Ns xs) (k : Nat) : Ns (xs.take k) := fun x hx => h x (List.mem_of_mem_take hx)
theorem Ns.nil : Ns [] := by intro x hx; simp at hx
def Mat (n : Nat) (A : List (List Int)) : Prop := ∀ r ∈ A, r.length = n ∧ Ns r
theorem Mat.get {n : Nat} {A : List (List Int)} (h : Mat n A) {k : Nat} (hk : k < A.length) : (A[k]?.getD []).length = n ∧ Ns (A[k]?.getD []) := by
  rw [List.getElem?_eq_getElem hk]; exact h _ (List.getElem_mem hk)
end Go.Proofs.YtnokgijakdaehaaGreatDoor


namespace Go.Proofs.YtnokgijakdaehaaGreatDoor
open Go.Abs
set_option linter.unusedSectionVars false
set_option linter.unusedVariables false
set_option linter.unusedSimpArgs false
set_option maxHeartbeats 1000000
abbrev u64 (n : Int) : AV := .val (.int .u64 n)
end Go.Proofs.YtnokgijakdaehaaGreatDoor


namespace Go.Proofs.YtnokgijakdaehaaGreatDoor
open Go.Abs
set_option linter.unusedSectionVars false
set_option linter.unusedVariables false
set_option linter.unusedSimpArgs false
set_option maxHeartbeats 1000000
theorem specIsNumber_c (a : Int) : Con Tryz.prog 55 [.int a] (.bool (decide (0 ≤ a ∧ a ≤ 10006))) := by
  refine con_of_vc Tryz.mixed ⟨3, [], [], []⟩ Tryz.func55 (by decide) rfl (by simp) (by decide) (by simp [freshOK, freshL, go_sem]) ?_
  rw [Tryz.ntmps55]
  simp [go_sem]
  refine CallVC.of (l01In_c _ _ _) (by decide) ?_
  simp [go_sem]
theorem numsB_bad {xs : List Int} {i : Nat} (h : i < xs.length) (hb : ¬ (0 ≤ xs[i]?.getD 0 ∧ xs[i]?.getD 0 ≤ 10006)) : numsB xs = false := by
  rw [List.getElem?_eq_getElem h] at hb
  simp only [Option.getD_some] at hb
  unfold numsB
  rw [List.all_eq_false]
  exact ⟨xs[i], List.getElem_mem h, by simpa using hb⟩
theorem numsB_ok {xs : List Int} (h : ∀ x ∈ xs, 0 ≤ x ∧ x ≤ 10006) : numsB xs = true := by
  unfold numsB
  rw [List.all_eq_true]
  intro x hx
  simpa using h x hx
theorem numsB_N {xs : List Int} : numsB xs = true ↔ Ns xs := by
  unfold numsB Ns isN
  rw [List.all_eq_true]
  constructor
  · intro h x hx
    have := h x hx
    simp at this; omega
  · intro h x hx
    have := h x hx
    simp; omega
theorem take_all {α : Type} {p : α → Prop} {xs : List α} {i : Nat} (h : i < xs.length) (h1 : ∀ x ∈ xs.take i, p x) (h2 : p xs[i]) : ∀ x ∈ xs.take (i + 1), p x := by
  intro x hx
  rw [List.take_add_one, List.getElem?_eq_getElem h, Option.toList_some, List.mem_append, List.mem_singleton] at hx
  rcases hx with hx | rfl
  · exact h1 x hx
  · exact h2
theorem l01Numbers_c (xs : List Int) (hl : xs.length ≤ 9223372036854775807) : Con Tryz.prog 54 [.sl xs.length (avs xs)] (.bool (numsB xs)) := by
  refine con_of_vc Tryz.mixed ⟨4, [], [], []⟩ Tryz.func54 (by decide) rfl (by simp) (by decide) (by simp [freshOK, freshL, go_sem]) ?_
  rw [Tryz.ntmps54]
  simp [go_sem]
  refine loop_inv (List.range' 2 14) (fun i : Nat => [(3, .int i)]) (fun i => i ≤ xs.length ∧ ∀ x ∈ xs.take i, 0 ≤ x ∧ x ≤ 10006) (fun i => xs.length - i) 0 (by simp) (by simp [go_sem]) (by simp [go_sem]) ?_
  rintro i ⟨hi, hp⟩
  simp [go_sem]
  refine ⟨fun h => ?_, fun h => ?_⟩ <;> simp at h
  · simp [go_sem, avs_drop h]
    refine ⟨⟨h, by rintro rfl; simp at h⟩, ?_⟩
    refine CallVC.of (specIsNumber_c _) (by decide) ?_
    by_cases hb : 0 ≤ xs[i]?.getD 0 ∧ xs[i]?.getD 0 ≤ 10006
    · simp [go_sem, hb]
      refine ⟨by omega, i + 1, ⟨by omega, ?_⟩, by omega, Off_reset _ _ _ (by simp), by omega⟩
      rw [List.getElem?_eq_getElem h, Option.getD_some] at hb
      exact take_all h hp hb
    · have e : decide (0 ≤ xs[i]?.getD 0 ∧ xs[i]?.getD 0 ≤ 10006) = false := by simpa using hb
      rw [e]
      simp [go_sem]
      exact numsB_bad h hb
  · simp [go_sem]
    have e : i = xs.length := by omega
    subst e
    rw [List.take_length] at hp
    exact numsB_ok hp
structure Tab (A : List (List Int)) (B : List Int) : Prop where
  pos : 1 ≤ B.length
  le : B.length ≤ 8
  len : A.length = B.length
  b : Ns B
  a : Mat B.length A
theorem tabB_iff {A : List (List Int)} {B : List Int} : tabB A B = true ↔ Tab A B := by
  unfold tabB
  simp only [Bool.and_eq_true, decide_eq_true_eq, List.all_eq_true, numsB_N]
  constructor
  · rintro ⟨⟨⟨h1, h2, h3⟩, h4⟩, h5⟩
    exact ⟨h1, h2, h3, h4, fun r hr => h5 r hr⟩
  · rintro ⟨h1, h2, h3, h4, h5⟩
    exact ⟨⟨⟨h1, h2, h3⟩, h4⟩, fun r hr => h5 r hr⟩
end Go.Proofs.YtnokgijakdaehaaGreatDoor


namespace Go.Proofs.YtnokgijakdaehaaGreatDoor
open Go.Abs
set_option linter.unusedSectionVars false
set_option linter.unusedVariables false
set_option linter.unusedSimpArgs false
set_option maxHeartbeats 1000000
abbrev Mon := Int × List Int
def mons (p : List Mon) : List AV := p.flatMap fun m => [.int m.1, .sl m.2.length (avs m.2)]
def omons (p : List Mon) : List AV := p.flatMap fun m => [.int m.1, .own 2 m.2.length (avs m.2)]
def prt (f : List (List Mon)) : List AV := f.map fun p => .sl p.length (mons p)
def oprt (f : List (List Mon)) : List AV := f.map fun p => .own 125 p.length (omons p)
theorem mons_cons (m : Mon) (p : List Mon) : mons (m :: p) = .int m.1 :: .sl m.2.length (avs m.2) :: mons p := rfl
theorem omons_cons (m : Mon) (p : List Mon) : omons (m :: p) = .int m.1 :: .own 2 m.2.length (avs m.2) :: omons p := rfl
@[simp] theorem mons_nil : mons [] = [] := rfl
@[simp] theorem omons_nil : omons [] = [] := rfl
@[simp] theorem mons_len : ∀ p : List Mon, (mons p).length = p.length * 2
  | [] => rfl
  | m :: p => by rw [mons_cons]; simp [mons_len p]; omega
@[simp] theorem omons_len : ∀ p : List Mon, (omons p).length = p.length * 2
  | [] => rfl
  | m :: p => by rw [omons_cons]; simp [omons_len p]; omega
@[simp] theorem mons_ne {p : List Mon} : (mons p = []) = (p = []) := by cases p <;> simp [mons_cons]
@[simp] theorem prt_len (f : List (List Mon)) : (prt f).length = f.length := by simp [prt]
@[simp] theorem oprt_len (f : List (List Mon)) : (oprt f).length = f.length := by simp [oprt]
@[simp] theorem prt_ne {f : List (List Mon)} : (prt f = []) = (f = []) := by cases f <;> simp [prt]
@[simp] theorem omons_frz : ∀ p : List Mon, frzL (omons p) = mons p
  | [] => rfl
  | m :: p => by rw [omons_cons, mons_cons]; simp [frzL, frz, omons_frz p]
@[simp] theorem mons_frz : ∀ p : List Mon, frzL (mons p) = mons p
  | [] => rfl
  | m :: p => by rw [mons_cons]; simp [frzL, frz, mons_frz p]
@[simp] theorem omons_fresh : ∀ p : List Mon, freshL (omons p) = true
  | [] => rfl
  | m :: p => by rw [omons_cons]; simp [freshL, freshOK, omons_fresh p]
@[simp] theorem oprt_frz : ∀ f : List (List Mon), frzL (oprt f) = prt f
  | [] => rfl
  | p :: f => by have := oprt_frz f; simp only [oprt, prt, List.map_cons, frzL] at this ⊢; rw [this]; simp [frz]
@[simp] theorem oprt_fresh : ∀ f : List (List Mon), freshL (oprt f) = true
  | [] => rfl
  | p :: f => by have := oprt_fresh f; simp only [oprt, List.map_cons, freshL] at this ⊢; rw [this]; simp [freshOK]
theorem mons_drop : ∀ {p : List Mon} {k : Nat}, k < p.length → (mons p).drop (k * 2) = .val (.int .i64 (p[k]?.getD (0, [])).1) :: .sl (p[k]?.getD (0, [])).2.length (avs (p[k]?.getD (0, [])).2) :: mons (p.drop (k + 1))
  | m :: p, 0, _ => rfl
  | m :: p, k + 1, h => by
    have := mons_drop (p := p) (k := k) (by simpa using h)
    rw [mons_cons, show (k + 1) * 2 = k * 2 + 1 + 1 by omega]
    simpa using this
theorem prt_drop {f : List (List Mon)} {k : Nat} (h : k < f.length) : (prt f).drop k = .sl (f[k]?.getD []).length (mons (f[k]?.getD [])) :: prt (f.drop (k + 1)) := by
  rw [prt, ← List.map_drop, List.drop_eq_getElem_cons h, List.map_cons]; simp [h, prt]
def sumC {α : Type} (c : α → Nat) : List α → Nat
  | [] => 0
  | a :: l => c a + sumC c l
structure SzOk {α : Type} (g : Int → α → Int) (c : α → Nat) : Prop where
  lo : ∀ l a, -1 ≤ g l a
  hi : ∀ l a, 0 ≤ l → g l a ≤ l
  ok : ∀ l a, 0 ≤ l → 0 ≤ g l a → (c a : Int) ≤ l - g l a
def cM (m : Mon) : Nat := m.2.length
def cP (p : List Mon) : Nat := p.length + sumC cM p
def cF (f : List (List Mon)) : Nat := f.length + sumC cP f
end Go.Proofs.YtnokgijakdaehaaGreatDoor


namespace Go.Proofs.YtnokgijakdaehaaGreatDoor
open Go.Abs
set_option linter.unusedSectionVars false
set_option linter.unusedVariables false
set_option linter.unusedSimpArgs false
set_option maxHeartbeats 1000000
theorem omons_app (p q : List Mon) : omons (p ++ q) = omons p ++ omons q := by simp [omons]
theorem oprt_app (f g : List (List Mon)) : oprt (f ++ g) = oprt f ++ oprt g := by simp [oprt]
end Go.Proofs.YtnokgijakdaehaaGreatDoor


namespace Go.Proofs.YtnokgijakdaehaaGreatDoor
open Go.Abs
set_option linter.unusedSectionVars false
set_option linter.unusedVariables false
set_option linter.unusedSimpArgs false
set_option maxHeartbeats 1000000
theorem avs_at' {xs : List Int} {k : Nat} (h : k < xs.length) : (avs xs)[k]? = some (AV.val (.int .i64 (xs[k]?.getD 0))) := by simp [avs, h]
def ltL : List Int → List Int → Bool
  | _, [] => false
  | [], _ :: _ => true
  | x :: xs, y :: ys => if x = y then ltL xs ys else decide (x < y)
theorem ltL_at : ∀ {a b : List Int} {i : Nat}, i < a.length → i < b.length → a.take i = b.take i → a[i]?.getD 0 ≠ b[i]?.getD 0 → ltL a b = decide (a[i]?.getD 0 < b[i]?.getD 0)
  | x :: a, y :: b, 0, _, _, _, h => by
    simp at h
    simp [ltL, h]
  | x :: a, y :: b, i + 1, h1, h2, h3, h4 => by
    simp at h3
    simp only [ltL, if_pos h3.1]
    simpa using ltL_at (a := a) (b := b) (i := i) (by simpa using h1) (by simpa using h2) h3.2 (by simpa using h4)
theorem ltL_end : ∀ {a b : List Int} {i : Nat}, a.take i = b.take i → i ≤ a.length → i ≤ b.length → (a.length ≤ i ∨ b.length ≤ i) → ltL a b = decide (a.length < b.length)
  | _, [], i, _, _, _, _ => by simp [ltL]
  | [], _ :: _, i, _, _, _, _ => by simp [ltL]
  | x :: a, y :: b, 0, _, h1, h2, h3 => by simp at h3
  | x :: a, y :: b, i + 1, h, h1, h2, h3 => by
    simp at h
    simp only [ltL, if_pos h.1]
    have := ltL_end (a := a) (b := b) (i := i) h.2 (by simpa using h1) (by simpa using h2) (by simpa using h3)
    rw [this]; simp
theorem take_ext {a b : List Int} {i : Nat} (h1 : i < a.length) (h2 : i < b.length) (h : a.take i = b.take i) (e : a[i]?.getD 0 = b[i]?.getD 0) : a.take (i + 1) = b.take (i + 1) := by
  rw [List.getElem?_eq_getElem h1, List.getElem?_eq_getElem h2] at e
  simp at e
  rw [List.take_add_one, List.take_add_one, h, List.getElem?_eq_getElem h1, List.getElem?_eq_getElem h2, e]
set_option maxRecDepth 100000 in
theorem l01Less_c (a b : List Int) (ha : a.length ≤ 9223372036854775807) (hb : b.length ≤ 9223372036854775807) : Con Tryz.prog 149 [.sl a.length (avs a), .sl b.length (avs b)] (.bool (ltL a b)) := by
  refine con_of_vc Tryz.mixed ⟨6, [], [], []⟩ Tryz.func149 (by decide) rfl (by simp) (by decide) (by simp [freshOK, freshL, go_sem]) ?_
  rw [Tryz.ntmps149]
  simp [go_sem]
  refine loop_inv (4 :: 5 :: List.range' 6 30) (fun i : Nat => [(5, .int i)]) (fun i => i ≤ a.length ∧ i ≤ b.length ∧ a.take i = b.take i) (fun i => a.length - i) 0 (by simp) (by simp [go_sem]) (by simp [go_sem]) ?_
  rintro i ⟨hi, hj, he⟩
  by_cases h1 : i < a.length
  · by_cases h2 : i < b.length
    · have h1' : (i : Int) < a.length := by omega
      have h2' : (i : Int) < b.length := by omega
      by_cases hd : a[i]?.getD 0 = b[i]?.getD 0
      · simp [go_sem, h1, h2, h1', h2', avs_drop h1, avs_drop h2, hd]
        refine ⟨by kernel_rfl, by rintro rfl; simp at h1, by rintro rfl; simp at h2, ?_⟩
        have hd2 : a[i] = b[i] := by simpa [h1, h2] using hd
        refine ⟨by kernel_rfl, ?_⟩
        simp [go_sem]
        simp [go_sem, hd2]
        refine ⟨by omega, i + 1, ⟨by omega, by omega, take_ext h1 h2 he hd⟩, by omega, Off_reset _ _ _ (by simp), by omega⟩
      · simp [go_sem, h1, h2, h1', h2', avs_drop h1, avs_drop h2, hd]
        refine ⟨by kernel_rfl, by rintro rfl; simp at h1, by rintro rfl; simp at h2, ?_⟩
        have hd2 : ¬ a[i] = b[i] := by simpa [h1, h2] using hd
        refine ⟨by kernel_rfl, ?_⟩
        simp [go_sem]
        simp [go_sem, hd2, avs_drop h1, avs_drop h2]
        refine ⟨by kernel_rfl, ⟨h1, by rintro rfl; simp at h1⟩, ⟨h2, by rintro rfl; simp at h2⟩, ?_⟩
        refine ⟨by kernel_rfl, ?_⟩
        simp [go_sem]
        rw [ltL_at h1 h2 he hd]
    · have h2' : ¬ (i : Int) < b.length := by omega
      simp [go_sem, h1, h2, h2']
      rw [ltL_end he hi hj (.inr (by omega))]
  · simp [go_sem, h1]
    rw [ltL_end he hi hj (.inl (by omega))]
def degL : List Int → Int → Int
  | [], s => s
  | x :: xs, s => if x < 0 ∨ 100 < x then 1000 else degL xs (s + x)
set_option maxRecDepth 100000 in
theorem l13Degree_c (a : List Int) (ha : a.length ≤ 1048576) : Con Tryz.prog 148 [.sl a.length (avs a)] (.int (degL a 0)) := by
  refine con_of_vc Tryz.mixed ⟨5, [], [], []⟩ Tryz.func148 (by decide) rfl (by simp) (by decide) (by simp [freshOK, freshL, go_sem]) ?_
  rw [Tryz.ntmps148]
  simp [go_sem]
  refine loop_inv (2 :: 3 :: 4 :: List.range' 5 24) (fun x : Nat × Int => [(3, .int x.2), (4, .int x.1)]) (fun x => x.1 ≤ a.length ∧ 0 ≤ x.2 ∧ x.2 ≤ 100 * x.1 ∧ degL (a.drop x.1) x.2 = degL a 0) (fun x => a.length - x.1) (0, 0) (by simp) (by simp [go_sem]) (by simp [go_sem]) ?_
  rintro ⟨i, s⟩ ⟨hi, hs0, hs1, he⟩
  simp only at hi hs0 hs1 he
  simp [go_sem]
  refine ⟨fun h => ?_, fun h => ?_⟩ <;> simp at h
  · have hd : a.drop i = a[i]?.getD 0 :: a.drop (i + 1) := by rw [List.drop_eq_getElem_cons h]; simp [h]
    rw [hd, degL] at he
    by_cases b1 : a[i]?.getD 0 < 0
    · simp [go_sem, avs_drop h, b1]
      rw [if_pos (.inl b1)] at he
      exact ⟨⟨h, by rintro rfl; simp at h⟩, he⟩
    · by_cases b2 : 100 < a[i]?.getD 0
      · simp [go_sem, avs_drop h, b1, b2]
        rw [if_pos (.inr b2)] at he
        exact ⟨⟨h, by rintro rfl; simp at h⟩, he⟩
      · simp [go_sem, avs_drop h, b1, b2]
        rw [if_neg (by omega)] at he
        refine ⟨⟨h, by rintro rfl; simp at h⟩, by omega, by omega, i + 1, _, ⟨by omega, by omega, by omega, he⟩, by omega, Off_reset _ _ _ (by simp), rfl, by omega⟩
  · simp [go_sem]
    rw [List.drop_eq_nil_of_le h] at he
    exact he
def monB (z : Int) (m : Mon) : Bool := decide (1 ≤ m.1 ∧ m.1 ≤ 10006) && decide ((m.2.length : Int) = z) && decide (degL m.2 0 ≤ 3)
def atB (z : Int) (p : List Mon) (j : Nat) : Bool := monB z (p[j]?.getD (0, [])) && (decide (j = 0) || ltL (p[j - 1]?.getD (0, [])).2 (p[j]?.getD (0, [])).2)
def partB (z : Int) (p : List Mon) : Bool := (List.range p.length).all (atB z p)
def fieldB (z : Int) (f : List (List Mon)) : Bool := decide (1 ≤ z ∧ z ≤ 3) && decide ((f.length : Int) = z) && f.all (partB z)
theorem partB_no {z : Int} {p : List Mon} {j : Nat} (hj : j < p.length) (h : atB z p j = false) : partB z p = false := by
  unfold partB; rw [List.all_eq_false]; exact ⟨j, by simpa using hj, by simp [h]⟩
theorem partB_yes {z : Int} {p : List Mon} (h : ∀ j, j < p.length → atB z p j = true) : partB z p = true := by
  unfold partB; rw [List.all_eq_true]; intro j hj; exact h j (by simpa using hj)
theorem fieldB_no {z : Int} {f : List (List Mon)} {i : Nat} (hi : i < f.length) (h : partB z (f[i]?.getD []) = false) : fieldB z f = false := by
  unfold fieldB
  have : f.all (partB z) = false := by rw [List.all_eq_false]; exact ⟨f[i]?.getD [], by simp [hi], by simp [h]⟩
  rw [this]; simp
def Small (f : List (List Mon)) : Prop := f.length ≤ 1048576 ∧ ∀ p ∈ f, p.length ≤ 1048576 ∧ ∀ q ∈ p, q.2.length ≤ 1048576
set_option maxRecDepth 100000 in
theorem l13Is_c (z : Int) (f : List (List Mon)) (hf : Small f) : Con Tryz.prog 77 [.agg [.int z, .sl f.length (prt f)]] (.bool (fieldB z f)) := by
  have fl := hf.1
  refine con_of_vc Tryz.mixed ⟨6, [], [], []⟩ Tryz.func77 (by decide) rfl (by simp) (by decide) (by simp [freshOK, freshL, go_sem]) ?_
  rw [Tryz.ntmps77]
  simp [go_sem]
  refine CallVC.of (l01In_c z 1 3) (by decide) ?_
  simp [go_sem]
  by_cases hz : 1 ≤ z ∧ z ≤ 3
  · by_cases hl : (f.length : Int) = z
    · have fine : fieldB z f = f.all (partB z) := by unfold fieldB; simp [hz, hl]
      simp [go_sem, hz.1, hz.2, hl]
      refine loop_inv (2 :: 3 :: 4 :: 5 :: List.range' 18 61) (fun i : Nat => [(3, .int i)]) (fun i => i ≤ f.length ∧ ∀ p ∈ f.take i, partB z p = true) (fun i => f.length - i) 0 (by simp) (by simp [go_sem]) (by simp [go_sem]) ?_
      rintro i ⟨hi, hp⟩
      simp [go_sem]
      refine ⟨fun h => ?_, fun h => ?_⟩ <;> simp at h
      · have hx : f[i]?.getD [] ∈ f := by simp [h]
        obtain ⟨hm1, hm2⟩ := hf.2 _ hx
        simp [go_sem]
        refine loop_inv (2 :: 4 :: 5 :: List.range' 25 54) (fun j : Nat => [(4, .int j)]) (fun j => j ≤ (f[i]?.getD []).length ∧ ∀ k, k < j → atB z (f[i]?.getD []) k = true) (fun j => (f[i]?.getD []).length - j) 0 (by simp) (by simp [go_sem]) (by simp [go_sem]) ?_
        rintro j ⟨hj, hq⟩
        have hif := h
        simp [go_sem, prt_drop hif]
        refine ⟨⟨hif, by rintro rfl; simp at hif⟩, ?_⟩
        generalize hP : f[i]?.getD [] = P at *
        refine ⟨fun h => ?_, fun h => ?_⟩ <;> simp at h
        · have hy : P[j]?.getD (0, []) ∈ P := by simp [h]
          have hm := hm2 _ hy
          have hno : atB z P j = false → fieldB z f = false := fun hh => fieldB_no hif (by rw [hP]; exact partB_no h hh)
          simp [go_sem, prt_drop hif, hP, mons_drop h]
          refine ⟨⟨hif, by rintro rfl; simp at hif⟩, ⟨h, by rintro rfl; simp at h⟩, ?_⟩
          generalize hM : P[j]?.getD (0, []) = m at *
          have cD := l13Degree_c m.2 hm
          refine CallVC.of (l01In_c _ _ _) (by decide) ?_
          by_cases c1 : 1 ≤ m.1 ∧ m.1 ≤ 10006
          · by_cases c2 : (m.2.length : Int) = z
            · simp [go_sem, c1.1, c1.2, c2]
              refine CallVC.of (cD) (by decide) ?_
              by_cases c3 : degL m.2 0 ≤ 3
              · have c3' : ¬ 3 < degL m.2 0 := by omega
                have hmb : monB z m = true := by unfold monB; simp [c1, c2, c3]
                simp [go_sem, c3']
                refine ⟨by kernel_rfl, ?_⟩
                by_cases j0 : 0 < j
                · have hk : j - 1 < P.length := by omega
                  have ek : (j : Int) - 1 = ((j - 1 : Nat) : Int) := by omega
                  have hyk : P[j - 1]?.getD (0, []) ∈ P := by simp [hk]
                  have hmk := hm2 _ hyk
                  have cL := l01Less_c (P[j - 1]?.getD (0, [])).2 m.2 (by omega) (by omega)
                  have hat : atB z P j = ltL (P[j - 1]?.getD (0, [])).2 m.2 := by unfold atB; rw [hM, hmb, decide_eq_false (by omega : ¬ j = 0)]; simp
                  simp [go_sem, j0, ek, prt_drop hif, hP, mons_drop hk]
                  generalize (P[j - 1]?.getD (0, [])).2 = pw0 at *
                  refine ⟨⟨hif, by rintro rfl; simp at hif⟩, by omega, ⟨hk, by rintro rfl; simp at h⟩, ?_⟩
                  generalize hL : ltL pw0 m.2 = bb at *
                  refine CallD.of (cL) (by simp [roots, rootsL]) (by decide) ?_
                  simp [go_sem]
                  cases bb with
                  | false =>
                    simp [go_sem]
                    refine ⟨by kernel_rfl, ?_⟩
                    simp [go_sem]
                    rw [hno hat]
                  | true =>
                    simp [go_sem]
                    refine ⟨by kernel_rfl, ?_⟩
                    simp [go_sem]
                    refine ⟨by omega, j + 1, ⟨by omega, fun k hk2 => ?_⟩, by omega, Off_reset _ _ _ (by simp), by omega⟩
                    by_cases e : k = j
                    · rw [e]; exact hat
                    · exact hq k (by omega)
                · simp [go_sem, j0]
                  refine ⟨by kernel_rfl, ?_⟩
                  simp [go_sem]
                  have hat : atB z P j = true := by unfold atB; rw [hM, hmb, decide_eq_true (by omega : j = 0)]; rfl
                  refine ⟨by omega, j + 1, ⟨by omega, fun k hk2 => ?_⟩, by omega, Off_reset _ _ _ (by simp), by omega⟩
                  by_cases e : k = j
                  · rw [e]; exact hat
                  · exact hq k (by omega)
              · have c3' : 3 < degL m.2 0 := by omega
                simp [go_sem, c3']
                rw [hno (by unfold atB monB; rw [hM, decide_eq_false c3]; simp)]
            · simp [go_sem, c1.1, c1.2, c2]
              rw [hno (by unfold atB monB; simp [hM, c2])]
          · have c1' : (decide (1 ≤ m.1) && decide (m.1 ≤ 10006)) = false := by simpa using c1
            rw [c1']
            simp [go_sem]
            rw [hno (by unfold atB monB; rw [hM, decide_eq_false c1]; simp)]
        · simp [go_sem]
          have hpb : partB z P = true := partB_yes (fun k hk => hq k (by omega))
          refine ⟨by omega, i + 1, ⟨by omega, take_all hif hp (by rw [← hP] at hpb; simpa [hif] using hpb)⟩, by omega, (Off.reset (by intro x hx; simp at hx ⊢; omega) (by simp) (by simp [go_sem, Off_reset])), by omega⟩
      · simp [go_sem]
        rw [List.take_of_length_le h] at hp
        rw [fine, List.all_eq_true.2 hp]
    · simp [go_sem, hz.1, hz.2, hl]
      unfold fieldB; simp [hl]
  · have hz' : (decide (1 ≤ z) && decide (z ≤ 3)) = false := by simpa using hz
    rw [hz']
    simp [go_sem]
    unfold fieldB; rw [decide_eq_false hz]; simp
end Go.Proofs.YtnokgijakdaehaaGreatDoor


namespace Go.Proofs.YtnokgijakdaehaaGreatDoor
open Go.Abs
set_option linter.unusedSectionVars false
set_option linter.unusedVariables false
set_option linter.unusedSimpArgs false
set_option maxHeartbeats 1000000
theorem degL_le : ∀ {xs : List Int} {s : Int}, 0 ≤ s → degL xs s ≤ 3 → (∀ x ∈ xs, 0 ≤ x ∧ x ≤ 3) ∧ s + xs.sum ≤ 3
  | [], s, h0, h => by simpa [degL] using h
  | x :: xs, s, h0, h => by
    rw [degL] at h
    split at h
    · omega
    · rename_i hx
      have hd := degL_le (xs := xs) (s := s + x) (by omega) h
      have pos : ∀ (l : List Int), (∀ x ∈ l, 0 ≤ x ∧ x ≤ 3) → 0 ≤ l.sum := by
        intro l
        induction l with
        | nil => simp
        | cons a l ih => intro h; have h1 := h a (by simp); have h2 := ih (fun x hx => h x (by simp [hx])); simp; omega
      have hs := pos xs hd.1
      have hd2 := hd.2
      refine ⟨fun y hy => ?_, by simp; omega⟩
      rcases List.mem_cons.1 hy with rfl | hy
      · omega
      · exact hd.1 y hy
structure MonOk (z : Int) (m : Mon) : Prop where
  lo : 1 ≤ m.1
  hi : m.1 ≤ 10006
  len : (m.2.length : Int) = z
  pw : ∀ x ∈ m.2, 0 ≤ x ∧ x ≤ 3
  deg : m.2.sum ≤ 3
theorem monB_ok {z : Int} {m : Mon} (h : monB z m = true) : MonOk z m := by
  unfold monB at h
  simp only [Bool.and_eq_true, decide_eq_true_eq] at h
  have := degL_le (by omega : (0 : Int) ≤ 0) h.2
  exact ⟨h.1.1.1, h.1.1.2, h.1.2, this.1, by omega⟩
theorem MonOk.get {z : Int} {m : Mon} (h : MonOk z m) (k : Nat) : 0 ≤ m.2[k]?.getD 0 ∧ m.2[k]?.getD 0 ≤ 3 := by
  rcases Nat.lt_or_ge k m.2.length with hk | hk
  · simp [hk]; exact h.pw _ (List.getElem_mem hk)
  · simp [hk]
structure FieldOk (z : Int) (f : List (List Mon)) : Prop where
  lo : 1 ≤ z
  hi : z ≤ 3
  len : (f.length : Int) = z
  part : ∀ p ∈ f, partB z p = true
theorem fieldB_iff {z : Int} {f : List (List Mon)} : fieldB z f = true ↔ FieldOk z f := by
  unfold fieldB
  simp only [Bool.and_eq_true, decide_eq_true_eq, List.all_eq_true]
  exact ⟨fun ⟨⟨⟨a, b⟩, c⟩, d⟩ => ⟨a, b, c, d⟩, fun ⟨a, b, c, d⟩ => ⟨⟨⟨a, b⟩, c⟩, d⟩⟩
theorem partB_at {z : Int} {p : List Mon} (h : partB z p = true) {j : Nat} (hj : j < p.length) : MonOk z (p[j]?.getD (0, [])) ∧ (0 < j → ltL (p[j - 1]?.getD (0, [])).2 (p[j]?.getD (0, [])).2 = true) := by
  unfold partB at h
  have := (List.all_eq_true.1 h) j (by simpa using hj)
  unfold atB at this
  simp only [Bool.and_eq_true, Bool.or_eq_true, decide_eq_true_eq] at this
  exact ⟨monB_ok this.1, fun h0 => this.2.resolve_left (by omega)⟩
theorem partB_mem {z : Int} {p : List Mon} (h : partB z p = true) {m : Mon} (hm : m ∈ p) : MonOk z m := by
  obtain ⟨j, hj, rfl⟩ := List.getElem_of_mem hm
  have := (partB_at h hj).1
  simpa [hj] using this
end Go.Proofs.YtnokgijakdaehaaGreatDoor


namespace Go.Proofs.YtnokgijakdaehaaGreatDoor
open Go.Abs
set_option linter.unusedSectionVars false
set_option linter.unusedVariables false
set_option linter.unusedSimpArgs false
set_option maxHeartbeats 1000000
def cmpI (x y : Int) : Int := if x < y then -1 else if y < x then 1 else 0
theorem isNaN_c [DrawK] (x : Int) : Con Tryz.prog 196 [.int x] (.bool false) := by
  refine con_of_vc Tryz.mixed ⟨3, [], [], []⟩ Tryz.func196 (by decide) rfl (by simp) (by decide) (by simp [freshOK, freshL, go_sem]) ?_
  rw [Tryz.ntmps196]
  simp [go_sem]
theorem Compare1_c [DrawK] (x y : Int) : Con Tryz.prog 180 [.int x, .int y] (.int (cmpI x y)) := by
  refine con_of_vc Tryz.mixed ⟨7, [], [], []⟩ Tryz.func180 (by decide) rfl (by simp) (by decide) (by simp [freshOK, freshL, go_sem]) ?_
  rw [Tryz.ntmps180]
  simp [go_sem]
  refine CallVC.of (isNaN_c _) (by decide) ?_
  simp [go_sem]
  refine CallVC.of (isNaN_c _) (by decide) ?_
  simp [go_sem]
  unfold cmpI
  by_cases h1 : x < y
  · simp [go_sem, h1]
  · by_cases h2 : y < x
    · simp [go_sem, h1, h2]
    · simp [go_sem, h1, h2]
def cmpL : List Int → List Int → Int
  | [], [] => 0
  | [], _ :: _ => -1
  | _ :: _, [] => 1
  | x :: xs, y :: ys => if x = y then cmpL xs ys else cmpI x y
theorem cmpI_ne {x y : Int} (h : x ≠ y) : cmpI x y ≠ 0 := by unfold cmpI; split; omega; split <;> omega
theorem cmpL_lt : ∀ a b : List Int, decide (0 ≤ cmpL a b) = !ltL a b
  | [], [] => by simp [cmpL, ltL]
  | [], _ :: _ => by simp [cmpL, ltL]
  | _ :: _, [] => by simp [cmpL, ltL]
  | x :: xs, y :: ys => by
    rw [cmpL, ltL]
    by_cases h : x = y
    · rw [if_pos h, if_pos h]; exact cmpL_lt xs ys
    · rw [if_neg h, if_neg h]
      unfold cmpI
      by_cases h1 : x < y
      · simp [h1]
      · have : y < x := by omega
        simp [h1, this]
theorem cmpL_at : ∀ {a b : List Int} {i : Nat}, i < a.length → i < b.length → a.take i = b.take i → a[i]?.getD 0 ≠ b[i]?.getD 0 → cmpL a b = cmpI (a[i]?.getD 0) (b[i]?.getD 0)
  | x :: a, y :: b, 0, _, _, _, h => by
    simp at h
    simp [cmpL, h]
  | x :: a, y :: b, i + 1, h1, h2, h3, h4 => by
    simp at h3
    simp only [cmpL, if_pos h3.1]
    simpa using cmpL_at (a := a) (b := b) (i := i) (by simpa using h1) (by simpa using h2) h3.2 (by simpa using h4)
theorem cmpL_more : ∀ {a b : List Int} {i : Nat}, i < a.length → b.length ≤ i → a.take b.length = b → cmpL a b = 1
  | x :: a, [], _, _, _, _ => by simp [cmpL]
  | x :: a, y :: b, 0, _, h, _ => by simp at h
  | x :: a, y :: b, i + 1, h1, h2, h3 => by
    simp at h3
    simp only [cmpL, if_pos h3.1]
    exact cmpL_more (a := a) (b := b) (i := i) (by simpa using h1) (by simpa using h2) h3.2
theorem cmpL_end : ∀ {a b : List Int}, a = b.take a.length → cmpL a b = if a.length < b.length then -1 else 0
  | [], [], _ => by simp [cmpL]
  | [], _ :: _, _ => by simp [cmpL]
  | x :: a, [], h => by simp at h
  | x :: a, y :: b, h => by
    simp at h
    simp only [cmpL, if_pos h.1]
    rw [cmpL_end h.2]; simp
set_option maxRecDepth 100000 in
theorem Compare_c [DrawK] (a b : List Int) (ha : a.length ≤ 9223372036854775807) (hb : b.length ≤ 9223372036854775807) : Con Tryz.prog 142 [.sl a.length (avs a), .sl b.length (avs b)] (.int (cmpL a b)) := by
  refine con_of_vc Tryz.mixed ⟨9, [], [], []⟩ Tryz.func142 (by decide) rfl (by simp) (by decide) (by simp [freshOK, freshL, go_sem]) ?_
  rw [Tryz.ntmps142]
  simp [go_sem]
  refine loop_inv (4 :: 5 :: 6 :: 7 :: 8 :: List.range' 11 20) (fun i : Nat => [(11, .int i)]) (fun i => i ≤ a.length ∧ i ≤ b.length ∧ a.take i = b.take i) (fun i => a.length - i) 0 (by simp) (by simp [go_sem]) (by simp [go_sem]) ?_
  rintro i ⟨hi, hj, he⟩
  simp [go_sem]
  refine ⟨fun h => ?_, fun h => ?_⟩ <;> simp at h
  · have h1 := h
    simp [go_sem, avs_drop h1]
    refine ⟨⟨h1, by rintro rfl; simp at h1⟩, ?_⟩
    by_cases h2 : i < b.length
    · have h2' : ¬ (b.length ≤ i) := by omega
      simp [go_sem, h2', avs_drop h2]
      refine ⟨⟨h2, by rintro rfl; simp at h2⟩, ?_⟩
      refine CallVC.of (Compare1_c _ _) (by decide) ?_
      simp [go_sem]
      by_cases hd : a[i]?.getD 0 = b[i]?.getD 0
      · have hc : cmpI (a[i]?.getD 0) (b[i]?.getD 0) = 0 := by unfold cmpI; rw [if_neg (by omega), if_neg (by omega)]
        simp [go_sem, hc]
        refine ⟨by omega, i + 1, ⟨by omega, by omega, take_ext h1 h2 he hd⟩, by omega, Off_reset _ _ _ (by simp), by omega⟩
      · have hc := cmpI_ne hd
        simp [go_sem, hc]
        rw [cmpL_at h1 h2 he hd]
    · have h2' : b.length ≤ i := by omega
      have e : i = b.length := by omega
      simp [go_sem, h2']
      rw [cmpL_more h1 h2' (by rw [← e, he, e, List.take_length])]
  · simp [go_sem]
    have e : i = a.length := by omega
    subst e
    rw [List.take_length] at he
    rw [cmpL_end he]
    by_cases h3 : a.length < b.length
    · simp [go_sem, h3]
    · simp [go_sem, h3]
theorem degL_big {xs : List Int} {s : Int} (h : 3 < s) : ¬ degL xs s ≤ 3 := by
  intro hd
  have := degL_le (by omega : 0 ≤ s) hd
  have pos : ∀ (l : List Int), (∀ x ∈ l, 0 ≤ x ∧ x ≤ 3) → 0 ≤ l.sum := by
    intro l
    induction l with
    | nil => simp
    | cons a l ih => intro h; have h1 := h a (by simp); have h2 := ih (fun x hx => h x (by simp [hx])); simp; omega
  have := pos xs this.1
  omega
set_option maxRecDepth 100000 in
theorem isMonomial_c (z : Int) (m : Mon) (hl : m.2.length ≤ 1048576) : Con Tryz.prog 141 [.agg [.int m.1, .sl m.2.length (avs m.2)], .int z] (.bool (monB z m)) := by
  refine con_of_vc Tryz.mixed ⟨8, [], [], []⟩ Tryz.func141 (by decide) rfl (by simp) (by decide) (by simp [freshOK, freshL, go_sem]) ?_
  rw [Tryz.ntmps141]
  simp [go_sem]
  refine loop_inv (4 :: 5 :: 7 :: List.range' 11 11) (fun x : Nat × Int => [(5, .int x.2), (11, .int x.1)]) (fun x => x.1 ≤ m.2.length ∧ 0 ≤ x.2 ∧ x.2 ≤ 3 * x.1 ∧ degL (m.2.drop x.1) x.2 = degL m.2 0) (fun x => m.2.length - x.1) (0, 0) (by simp) (by simp [go_sem]) (by simp [go_sem]) ?_
  rintro ⟨i, s⟩ ⟨hi, hs0, hs1, he⟩
  simp only at hi hs0 hs1 he
  simp [go_sem]
  refine ⟨fun h => ?_, fun h => ?_⟩ <;> simp at h
  · have hd : m.2.drop i = m.2[i]?.getD 0 :: m.2.drop (i + 1) := by rw [List.drop_eq_getElem_cons h]; simp [h]
    simp [go_sem, avs_drop h]
    refine ⟨⟨h, fun e => by rw [e] at h; simp at h⟩, ?_⟩
    refine CallVC.of (inRange_c _ _ _) (by decide) ?_
    by_cases hx : 0 ≤ m.2[i]?.getD 0 ∧ m.2[i]?.getD 0 ≤ 3
    · simp [go_sem, hx.1, hx.2]
      rw [hd, degL, if_neg (by omega)] at he
      refine ⟨by omega, by omega, i + 1, _, ⟨by omega, by omega, by omega, he⟩, by omega, Off_reset _ _ _ (by simp), rfl, by omega⟩
    · have hx' : (decide (0 ≤ m.2[i]?.getD 0) && decide (m.2[i]?.getD 0 ≤ 3)) = false := by simpa using hx
      have hm : monB z m = false := by
        have : ¬ degL m.2 0 ≤ 3 := by
          rw [← he, hd, degL]
          split
          · omega
          · exact degL_big (by omega)
        unfold monB; rw [decide_eq_false this]; simp
      rw [hx']
      simp [go_sem]
      rw [hm]
  · simp [go_sem]
    rw [List.drop_eq_nil_of_le h, degL] at he
    subst he
    by_cases c0 : m.1 = 0
    · simp [go_sem, c0]
      unfold monB; simp [c0]
    · simp [go_sem, c0]
      refine CallVC.of (IsNumber_c _) (by decide) ?_
      simp [go_sem]
      by_cases c1 : 0 ≤ m.1 ∧ m.1 ≤ 10006
      · simp [go_sem, c1.1, c1.2]
        refine CallVC.of (length_c _ _ (by omega)) (by decide) ?_
        simp [go_sem]
        by_cases c2 : (m.2.length : Int) = z
        · simp [go_sem, c2]
          unfold monB
          have : 1 ≤ m.1 := by omega
          simp [this, c1.2, c2]
        · simp [go_sem, c2]
          unfold monB; simp [c2]
      · have c1' : (decide (0 ≤ m.1) && decide (m.1 ≤ 10006)) = false := by simpa using c1
        rw [c1']
        simp [go_sem]
        have : ¬ (1 ≤ m.1 ∧ m.1 ≤ 10006) := by omega
        unfold monB; rw [decide_eq_false this]; simp
theorem lengthP_c (n : Nat) (cs : List AV) (hn : n ≤ 9223372036854775807) : Con Tryz.prog 140 [.sl n cs] (.int n) := by
  refine con_of_vc Tryz.mixed ⟨3, [], [], []⟩ Tryz.func140 (by decide) rfl (by simp) (by decide) (by simp [freshOK, freshL, go_sem]) ?_
  rw [Tryz.ntmps140]
  simp [go_sem]
  try omega
set_option maxRecDepth 100000 in
theorem IsField_c (z : Int) (f : List (List Mon)) (hf : Small f) : Con Tryz.prog 72 [.agg [.int z, .sl f.length (prt f)]] (.bool (fieldB z f)) := by
  have fl := hf.1
  refine con_of_vc Tryz.mixed ⟨7, [], [], []⟩ Tryz.func72 (by decide) rfl (by simp) (by decide) (by simp [freshOK, freshL, go_sem]) ?_
  rw [Tryz.ntmps72]
  simp [go_sem]
  refine ⟨by kernel_rfl, ?_⟩
  refine CallD.of (inRange_c z 1 3) (by simp [roots, rootsL]) (by decide) ?_
  simp [go_sem]
  by_cases hz : 1 ≤ z ∧ z ≤ 3
  · have cl := lengthP_c f.length (prt f) (by omega)
    by_cases hl : (f.length : Int) = z
    · have fine : fieldB z f = f.all (partB z) := by unfold fieldB; simp [hz, hl]
      simp [go_sem, hz.1, hz.2]
      refine CallD.of (cl) (by simp [roots, rootsL]) (by decide) ?_
      simp [go_sem]
      simp [go_sem, hl]
      refine ⟨by kernel_rfl, ?_⟩
      simp [go_sem]
      refine loop_inv (2 :: 4 :: 5 :: 6 :: List.range' 22 34) (fun i : Nat => [(22, .int i)]) (fun i => i ≤ f.length ∧ ∀ p ∈ f.take i, partB z p = true) (fun i => f.length - i) 0 (by simp) (by simp [go_sem]) (by simp [go_sem]) ?_
      rintro i ⟨hi, hp⟩
      simp [go_sem]
      refine ⟨fun h => ?_, fun h => ?_⟩ <;> simp at h
      · have hif := h
        have hx : f[i]?.getD [] ∈ f := by simp [h]
        obtain ⟨hm1, hm2⟩ := hf.2 _ hx
        simp [go_sem, prt_drop hif]
        refine ⟨⟨hif, by rintro rfl; simp at hif⟩, ?_⟩
        generalize hP : f[i]?.getD [] = P at *
        refine loop_inv (2 :: 5 :: 6 :: List.range' 28 27) (fun j : Nat => [(28, .int j)]) (fun j => j ≤ P.length ∧ ∀ k, k < j → atB z P k = true) (fun j => P.length - j) 0 (by simp) (by simp [go_sem]) (by simp [go_sem]) ?_
        rintro j ⟨hj, hq⟩
        simp [go_sem]
        refine ⟨fun h => ?_, fun h => ?_⟩ <;> simp at h
        · have hy : P[j]?.getD (0, []) ∈ P := by simp [h]
          have hm := hm2 _ hy
          have hno : atB z P j = false → fieldB z f = false := fun hh => fieldB_no hif (by rw [hP]; exact partB_no h hh)
          simp [go_sem, mons_drop h]
          refine ⟨⟨h, by rintro rfl; simp at h⟩, by kernel_rfl, ?_⟩
          generalize hM : P[j]?.getD (0, []) = m at *
          have cM := isMonomial_c z m hm
          generalize hmb : monB z m = mb at *
          refine CallD.of (cM) (by simp [roots, rootsL]) (by decide) ?_
          simp [go_sem]
          cases mb with
          | false =>
            simp [go_sem]
            refine ⟨by kernel_rfl, ?_⟩
            simp [go_sem]
            rw [hno (by unfold atB; rw [hM, hmb]; rfl)]
          | true =>
            by_cases j0 : 0 < j
            · have hk : j - 1 < P.length := by omega
              have ek : (j : Int) - 1 = ((j - 1 : Nat) : Int) := by omega
              have hyk : P[j - 1]?.getD (0, []) ∈ P := by simp [hk]
              have hmk := hm2 _ hyk
              have cC := Compare_c (P[j - 1]?.getD (0, [])).2 m.2 (by omega) (by omega)
              have hat : atB z P j = ltL (P[j - 1]?.getD (0, [])).2 m.2 := by unfold atB; rw [hM, hmb, decide_eq_false (by omega : ¬ j = 0)]; simp
              have hlt := cmpL_lt (P[j - 1]?.getD (0, [])).2 m.2
              simp [go_sem, j0, ek, mons_drop hk]
              refine ⟨by omega, ⟨hk, by rintro rfl; simp at h⟩, ?_⟩
              generalize (P[j - 1]?.getD (0, [])).2 = pw0 at *
              generalize hc : cmpL pw0 m.2 = c at *
              refine CallD.of (cC) (by simp [roots, rootsL]) (by decide) ?_
              simp [go_sem]
              cases hL : ltL pw0 m.2 with
              | false =>
                rw [hL] at hlt hat
                have hc0 : 0 ≤ c := by simpa using hlt
                simp [go_sem, hc0]
                refine ⟨by kernel_rfl, ?_⟩
                simp [go_sem]
                rw [hno hat]
              | true =>
                rw [hL] at hlt hat
                have hc0 : ¬ 0 ≤ c := by simpa using hlt
                simp [go_sem, hc0]
                refine ⟨by kernel_rfl, ?_⟩
                simp [go_sem]
                refine ⟨by omega, j + 1, ⟨by omega, fun k hk2 => ?_⟩, by omega, Off_reset _ _ _ (by simp), by omega⟩
                by_cases e : k = j
                · rw [e]; exact hat
                · exact hq k (by omega)
            · simp [go_sem, j0]
              refine ⟨by kernel_rfl, ?_⟩
              simp [go_sem]
              have hat : atB z P j = true := by unfold atB; rw [hM, hmb, decide_eq_true (by omega : j = 0)]; rfl
              refine ⟨by omega, j + 1, ⟨by omega, fun k hk2 => ?_⟩, by omega, Off_reset _ _ _ (by simp), by omega⟩
              by_cases e : k = j
              · rw [e]; exact hat
              · exact hq k (by omega)
        · simp [go_sem]
          have hpb : partB z P = true := partB_yes (fun k hk => hq k (by omega))
          refine ⟨by omega, i + 1, ⟨by omega, take_all hif hp (by rw [← hP] at hpb; simpa [hif] using hpb)⟩, by omega, (Off.reset (by intro x hx; simp at hx ⊢; omega) (by simp) (by simp [go_sem, Off_reset])), by omega⟩
      · simp [go_sem]
        rw [List.take_of_length_le h] at hp
        rw [fine, List.all_eq_true.2 hp]
    · simp [go_sem, hz.1, hz.2]
      refine CallD.of (cl) (by simp [roots, rootsL]) (by decide) ?_
      simp [go_sem]
      simp [go_sem, hl]
      refine ⟨by kernel_rfl, ?_⟩
      simp [go_sem]
      unfold fieldB; simp [hl]
  · by_cases z1 : 1 ≤ z
    · have z3 : ¬ z ≤ 3 := fun h => hz ⟨z1, h⟩
      simp [go_sem, z1, z3]
      refine ⟨by kernel_rfl, ?_⟩
      simp [go_sem]
      unfold fieldB; rw [decide_eq_false hz]; simp
    · simp [go_sem, z1]
      refine ⟨by kernel_rfl, ?_⟩
      simp [go_sem]
      unfold fieldB; rw [decide_eq_false hz]; simp
def vecB (z : Int) (y : List Int) : Bool := decide ((y.length : Int) = z) && numsB y
theorem isVector_c (z : Int) (n : Nat) (cs : List AV) (y : List Int) (hl : y.length ≤ 9223372036854775807) :
    Con Tryz.prog 144 [.agg [.int z, .sl n cs], .sl y.length (avs y)] (.bool (vecB z y)) := by
  refine con_of_vc Tryz.mixed ⟨5, [], [], []⟩ Tryz.func144 (by decide) rfl (by simp) (by decide) (by simp [freshOK, freshL, go_sem]) ?_
  rw [Tryz.ntmps144]
  simp [go_sem]
  refine ⟨by kernel_rfl, ?_⟩
  refine CallD.of (length_c _ _ hl) (by simp [roots, rootsL]) (by decide) ?_
  simp [go_sem]
  unfold vecB
  by_cases h : (y.length : Int) = z
  · simp [go_sem, h]
    refine CallD.of (areNumbers_c y hl) (by simp [roots, rootsL]) (by decide) ?_
    simp [go_sem]
    refine ⟨by kernel_rfl, ?_⟩
    simp [go_sem]
  · simp [go_sem, h]
    refine ⟨by kernel_rfl, ?_⟩
    simp [go_sem]
theorem notVector_c (z : Int) (n : Nat) (cs : List AV) (y : List Int) (hl : y.length ≤ 9223372036854775807) :
    Con Tryz.prog 164 [.sl y.length (avs y), .fptr [.int z, .sl n cs]] (.bool (!vecB z y)) := by
  refine con_of_vc Tryz.mixed ⟨4, [], [], []⟩ Tryz.func164 (by decide) rfl (by simp) (by decide) (by simp [freshOK, freshL, go_sem]) ?_
  rw [Tryz.ntmps164]
  simp [go_sem]
  refine CallVC.of (isVector_c z n cs y hl) (by decide) ?_
  simp [go_sem]
theorem IndexFuncV_c (g : FuncId) (cs : List AV) (p : List Int → Bool) (xss : List (List Int)) (hl : xss.length ≤ 9223372036854775807) (hg : ∀ x ∈ xss, Con Tryz.prog g [.sl x.length (avs x), .fptr cs] (.bool (p x))) :
    Con Tryz.prog 169 [.sl xss.length (mat xss), .fn g [.fptr cs]] (.int (idxF p xss)) := by
  refine con_of_vc Tryz.mixed ⟨6, [], [], []⟩ Tryz.func169 (by decide) rfl (by simp) (by decide) (by simp [freshOK, freshL, go_sem]) ?_
  rw [Tryz.ntmps169]
  simp [go_sem]
  refine loop_inv (5 :: List.range' 8 20) (fun i : Nat => [(8, .int i)]) (fun i => i ≤ xss.length ∧ ∀ x ∈ xss.take i, p x = false) (fun i => xss.length - i) 0 (by simp) (by simp [go_sem]) (by simp [go_sem]) ?_
  rintro i ⟨hi, hf⟩
  simp [go_sem]
  have sk := idxF_skip p xss i hf hi
  refine ⟨fun h => ?_, fun h => ?_⟩ <;> simp at h
  · have hx : xss[i]?.getD [] ∈ xss := by simp [h]
    have hd : xss.drop i = xss[i]?.getD [] :: xss.drop (i + 1) := by rw [List.drop_eq_getElem_cons h]; simp [h]
    simp [go_sem, mat_drop h]
    refine ⟨⟨h, by rintro rfl; simp at h⟩, CallVC.of (hg _ hx) (by decide) ?_⟩
    simp [go_sem]
    refine ⟨fun h2 => ?_, fun h2 => ?_⟩ <;> simp [go_sem]
    · rw [sk, hd]; simp [idxF, h2]
    · refine ⟨by omega, i + 1, ⟨by omega, ?_⟩, by omega, Off_reset _ _ _ (by simp), by omega⟩
      intro x hx2
      rw [List.take_add_one, List.getElem?_eq_getElem h, Option.toList_some, List.mem_append, List.mem_singleton] at hx2
      rcases hx2 with hx2 | hx2
      · exact hf x hx2
      · rw [hx2]; simpa [h] using h2
  · simp [go_sem]
    rw [sk, List.drop_eq_nil_of_le h]; simp [idxF]
theorem ContainsFuncV_c (g : FuncId) (cs : List AV) (p : List Int → Bool) (xss : List (List Int)) (hl : xss.length ≤ 9223372036854775807) (hg : ∀ x ∈ xss, Con Tryz.prog g [.sl x.length (avs x), .fptr cs] (.bool (p x))) :
    Con Tryz.prog 113 [.sl xss.length (mat xss), .fn g [.fptr cs]] (.bool (xss.any p)) := by
  refine con_of_vc Tryz.mixed ⟨5, [], [], []⟩ Tryz.func113 (by decide) rfl (by simp) (by decide) (by simp [freshOK, freshL, go_sem]) ?_
  rw [Tryz.ntmps113]
  simp [go_sem]
  refine CallVC.of (IndexFuncV_c g cs p xss hl hg) (by decide) ?_
  simp [go_sem]
  simp [idxF_any]
def chk (z : Int) (f : List (List Mon)) (ys : List (List Int)) : Int := if fieldB z f = true then if ys.any (fun y => !vecB z y) = true then 2 else 0 else 1
theorem checkVectors_c (z : Int) (f : List (List Mon)) (ys : List (List Int)) (hs : Small f) (hl : ys.length ≤ 9223372036854775807) (hr : ∀ y ∈ ys, y.length ≤ 9223372036854775807) :
    Con Tryz.prog 101 [.agg [.int z, .sl f.length (prt f)], .sl ys.length (mat ys)] (.int (chk z f ys)) := by
  have cI := IsField_c z f hs
  have cC := ContainsFuncV_c 164 [.int z, .sl f.length (prt f)] (fun y => !vecB z y) ys hl (fun y hy => notVector_c z _ _ y (hr y hy))
  unfold chk
  generalize fieldB z f = b at *
  generalize ys.any (fun y => !vecB z y) = c at *
  refine con_of_vc Tryz.mixed ⟨5, [], [], []⟩ Tryz.func101 (by decide) rfl (by simp) (by decide) (by simp [freshOK, freshL, go_sem]) ?_
  rw [Tryz.ntmps101]
  simp [go_sem]
  refine CallVC.of (cI) (by decide) ?_
  simp [go_sem]
  cases b with
  | false =>
    simp [go_sem]
  | true =>
    simp [go_sem]
    refine CallVC.of (cC) (by decide) ?_
    simp [go_sem]
    cases c with
    | false =>
      simp [go_sem]
    | true =>
      simp [go_sem]
end Go.Proofs.YtnokgijakdaehaaGreatDoor


namespace Go.Proofs.YtnokgijakdaehaaGreatDoor
open Go.Abs
set_option linter.unusedSectionVars false
set_option linter.unusedVariables false
set_option linter.unusedSimpArgs false
set_option maxHeartbeats 1000000
def keyOf (e : List Int) : Key := (e[0]?.getD 0, e[1]?.getD 0, e[2]?.getD 0)
def polG (c : Key → Option Int) : List Mon → Key → Option Int
  | [] => c
  | m :: p => polG (mset c (keyOf m.2) m.1) p
def polF (p : List Mon) : Key → Option Int := polG mzero p
theorem polG_app (c : Key → Option Int) (p q : List Mon) : polG c (p ++ q) = polG (polG c p) q := by
  induction p generalizing c with
  | nil => rfl
  | cons m p ih => exact ih _
theorem polF_take {p : List Mon} {i : Nat} (h : i < p.length) : polF (p.take (i + 1)) = mset (polF (p.take i)) (keyOf (p[i]?.getD (0, [])).2) (p[i]?.getD (0, [])).1 := by
  rw [List.take_add_one, List.getElem?_eq_getElem h, polF, polG_app]; rfl
set_option maxRecDepth 100000 in
theorem polynomialOf_c (p : List Mon) (hp : p.length ≤ 1048576) (hm : ∀ m ∈ p, m.2.length ≤ 3) :
    Con Tryz.prog 147 [.sl p.length (mons p)] (.mp (polF p)) := by
  refine con_of_vc Tryz.mixed ⟨7, [], [], []⟩ Tryz.func147 (by decide) rfl (by simp) (by decide) (by simp [freshOK, freshL, go_sem]) ?_
  rw [Tryz.ntmps147]
  simp [go_sem]
  refine loop_inv (3 :: 5 :: 6 :: List.range' 10 14) (fun i : Nat => [(3, .mp (polF (p.take i))), (10, .int i)]) (fun i => i ≤ p.length) (fun i => p.length - i) 0 (by simp) (by simp [go_sem, polF, polG]) (by simp [go_sem]) ?_
  intro i hi
  simp [go_sem]
  refine ⟨fun h => ?_, fun h => ?_⟩ <;> simp at h
  · have hif := h
    have hx : p[i]?.getD (0, []) ∈ p := by simp [h]
    have hl := hm _ hx
    have hv := polF_take h
    simp [go_sem, mons_drop hif]
    generalize p[i]?.getD (0, []) = m at *
    obtain ⟨x, e⟩ := m
    simp only at hl hv
    refine ⟨⟨hif, by rintro rfl; simp at hif⟩, by kernel_rfl, ⟨by omega, by omega⟩, ?_⟩
    refine ⟨by kernel_rfl, ?_⟩
    simp [go_sem]
    rcases e with _ | ⟨a, _ | ⟨b, _ | ⟨c, _ | ⟨d, e⟩⟩⟩⟩
    · simp [go_sem, avs]
      refine ⟨by omega, i + 1, by omega, by omega, Off_reset _ _ _ (by simp), hv.symm, by omega⟩
    · simp [go_sem, avs]
      refine ⟨by omega, i + 1, by omega, by omega, Off_reset _ _ _ (by simp), hv.symm, by omega⟩
    · simp [go_sem, avs]
      refine ⟨by omega, i + 1, by omega, by omega, Off_reset _ _ _ (by simp), hv.symm, by omega⟩
    · simp [go_sem, avs]
      refine ⟨by omega, i + 1, by omega, by omega, Off_reset _ _ _ (by simp), hv.symm, by omega⟩
    · simp at hl
  · simp [go_sem]
    rw [List.take_of_length_le h]
def pols (f : List (List Mon)) : List AV := f.map fun p => .mp (polF p)
def fpols (f : List (List Mon)) : List AV := f.map fun p => .fmp (polF p)
@[simp] theorem pols_len (f : List (List Mon)) : (pols f).length = f.length := by simp [pols]
@[simp] theorem fpols_len (f : List (List Mon)) : (fpols f).length = f.length := by simp [fpols]
@[simp] theorem fpols_ne {f : List (List Mon)} : (fpols f = []) = (f = []) := by cases f <;> simp [fpols]
@[simp] theorem pols_frz : ∀ f : List (List Mon), frzL (pols f) = fpols f
  | [] => rfl
  | p :: f => by have := pols_frz f; simp only [pols, fpols, List.map_cons, frzL] at this ⊢; rw [this]; simp [frz]
@[simp] theorem pols_fresh : ∀ f : List (List Mon), freshL (pols f) = true
  | [] => rfl
  | p :: f => by have := pols_fresh f; simp only [pols, List.map_cons, freshL] at this ⊢; rw [this]; simp [freshOK]
theorem fpols_drop {f : List (List Mon)} {k : Nat} (h : k < f.length) : (fpols f).drop k = .fmp (polF (f[k]?.getD [])) :: fpols (f.drop (k + 1)) := by
  rw [fpols, ← List.map_drop, List.drop_eq_getElem_cons h, List.map_cons]; simp [h, fpols]
theorem polynomials_c (z : Int) (f : List (List Mon)) (hf : FieldOk z f) (hs : Small f) :
    Con Tryz.prog 76 [.agg [.int z, .sl f.length (prt f)]] (.own 116 f.length (pols f)) := by
  have fl := hs.1
  have z3 := hf.hi
  have zl := hf.len
  refine con_of_vc Tryz.mixed ⟨6, [], [], []⟩ Tryz.func76 (by decide) rfl (by simp) (by decide) (by simp [freshOK, freshL, go_sem]) ?_
  rw [Tryz.ntmps76]
  simp [go_sem]
  refine loop_inv (3 :: 5 :: List.range' 10 10) (fun i : Nat => [(3, .own 116 i (pols (f.take i))), (10, .int i)]) (fun i => i ≤ f.length) (fun i => f.length - i) 0 (by simp) (by simp [go_sem, pols]) (by simp [go_sem]) ?_
  intro i hi
  simp [go_sem]
  refine ⟨fun h => ?_, fun h => ?_⟩ <;> simp at h
  · have hif := h
    have hx : f[i]?.getD [] ∈ f := by simp [h]
    have hm := hs.2 _ hx
    simp [go_sem, prt_drop hif]
    refine ⟨⟨hif, by rintro rfl; simp at hif⟩, ?_⟩
    refine CallVC.of (polynomialOf_c _ hm.1 (fun m hm => by have := (partB_mem (hf.part _ hx) hm).len; omega)) (by decide) ?_
    simp [go_sem]
    have e1 : f.take (i + 1) = f.take i ++ [f[i]?.getD []] := by rw [List.take_add_one]; simp [hif]
    refine ⟨⟨by omega, by omega, by omega⟩, by omega, i + 1, by omega, by omega, Off_reset _ _ _ (by simp), ⟨rfl, ?_⟩, by omega⟩
    rw [e1]; simp [pols]
  · simp [go_sem]
    rw [List.take_of_length_le h]
    exact ⟨by omega, rfl⟩
def EOk (e : Key × Int) : Prop := isN e.2 ∧ 0 ≤ e.1.1 ∧ e.1.1 ≤ 1000 ∧ 0 ≤ e.1.2.1 ∧ e.1.2.1 ≤ 1000 ∧ 0 ≤ e.1.2.2 ∧ e.1.2.2 ≤ 1000
end Go.Proofs.YtnokgijakdaehaaGreatDoor


namespace Go.Proofs.YtnokgijakdaehaaGreatDoor
open Go.Abs
set_option linter.unusedSectionVars false
set_option linter.unusedVariables false
set_option linter.unusedSimpArgs false
set_option maxHeartbeats 1000000
theorem ltL_irr : ∀ a : List Int, ltL a a = false
  | [] => rfl
  | x :: a => by simp [ltL, ltL_irr a]
theorem ltL_trans : ∀ {a b c : List Int}, ltL a b = true → ltL b c = true → ltL a c = true
  | _, [], _, h, _ => by simp [ltL] at h
  | _, _ :: _, [], _, h => by simp [ltL] at h
  | [], _ :: _, _ :: _, _, _ => rfl
  | x :: a, y :: b, z :: c, h1, h2 => by
    simp only [ltL] at h1 h2 ⊢
    split at h1
    · rename_i e; subst e
      split at h2
      · rename_i e; subst e; rw [if_pos rfl]; exact ltL_trans h1 h2
      · rename_i e; rw [if_neg e]; exact h2
    · rename_i e1
      simp only [decide_eq_true_eq] at h1
      split at h2
      · rename_i e; subst e; rw [if_neg e1]; simpa using h1
      · rename_i e
        simp only [decide_eq_true_eq] at h2
        rw [if_neg (by omega)]; simp; omega
theorem chain_lt {z : Int} {p : List Mon} (h : partB z p = true) {i : Nat} : ∀ {j : Nat}, i < j → j < p.length → ltL (p[i]?.getD (0, [])).2 (p[j]?.getD (0, [])).2 = true
  | 0, h1, _ => by omega
  | j + 1, h1, h2 => by
    have hs := (partB_at h h2).2 (by omega)
    rw [Nat.add_sub_cancel] at hs
    rcases Nat.lt_or_ge i j with hl | hg
    · exact ltL_trans (chain_lt h hl (by omega)) hs
    · have : i = j := by omega
      subst this; exact hs
theorem keyOf_inj {a b : List Int} (hl : a.length = b.length) (h3 : a.length ≤ 3) (h : keyOf a = keyOf b) : a = b := by
  match a, b, hl, h3 with
  | [], [], _, _ => rfl
  | [x], [y], _, _ => simp [keyOf] at h; rw [h]
  | [x, x'], [y, y'], _, _ => simp [keyOf] at h; rw [h.1, h.2]
  | [x, x', x''], [y, y', y''], _, _ => simp [keyOf] at h; rw [h.1, h.2.1, h.2.2]
def keyM (m : Mon) : Key × Int := (keyOf m.2, m.1)
theorem keys_nd {z : Int} {p : List Mon} (hz : z ≤ 3) (h : partB z p = true) : p.Pairwise (fun a b => keyOf a.2 ≠ keyOf b.2) := by
  rw [List.pairwise_iff_getElem]
  intro i j hi hj hij he
  have hl := chain_lt h hij hj
  have m1 := (partB_at h hi).1.len
  have m2 := (partB_at h hj).1.len
  simp only [List.getElem?_eq_getElem hi, List.getElem?_eq_getElem hj, Option.getD_some] at hl m1 m2
  have := keyOf_inj (by omega) (by omega) he
  rw [this, ltL_irr] at hl
  simp at hl
theorem polG_out : ∀ (p : List Mon) (c : Key → Option Int) (k : Key), (∀ m ∈ p, keyOf m.2 ≠ k) → polG c p k = c k
  | [], c, k, _ => rfl
  | m :: p, c, k, h => by
    rw [polG, polG_out p _ k (fun a ha => h a (by simp [ha]))]
    have := h m (by simp)
    simp [mset, Ne.symm this]
theorem polG_in : ∀ (p : List Mon) (c : Key → Option Int), p.Pairwise (fun a b => keyOf a.2 ≠ keyOf b.2) → ∀ m ∈ p, polG c p (keyOf m.2) = some m.1
  | [], _, _, m, hm => by simp at hm
  | a :: p, c, h, m, hm => by
    obtain ⟨h1, h2⟩ := List.pairwise_cons.1 h
    rw [polG]
    rcases List.mem_cons.1 hm with rfl | hm
    · rw [polG_out p _ _ (fun b hb => Ne.symm (h1 b hb))]; simp [mset]
    · exact polG_in p _ h2 m hm
theorem polF_some {p : List Mon} (h : p.Pairwise (fun a b => keyOf a.2 ≠ keyOf b.2)) {k : Key} {x : Int} : polF p k = some x ↔ (k, x) ∈ p.map keyM := by
  constructor
  · intro hk
    by_cases hin : ∃ m ∈ p, keyOf m.2 = k
    · obtain ⟨m, hm, rfl⟩ := hin
      rw [polF, polG_in p _ h m hm] at hk
      injection hk with hk; subst hk
      exact List.mem_map.2 ⟨m, hm, rfl⟩
    · rw [polF, polG_out p _ k (fun m hm he => hin ⟨m, hm, he⟩)] at hk
      simp [mzero] at hk
  · intro hm
    obtain ⟨m, hm, he⟩ := List.mem_map.1 hm
    simp only [keyM, Prod.mk.injEq] at he
    rw [← he.1, ← he.2]
    exact polG_in p _ h m hm
theorem nodup_of_key {α β : Type} {f : α → β} {l : List α} (h : l.Pairwise (fun a b => f a ≠ f b)) : l.Nodup := h.imp (fun hn e => hn (by rw [e]))
theorem enum_perm {p : List Mon} (h : p.Pairwise (fun a b => keyOf a.2 ≠ keyOf b.2)) {es : List (Key × Int)} (he : Enum (polF p) es) : es.Perm (p.map keyM) := by
  refine (List.perm_ext_iff_of_nodup (nodup_of_key (f := Prod.fst) he.nd) ?_).2 (fun e => ?_)
  · rw [List.Nodup, List.pairwise_map]
    exact h.imp (fun hn e => hn (congrArg Prod.fst e))
  · obtain ⟨k, x⟩ := e
    rw [← polF_some h]
    constructor
    · intro hm; exact he.val _ hm
    · intro hk
      by_cases hin : ∃ q ∈ es, q.1 = k
      · obtain ⟨⟨k', x'⟩, hq, hqk⟩ := hin
        simp only at hqk; subst hqk
        have := he.val _ hq
        simp only at this
        rw [hk] at this
        injection this with this; subst this
        exact hq
      · have := he.out k (fun q hq e => hin ⟨q, hq, e⟩)
        rw [hk] at this; simp at this
theorem part_entries {z : Int} {p : List Mon} (hz : z ≤ 3) (h : partB z p = true) {k : Key} {x : Int} (hk : polF p k = some x) : EOk (k, x) := by
  obtain ⟨m, hm, he⟩ := List.mem_map.1 ((polF_some (keys_nd hz h)).1 hk)
  simp only [keyM, Prod.mk.injEq] at he
  obtain ⟨rfl, rfl⟩ := he
  have ho := partB_mem h hm
  have g0 := ho.get 0
  have g1 := ho.get 1
  have g2 := ho.get 2
  have l1 := ho.lo
  have l2 := ho.hi
  unfold EOk isN keyOf
  simp only
  refine ⟨⟨by omega, by omega⟩, by omega, by omega, by omega, by omega, by omega, by omega⟩
end Go.Proofs.YtnokgijakdaehaaGreatDoor


namespace Go.Proofs.YtnokgijakdaehaaGreatDoor
open Go.Abs
set_option linter.unusedSectionVars false
set_option linter.unusedVariables false
set_option linter.unusedSimpArgs false
set_option maxHeartbeats 1000000
theorem enum_mem {c : Key → Option Int} {es : List (Key × Int)} (he : Enum c es) {k : Key} {x : Int} : (k, x) ∈ es ↔ c k = some x := by
  constructor
  · intro hm; exact he.val _ hm
  · intro hk
    by_cases hin : ∃ q ∈ es, q.1 = k
    · obtain ⟨⟨k', x'⟩, hq, hqk⟩ := hin
      simp only at hqk; subst hqk
      have := he.val _ hq
      simp only at this
      rw [hk] at this
      injection this with this; subst this
      exact hq
    · have := he.out k (fun q hq e => hin ⟨q, hq, e⟩)
      rw [hk] at this; simp at this
theorem enum_unique {c : Key → Option Int} {a b : List (Key × Int)} (ha : Enum c a) (hb : Enum c b) : a.Perm b :=
  (List.perm_ext_iff_of_nodup (nodup_of_key (f := Prod.fst) ha.nd) (nodup_of_key (f := Prod.fst) hb.nd)).2 (fun e => by
    obtain ⟨k, x⟩ := e
    rw [enum_mem ha, enum_mem hb])
def yat (y : List Int) (i : Nat) : Int := y[i]?.getD 0
def gv (c : Key → Option Int) (k : Key) : Int := (c k).getD 0
end Go.Proofs.YtnokgijakdaehaaGreatDoor


namespace Go.Proofs.YtnokgijakdaehaaGreatDoor
open Go.Abs
set_option linter.unusedSectionVars false
set_option linter.unusedVariables false
set_option linter.unusedSimpArgs false
set_option maxHeartbeats 1000000
structure VOk (n : Nat) (m : Mon) : Prop where
  num : isN m.1
  len : m.2.length = n
  pw : ∀ x ∈ m.2, 0 ≤ x ∧ x ≤ 3
def cfL (L : List Mon) : Key → Int := coef (fun m : Mon => keyOf m.2) (fun m => m.1) L
def putGo (c : Int) (e : List Int) : List Mon → Bool → List Mon
  | [], done => if done then [] else [(c, e)]
  | m :: l, done =>
    if done = false ∧ m.2 = e then (if (m.1 + c) % 10007 = 0 then [] else [((m.1 + c) % 10007, m.2)]) ++ putGo c e l true
    else if done = false ∧ ltL e m.2 = true then (c, e) :: ((if m.1 = 0 then [] else [m]) ++ putGo c e l true)
    else (if m.1 = 0 then [] else [m]) ++ putGo c e l done
def putL (L : List Mon) (c : Int) (e : List Int) : List Mon := putGo c e L (decide (c = 0))
theorem cfL_app (a b : List Mon) (k : Key) : cfL (a ++ b) k = cfL a k + cfL b k := sumI_app _ a b
theorem cfL_cons (m : Mon) (b : List Mon) (k : Key) : cfL (m :: b) k = (if k = keyOf m.2 then m.1 else 0) + cfL b k := rfl
theorem cfL_if (m : Mon) (k : Key) : cfL (if m.1 = 0 then [] else [m]) k = if k = keyOf m.2 then m.1 else 0 := by
  split
  · rename_i h; simp [cfL, coef, sumI, h]
  · simp [cfL, coef, sumI]
theorem putGo_cf (c : Int) (e : List Int) (k : Key) : ∀ (l : List Mon) (done : Bool), cfL (putGo c e l done) k % 10007 = (cfL l k + if done = true then 0 else if k = keyOf e then c else 0) % 10007
  | [], true => by simp [putGo, cfL, coef, sumI]
  | [], false => by simp [putGo, cfL, coef, sumI]
  | m :: l, done => by
    rw [putGo, cfL_cons]
    by_cases h1 : done = false ∧ m.2 = e
    · rw [if_pos h1, cfL_app, h1.1, ← h1.2]
      have := cfL_if ((m.1 + c) % 10007, m.2) k
      simp only at this
      rw [this, Int.add_emod, putGo_cf c m.2 k l true]
      by_cases hk : k = keyOf m.2
      · simp [hk]; omega
      · simp [hk]
    · rw [if_neg h1]
      by_cases h2 : done = false ∧ ltL e m.2 = true
      · rw [if_pos h2, cfL_cons, cfL_app, cfL_if, h2.1]
        have := putGo_cf c e k l true
        simp only [if_true, Int.add_zero] at this
        simp only [Bool.false_eq_true, if_false]
        generalize (if k = keyOf e then c else 0) = B
        generalize (if k = keyOf m.2 then m.1 else 0) = A
        omega
      · rw [if_neg h2, cfL_app, cfL_if]
        have := putGo_cf c e k l done
        omega
theorem putL_cf (L : List Mon) (c : Int) (e : List Int) (k : Key) : cfL (putL L c e) k % 10007 = (cfL L k + if k = keyOf e then c else 0) % 10007 := by
  unfold putL
  rw [putGo_cf]
  by_cases h : c = 0 <;> simp [h]
end Go.Proofs.YtnokgijakdaehaaGreatDoor


namespace Go.Proofs.YtnokgijakdaehaaGreatDoor
open Go.Abs
set_option linter.unusedSectionVars false
set_option linter.unusedVariables false
set_option linter.unusedSimpArgs false
set_option maxHeartbeats 1000000
def addM (o q : Key → Option Int) (x : Int) (k : Key) : Option Int := match q k with
  | some a => some (((o k).getD 0 + x % 10007 * a) % 10007)
  | none => o k
theorem addM_gv (o q : Key → Option Int) (x : Int) (k : Key) : gv (addM o q x) k % 10007 = (gv o k + x * gv q k) % 10007 := by
  unfold gv addM
  cases q k with
  | none => simp
  | some a =>
    simp only [Option.getD_some]
    rw [Int.emod_emod_of_dvd _ (Int.dvd_refl _), Int.add_emod, mod_mul_l, ← Int.add_emod]
end Go.Proofs.YtnokgijakdaehaaGreatDoor


namespace Go.Proofs.YtnokgijakdaehaaGreatDoor
open Go.Abs
set_option linter.unusedSectionVars false
set_option linter.unusedVariables false
set_option linter.unusedSimpArgs false
set_option maxHeartbeats 1000000
def hasK (rem : List (Key × Int)) (k : Key) : Bool := rem.any fun e => decide (e.1 = k)
theorem hasK_iff {rem : List (Key × Int)} {k : Key} : hasK rem k = true ↔ ∃ e ∈ rem, e.1 = k := by simp [hasK]
theorem hasK_mid (l1 l2 : List (Key × Int)) (k0 : Key) (x : Int) (k : Key) : hasK (l1 ++ (k0, x) :: l2) k = (decide (k0 = k) || hasK (l1 ++ l2) k) := by
  simp only [hasK, List.any_append, List.any_cons]
  cases List.any l1 (fun e => decide (e.1 = k)) <;> cases decide (k0 = k) <;> simp
theorem hasK_not {l1 l2 : List (Key × Int)} {k0 : Key} {x : Int} (h : (l1 ++ (k0, x) :: l2).Pairwise (fun a b => a.1 ≠ b.1)) : hasK (l1 ++ l2) k0 = false := by
  cases hb : hasK (l1 ++ l2) k0 with
  | false => rfl
  | true =>
    obtain ⟨e, he, hk⟩ := hasK_iff.1 hb
    obtain ⟨h1, h2, h3⟩ := List.pairwise_append.1 h
    rcases List.mem_append.1 he with he | he
    · exact (h3 e he (k0, x) (by simp) hk).elim
    · exact ((List.pairwise_cons.1 h2).1 e he hk.symm).elim
def remA (o q : Key → Option Int) (x : Int) (rem : List (Key × Int)) (k : Key) : Option Int := if hasK rem k = true then o k else addM o q x k
theorem remA_start {o q : Key → Option Int} {x : Int} {es : List (Key × Int)} (he : Enum q es) : remA o q x es = o := by
  funext k
  unfold remA
  split
  · rfl
  · rename_i h
    have : q k = none := he.out _ (fun p hp e => h (hasK_iff.2 ⟨p, hp, e⟩))
    simp [addM, this]
theorem remA_end (o q : Key → Option Int) (x : Int) : remA o q x [] = addM o q x := by
  funext k; simp [remA, hasK]
theorem remA_at {o q : Key → Option Int} {x : Int} {l1 l2 : List (Key × Int)} {k0 : Key} {a : Int} : remA o q x (l1 ++ (k0, a) :: l2) k0 = o k0 := by
  unfold remA
  rw [hasK_mid]
  simp
theorem remA_step {o q : Key → Option Int} {x : Int} {l1 l2 : List (Key × Int)} {k0 : Key} {a : Int} (h : (l1 ++ (k0, a) :: l2).Pairwise (fun a b => a.1 ≠ b.1)) (hc : q k0 = some a) :
    mset (remA o q x (l1 ++ (k0, a) :: l2)) k0 (((o k0).getD 0 + x % 10007 * a) % 10007) = remA o q x (l1 ++ l2) := by
  funext k
  unfold mset
  by_cases hk : k = k0
  · subst hk
    rw [if_pos rfl]
    unfold remA
    rw [hasK_not h]
    simp [addM, hc]
  · rw [if_neg hk]
    unfold remA
    rw [hasK_mid]
    have : ¬ k0 = k := fun e => hk e.symm
    simp [this]
end Go.Proofs.YtnokgijakdaehaaGreatDoor


namespace Go.Proofs.YtnokgijakdaehaaGreatDoor
open Go.Abs
set_option linter.unusedSectionVars false
set_option linter.unusedVariables false
set_option linter.unusedSimpArgs false
set_option maxHeartbeats 1000000
theorem VOk.low {n i : Nat} {m : Mon} (h : VOk n m) (hi : i < n) (hp : 0 < m.2[i]?.getD 0) : VOk n (m.1 * m.2[i]?.getD 0 % 10007, m.2.set i (m.2[i]?.getD 0 - 1)) := by
  have hl := h.len
  refine ⟨isN_mod _, by simpa using hl, fun x hx => ?_⟩
  rcases List.mem_or_eq_of_mem_set hx with hx | rfl
  · exact h.pw x hx
  · have hm : m.2[i]?.getD 0 ∈ m.2 := by
      rw [List.getElem?_eq_getElem (by omega), Option.getD_some]; exact List.getElem_mem _
    have := h.pw _ hm
    omega
theorem sumI_map {α β : Type} (g : α → β) (f : β → Int) : ∀ l : List α, sumI f (l.map g) = sumI (fun a => f (g a)) l
  | [] => rfl
  | a :: l => by rw [List.map_cons, sumI, sumI, sumI_map g f l]
theorem polF_enum {p : List Mon} (h : p.Pairwise (fun a b => keyOf a.2 ≠ keyOf b.2)) : Enum (polF p) (p.map keyM) := by
  refine ⟨?_, fun e he => ?_, fun k hk => ?_⟩
  · rw [List.pairwise_map]; exact h
  · obtain ⟨k, x⟩ := e
    exact (polF_some h).2 he
  · cases hc : polF p k with
    | none => rfl
    | some x => exact (hk _ ((polF_some h).1 hc) rfl).elim
end Go.Proofs.YtnokgijakdaehaaGreatDoor


namespace Go.Proofs.YtnokgijakdaehaaGreatDoor
open Go.Abs
set_option linter.unusedSectionVars false
set_option linter.unusedVariables false
set_option linter.unusedSimpArgs false
set_option maxHeartbeats 1000000
def NN (k : Key) : Prop := 0 ≤ k.1 ∧ 0 ≤ k.2.1 ∧ 0 ≤ k.2.2
def Eqv (C D : Key → Int) : Prop := ∀ k, NN k → C k % 10007 = D k % 10007
theorem NN.box {k : Key} (h : k ∈ box) : NN k := by have := mem_box.1 h; exact ⟨by omega, by omega, by omega⟩
theorem NN.at3 {k : Key} (h : NN k) (i : Nat) : 0 ≤ at3 i k := by
  obtain ⟨a, b, c⟩ := h
  unfold Go.Proofs.YtnokgijakdaehaaGreatDoor.at3
  split
  · omega
  · split <;> omega
theorem NN.inc {k : Key} (h : NN k) (i : Nat) : NN (inc i k) := by
  obtain ⟨a, b, c⟩ := h
  unfold Go.Proofs.YtnokgijakdaehaaGreatDoor.inc NN
  split
  · exact ⟨by simp; omega, b, c⟩
  · split
    · exact ⟨a, by simp; omega, c⟩
    · exact ⟨a, b, by simp; omega⟩
theorem Eqv.refl (C : Key → Int) : Eqv C C := fun _ _ => rfl
theorem Eqv.symm {C D : Key → Int} (h : Eqv C D) : Eqv D C := fun k hk => (h k hk).symm
theorem Eqv.trans {C D E : Key → Int} (h : Eqv C D) (h2 : Eqv D E) : Eqv C E := fun k hk => (h k hk).trans (h2 k hk)
def Dv (n : Nat) : List (List Int) → (Key → Int) → Key → Int
  | [], C => C
  | v :: vs, C => Dv n vs (alo (yat v) C n)
end Go.Proofs.YtnokgijakdaehaaGreatDoor


namespace Go.Proofs.YtnokgijakdaehaaGreatDoor
open Go.Abs
set_option linter.unusedSectionVars false
set_option linter.unusedVariables false
set_option linter.unusedSimpArgs false
set_option maxHeartbeats 1000000
def tb (f : Nat → Int) (k : Nat) : List Int := (List.range k).map f
@[simp] theorem tb_len (f : Nat → Int) (k : Nat) : (tb f k).length = k := by simp [tb]
@[simp] theorem tb_zero (f : Nat → Int) : tb f 0 = [] := rfl
theorem tb_succ (f : Nat → Int) (k : Nat) : tb f (k + 1) = tb f k ++ [f k] := by simp [tb, List.range_succ]
theorem tb_get (f : Nat → Int) {k i : Nat} (h : i < k) : (tb f k)[i]?.getD 0 = f i := by simp [tb, h]
theorem tb_N {f : Nat → Int} {k : Nat} (h : ∀ i, i < k → isN (f i)) : Ns (tb f k) := by
  intro x hx
  simp [tb] at hx
  obtain ⟨i, hi, rfl⟩ := hx
  exact h i hi
theorem avs_at {xs : List Int} {k : Nat} (h : k < xs.length) : (avs xs)[k]? = some (AV.val (.int .i64 (xs[k]?.getD 0))) := by simp [avs, h]
def cv (a b : List Int) (n : Nat) : Nat → Int
  | 0 => 0
  | m + 1 => cv a b n m + a[m]?.getD 0 * b[n - m]?.getD 0
def mulS (a b : List Int) : List Int := tb (fun n => cv a b n (n + 1) % 10007) a.length
@[simp] theorem mulS_len (a b : List Int) : (mulS a b).length = a.length := by simp [mulS]
theorem mulS_N (a b : List Int) : Ns (mulS a b) := tb_N fun i _ => isN_mod _
def es (b o : List Int) (n : Nat) : Nat → Int
  | 0 => 0
  | m + 1 => es b o n m + (m + 1) * (b[m + 1]?.getD 0 * o[n - (m + 1)]?.getD 0 % 10007)
end Go.Proofs.YtnokgijakdaehaaGreatDoor


namespace Go.Proofs.YtnokgijakdaehaaGreatDoor
open Go.Abs
set_option linter.unusedSectionVars false
set_option linter.unusedVariables false
set_option linter.unusedSimpArgs false
set_option maxHeartbeats 1000000
end Go.Proofs.YtnokgijakdaehaaGreatDoor


namespace Go.Proofs.YtnokgijakdaehaaGreatDoor
open Go.Abs
set_option linter.unusedSectionVars false
set_option linter.unusedVariables false
set_option linter.unusedSimpArgs false
set_option maxHeartbeats 1000000
theorem l01Own_c (xs : List Int) (hl : xs.length ≤ 17592186044416) : Con Tryz.prog 109 [.sl xs.length (avs xs)] (.own 2 xs.length (avs xs)) := by
  refine con_of_vc Tryz.mixed ⟨3, [], [], []⟩ Tryz.func109 (by decide) rfl (by simp) (by decide) (by simp [freshOK, freshL, go_sem]) ?_
  rw [Tryz.ntmps109]
  simp [go_sem]
  try omega
theorem l01Same_c (a b : List Int) (ha : a.length ≤ 9223372036854775807) : Con Tryz.prog 184 [.sl a.length (avs a), .sl b.length (avs b)] (.bool (decide (a = b))) := by
  refine con_of_vc Tryz.mixed ⟨6, [], [], []⟩ Tryz.func184 (by decide) rfl (by simp) (by decide) (by simp [freshOK, freshL, go_sem]) ?_
  rw [Tryz.ntmps184]
  simp [go_sem]
  refine ⟨fun h => ?_, fun h => ?_⟩ <;> simp at h <;> simp [go_sem]
  · rintro rfl; omega
  have hl : a.length = b.length := by omega
  refine loop_inv (4 :: 5 :: List.range' 11 16) (fun i : Nat => [(5, .int i)]) (fun i => i ≤ a.length ∧ a.take i = b.take i) (fun i => a.length - i) 0 (by simp) (by simp [go_sem]) (by simp [go_sem]) ?_
  intro i hi
  simp [go_sem]
  refine ⟨fun h => ?_, fun h => ?_⟩ <;> simp at h
  · have h2 : i < b.length := by omega
    simp [go_sem, avs_drop h, avs_drop h2]
    refine ⟨by kernel_rfl, ⟨h, by rintro rfl; simp at h⟩, ⟨h2, by rintro rfl; simp at h2⟩, ?_⟩
    refine ⟨by kernel_rfl, ?_⟩
    simp [go_sem]
    refine ⟨fun h3 => ?_, fun h3 => ?_⟩ <;> simp at h3 <;> simp [go_sem]
    · rintro rfl; exact h3 rfl
    · refine ⟨by omega, i + 1, ⟨by omega, ?_⟩, by omega, Off_reset _ _ _ (by simp), by omega⟩
      rw [List.take_add_one, List.take_add_one, hi.2]
      rw [List.getElem?_eq_getElem h, List.getElem?_eq_getElem h2] at h3 ⊢
      simp only [Option.getD_some] at h3
      rw [h3]
  · simp [go_sem]
    have e : i = a.length := by omega
    subst e
    have := hi.2
    rw [List.take_length, hl, List.take_length] at this
    exact this
theorem omons_one (m : Mon) : omons [m] = [.int m.1, .own 2 m.2.length (avs m.2)] := rfl
theorem putGo_t (c : Int) (e : List Int) (m : Mon) (l : List Mon) : putGo c e (m :: l) true = (if m.1 = 0 then [] else [m]) ++ putGo c e l true := by
  rw [putGo, if_neg (by simp), if_neg (by simp)]
theorem putGo_e (c : Int) (m : Mon) (l : List Mon) : putGo c m.2 (m :: l) false = (if (m.1 + c) % 10007 = 0 then [] else [((m.1 + c) % 10007, m.2)]) ++ putGo c m.2 l true := by
  rw [putGo, if_pos (by simp)]
theorem putGo_l {c : Int} {e : List Int} {m : Mon} (l : List Mon) (h : ¬ m.2 = e) (h2 : ltL e m.2 = true) : putGo c e (m :: l) false = (c, e) :: ((if m.1 = 0 then [] else [m]) ++ putGo c e l true) := by
  rw [putGo, if_neg (by simp [h]), if_pos (by simp [h2])]
theorem putGo_g {c : Int} {e : List Int} {m : Mon} (l : List Mon) (h : ¬ m.2 = e) (h2 : ltL e m.2 = false) : putGo c e (m :: l) false = (if m.1 = 0 then [] else [m]) ++ putGo c e l false := by
  rw [putGo, if_neg (by simp [h]), if_neg (by simp [h2])]
set_option maxRecDepth 100000 in
theorem l13Put_c (L : List Mon) (c : Int) (e : List Int) (hc : isN c) (hL : ∀ m ∈ L, isN m.1 ∧ m.2.length ≤ 1048576) (hl : L.length ≤ 1000000000000) (he : e.length ≤ 1048576) :
    Con Tryz.prog 158 [.sl L.length (mons L), .int c, .sl e.length (avs e)] (.own 125 (putL L c e).length (omons (putL L c e))) := by
  refine con_of_vc Tryz.mixed ⟨11, [], [], []⟩ Tryz.func158 (by decide) rfl (by simp) (by decide) (by simp [freshOK, freshL, go_sem]) ?_
  rw [Tryz.ntmps158]
  simp [go_sem]
  refine loop_inv (List.range' 7 61) (fun x : Nat × Bool × List Mon => [(7, .own 125 x.2.2.length (omons x.2.2)), (8, .bool x.2.1), (9, .int x.1)]) (fun x => x.1 ≤ L.length ∧ x.2.2.length ≤ x.1 + (if x.2.1 = true then 1 else 0) ∧ x.2.2 ++ putGo c e (L.drop x.1) x.2.1 = putL L c e) (fun x => L.length - x.1) (0, decide (c = 0), []) ⟨by simp, by simp, by simp [putL]⟩ (by simp [go_sem]) (by simp [go_sem]) ?_
  rintro ⟨i, done, O⟩ ⟨hi, hO, he2⟩
  simp only at hi hO he2
  simp [go_sem]
  refine ⟨fun h => ?_, fun h => ?_⟩ <;> simp at h
  · have hif := h
    have hx : L[i]?.getD (0, []) ∈ L := by simp [h]
    have hd : L.drop i = L[i]?.getD (0, []) :: L.drop (i + 1) := by rw [List.drop_eq_getElem_cons h]; simp [h]
    obtain ⟨hm1, hm2⟩ := hL _ hx
    simp [go_sem, mons_drop hif]
    generalize hM : L[i]?.getD (0, []) = m at *
    refine ⟨by kernel_rfl, ⟨hif, by rintro rfl; simp at hif⟩, ?_⟩
    refine CallD.of (l01Own_c m.2 (by omega)) (by simp [roots, rootsL]) (by decide) ?_
    simp [go_sem]
    refine ⟨by kernel_rfl, ?_⟩
    simp [go_sem]
    rw [hd] at he2
    cases done with
    | true =>
      rw [putGo_t] at he2
      simp only [if_true] at hO
      simp [go_sem]
      by_cases h0 : m.1 = 0
      · simp [go_sem, h0]
        rw [if_pos h0] at he2
        exact ⟨by omega, i + 1, O, ⟨by omega, by omega, he2⟩, by omega, Off_reset _ _ _ (by simp), ⟨rfl, rfl⟩, by omega⟩
      · simp [go_sem, h0]
        rw [if_neg h0] at he2
        exact ⟨⟨by omega, by omega⟩, by omega, i + 1, O ++ [m], ⟨by omega, by simp; omega, by simpa using he2⟩, by omega, Off_reset _ _ _ (by simp), ⟨by simp, by simp [omons_app, omons_one]⟩, by omega⟩
    | false =>
      simp only [Bool.false_eq_true, if_false] at hO
      by_cases hme : m.2 = e
      · subst hme
        rw [putGo_e] at he2
        simp [go_sem]
        refine CallVC.of (l01Same_c m.2 m.2 (by omega)) (by decide) ?_
        simp [go_sem]
        refine CallVC.of (l01Add_c _ _ (add_fits hm1 hc)) (by decide) ?_
        simp [go_sem]
        by_cases h0 : (m.1 + c) % 10007 = 0
        · simp [go_sem, h0]
          rw [if_pos h0] at he2
          exact ⟨by omega, i + 1, O, ⟨by omega, by omega, he2⟩, by omega, Off_reset _ _ _ (by simp), ⟨rfl, rfl⟩, by omega⟩
        · simp [go_sem, h0]
          rw [if_neg h0] at he2
          exact ⟨⟨by omega, by omega⟩, by omega, i + 1, O ++ [((m.1 + c) % 10007, m.2)], ⟨by omega, by simp; omega, by simpa using he2⟩, by omega, Off_reset _ _ _ (by simp), ⟨by simp, by simp [omons_app, omons_one]⟩, by omega⟩
      · simp [go_sem]
        refine CallVC.of (l01Same_c m.2 e (by omega)) (by decide) ?_
        simp [go_sem]
        simp [go_sem, hme]
        refine CallVC.of (l01Less_c e m.2 (by omega) (by omega)) (by decide) ?_
        simp [go_sem]
        cases hlt : ltL e m.2 with
        | true =>
          rw [putGo_l _ hme hlt] at he2
          simp [go_sem]
          refine CallVC.of (l01Own_c e (by omega)) (by decide) ?_
          simp [go_sem]
          by_cases h0 : m.1 = 0
          · simp [go_sem, h0]
            rw [if_pos h0] at he2
            exact ⟨⟨by omega, by omega⟩, by omega, i + 1, O ++ [(c, e)], ⟨by omega, by simp; omega, by simpa using he2⟩, by omega, Off_reset _ _ _ (by simp), ⟨by simp, by simp [omons_app, omons_one]⟩, by omega⟩
          · simp [go_sem, h0]
            rw [if_neg h0] at he2
            exact ⟨⟨by omega, by omega⟩, ⟨by omega, by omega, by omega⟩, by omega, i + 1, O ++ [(c, e), m], ⟨by omega, by simp; omega, by simpa using he2⟩, by omega, Off_reset _ _ _ (by simp), ⟨by simp, by simp [omons]⟩, by omega⟩
        | false =>
          rw [putGo_g _ hme hlt] at he2
          simp [go_sem]
          by_cases h0 : m.1 = 0
          · simp [go_sem, h0]
            rw [if_pos h0] at he2
            exact ⟨by omega, i + 1, O, ⟨by omega, by omega, he2⟩, by omega, Off_reset _ _ _ (by simp), ⟨rfl, rfl⟩, by omega⟩
          · simp [go_sem, h0]
            rw [if_neg h0] at he2
            exact ⟨⟨by omega, by omega⟩, by omega, i + 1, O ++ [m], ⟨by omega, by simp; omega, by simpa using he2⟩, by omega, Off_reset _ _ _ (by simp), ⟨by simp, by simp [omons_app, omons_one]⟩, by omega⟩
  · simp [go_sem]
    rw [List.drop_eq_nil_of_le h] at he2
    cases done with
    | true =>
      simp [go_sem]
      rw [← he2]; simp [putGo]
    | false =>
      simp only [Bool.false_eq_true, if_false] at hO
      simp [go_sem]
      refine CallVC.of (l01Own_c e (by omega)) (by decide) ?_
      simp [go_sem]
      rw [← he2]
      exact ⟨⟨by omega, by omega⟩, by simp [putGo], by simp [putGo, omons_app, omons_one]⟩
end Go.Proofs.YtnokgijakdaehaaGreatDoor


namespace Go.Proofs.YtnokgijakdaehaaGreatDoor
set_option linter.unusedSectionVars false
set_option linter.unusedVariables false
set_option linter.unusedSimpArgs false
class CR (α : Type) extends Add α, Mul α where
  ofI : Int → α
  addC : ∀ a b : α, a + b = b + a
  addA : ∀ a b c : α, a + b + c = a + (b + c)
  add0 : ∀ a : α, a + ofI 0 = a
  mulC : ∀ a b : α, a * b = b * a
  mulA : ∀ a b c : α, a * b * c = a * (b * c)
  mul1 : ∀ a : α, a * ofI 1 = a
  mulD : ∀ a b c : α, a * (b + c) = a * b + a * c
  mul0 : ∀ a : α, a * ofI 0 = ofI 0
  ofAdd : ∀ a b : Int, ofI (a + b) = ofI a + ofI b
  ofMul : ∀ a b : Int, ofI (a * b) = ofI a * ofI b
namespace CR
section
variable {α : Type} [CR α]
instance : Std.Associative (α := α) (· + ·) := ⟨addA⟩
instance : Std.Commutative (α := α) (· + ·) := ⟨addC⟩
instance : Std.Associative (α := α) (· * ·) := ⟨mulA⟩
instance : Std.Commutative (α := α) (· * ·) := ⟨mulC⟩
theorem zadd (a : α) : ofI 0 + a = a := by rw [addC, add0]
theorem omul (a : α) : ofI 1 * a = a := by rw [mulC, mul1]
theorem zmul (a : α) : ofI 0 * a = ofI 0 := by rw [mulC, mul0]
theorem Dmul (a b c : α) : (a + b) * c = a * c + b * c := by rw [mulC, mulD, mulC c, mulC c]
end
end CR
open CR
instance : CR Int where
  ofI := id
  addC := Int.add_comm
  addA := Int.add_assoc
  add0 := Int.add_zero
  mulC := Int.mul_comm
  mulA := Int.mul_assoc
  mul1 := Int.mul_one
  mulD := Int.mul_add
  mul0 := Int.mul_zero
  ofAdd := fun _ _ => rfl
  ofMul := fun _ _ => rfl
abbrev Ser (α : Type) := Nat → α
def sh {α : Type} (a : Ser α) : Ser α := fun n => a (n + 1)
def cmul {α : Type} [CR α] : Nat → Ser α → Ser α → α
  | 0, a, b => a 0 * b 0
  | n + 1, a, b => a 0 * b (n + 1) + cmul n (sh a) b
section
variable {α : Type} [CR α]
theorem cmul_add (n : Nat) : ∀ (a b c : Ser α), cmul n a (fun i => b i + c i) = cmul n a b + cmul n a c := by
  induction n with
  | zero => intro a b c; exact mulD _ _ _
  | succ n ih => intro a b c; simp only [cmul, ih, mulD]; ac_rfl
theorem cmul_last (n : Nat) : ∀ (a b : Ser α), cmul (n + 1) a b = cmul n a (sh b) + a (n + 1) * b 0 := by
  induction n with
  | zero => intro a b; rfl
  | succ n ih =>
    intro a b
    rw [cmul, ih, cmul]
    show a 0 * b (n + 1 + 1) + (cmul n (sh a) (sh b) + a (n + 1 + 1) * b 0) = a 0 * b (n + 1 + 1) + cmul n (sh a) (sh b) + a (n + 1 + 1) * b 0
    ac_rfl
theorem cmul_comm (n : Nat) : ∀ (a b : Ser α), cmul n a b = cmul n b a := by
  induction n with
  | zero => intro a b; exact mulC _ _
  | succ n ih => intro a b; rw [cmul, cmul_last, ih, mulC, addC]
theorem cmul_smul (c : α) (n : Nat) : ∀ (a b : Ser α), cmul n (fun i => c * a i) b = c * cmul n a b := by
  induction n with
  | zero => intro a b; exact mulA _ _ _
  | succ n ih =>
    intro a b
    have := ih (sh a) b
    simp only [cmul, mulD]
    rw [← this, mulA]; rfl
theorem cmul_addl (n : Nat) (a b c : Ser α) : cmul n (fun i => a i + b i) c = cmul n a c + cmul n b c := by
  rw [cmul_comm n (fun i => a i + b i) c, cmul_add, cmul_comm n c a, cmul_comm n c b]
theorem cmul_assoc (n : Nat) : ∀ (a b c : Ser α), cmul n (fun i => cmul i a b) c = cmul n a (fun i => cmul i b c) := by
  induction n with
  | zero => intro a b c; exact mulA _ _ _
  | succ n ih =>
    intro a b c
    have e : sh (fun i => cmul i a b) = fun i => a 0 * sh b i + cmul i (sh a) b := rfl
    simp only [cmul]
    rw [e, cmul_addl, cmul_smul, ih, mulD]
    show a 0 * b 0 * c (n + 1) + _ = _
    rw [mulA]; ac_rfl
def sOf (k : Int) : Ser α := fun n => if n = 0 then ofI k else ofI 0
theorem cmul_of (k : Int) : ∀ (n : Nat) (a : Ser α), cmul n a (sOf k) = a n * ofI k := by
  intro n
  induction n with
  | zero => intro a; rfl
  | succ n ih =>
    intro a
    rw [cmul, ih]
    show a 0 * ofI 0 + a (n + 1) * ofI k = _
    rw [mul0, zadd]
instance : CR (Ser α) where
  add := fun a b n => a n + b n
  mul := fun a b n => cmul n a b
  ofI := sOf
  addC := fun a b => funext fun n => addC _ _
  addA := fun a b c => funext fun n => addA _ _ _
  add0 := fun a => funext fun n => by show a n + (if n = 0 then ofI 0 else ofI 0) = a n; rw [ite_self, add0]
  mulC := fun a b => funext fun n => cmul_comm n a b
  mulA := fun a b c => funext fun n => cmul_assoc n a b c
  mul1 := fun a => funext fun n => by show cmul n a (sOf 1) = a n; rw [cmul_of, mul1]
  mulD := fun a b c => funext fun n => cmul_add n a b c
  mul0 := fun a => funext fun n => by show cmul n a (sOf 0) = if n = 0 then ofI 0 else ofI 0; rw [cmul_of, mul0, ite_self]
  ofAdd := fun a b => funext fun n => by
    show (if n = 0 then (ofI (a + b) : α) else ofI 0) = (if n = 0 then ofI a else ofI 0) + (if n = 0 then ofI b else ofI 0)
    split
    · exact ofAdd _ _
    · rw [add0]
  ofMul := fun a b => funext fun n => by
    show (if n = 0 then (ofI (a * b) : α) else ofI 0) = cmul n (sOf a) (sOf b)
    rw [cmul_of]
    show (if n = 0 then (ofI (a * b) : α) else ofI 0) = (if n = 0 then ofI a else ofI 0) * ofI b
    split
    · exact ofMul _ _
    · rw [zmul]
theorem ser_add (a b : Ser α) (n : Nat) : (a + b) n = a n + b n := rfl
theorem mul_at0 (a b : Ser α) : (a * b : Ser α) 0 = a 0 * b 0 := rfl
def th (a : Ser α) : Ser α := fun n => ofI (n : Int) * a n
theorem th_mul (a b : Ser α) : th (a * b) = th a * b + a * th b := by
  have gen : ∀ (n : Nat) (a b : Ser α), ofI (n : Int) * cmul n a b = cmul n (th a) b + cmul n a (th b) := by
    intro n
    induction n with
    | zero => intro a b; simp [cmul, th, zmul, mul0, add0]
    | succ n ih =>
      intro a b
      have e1 : sh (th a) = fun i => th (sh a) i + sh a i := funext fun i => by
        show ofI ((i + 1 : Nat) : Int) * a (i + 1) = ofI (i : Int) * a (i + 1) + a (i + 1)
        rw [show ((i + 1 : Nat) : Int) = (i : Int) + 1 by omega, ofAdd, Dmul, omul]
      have e2 : th a 0 = ofI 0 := by show ofI ((0 : Nat) : Int) * a 0 = _; exact zmul _
      have e3 : th b (n + 1) = ofI ((n + 1 : Nat) : Int) * b (n + 1) := rfl
      simp only [cmul]
      rw [e1, e2, e3, zmul, zadd, cmul_addl, mulD, show ((n + 1 : Nat) : Int) = (n : Int) + 1 by omega, ofAdd, Dmul (ofI (n : Int)) (ofI 1) (cmul n (sh a) b), ih, omul]
      have : (ofI (n : Int) + ofI 1) * (a 0 * b (n + 1)) = a 0 * ((ofI (n : Int) + ofI 1) * b (n + 1)) := by ac_rfl
      rw [this]; ac_rfl
  exact funext fun n => gen n a b
theorem th_add (a b : Ser α) : th (a + b) = th a + th b := funext fun n => mulD _ _ _
theorem th_of (k : Int) : th (ofI k : Ser α) = ofI 0 := funext fun n => by
  cases n with
  | zero => exact zmul _
  | succ n => show ofI _ * ofI 0 = ofI 0; exact mul0 _
def pwr (a : α) : Nat → α
  | 0 => ofI 1
  | n + 1 => pwr a n * a
def sL {β : Type} (f : β → α) : List β → α
  | [] => ofI 0
  | b :: l => f b + sL f l
def sT (f : Nat → α) : Nat → α
  | 0 => ofI 0
  | n + 1 => sT f n + f n
def mon (U : Nat → α) (e : Nat → Nat) : Nat → α
  | 0 => ofI 1
  | d + 1 => mon U e d * pwr (U d) (e d)
theorem mon_congr (U : Nat → α) {e e' : Nat → Nat} : ∀ {d : Nat}, (∀ j, j < d → e j = e' j) → mon U e d = mon U e' d
  | 0, _ => rfl
  | d + 1, h => by rw [mon, mon, mon_congr U (fun j hj => h j (by omega)), h d (by omega)]
theorem sT_congr {f g : Nat → α} : ∀ {n : Nat}, (∀ j, j < n → f j = g j) → sT f n = sT g n
  | 0, _ => rfl
  | n + 1, h => by rw [sT, sT, sT_congr (fun j hj => h j (by omega)), h n (by omega)]
theorem sT_mul (c : α) (f : Nat → α) : ∀ n, sT (fun k => c * f k) n = c * sT f n
  | 0 => (mul0 _).symm
  | n + 1 => by rw [sT, sT, sT_mul c f n, mulD]
theorem sT_add (f g : Nat → α) : ∀ n, sT (fun k => f k + g k) n = sT f n + sT g n
  | 0 => (add0 _).symm
  | n + 1 => by simp only [sT, sT_add f g n]; ac_rfl
theorem sT_zero : ∀ n, sT (fun _ => (ofI 0 : α)) n = ofI 0
  | 0 => rfl
  | n + 1 => by rw [sT, sT_zero n, add0]
theorem sL_app {β : Type} (f : β → α) (l r : List β) : sL f (l ++ r) = sL f l + sL f r := by
  induction l with
  | nil => exact (zadd _).symm
  | cons a l ih => simp only [List.cons_append, sL, ih]; ac_rfl
abbrev Trm := Int × (Nat → Nat)
def ev (d : Nat) (U : Nat → α) (L : List Trm) : α := sL (fun m => ofI m.1 * mon U m.2 d) L
theorem sh_mul (a b : Ser α) (h : b 0 = ofI 0) : sh (a * b) = a * sh b := funext fun n => by
  show cmul (n + 1) a b = cmul n a (sh b)
  rw [cmul_last, h, mul0, add0]
theorem sh_add (a b : Ser α) : sh (a + b) = sh a + sh b := rfl
theorem th_0 (a : Ser α) : th a 0 = ofI 0 := zmul _
theorem sh_sT (f : Nat → Ser α) : ∀ n, sh (sT f n) = sT (fun k => sh (f k)) n
  | 0 => funext fun n => by cases n <;> rfl
  | n + 1 => by rw [sT, sh_add, sh_sT f n, sT]
end
structure Cg (α : Type) [CR α] where
  r : α → α → Prop
  refl : ∀ a, r a a
  symm : ∀ {a b}, r a b → r b a
  trans : ∀ {a b c}, r a b → r b c → r a c
  add : ∀ {a b c d}, r a b → r c d → r (a + c) (b + d)
  mul : ∀ {a b c d}, r a b → r c d → r (a * c) (b * d)
  of : ∀ {a b : Int}, a % 10007 = b % 10007 → r (ofI a) (ofI b)
def cgI : Cg Int where
  r := fun a b => a % 10007 = b % 10007
  refl := fun _ => rfl
  symm := fun h => h.symm
  trans := fun h k => h.trans k
  add := fun h k => by omega
  mul := fun {a b c d} h k => by rw [Int.mul_emod, h, k, ← Int.mul_emod]
  of := fun h => h
section
variable {α : Type} [CR α]
theorem cmul_cg (c : Cg α) {N : Nat} : ∀ {n : Nat} {a b a' b' : Ser α}, n < N → (∀ i, i < N → c.r (a i) (a' i)) → (∀ i, i < N → c.r (b i) (b' i)) → c.r (cmul n a b) (cmul n a' b')
  | n, a, b, a', b', hn, ha, hb => by
    have gen : ∀ (n : Nat) (a b a' b' : Ser α), (∀ i, i ≤ n → c.r (a i) (a' i)) → (∀ i, i ≤ n → c.r (b i) (b' i)) → c.r (cmul n a b) (cmul n a' b') := by
      intro n
      induction n with
      | zero => intro a b a' b' ha hb; exact c.mul (ha 0 (by omega)) (hb 0 (by omega))
      | succ n ih =>
        intro a b a' b' ha hb
        exact c.add (c.mul (ha 0 (by omega)) (hb (n + 1) (by omega))) (ih _ _ _ _ (fun i hi => ha (i + 1) (by omega)) (fun i hi => hb i (by omega)))
    exact gen n a b a' b' (fun i hi => ha i (by omega)) (fun i hi => hb i (by omega))
def cgS (c : Cg α) (N : Nat) : Cg (Ser α) where
  r := fun a b => ∀ n, n < N → c.r (a n) (b n)
  refl := fun a n _ => c.refl _
  symm := fun h n hn => c.symm (h n hn)
  trans := fun h k n hn => c.trans (h n hn) (k n hn)
  add := fun h k n hn => c.add (h n hn) (k n hn)
  mul := fun h k n hn => cmul_cg c hn h k
  of := fun {a b} h n hn => by
    show c.r (if n = 0 then ofI a else ofI 0) (if n = 0 then ofI b else ofI 0)
    split
    · exact c.of h
    · exact c.refl _
theorem Cg.sT (c : Cg α) {f g : Nat → α} : ∀ {n : Nat}, (∀ k, k < n → c.r (f k) (g k)) → c.r (sT f n) (sT g n)
  | 0, _ => c.refl _
  | n + 1, h => c.add (Cg.sT c (fun k hk => h k (by omega))) (h n (by omega))
theorem Cg.sL (c : Cg α) {β : Type} {f g : β → α} : ∀ {l : List β}, (∀ b ∈ l, c.r (f b) (g b)) → c.r (sL f l) (sL g l)
  | [], _ => c.refl _
  | b :: l, h => c.add (h b (by simp)) (Cg.sL c (fun x hx => h x (by simp [hx])))
theorem Cg.pwr (c : Cg α) {a b : α} (h : c.r a b) : ∀ n, c.r (pwr a n) (pwr b n)
  | 0 => c.refl _
  | n + 1 => c.mul (Cg.pwr c h n) h
theorem Cg.mon (c : Cg α) {U V : Nat → α} (e : Nat → Nat) : ∀ {d : Nat}, (∀ k, k < d → c.r (U k) (V k)) → c.r (mon U e d) (mon V e d)
  | 0, _ => c.refl _
  | d + 1, h => c.mul (Cg.mon c e (fun k hk => h k (by omega))) (Cg.pwr c (h d (by omega)) _)
theorem Cg.ev (c : Cg α) {d : Nat} {U V : Nat → α} (h : ∀ k, k < d → c.r (U k) (V k)) (L : List Trm) : c.r (ev d U L) (ev d V L) :=
  c.sL (fun m _ => c.mul (c.refl _) (c.mon m.2 h))
end
end Go.Proofs.YtnokgijakdaehaaGreatDoor


namespace Go.Proofs.YtnokgijakdaehaaGreatDoor
open CR
set_option linter.unusedSectionVars false
set_option linter.unusedVariables false
set_option linter.unusedSimpArgs false
set_option maxHeartbeats 1000000
def ex (e : List Int) : Nat → Nat := fun k => (e[k]?.getD 0).toNat
def tr (m : Mon) : Trm := (m.1, ex m.2)
structure WOk (n : Nat) (B : Int) (m : Mon) : Prop where
  num : isN m.1
  len : m.2.length = n
  pw : ∀ x ∈ m.2, 0 ≤ x ∧ x ≤ B
theorem VOk.wok {n : Nat} {m : Mon} (h : VOk n m) : WOk n 3 m := ⟨h.num, h.len, h.pw⟩
theorem WOk.le {n : Nat} {B C : Int} {m : Mon} (h : WOk n B m) (hBC : B ≤ C) : WOk n C m := ⟨h.num, h.len, fun x hx => ⟨(h.pw x hx).1, Int.le_trans (h.pw x hx).2 hBC⟩⟩
theorem WOk.get {n : Nat} {B : Int} {m : Mon} (h : WOk n B m) (hB : 0 ≤ B) (k : Nat) : 0 ≤ m.2[k]?.getD 0 ∧ m.2[k]?.getD 0 ≤ B := by
  rcases Nat.lt_or_ge k m.2.length with hk | hk
  · simp [hk]; exact h.pw _ (List.getElem_mem hk)
  · simp [hk]; exact hB
section
variable {α : Type} [CR α]
def evM (d : Nat) (U : Nat → α) (L : List Mon) : α := ev d U (L.map tr)
theorem evM_nil (d : Nat) (U : Nat → α) : evM d U [] = ofI 0 := rfl
theorem evM_cons (d : Nat) (U : Nat → α) (m : Mon) (L : List Mon) : evM d U (m :: L) = ofI m.1 * mon U (ex m.2) d + evM d U L := rfl
theorem evM_app (d : Nat) (U : Nat → α) (L R : List Mon) : evM d U (L ++ R) = evM d U L + evM d U R := by
  unfold evM ev; rw [List.map_append, sL_app]
theorem evM_if (d : Nat) (U : Nat → α) (m : Mon) : evM d U (if m.1 = 0 then [] else [m]) = ofI m.1 * mon U (ex m.2) d := by
  split
  · rename_i h; rw [h, zmul]; rfl
  · rw [evM_cons, evM_nil, add0]
theorem Cg.eq (c : Cg α) {a b : α} (h : a = b) : c.r a b := by rw [h]; exact c.refl _
theorem putGo_ev (c : Cg α) (d : Nat) (U : Nat → α) (k : Int) (e : List Int) : ∀ (l : List Mon) (done : Bool),
    c.r (evM d U (putGo k e l done)) (evM d U l + if done = true then ofI 0 else ofI k * mon U (ex e) d)
  | [], true => c.eq (by simp [putGo]; rw [add0])
  | [], false => c.eq (by simp [putGo]; rw [evM_cons, evM_nil, addC])
  | m :: l, done => by
    rw [putGo]
    by_cases h1 : done = false ∧ m.2 = e
    · rw [if_pos h1, evM_app, h1.1, ← h1.2]
      have e1 := evM_if d U ((m.1 + k) % 10007, m.2)
      simp only at e1
      rw [e1]
      refine c.trans (c.add (c.mul (c.of (a := (m.1 + k) % 10007) (b := m.1 + k) (by omega)) (c.refl _)) (putGo_ev c d U k m.2 l true)) (c.eq ?_)
      simp only [if_true, Bool.false_eq_true, if_false]
      rw [evM_cons, ofAdd, Dmul, add0]; ac_rfl
    · rw [if_neg h1]
      by_cases h2 : done = false ∧ ltL e m.2 = true
      · rw [if_pos h2, evM_cons, evM_app, evM_if, h2.1]
        refine c.trans (c.add (c.refl _) (c.add (c.refl _) (putGo_ev c d U k e l true))) (c.eq ?_)
        simp only [if_true, Bool.false_eq_true, if_false]
        rw [evM_cons, add0]; ac_rfl
      · rw [if_neg h2, evM_app, evM_if]
        refine c.trans (c.add (c.refl _) (putGo_ev c d U k e l done)) (c.eq ?_)
        rw [evM_cons, addA]
theorem putL_ev (c : Cg α) (d : Nat) (U : Nat → α) (L : List Mon) (k : Int) (e : List Int) : c.r (evM d U (putL L k e)) (evM d U L + ofI k * mon U (ex e) d) := by
  unfold putL
  refine c.trans (putGo_ev c d U k e L _) (c.eq ?_)
  by_cases h : k = 0
  · simp [h]; rw [zmul]
  · simp [h]
def plusL (p : List Mon) (k : Int) : List Mon → List Mon
  | [] => p
  | m :: q => plusL (putL p (k * m.1 % 10007) m.2) k q
theorem plusL_app (p : List Mon) (k : Int) (q r : List Mon) : plusL p k (q ++ r) = plusL (plusL p k q) k r := by
  induction q generalizing p with
  | nil => rfl
  | cons m q ih => exact ih _
theorem plusL_ev (c : Cg α) (d : Nat) (U : Nat → α) (k : Int) : ∀ (q p : List Mon), c.r (evM d U (plusL p k q)) (evM d U p + ofI k * evM d U q)
  | [], p => c.eq (by rw [evM_nil, mul0, add0]; rfl)
  | m :: q, p => by
    rw [plusL]
    refine c.trans (plusL_ev c d U k q _) ?_
    refine c.trans (c.add (putL_ev c d U p _ m.2) (c.refl _)) ?_
    refine c.trans (c.add (c.add (c.refl _) (c.mul (c.of (a := k * m.1 % 10007) (b := k * m.1) (by omega)) (c.refl _))) (c.refl _)) (c.eq ?_)
    rw [evM_cons, mulD, ofMul]; ac_rfl
def addE (a b : List Int) : List Int := List.zipWith (· + ·) a b
def prodRow (a : Mon) (acc : List Mon) : List Mon → List Mon
  | [] => acc
  | b :: q => prodRow a (putL acc (a.1 * b.1 % 10007) (addE a.2 b.2)) q
def prodGo (acc : List Mon) (q : List Mon) : List Mon → List Mon
  | [] => acc
  | a :: p => prodGo (prodRow a acc q) q p
def prodL (p q : List Mon) : List Mon := prodGo [] q p
theorem prodRow_app (a : Mon) (acc p q : List Mon) : prodRow a acc (p ++ q) = prodRow a (prodRow a acc p) q := by
  induction p generalizing acc with
  | nil => rfl
  | cons m p ih => exact ih _
theorem prodGo_app (acc q p r : List Mon) : prodGo acc q (p ++ r) = prodGo (prodGo acc q p) q r := by
  induction p generalizing acc with
  | nil => rfl
  | cons m p ih => exact ih _
theorem pwr_add (a : α) (n : Nat) : ∀ m : Nat, pwr a (n + m) = pwr a n * pwr a m
  | 0 => (mul1 _).symm
  | m + 1 => by rw [← Nat.add_assoc, pwr, pwr, pwr_add a n m, mulA]
theorem mon_add (U : Nat → α) (e f : Nat → Nat) : ∀ d, mon U (fun k => e k + f k) d = mon U e d * mon U f d
  | 0 => (mul1 _).symm
  | d + 1 => by rw [mon, mon, mon, mon_add U e f d, pwr_add]; ac_rfl
theorem ex_add {a b : List Int} {n : Nat} (ha : a.length = n) (hb : b.length = n) (h1 : ∀ x ∈ a, 0 ≤ x) (h2 : ∀ x ∈ b, 0 ≤ x) (k : Nat) : ex (addE a b) k = ex a k + ex b k := by
  unfold ex addE
  rcases Nat.lt_or_ge k n with hk | hk
  · rw [List.getElem?_eq_getElem (by simp; omega), List.getElem?_eq_getElem (by omega), List.getElem?_eq_getElem (by omega)]
    have := h1 _ (List.getElem_mem (show k < a.length by omega))
    have := h2 _ (List.getElem_mem (show k < b.length by omega))
    simp; omega
  · rw [List.getElem?_eq_none (by simp; omega), List.getElem?_eq_none (by omega), List.getElem?_eq_none (by omega)]; rfl
def LOk (n : Nat) (L : List Mon) : Prop := ∀ m ∈ L, m.2.length = n ∧ ∀ x ∈ m.2, 0 ≤ x
theorem LOk.tl {n : Nat} {m : Mon} {L : List Mon} (h : LOk n (m :: L)) : LOk n L := fun a ha => h a (by simp [ha])
theorem LOk.hd {n : Nat} {m : Mon} {L : List Mon} (h : LOk n (m :: L)) : m.2.length = n ∧ ∀ x ∈ m.2, 0 ≤ x := h m (by simp)
theorem prodRow_ev (c : Cg α) (d : Nat) (U : Nat → α) {n : Nat} {a : Mon} (ha : a.2.length = n ∧ ∀ x ∈ a.2, 0 ≤ x) : ∀ (q acc : List Mon), LOk n q → c.r (evM d U (prodRow a acc q)) (evM d U acc + ofI a.1 * mon U (ex a.2) d * evM d U q)
  | [], acc, _ => c.eq (by rw [evM_nil, mul0, add0]; rfl)
  | b :: q, acc, hq => by
    have hb := hq.hd
    rw [prodRow]
    refine c.trans (prodRow_ev c d U ha q _ hq.tl) ?_
    refine c.trans (c.add (putL_ev c d U acc _ _) (c.refl _)) ?_
    refine c.trans (c.add (c.add (c.refl _) (c.mul (c.of (a := a.1 * b.1 % 10007) (b := a.1 * b.1) (by omega)) (c.refl _))) (c.refl _)) (c.eq ?_)
    have : mon U (ex (addE a.2 b.2)) d = mon U (ex a.2) d * mon U (ex b.2) d := by
      rw [← mon_add]; exact mon_congr U (fun k _ => ex_add ha.1 hb.1 ha.2 hb.2 k)
    rw [this, evM_cons, mulD, ofMul]; ac_rfl
theorem prodGo_ev (c : Cg α) (d : Nat) (U : Nat → α) {n : Nat} {q : List Mon} (hq : LOk n q) : ∀ (p acc : List Mon), LOk n p → c.r (evM d U (prodGo acc q p)) (evM d U acc + evM d U p * evM d U q)
  | [], acc, _ => c.eq (by rw [evM_nil, zmul, add0]; rfl)
  | a :: p, acc, hp => by
    rw [prodGo]
    refine c.trans (prodGo_ev c d U hq p _ hp.tl) ?_
    refine c.trans (c.add (prodRow_ev c d U hp.hd q acc hq) (c.refl _)) (c.eq ?_)
    rw [evM_cons, Dmul]; ac_rfl
theorem prodL_ev (c : Cg α) (d : Nat) (U : Nat → α) {n : Nat} {p q : List Mon} (hp : LOk n p) (hq : LOk n q) : c.r (evM d U (prodL p q)) (evM d U p * evM d U q) :=
  c.trans (prodGo_ev c d U hq p [] hp) (c.eq (zadd _))
end
end Go.Proofs.YtnokgijakdaehaaGreatDoor


namespace Go.Proofs.YtnokgijakdaehaaGreatDoor
open Go.Abs
set_option linter.unusedSectionVars false
set_option linter.unusedVariables false
set_option linter.unusedSimpArgs false
set_option maxHeartbeats 1000000
theorem putGo_len (c : Int) (e : List Int) : ∀ (l : List Mon) (done : Bool), (putGo c e l done).length ≤ l.length + 1
  | [], true => by simp [putGo]
  | [], false => by simp [putGo]
  | m :: l, done => by
    have one : ∀ b : Mon, (if b.1 = 0 then [] else [b]).length ≤ 1 := fun b => by split <;> simp
    have ht : ∀ l : List Mon, (putGo c e l true).length ≤ l.length := by
      intro l
      induction l with
      | nil => simp [putGo]
      | cons m l ih => rw [putGo_t]; have := one m; simp; omega
    have h1 := putGo_len c e l done
    have h2 := ht l
    have h3 := one m
    have h4 := one ((m.1 + c) % 10007, m.2)
    simp only at h4
    rw [putGo]
    split
    · simp only [List.length_append, List.length_cons]; omega
    · split
      · simp only [List.length_append, List.length_cons]; omega
      · simp only [List.length_append, List.length_cons]; omega
theorem putL_len (L : List Mon) (c : Int) (e : List Int) : (putL L c e).length ≤ L.length + 1 := putGo_len c e L _
theorem putGo_wok {n : Nat} {B c : Int} {e : List Int} (h : WOk n B (c, e)) : ∀ (l : List Mon) (done : Bool), (∀ m ∈ l, WOk n B m) → ∀ m ∈ putGo c e l done, WOk n B m
  | [], true, _, m, hm => by simp [putGo] at hm
  | [], false, _, m, hm => by simp [putGo] at hm; rw [hm]; exact h
  | a :: l, done, hl, m, hm => by
    have ha := hl a (by simp)
    have ih := fun d => putGo_wok h l d (fun b hb => hl b (by simp [hb]))
    have one : ∀ b : Mon, WOk n B b → m ∈ (if b.1 = 0 then [] else [b]) → WOk n B m := fun b hb hmm => by
      split at hmm
      · simp at hmm
      · simp at hmm; rw [hmm]; exact hb
    rw [putGo] at hm
    split at hm
    · rcases List.mem_append.1 hm with hm | hm
      · exact one ((a.1 + c) % 10007, a.2) ⟨isN_mod _, ha.len, ha.pw⟩ hm
      · exact ih _ m hm
    · split at hm
      · rcases List.mem_cons.1 hm with hm | hm
        · rw [hm]; exact h
        · rcases List.mem_append.1 hm with hm | hm
          · exact one a ha hm
          · exact ih _ m hm
      · rcases List.mem_append.1 hm with hm | hm
        · exact one a ha hm
        · exact ih _ m hm
theorem WOk.low {n i : Nat} {B : Int} {m : Mon} (h : WOk n B m) (hi : i < n) (hp : 0 < m.2[i]?.getD 0) : WOk n B (m.1 * m.2[i]?.getD 0 % 10007, m.2.set i (m.2[i]?.getD 0 - 1)) := by
  have hl := h.len
  refine ⟨isN_mod _, by simpa using hl, fun x hx => ?_⟩
  rcases List.mem_or_eq_of_mem_set hx with hx | rfl
  · exact h.pw x hx
  · have hm : m.2[i]?.getD 0 ∈ m.2 := by
      rw [List.getElem?_eq_getElem (by omega), Option.getD_some]; exact List.getElem_mem _
    have := h.pw _ hm
    omega
end Go.Proofs.YtnokgijakdaehaaGreatDoor


namespace Go.Proofs.YtnokgijakdaehaaGreatDoor
open Go.Abs
set_option linter.unusedSectionVars false
set_option linter.unusedVariables false
set_option linter.unusedSimpArgs false
set_option maxHeartbeats 1000000
theorem omat_app (A C : List (List Int)) : omat (A ++ C) = omat A ++ omat C := by simp [omat]
theorem omat_one (r : List Int) : omat [r] = [.own 2 r.length (avs r)] := rfl
theorem omat_nil : omat [] = [] := rfl
end Go.Proofs.YtnokgijakdaehaaGreatDoor


namespace Go.Proofs.YtnokgijakdaehaaGreatDoor
open Go.Abs
set_option linter.unusedSectionVars false
set_option linter.unusedVariables false
set_option linter.unusedSimpArgs false
set_option maxHeartbeats 1000000
theorem memD {α : Type} {l : List α} {i : Nat} (d : α) (h : i < l.length) : l[i]?.getD d ∈ l := by simp [h]
theorem mons_drop1 {p : List Mon} {k : Nat} (h : k < p.length) : (mons p).drop (k * 2 + 1) = .sl (p[k]?.getD (0, [])).2.length (avs (p[k]?.getD (0, [])).2) :: mons (p.drop (k + 1)) := by
  rw [← List.drop_drop, mons_drop h]; rfl
def adE (a b : List Int) (j : Nat) : List Int := (List.range a.length).map fun t => if t < j then a[t]?.getD 0 + b[t]?.getD 0 else a[t]?.getD 0
@[simp] theorem adE_len (a b : List Int) (j : Nat) : (adE a b j).length = a.length := by simp [adE]
theorem adE_zero (a b : List Int) : adE a b 0 = a := by
  refine List.ext_getElem (by simp) fun i h1 h2 => ?_
  simp [adE, h2]
theorem adE_all {a b : List Int} (h : b.length = a.length) : adE a b a.length = addE a b := by
  refine List.ext_getElem (by simp [addE, h]) fun i h1 h2 => ?_
  simp at h1
  simp [adE, addE, h1, show i < b.length by omega]
theorem adE_get {a b : List Int} {j : Nat} (h : j < a.length) : (adE a b j)[j]?.getD 0 = a[j]?.getD 0 := by simp [adE, h]
theorem adE_set {a b : List Int} {j : Nat} (h : j < a.length) : (adE a b j).set j (a[j]?.getD 0 + b[j]?.getD 0) = adE a b (j + 1) := by
  refine List.ext_getElem (by simp) fun i h1 h2 => ?_
  simp at h1
  rw [List.getElem_set]
  by_cases e : j = i
  · subst e; simp [adE]
  · simp only [e, if_false, adE, List.getElem_map, List.getElem_range]
    by_cases h3 : i < j
    · simp [h3, show i < j + 1 by omega]
    · simp [h3, show ¬ i < j + 1 by omega]
theorem WOk.prod {n : Nat} {B C : Int} {a b : Mon} (ha : WOk n B a) (hb : WOk n C b) : WOk n (B + C) (a.1 * b.1 % 10007, addE a.2 b.2) := by
  have h1 := ha.len
  have h2 := hb.len
  refine ⟨isN_mod _, by simp [addE]; omega, fun x hx => ?_⟩
  obtain ⟨i, hi, rfl⟩ := List.getElem_of_mem hx
  unfold addE at hi ⊢
  simp at hi ⊢
  have p1 := ha.pw _ (List.getElem_mem (show i < a.2.length by omega))
  have p2 := hb.pw _ (List.getElem_mem (show i < b.2.length by omega))
  omega
theorem prodRow_wok {n : Nat} {B C : Int} {a : Mon} (ha : WOk n B a) : ∀ (q acc : List Mon), (∀ m ∈ q, WOk n C m) → (∀ m ∈ acc, WOk n (B + C) m) → ∀ m ∈ prodRow a acc q, WOk n (B + C) m
  | [], _, _, h => h
  | b :: q, acc, hq, h => prodRow_wok ha q _ (fun m hm => hq m (by simp [hm])) (putGo_wok (ha.prod (hq b (by simp))) acc _ h)
theorem prodGo_wok {n : Nat} {B C : Int} {q : List Mon} (hq : ∀ m ∈ q, WOk n C m) : ∀ (p acc : List Mon), (∀ m ∈ p, WOk n B m) → (∀ m ∈ acc, WOk n (B + C) m) → ∀ m ∈ prodGo acc q p, WOk n (B + C) m
  | [], _, _, h => h
  | a :: p, acc, hp, h => prodGo_wok hq p _ (fun m hm => hp m (by simp [hm])) (prodRow_wok (hp a (by simp)) q acc hq h)
theorem prodRow_len (a : Mon) : ∀ (q acc : List Mon), (prodRow a acc q).length ≤ acc.length + q.length
  | [], _ => by simp [prodRow]
  | b :: q, acc => by
    rw [prodRow]
    have h1 := prodRow_len a q (putL acc (a.1 * b.1 % 10007) (addE a.2 b.2))
    have h2 := putL_len acc (a.1 * b.1 % 10007) (addE a.2 b.2)
    simp only [List.length_cons]; omega
theorem prodGo_len (q : List Mon) : ∀ (p acc : List Mon), (prodGo acc q p).length ≤ acc.length + p.length * q.length
  | [], _ => by simp [prodGo]
  | a :: p, acc => by
    rw [prodGo]
    have h1 := prodGo_len q p (prodRow a acc q)
    have h2 := prodRow_len a q acc
    simp only [List.length_cons, Nat.add_mul, Nat.one_mul]; omega
set_option maxRecDepth 100000 in
theorem l13Product_c {n : Nat} {B C : Int} (p q : List Mon) (hn : n ≤ 1000) (hB : 0 ≤ B) (hB2 : B ≤ 1000000) (hC : 0 ≤ C) (hC2 : C ≤ 1000000) (hp : ∀ m ∈ p, WOk n B m) (hq : ∀ m ∈ q, WOk n C m) (hpl : p.length ≤ 1000000000000) (hql : q.length ≤ 1000000000000) (hl : p.length * q.length ≤ 1000000000000) :
    Con Tryz.prog 99 [.sl p.length (mons p), .sl q.length (mons q)] (.own 125 (prodL p q).length (omons (prodL p q))) := by
  refine con_of_vc Tryz.mixed ⟨10, [], [], []⟩ Tryz.func99 (by decide) rfl (by simp) (by decide) (by simp [freshOK, freshL, go_sem]) ?_
  rw [Tryz.ntmps99]
  simp [go_sem]
  refine loop_inv (List.range' 5 5 ++ List.range' 11 54) (fun i : Nat => [(5, .own 125 (prodGo [] q (p.take i)).length (omons (prodGo [] q (p.take i)))), (6, .int i)]) (fun i => i ≤ p.length) (fun i => p.length - i) 0 (by simp) (by simp [go_sem, prodGo]) (by simp [go_sem]) ?_
  intro i hi
  simp [go_sem]
  refine ⟨fun h => ?_, fun h => ?_⟩ <;> simp at h
  · have hif := h
    have ha := hp _ (memD (0, []) hif)
    have hd : prodGo [] q (p.take (i + 1)) = prodRow (p[i]?.getD (0, [])) (prodGo [] q (p.take i)) q := by
      rw [List.take_add_one, prodGo_app]; simp [hif, prodGo]
    have hw : ∀ m ∈ prodGo [] q (p.take i), WOk n (B + C) m := prodGo_wok hq _ [] (fun m hm => hp m (List.mem_of_mem_take hm)) (by simp)
    have hdl := prodGo_len q (p.take i) []
    have hil : (i + 1) * q.length ≤ p.length * q.length := Nat.mul_le_mul_right _ hif
    rw [Nat.add_mul, Nat.one_mul] at hil
    have hml : (p.take i).length * q.length ≤ i * q.length := Nat.mul_le_mul_right _ (by simp; omega)
    simp only [List.length_nil, Nat.zero_add] at hdl
    generalize prodGo [] q (p.take i) = acc at *
    simp [go_sem]
    generalize hM : p[i]?.getD (0, []) = a at *
    refine loop_inv (5 :: 7 :: 8 :: 9 :: List.range' 17 48) (fun k : Nat => [(5, .own 125 (prodRow a acc (q.take k)).length (omons (prodRow a acc (q.take k)))), (7, .int k)]) (fun k => k ≤ q.length) (fun k => q.length - k) 0 (by simp) (by simp [go_sem, prodRow]) (by simp [go_sem]) ?_
    intro k hk
    simp [go_sem]
    refine ⟨fun h => ?_, fun h => ?_⟩ <;> simp at h
    · have hkf := h
      have hb := hq _ (memD (0, []) hkf)
      have hd2 : prodRow a acc (q.take (k + 1)) = putL (prodRow a acc (q.take k)) (a.1 * (q[k]?.getD (0, [])).1 % 10007) (addE a.2 (q[k]?.getD (0, [])).2) := by
        rw [List.take_add_one, prodRow_app]; simp [hkf, prodRow]
      have hw2 : ∀ m ∈ prodRow a acc (q.take k), WOk n (B + C) m := prodRow_wok ha _ _ (fun m hm => hq m (List.mem_of_mem_take hm)) hw
      have hdl2 := prodRow_len a (q.take k) acc
      have hkl : (q.take k).length ≤ k := by simp; omega
      generalize prodRow a acc (q.take k) = acc2 at *
      have al := ha.len
      have bl := hb.len
      have cO := l01Own_c a.2 (by omega)
      have wp := ha.prod hb
      simp [go_sem, mons_drop hif, hM]
      generalize hM2 : q[k]?.getD (0, []) = b at *
      refine ⟨⟨hif, by rintro rfl; simp at hif⟩, ?_⟩
      refine CallVC.of (cO) (by decide) ?_
      simp [go_sem]
      refine loop_inv (8 :: 9 :: List.range' 29 22) (fun j : Nat => [(8, .own 2 a.2.length (avs (adE a.2 b.2 j))), (9, .int j)]) (fun j => j ≤ a.2.length) (fun j => a.2.length - j) 0 (by simp) (by simp [go_sem, adE_zero]) (by simp [go_sem]) ?_
      intro j hj
      simp [go_sem]
      refine ⟨fun h => ?_, fun h => ?_⟩ <;> simp at h
      · have hja := h
        have hjb : j < b.2.length := by omega
        have hjs : j < (adE a.2 b.2 j).length := by simpa using hja
        have g1 := ha.get hB j
        have g2 := hb.get hC j
        have hset := adE_set (b := b.2) hja
        have hget := adE_get (b := b.2) hja
        simp [go_sem, mons_drop hkf, hM2, avs_drop hjb, avs_at hjs, hget]
        refine ⟨by kernel_rfl, hja, ⟨hkf, by rintro rfl; simp at hkf⟩, ⟨hjb, by intro e; simp [e] at hjb⟩, ⟨by omega, by omega⟩, hja, ?_⟩
        refine ⟨by kernel_rfl, ?_⟩
        simp [go_sem]
        exact ⟨by omega, j + 1, by omega, by omega, Off_reset _ _ _ (by simp), by rw [avs_set, hset], by omega⟩
      · have e : j = a.2.length := by omega
        subst e
        have hall := adE_all (a := a.2) (b := b.2) (by omega)
        have m1 := mul_fits ha.num hb.num
        have cP := l13Put_c acc2 (a.1 * b.1 % 10007) (addE a.2 b.2) (isN_mod _) (fun q hq => ⟨(hw2 q hq).num, by have := (hw2 q hq).len; omega⟩) (by omega) (by have := wp.len; simp at this; omega)
        have el : (addE a.2 b.2).length = a.2.length := by have := wp.len; simp at this; omega
        rw [el, ← hd2] at cP
        rw [hall]
        simp [go_sem, mons_drop hif, hM, mons_drop hkf, hM2]
        refine ⟨by kernel_rfl, ⟨hif, by rintro rfl; simp at hif⟩, ⟨hkf, by rintro rfl; simp at hkf⟩, ?_⟩
        refine CallD.of (l01Mul_c _ _ m1) (by simp [roots, rootsL]) (by decide) ?_
        simp [go_sem]
        refine CallD.of (cP) (by simp [roots, rootsL]) (by decide) ?_
        simp [go_sem]
        refine ⟨by kernel_rfl, ?_⟩
        simp [go_sem]
        exact ⟨by omega, k + 1, by omega, by omega, (Off.reset (by intro x hx; simp at hx ⊢; omega) (by simp) (by simp [go_sem, Off_reset])), ⟨rfl, rfl⟩, by omega⟩
    · have e : k = q.length := by omega
      subst e
      rw [List.take_length, ← hd]
      simp [go_sem]
      exact ⟨by omega, i + 1, by omega, by omega, (Off.reset (by intro x hx; simp at hx ⊢; omega) (by simp) (by simp [go_sem, Off_reset])), ⟨rfl, rfl⟩, by omega⟩
  · simp [go_sem]
    rw [List.take_of_length_le h]
    simp [prodL]
set_option maxRecDepth 100000 in
theorem l13Copy_c (p : List Mon) (hp : ∀ m ∈ p, m.2.length ≤ 1048576) (hl : p.length ≤ 1000000000000) :
    Con Tryz.prog 163 [.sl p.length (mons p)] (.own 125 p.length (omons p)) := by
  refine con_of_vc Tryz.mixed ⟨5, [], [], []⟩ Tryz.func163 (by decide) rfl (by simp) (by decide) (by simp [freshOK, freshL, go_sem]) ?_
  rw [Tryz.ntmps163]
  simp [go_sem]
  refine loop_inv (3 :: 4 :: List.range' 6 21) (fun i : Nat => [(3, .own 125 i (omons (p.take i))), (4, .int i)]) (fun i => i ≤ p.length) (fun i => p.length - i) 0 (by simp) (by simp [go_sem, omons]) (by simp [go_sem]) ?_
  intro i hi
  simp [go_sem]
  refine ⟨fun h => ?_, fun h => ?_⟩ <;> simp at h
  · have hif := h
    have hx := hp _ (memD (0, []) hif)
    have ht : omons (p.take (i + 1)) = omons (p.take i) ++ [.int (p[i]?.getD (0, [])).1, .own 2 (p[i]?.getD (0, [])).2.length (avs (p[i]?.getD (0, [])).2)] := by
      rw [List.take_add_one, omons_app]; simp [hif, omons]
    simp [go_sem, mons_drop hif]
    generalize hM : p[i]?.getD (0, []) = a at *
    refine ⟨by kernel_rfl, ⟨hif, by rintro rfl; simp at hif⟩, ?_⟩
    refine CallD.of (l01Own_c a.2 (by omega)) (by simp [roots, rootsL]) (by decide) ?_
    simp [go_sem]
    refine ⟨⟨by omega, by omega⟩, ?_⟩
    refine ⟨by kernel_rfl, ?_⟩
    simp [go_sem]
    exact ⟨by omega, i + 1, by omega, by omega, Off_reset _ _ _ (by simp), by rw [ht]; exact ⟨rfl, rfl⟩, by omega⟩
  · have e : i = p.length := by omega
    subst e
    simp [go_sem]
theorem plusL_wok {n : Nat} {B k : Int} : ∀ (q p : List Mon), (∀ m ∈ q, WOk n B m) → (∀ m ∈ p, WOk n B m) → ∀ m ∈ plusL p k q, WOk n B m
  | [], p, _, hp => hp
  | m :: q, p, hq, hp => plusL_wok q _ (fun a ha => hq a (by simp [ha])) (putGo_wok ⟨isN_mod _, (hq m (by simp)).len, (hq m (by simp)).pw⟩ p _ hp)
theorem plusL_len (k : Int) : ∀ (q p : List Mon), (plusL p k q).length ≤ p.length + q.length
  | [], _ => by simp [plusL]
  | m :: q, p => by
    rw [plusL]
    have h1 := plusL_len k q (putL p (k * m.1 % 10007) m.2)
    have h2 := putL_len p (k * m.1 % 10007) m.2
    simp only [List.length_cons]; omega
set_option maxRecDepth 100000 in
theorem l13Plus_c {n : Nat} {B k : Int} (p q : List Mon) (hn : n ≤ 1000) (hk : isN k) (hp : ∀ m ∈ p, WOk n B m) (hq : ∀ m ∈ q, WOk n B m) (hl : p.length + q.length ≤ 1000000000000) :
    Con Tryz.prog 98 [.sl p.length (mons p), .sl q.length (mons q), .int k] (.own 125 (plusL p k q).length (omons (plusL p k q))) := by
  refine con_of_vc Tryz.mixed ⟨9, [29], [], []⟩ Tryz.func98 (by decide) rfl (by simp) (by decide) (by simp [freshOK, freshL, go_sem]) ?_
  rw [Tryz.ntmps98]
  simp [go_sem]
  refine loop_inv (7 :: 8 :: List.range' 10 20) (fun i : Nat => [(7, .sl (plusL p k (q.take i)).length (mons (plusL p k (q.take i)))), (8, .int i)]) (fun i => i ≤ q.length) (fun i => q.length - i) 0 (by simp) (by simp [go_sem, plusL]) (by simp [go_sem]) ?_
  intro i hi
  simp [go_sem]
  refine ⟨fun h => ?_, fun h => ?_⟩ <;> simp at h
  · have hif := h
    have hb := hq _ (memD (0, []) hif)
    have hd : plusL p k (q.take (i + 1)) = putL (plusL p k (q.take i)) (k * (q[i]?.getD (0, [])).1 % 10007) (q[i]?.getD (0, [])).2 := by
      rw [List.take_add_one, plusL_app]; simp [hif, plusL]
    have hw : ∀ m ∈ plusL p k (q.take i), WOk n B m := plusL_wok _ p (fun m hm => hq m (List.mem_of_mem_take hm)) hp
    have hll := plusL_len k (q.take i) p
    have hkl : (q.take i).length ≤ i := by simp; omega
    generalize plusL p k (q.take i) = acc at *
    have bl := hb.len
    have m1 := mul_fits hk hb.num
    have cP := l13Put_c acc (k * (q[i]?.getD (0, [])).1 % 10007) (q[i]?.getD (0, [])).2 (isN_mod _) (fun q hq => ⟨(hw q hq).num, by have := (hw q hq).len; omega⟩) (by omega) (by omega)
    rw [← hd] at cP
    generalize hN : plusL p k (q.take (i + 1)) = nxt at *
    simp [go_sem, mons_drop hif]
    generalize hM : q[i]?.getD (0, []) = a at *
    refine ⟨by kernel_rfl, ⟨hif, by rintro rfl; simp at hif⟩, ?_⟩
    refine CallD.of (l01Mul_c _ _ m1) (by simp [roots, rootsL]) (by decide) ?_
    simp [go_sem]
    simp [go_sem, mons_drop hif, mons_drop1 hif, hM]
    refine ⟨⟨hif, by rintro rfl; simp at hif⟩, ?_⟩
    refine CallD.of (cP) (by simp [go_sem, roots, rootsL]) (by decide) ?_
    simp [go_sem]
    refine ⟨by kernel_rfl, ?_⟩
    simp [go_sem]
    exact ⟨by omega, i + 1, by omega, by omega, Off_reset _ _ _ (by simp), by rw [hN]; exact ⟨rfl, rfl⟩, by omega⟩
  · have e : i = q.length := by omega
    subst e
    have hw : ∀ m ∈ plusL p k q, WOk n B m := plusL_wok _ p hq hp
    have hll := plusL_len k q p
    simp [go_sem]
    refine CallVC.of (l13Copy_c (plusL p k q) (fun m hm => by have := (hw m hm).len; omega) (by omega)) (by decide) ?_
    simp [go_sem]
def oneE (n k : Nat) : List Int := (List.replicate n 0).set k 1
@[simp] theorem oneE_len (n k : Nat) : (oneE n k).length = n := by simp [oneE]
theorem oneE_wok {n k : Nat} : WOk n 1 (1, oneE n k) := by
  refine ⟨⟨by omega, by omega⟩, by simp, fun x hx => ?_⟩
  rcases List.mem_or_eq_of_mem_set hx with hx | rfl
  · obtain ⟨_, rfl⟩ := List.mem_replicate.1 hx
    omega
  · omega
theorem l13One_c (n k : Nat) (hn : n ≤ 1048576) (hk : k < n) : Con Tryz.prog 97 [.int n, .int k] (.own 2 n (avs (oneE n k))) := by
  refine con_of_vc Tryz.mixed ⟨6, [], [], []⟩ Tryz.func97 (by decide) rfl (by simp) (by decide) (by simp [freshOK, freshL, go_sem]) ?_
  rw [Tryz.ntmps97]
  simp [go_sem]
  refine ⟨⟨by omega, by omega⟩, hk, ?_⟩
  rw [avs_repl, avs_set]; rfl
theorem prodL_wok {n : Nat} {B C : Int} {p q : List Mon} (hp : ∀ m ∈ p, WOk n B m) (hq : ∀ m ∈ q, WOk n C m) : ∀ m ∈ prodL p q, WOk n (B + C) m := prodGo_wok hq p [] hp (by simp)
theorem prodL_len (p q : List Mon) : (prodL p q).length ≤ p.length * q.length := by have := prodGo_len q p []; unfold prodL; simpa using this
def keys20 : List Key := [(0,0,0),(0,0,1),(0,0,2),(0,0,3),(0,1,0),(0,1,1),(0,1,2),(0,2,0),(0,2,1),(0,3,0),(1,0,0),(1,0,1),(1,0,2),(1,1,0),(1,1,1),(1,2,0),(2,0,0),(2,0,1),(2,1,0),(3,0,0)]
theorem pigeon {α : Type} [DecidableEq α] : ∀ (l E : List α), l.Pairwise (fun a b => a ≠ b) → (∀ x ∈ l, x ∈ E) → l.length ≤ E.length
  | [], _, _, _ => by simp
  | a :: l, E, hn, hs => by
    obtain ⟨h1, h2⟩ := List.pairwise_cons.1 hn
    have ha := hs a (by simp)
    have := pigeon l (E.erase a) h2 (fun x hx => (List.mem_erase_of_ne (Ne.symm (h1 x hx))).2 (hs x (by simp [hx])))
    rw [List.length_erase_of_mem ha] at this
    have hp := List.length_pos_of_mem ha
    simp only [List.length_cons]; omega
theorem in20 {a b c : Int} (ha : 0 ≤ a) (hb : 0 ≤ b) (hc : 0 ≤ c) (h : a + b + c ≤ 3) : ((a, b, c) : Key) ∈ keys20 := by
  have h1 : a = 0 ∨ a = 1 ∨ a = 2 ∨ a = 3 := by omega
  have h2 : b = 0 ∨ b = 1 ∨ b = 2 ∨ b = 3 := by omega
  have h3 : c = 0 ∨ c = 1 ∨ c = 2 ∨ c = 3 := by omega
  rcases h1 with rfl | rfl | rfl | rfl <;> rcases h2 with rfl | rfl | rfl | rfl <;> rcases h3 with rfl | rfl | rfl | rfl <;> first | (exfalso; omega) | decide
theorem part20 {z : Int} {p : List Mon} (hz : z ≤ 3) (h : partB z p = true) : p.length ≤ 20 := by
  have hn := keys_nd hz h
  have := pigeon (p.map fun m => keyOf m.2) keys20 (List.pairwise_map.2 hn) (fun k hk => by
    obtain ⟨m, hm, rfl⟩ := List.mem_map.1 hk
    have ho := partB_mem h hm
    have hl := ho.len
    have hp := ho.pw
    have hd := ho.deg
    obtain ⟨x, e⟩ := m
    simp only at hl hp hd ⊢
    match e, hl, hp, hd with
    | [], _, _, _ => exact in20 (by decide) (by decide) (by decide) (by decide)
    | [a], _, hp, hd => have := hp a (by simp); simp at hd; exact in20 (by simpa [keyOf] using this.1) (by simp) (by simp) (by simp [keyOf]; omega)
    | [a, b], _, hp, hd => have h1 := hp a (by simp); have h2 := hp b (by simp); simp at hd; exact in20 (by simpa [keyOf] using h1.1) (by simpa [keyOf] using h2.1) (by simp) (by simp [keyOf]; omega)
    | [a, b, c], _, hp, hd => have h1 := hp a (by simp); have h2 := hp b (by simp); have h3 := hp c (by simp); simp at hd; exact in20 (by simpa [keyOf] using h1.1) (by simpa [keyOf] using h2.1) (by simpa [keyOf] using h3.1) (by simp [keyOf]; omega)
    | _ :: _ :: _ :: _ :: _, hl, _, _ => simp at hl; omega)
  simpa [keys20] using this
end Go.Proofs.YtnokgijakdaehaaGreatDoor


namespace Go.Proofs.YtnokgijakdaehaaGreatDoor
open Go.Abs
set_option linter.unusedSectionVars false
set_option linter.unusedVariables false
set_option linter.unusedSimpArgs false
set_option maxHeartbeats 1000000
end Go.Proofs.YtnokgijakdaehaaGreatDoor


namespace Go.Proofs.YtnokgijakdaehaaGreatDoor
open Go.Abs
set_option linter.unusedSectionVars false
set_option linter.unusedVariables false
set_option linter.unusedSimpArgs false
set_option maxHeartbeats 4000000
def plusS (a b : List Int) (k : Int) : List Int := tb (fun i => (a[i]?.getD 0 + k % 10007 * b[i]?.getD 0) % 10007) a.length
@[simp] theorem plusS_len (a b : List Int) (k : Int) : (plusS a b k).length = a.length := by simp [plusS]
theorem plusS_N (a b : List Int) (k : Int) : Ns (plusS a b k) := tb_N fun i _ => isN_mod _
def scalS (a : List Int) (k : Int) : List Int := tb (fun i => a[i]?.getD 0 * (k % 10007) % 10007) a.length
@[simp] theorem scalS_len (a : List Int) (k : Int) : (scalS a k).length = a.length := by simp [scalS]
theorem scalS_N (a : List Int) (k : Int) : Ns (scalS a k) := tb_N fun i _ => isN_mod _
theorem plus_c (a b : List Int) (k : Int) (ha : Ns a) (hb : Ns b) (hk : fits k) (hl : a.length ≤ 1048576) (hab : a.length ≤ b.length) :
    Con Tryz.prog 103 [.sl a.length (avs a), .sl b.length (avs b), .int k] (.own 2 a.length (avs (plusS a b k))) := by
  refine con_of_vc Tryz.mixed ⟨10, [], [], []⟩ Tryz.func103 (by decide) rfl (by simp) (by decide) (by simp [freshOK, freshL, go_sem]) ?_
  rw [Tryz.ntmps103]
  simp [go_sem]
  refine loop_inv (7 :: 8 :: 9 :: List.range' 13 19) (fun i : Nat => [(7, .own 2 i (avs (tb (fun i => (a[i]?.getD 0 + k % 10007 * b[i]?.getD 0) % 10007) i))), (13, .int i)]) (fun i => i ≤ a.length) (fun i => a.length - i) 0 (by simp) (by simp [go_sem]) (by simp [go_sem]) ?_
  intro i hi
  simp [go_sem]
  refine ⟨fun h => ?_, fun h => ?_⟩ <;> simp at h
  · have h2 : i < b.length := by omega
    have m1 := mul_bound (isN_mod k) (hb.get i)
    have m2 := ha.get i
    have f1 : fits (k % 10007 * b[i]?.getD 0) := ⟨by omega, by omega⟩
    have f2 : fits (a[i]?.getD 0 + k % 10007 * b[i]?.getD 0) := by obtain ⟨x0, x1⟩ := m2; exact ⟨by omega, by omega⟩
    simp [go_sem, avs_drop h, avs_drop h2]
    refine ⟨⟨h, by rintro rfl; simp at h⟩, by kernel_rfl, ?_⟩
    refine CallD.of (num_c _ hk.1 hk.2) (by simp [roots, rootsL]) (by decide) ?_
    simp [go_sem]
    simp [go_sem, avs_drop h, avs_drop h2]
    refine ⟨⟨h2, by rintro rfl; simp at h2⟩, f1, f2, ?_⟩
    refine CallD.of (num_c _ f2.1 f2.2) (by simp [roots, rootsL]) (by decide) ?_
    simp [go_sem]
    refine ⟨by omega, ?_⟩
    refine ⟨by kernel_rfl, ?_⟩
    simp [go_sem]
    exact ⟨by omega, i + 1, by omega, by omega, Off_reset _ _ _ (by simp), by simp [tb_succ, avs_snoc], by omega⟩
  · have e : i = a.length := by omega
    subst e
    simp [go_sem]
    rfl
theorem Clone_c (xs : List Int) (hl : xs.length ≤ 1048576) : Con Tryz.prog 122 [.sl xs.length (avs xs)] (.own 2 xs.length (avs xs)) := by
  refine con_of_vcN Tryz.mixed ⟨3, [], [], []⟩ Tryz.func122 (by decide) rfl (by simp) (by decide) (by simp [freshOK, freshL, go_sem]) ?_
  rw [Tryz.ntmps122]
  simp [go_sem]
  exact ⟨by omega, by omega⟩
end Go.Proofs.YtnokgijakdaehaaGreatDoor


namespace Go.Proofs.YtnokgijakdaehaaGreatDoor
open Go.Abs
set_option linter.unusedSectionVars false
set_option linter.unusedVariables false
set_option linter.unusedSimpArgs false
set_option maxHeartbeats 1000000
@[go_sem] theorem klW_bor (W : List Nat) (s : Nat) (p : List Nat) : kl W (.bor s p) = if W.contains s then .any else .bor s p := by rw [kl]
@[go_sem] theorem klW_ptr (W : List Nat) (s : Nat) (p : List Nat) (o : Nat) : kl W (.ptr s p o) = if W.contains s then .any else .ptr s p o := by rw [kl]
theorem omat_get {A : List (List Int)} {k : Nat} (h : k < A.length) : (omat A)[k]? = some (.own 2 (A[k]?.getD []).length (avs (A[k]?.getD []))) := by simp [omat, h]
end Go.Proofs.YtnokgijakdaehaaGreatDoor


namespace Go.Proofs.YtnokgijakdaehaaGreatDoor
open Go.Abs
set_option linter.unusedSectionVars false
set_option linter.unusedVariables false
set_option linter.unusedSimpArgs false
set_option maxHeartbeats 1000000
def stE (A : List (List Int)) (B : List Int) (z : Int) (f : List (List Mon)) (y : List Int) : Int := if (tabB A B && fieldB z f) = false then 1 else if vecB z y = false then 2 else 0
theorem checkStep_c (A : List (List Int)) (B : List Int) (z : Int) (f : List (List Mon)) (y : List Int) (hA : A.length ≤ 1048576) (hB : B.length ≤ 1048576) (hr : ∀ r ∈ A, r.length ≤ 1048576) (hs : Small f) (hy : y.length ≤ 1048576) :
    Con Tryz.prog 105 [.agg [.sl A.length (mat A), .sl B.length (avs B)], .agg [.int z, .sl f.length (prt f)], .sl y.length (avs y)] (.int (stE A B z f y)) := by
  have cA := IsTableau_c A B (by omega) (by omega) (fun r h => by have := hr r h; omega)
  have cT := IsField_c z f hs
  have cR := isVector_c z f.length (prt f) y (by omega)
  unfold stE
  generalize tabB A B = a at *
  generalize fieldB z f = b at *
  generalize vecB z y = c at *
  cases a <;> cases b <;> cases c
  all_goals simp only [Bool.and_self, Bool.and_false, Bool.false_and, Bool.true_and, Bool.false_eq_true, if_true, if_false, reduceCtorEq]
  · refine con_of_vc Tryz.mixed ⟨7, [], [], []⟩ Tryz.func105 (by decide) rfl (by simp) (by decide) (by simp [freshOK, freshL, go_sem]) ?_
    rw [Tryz.ntmps105]
    simp [go_sem]
    refine CallVC.of (cA) (by decide) ?_
    simp [go_sem]
  · refine con_of_vc Tryz.mixed ⟨7, [], [], []⟩ Tryz.func105 (by decide) rfl (by simp) (by decide) (by simp [freshOK, freshL, go_sem]) ?_
    rw [Tryz.ntmps105]
    simp [go_sem]
    refine CallVC.of (cA) (by decide) ?_
    simp [go_sem]
  · refine con_of_vc Tryz.mixed ⟨7, [], [], []⟩ Tryz.func105 (by decide) rfl (by simp) (by decide) (by simp [freshOK, freshL, go_sem]) ?_
    rw [Tryz.ntmps105]
    simp [go_sem]
    refine CallVC.of (cA) (by decide) ?_
    simp [go_sem]
  · refine con_of_vc Tryz.mixed ⟨7, [], [], []⟩ Tryz.func105 (by decide) rfl (by simp) (by decide) (by simp [freshOK, freshL, go_sem]) ?_
    rw [Tryz.ntmps105]
    simp [go_sem]
    refine CallVC.of (cA) (by decide) ?_
    simp [go_sem]
  · refine con_of_vc Tryz.mixed ⟨7, [], [], []⟩ Tryz.func105 (by decide) rfl (by simp) (by decide) (by simp [freshOK, freshL, go_sem]) ?_
    rw [Tryz.ntmps105]
    simp [go_sem]
    refine CallVC.of (cA) (by decide) ?_
    simp [go_sem]
    refine CallVC.of (cT) (by decide) ?_
    simp [go_sem]
  · refine con_of_vc Tryz.mixed ⟨7, [], [], []⟩ Tryz.func105 (by decide) rfl (by simp) (by decide) (by simp [freshOK, freshL, go_sem]) ?_
    rw [Tryz.ntmps105]
    simp [go_sem]
    refine CallVC.of (cA) (by decide) ?_
    simp [go_sem]
    refine CallVC.of (cT) (by decide) ?_
    simp [go_sem]
  · refine con_of_vc Tryz.mixed ⟨7, [], [], []⟩ Tryz.func105 (by decide) rfl (by simp) (by decide) (by simp [freshOK, freshL, go_sem]) ?_
    rw [Tryz.ntmps105]
    simp [go_sem]
    refine CallVC.of (cA) (by decide) ?_
    simp [go_sem]
    refine CallVC.of (cT) (by decide) ?_
    simp [go_sem]
    refine CallVC.of (cR) (by decide) ?_
    simp [go_sem]
  · refine con_of_vc Tryz.mixed ⟨7, [], [], []⟩ Tryz.func105 (by decide) rfl (by simp) (by decide) (by simp [freshOK, freshL, go_sem]) ?_
    rw [Tryz.ntmps105]
    simp [go_sem]
    refine CallVC.of (cA) (by decide) ?_
    simp [go_sem]
    refine CallVC.of (cT) (by decide) ?_
    simp [go_sem]
    refine CallVC.of (cR) (by decide) ?_
    simp [go_sem]
theorem stE_zero {A : List (List Int)} {B : List Int} {z : Int} {f : List (List Mon)} {y : List Int} (h : stE A B z f y = 0) : tabB A B = true ∧ fieldB z f = true ∧ vecB z y = true := by
  unfold stE at h
  generalize tabB A B = a at *
  generalize fieldB z f = b at *
  generalize vecB z y = c at *
  cases a <;> cases b <;> cases c <;> simp_all
end Go.Proofs.YtnokgijakdaehaaGreatDoor


namespace Go.Proofs.YtnokgijakdaehaaGreatDoor
open Go.Abs
set_option linter.unusedSectionVars false
set_option linter.unusedVariables false
set_option linter.unusedSimpArgs false
set_option maxHeartbeats 1000000
end Go.Proofs.YtnokgijakdaehaaGreatDoor


namespace Go.Proofs.YtnokgijakdaehaaGreatDoor
open Go.Abs
set_option linter.unusedSectionVars false
set_option linter.unusedVariables false
set_option linter.unusedSimpArgs false
set_option maxHeartbeats 1000000
end Go.Proofs.YtnokgijakdaehaaGreatDoor


namespace Go.Proofs.YtnokgijakdaehaaGreatDoor
open Go.Abs
set_option linter.unusedSectionVars false
set_option linter.unusedVariables false
set_option linter.unusedSimpArgs false
set_option maxHeartbeats 1000000
def MapN (c : Key → Option Int) : Prop := ∀ k x, c k = some x → isN x
set_option maxRecDepth 100000 in
theorem add_c (o q : Key → Option Int) (x : Int) (ho : MapN o) (hq : MapN q) (hx : fits x) :
    MCon Tryz.prog 91 [.mp o, .fmp q, .int x] (.tup []) [.mp (addM o q x), .any, .any] := by
  refine mcon_of_vc Tryz.mixed ⟨8, [], [], []⟩ [] [0] Tryz.func91 (by decide) rfl rfl (by simp) (by simp) (by simp) (by decide) ?_
  rw [Tryz.ntmps91]
  simp [go_sem]
  intro es hes
  have hval : ∀ e ∈ es, q e.1 = some e.2 := fun e he => hes.val e he
  refine loop_inv (0 :: 6 :: 7 :: List.range' 9 17) (fun y : Option (Key × Int) × List (Key × Int) => [(0, .mp (remA o q x y.2)), (9, .it y.1 y.2)]) (fun y => y.2.Pairwise (fun a b => a.1 ≠ b.1) ∧ ∀ e ∈ y.2, q e.1 = some e.2) (fun y => y.2.length) (none, es) ⟨hes.nd, hval⟩ (by simp [go_sem, remA_start hes]) (by simp [go_sem]) ?_
  rintro ⟨l, rem⟩ ⟨hnd, hrem⟩
  simp only at hnd hrem
  simp [go_sem, keyAV]
  refine ⟨fun hr => ?_, fun l1 k0 k1 k2 b l2 hr => ?_⟩
  · subst hr
    exact remA_end o q x
  · subst hr
    have hcx := hrem ((k0, k1, k2), b) (by simp)
    have hb : isN b := hq _ _ hcx
    have hnd2 : (l1 ++ l2).Pairwise (fun a b => a.1 ≠ b.1) := hnd.sublist (List.Sublist.append (List.Sublist.refl _) (List.sublist_cons_self _ _))
    have hrem2 : ∀ a b c' y, ((a, b, c'), y) ∈ l1 ++ l2 → q (a, b, c') = some y := fun a b c' y hm => hrem ((a, b, c'), y) (by
      rcases List.mem_append.1 hm with hm | hm <;> simp [hm])
    have hz : remA o q x (l1 ++ ((k0, k1, k2), b) :: l2) (k0, k1, k2) = o (k0, k1, k2) := remA_at
    have hs : mset (remA o q x (l1 ++ ((k0, k1, k2), b) :: l2)) (k0, k1, k2) (((o (k0, k1, k2)).getD 0 + x % 10007 * b) % 10007) = remA o q x (l1 ++ l2) := remA_step hnd hcx
    have ho0 : isN ((o (k0, k1, k2)).getD 0) := by
      cases hh : o (k0, k1, k2) with
      | none => simp [isN]
      | some v => exact ho _ _ hh
    simp [go_sem, hz]
    refine ⟨by kernel_rfl, ?_⟩
    refine CallD.of (num_c _ hx.1 hx.2) (by simp [roots, rootsL]) (by decide) ?_
    simp [go_sem]
    generalize (o (k0, k1, k2)).getD 0 = w at *
    have hm := mul_bound (isN_mod x) hb
    have hf1 : fits (x % 10007 * b) := ⟨by omega, by omega⟩
    have hf2 : fits (w + x % 10007 * b) := by obtain ⟨w0, w1⟩ := ho0; exact ⟨by omega, by omega⟩
    refine ⟨hf1, hf2, ?_⟩
    refine CallD.of (num_c _ hf2.1 hf2.2) (by simp [roots, rootsL]) (by decide) ?_
    simp [go_sem]
    refine ⟨by kernel_rfl, ?_⟩
    simp [go_sem]
    exact ⟨_, _, ⟨hnd2, hrem2⟩, by simp; try omega, Off_reset _ _ _ (by simp), hs, rfl, rfl⟩
theorem addM_N {o q : Key → Option Int} {x : Int} (ho : MapN o) : MapN (addM o q x) := by
  intro k a ha
  unfold addM at ha
  split at ha
  · injection ha with ha; rw [← ha]; exact isN_mod _
  · exact ho k a ha
end Go.Proofs.YtnokgijakdaehaaGreatDoor


namespace Go.Proofs.YtnokgijakdaehaaGreatDoor
open Go.Abs
set_option linter.unusedSectionVars false
set_option linter.unusedVariables false
set_option linter.unusedSimpArgs false
set_option maxHeartbeats 1000000
def sum3 (k : Key) : Int := k.1 + k.2.1 + k.2.2
def DegLe (C : Key → Int) (D : Int) : Prop := ∀ k, NN k → D < sum3 k → C k = 0
theorem sum3_inc (i : Nat) (k : Key) : sum3 (inc i k) = sum3 k + 1 := by
  obtain ⟨a, b, c⟩ := k
  unfold inc sum3
  split
  · simp; omega
  · split <;> (simp; omega)
theorem DegLe.der {C : Key → Int} {D : Int} (h : DegLe C D) (i : Nat) : DegLe (der i C) (D - 1) := by
  intro k hk hd
  unfold Go.Proofs.YtnokgijakdaehaaGreatDoor.der
  rw [h (inc i k) (hk.inc i) (by rw [sum3_inc]; omega), Int.mul_zero]
theorem DegLe.alo {C : Key → Int} {D : Int} (h : DegLe C D) (v : Nat → Int) : ∀ n, DegLe (alo v C n) (D - 1)
  | 0 => fun _ _ _ => rfl
  | n + 1 => fun k hk hd => by
    show Go.Proofs.YtnokgijakdaehaaGreatDoor.alo v C n k + v n * Go.Proofs.YtnokgijakdaehaaGreatDoor.der n C k = 0
    rw [DegLe.alo h v n k hk hd, h.der n k hk hd]; simp
theorem DegLe.dv {n : Nat} : ∀ (vs : List (List Int)) {C : Key → Int} {D : Int}, DegLe C D → DegLe (Dv n vs C) (D - vs.length)
  | [], C, D, h => by simpa [Dv] using h
  | v :: vs, C, D, h => by
    have := DegLe.dv (n := n) vs (h.alo (yat v) n)
    rw [Dv]
    intro k hk hd
    exact this k hk (by simp at hd; omega)
@[simp] theorem mat_frz (A : List (List Int)) : frzL (mat A) = mat A := by
  induction A with
  | nil => rfl
  | cons r A ih => simp only [mat, List.map_cons, frzL] at ih ⊢; rw [ih]; rfl
theorem vecB_iff {z : Int} {y : List Int} : vecB z y = true ↔ (y.length : Int) = z ∧ Ns y := by
  unfold vecB; simp [numsB_N]
end Go.Proofs.YtnokgijakdaehaaGreatDoor


namespace Go.Proofs.YtnokgijakdaehaaGreatDoor
open Go.Abs
set_option linter.unusedSectionVars false
set_option linter.unusedVariables false
set_option linter.unusedSimpArgs false
set_option maxHeartbeats 4000000
end Go.Proofs.YtnokgijakdaehaaGreatDoor


namespace Go.Proofs.YtnokgijakdaehaaGreatDoor
set_option linter.unusedSectionVars false
set_option linter.unusedVariables false
set_option linter.unusedSimpArgs false
def Lv (t : List Int) : Prop := 0 < t.length ∧ t[0]?.getD 0 = 0 ∧ ∀ j, 0 < j → j < t.length → 1 ≤ t[j]?.getD 0 ∧ t[j]?.getD 0 ≤ t[j - 1]?.getD 0 + 1
theorem Lv.le {t : List Int} (h : Lv t) : ∀ j, j < t.length → 0 ≤ t[j]?.getD 0 ∧ t[j]?.getD 0 ≤ j
  | 0, _ => by rw [h.2.1]; omega
  | j + 1, hj => by
    have h1 := h.le j (by omega)
    have h2 := h.2.2 (j + 1) (by omega) hj
    rw [Nat.add_sub_cancel] at h2
    omega
end Go.Proofs.YtnokgijakdaehaaGreatDoor


namespace Go.Proofs.YtnokgijakdaehaaGreatDoor
open Go.Abs
set_option linter.unusedSectionVars false
set_option linter.unusedVariables false
set_option linter.unusedSimpArgs false
set_option maxHeartbeats 4000000
end Go.Proofs.YtnokgijakdaehaaGreatDoor


namespace Go.Proofs.YtnokgijakdaehaaGreatDoor
open Go.Abs
set_option linter.unusedSectionVars false
set_option linter.unusedVariables false
set_option linter.unusedSimpArgs false
set_option maxHeartbeats 4000000
theorem omat_set (A : List (List Int)) (k : Nat) (l : List Int) : (omat A).set k (.own 2 l.length (avs l)) = omat (A.set k l) := by
  simp [omat, List.map_set]
end Go.Proofs.YtnokgijakdaehaaGreatDoor


namespace Go.Proofs.YtnokgijakdaehaaGreatDoor
open Go.Abs
set_option linter.unusedSectionVars false
set_option linter.unusedVariables false
set_option linter.unusedSimpArgs false
set_option maxHeartbeats 4000000
theorem omat_take (A : List (List Int)) (i : Nat) (h : i < A.length) : omat (A.take (i + 1)) = omat (A.take i) ++ [.own 2 (A[i]?.getD []).length (avs (A[i]?.getD []))] := by
  rw [List.take_add_one, omat_app]; simp [h, omat]
end Go.Proofs.YtnokgijakdaehaaGreatDoor


namespace Go.Proofs.YtnokgijakdaehaaGreatDoor
open Go.Abs
set_option linter.unusedSectionVars false
set_option linter.unusedVariables false
set_option linter.unusedSimpArgs false
set_option maxHeartbeats 1000000
def colS (a : List (List Int)) (k : Nat) : List Int := tb (fun i => (a[i]?.getD [])[k]?.getD 0) a.length
@[simp] theorem colS_len (a : List (List Int)) (k : Nat) : (colS a k).length = a.length := by simp [colS]
def turnS (a : List (List Int)) : List (List Int) := (List.range (a[0]?.getD []).length).map (colS a)
@[simp] theorem turnS_len (a : List (List Int)) : (turnS a).length = (a[0]?.getD []).length := by simp [turnS]
theorem column_c (a : List (List Int)) (k : Nat) (hl : a.length ≤ 1048576) (hr : ∀ r ∈ a, k < r.length) (hk : k ≤ 1048576) :
    Con Tryz.prog 94 [.sl a.length (mat a), .int k] (.own 2 a.length (avs (colS a k))) := by
  refine con_of_vc Tryz.mixed ⟨8, [], [], []⟩ Tryz.func94 (by decide) rfl (by simp) (by decide) (by simp [freshOK, freshL, go_sem]) ?_
  rw [Tryz.ntmps94]
  simp [go_sem]
  refine loop_inv (5 :: 7 :: List.range' 11 12) (fun i : Nat => [(5, .own 2 i (avs (tb (fun i => (a[i]?.getD [])[k]?.getD 0) i))), (11, .int i)]) (fun i => i ≤ a.length) (fun i => a.length - i) 0 (by simp) (by simp [go_sem]) (by simp [go_sem]) ?_
  intro i hi
  simp [go_sem]
  refine ⟨fun h => ?_, fun h => ?_⟩ <;> simp at h
  · have hx : k < (a[i]?.getD []).length := hr _ (by simp [h])
    simp [go_sem, mat_drop h, avs_drop hx]
    refine ⟨⟨h, by rintro rfl; simp at h⟩, ⟨hx, by intro e; simp [e] at hx⟩, ?_⟩
    exact ⟨⟨by omega, by omega⟩, by omega, i + 1, by omega, by omega, Off_reset _ _ _ (by simp), by simp [tb_succ, avs_snoc], by omega⟩
  · have e : i = a.length := by omega
    subst e
    simp [go_sem]
    rfl
theorem omat_range_succ (g : Nat → List Int) (i : Nat) : omat ((List.range (i + 1)).map g) = omat ((List.range i).map g) ++ [.own 2 (g i).length (avs (g i))] := by
  rw [List.range_succ, List.map_append, omat_app]; rfl
theorem turned_c (a : List (List Int)) (hl : a.length ≤ 1048576) (h0 : 0 < a.length) (hr : ∀ r ∈ a, r.length = (a[0]?.getD []).length) (hn : (a[0]?.getD []).length ≤ 1048576) :
    Con Tryz.prog 74 [.sl a.length (mat a)] (.own 25 (turnS a).length (omat (turnS a))) := by
  rw [turnS_len]
  have m0 := mat_drop h0
  simp only [List.drop_zero] at m0
  refine con_of_vc Tryz.mixed ⟨5, [], [], []⟩ Tryz.func74 (by decide) rfl (by simp) (by decide) (by simp [freshOK, freshL, go_sem]) ?_
  rw [Tryz.ntmps74]
  simp [go_sem]
  simp [go_sem, m0]
  have m1 : AV.sl (a[0]?.getD []).length (avs (a[0]?.getD [])) :: mat a.tail = mat a := by cases a with | nil => simp at h0 | cons x l => simp [mat]
  simp only [m1]
  refine ⟨⟨h0, by rintro rfl; simp at h0⟩, ?_⟩
  refine loop_inv (3 :: 4 :: List.range' 10 10) (fun i : Nat => [(3, .own 25 i (omat ((List.range i).map (colS a)))), (10, .int i)]) (fun i => i ≤ (a[0]?.getD []).length) (fun i => (a[0]?.getD []).length - i) 0 (by simp) (by simp [go_sem, omat_nil]) (by simp [go_sem]) ?_
  intro i hi
  simp [go_sem]
  refine ⟨fun h => ?_, fun h => ?_⟩ <;> simp at h
  · simp [go_sem]
    refine CallVC.of (column_c a i hl (fun r h2 => by rw [hr r h2]; exact h) (by omega)) (by decide) ?_
    simp [go_sem]
    have ho := omat_range_succ (colS a) i
    rw [colS_len] at ho
    exact ⟨⟨by omega, by omega⟩, by omega, i + 1, by omega, by omega, Off_reset _ _ _ (by simp), by rw [ho]; exact ⟨rfl, rfl⟩, by omega⟩
  · have e : i = (a[0]?.getD []).length := by omega
    subst e
    simp [go_sem]
    rfl
theorem cloneRows_c (a : List (List Int)) (hl : a.length ≤ 1048576) (hr : ∀ r ∈ a, r.length ≤ 1048576) :
    Con Tryz.prog 172 [.sl a.length (mat a)] (.own 25 a.length (omat a)) := by
  refine con_of_vc Tryz.mixed ⟨6, [], [], []⟩ Tryz.func172 (by decide) rfl (by simp) (by decide) (by simp [freshOK, freshL, go_sem]) ?_
  rw [Tryz.ntmps172]
  simp [go_sem]
  refine loop_inv (3 :: 5 :: List.range' 9 10) (fun i : Nat => [(3, .own 25 i (omat (a.take i))), (9, .int i)]) (fun i => i ≤ a.length) (fun i => a.length - i) 0 (by simp) (by simp [go_sem, omat_nil]) (by simp [go_sem]) ?_
  intro i hi
  simp [go_sem]
  refine ⟨fun h => ?_, fun h => ?_⟩ <;> simp at h
  · simp [go_sem, mat_drop h]
    refine ⟨⟨h, by rintro rfl; simp at h⟩, ?_⟩
    refine CallVC.of (Clone_c (a[i]?.getD []) (hr _ (by simp [h]))) (by decide) ?_
    simp [go_sem]
    have ht := omat_take a i h
    refine ⟨⟨by omega, by omega, by omega⟩, by omega, i + 1, by omega, by omega, Off_reset _ _ _ (by simp), by rw [ht]; exact ⟨rfl, rfl⟩, by omega⟩
  · have e : i = a.length := by omega
    subst e
    simp [go_sem]
end Go.Proofs.YtnokgijakdaehaaGreatDoor


namespace Go.Proofs.YtnokgijakdaehaaGreatDoor
open Go.Abs
set_option linter.unusedSectionVars false
set_option linter.unusedVariables false
set_option linter.unusedSimpArgs false
set_option maxHeartbeats 1000000
def raiS (a : List Int) : List Int := tb (fun i => if i = 0 then 0 else a[i - 1]?.getD 0) a.length
@[simp] theorem raiS_len (a : List Int) : (raiS a).length = a.length := by simp [raiS]
theorem raiS_N {a : List Int} (h : Ns a) : Ns (raiS a) := tb_N fun i _ => by split; exact ⟨by omega, by omega⟩; exact h.get _
theorem raiS_eq {a : List Int} (h : 0 < a.length) : raiS a = 0 :: a.take (a.length - 1) := by
  refine List.ext_getElem (by simp; omega) fun i h1 h2 => ?_
  cases i with
  | zero => simp [raiS, tb]
  | succ j =>
    simp only [raiS, tb, List.getElem_map, List.getElem_range, List.getElem_cons_succ, List.getElem_take]
    simp at h2
    have : j < a.length := by omega
    simp [this]
theorem raised_c (a : List Int) (hl : a.length ≤ 1048576) (h0 : 0 < a.length) :
    Con Tryz.prog 181 [.sl a.length (avs a)] (.own 2 a.length (avs (raiS a))) := by
  rw [raiS_eq h0]
  refine con_of_vc Tryz.mixed ⟨3, [], [], []⟩ Tryz.func181 (by decide) rfl (by simp) (by decide) (by simp [freshOK, freshL, go_sem]) ?_
  rw [Tryz.ntmps181]
  simp [go_sem]
  exact ⟨⟨by omega, by omega⟩, ⟨by omega, by omega⟩, ⟨by omega, by omega⟩, by omega, by simp [avs, List.map_take]⟩
def ocube (X : List (List (List Int))) : List AV := X.map fun m => .own 25 m.length (omat m)
def cube (X : List (List (List Int))) : List AV := X.map fun m => .sl m.length (mat m)
@[simp] theorem ocube_len (X : List (List (List Int))) : (ocube X).length = X.length := by simp [ocube]
@[simp] theorem cube_len (X : List (List (List Int))) : (cube X).length = X.length := by simp [cube]
@[simp] theorem cube_ne {X : List (List (List Int))} : (cube X = []) = (X = []) := by cases X <;> simp [cube]
@[simp] theorem ocube_frz : ∀ X : List (List (List Int)), frzL (ocube X) = cube X
  | [] => rfl
  | m :: X => by
    have := ocube_frz X
    simp only [ocube, cube, List.map_cons] at this ⊢
    rw [frzL, this]
    simp [frz]
@[simp] theorem ocube_fresh : ∀ X : List (List (List Int)), freshL (ocube X) = true
  | [] => rfl
  | m :: X => by
    have := ocube_fresh X
    simp only [ocube, List.map_cons] at this ⊢
    rw [freshL, this]
    simp [freshOK]
theorem cube_drop {X : List (List (List Int))} {k : Nat} (h : k < X.length) : (cube X).drop k = .sl (X[k]?.getD []).length (mat (X[k]?.getD [])) :: cube (X.drop (k + 1)) := by
  rw [cube, ← List.map_drop, List.drop_eq_getElem_cons h, List.map_cons]; simp [h, cube]
theorem ocube_app (A C : List (List (List Int))) : ocube (A ++ C) = ocube A ++ ocube C := by simp [ocube]
theorem ocube_one (r : List (List Int)) : ocube [r] = [.own 25 r.length (omat r)] := rfl
end Go.Proofs.YtnokgijakdaehaaGreatDoor


namespace Go.Proofs.YtnokgijakdaehaaGreatDoor
open Go.Abs
set_option linter.unusedSectionVars false
set_option linter.unusedVariables false
set_option linter.unusedSimpArgs false
set_option maxHeartbeats 1000000
def mvS (start : List (List Int)) (c : List Int) (L : List (List (List Int))) : Nat → List (List Int)
  | 0 => start
  | i + 1 => (List.range start.length).map fun k => plusS ((mvS start c L i)[k]?.getD []) (raiS ((L[i]?.getD [])[k]?.getD [])) (c[i]?.getD 0)
theorem mvS_len (start : List (List Int)) (c : List Int) (L : List (List (List Int))) : ∀ i, (mvS start c L i).length = start.length
  | 0 => rfl
  | i + 1 => by simp [mvS]
theorem mvS_row {start : List (List Int)} {c : List Int} {L : List (List (List Int))} {n : Nat} (h : ∀ r ∈ start, r.length = n ∧ Ns r) : ∀ i, ∀ r ∈ mvS start c L i, r.length = n ∧ Ns r
  | 0 => h
  | i + 1 => by
    intro r hr
    rw [mvS] at hr
    obtain ⟨k, hk, rfl⟩ := List.mem_map.1 hr
    have hk : k < start.length := by simpa using hk
    have hm : (mvS start c L i)[k]?.getD [] ∈ mvS start c L i := by simp [mvS_len, hk]
    exact ⟨by rw [plusS_len]; exact (mvS_row h i _ hm).1, plusS_N _ _ _⟩
def mxS (A C : List (List Int)) (j : Nat) : List (List Int) := (List.range A.length).map fun k => if k < j then C[k]?.getD [] else A[k]?.getD []
theorem mxS_zero (A C : List (List Int)) : mxS A C 0 = A := by
  refine List.ext_getElem (by simp [mxS]) fun i h1 h2 => ?_
  simp [mxS, h2]
theorem mxS_all {A C : List (List Int)} (h : C.length = A.length) : mxS A C A.length = C := by
  refine List.ext_getElem (by simp [mxS, h]) fun i h1 h2 => ?_
  simp [mxS, show i < A.length by omega, h2]
@[simp] theorem mxS_len (A C : List (List Int)) (j : Nat) : (mxS A C j).length = A.length := by simp [mxS]
theorem mxS_get {A C : List (List Int)} {j : Nat} (h : j < A.length) : (mxS A C j)[j]?.getD [] = A[j]?.getD [] := by simp [mxS, h]
theorem mxS_set {A C : List (List Int)} {j : Nat} (h : j < A.length) : (mxS A C j).set j (C[j]?.getD []) = mxS A C (j + 1) := by
  refine List.ext_getElem (by simp) fun i h1 h2 => ?_
  simp at h1
  rw [List.getElem_set]
  by_cases e : j = i
  · subst e; simp [mxS]
  · simp only [e, if_false, mxS, List.getElem_map, List.getElem_range]
    by_cases h3 : i < j
    · simp [h3, show i < j + 1 by omega]
    · simp [h3, show ¬ i < j + 1 by omega]
set_option maxRecDepth 100000 in
theorem moved_c (start : List (List Int)) (c : List Int) (L : List (List (List Int))) (n : Nat) (hn : 0 < n) (hn8 : n ≤ 8) (hs : ∀ r ∈ start, r.length = n ∧ Ns r) (hl : start.length ≤ 1048576) (hc : c.length ≤ 8) (hcL : c.length ≤ L.length) (hcN : Ns c) (hL : ∀ m ∈ L, m.length = start.length ∧ ∀ r ∈ m, r.length = n ∧ Ns r) (hLl : L.length ≤ 1048576) :
    Con Tryz.prog 145 [.sl start.length (mat start), .sl c.length (avs c), .sl L.length (cube L)] (.own 25 start.length (omat (mvS start c L c.length))) := by
  refine con_of_vc Tryz.mixed ⟨11, [], [], []⟩ Tryz.func145 (by decide) rfl (by simp) (by decide) (by simp [freshOK, freshL, go_sem]) ?_
  rw [Tryz.ntmps145]
  simp [go_sem]
  refine CallVC.of (cloneRows_c start hl (fun r hr => by have := (hs r hr).1; omega)) (by decide) ?_
  simp [go_sem]
  refine loop_inv (7 :: 8 :: 9 :: 10 :: List.range' 15 29) (fun i : Nat => [(7, .own 25 start.length (omat (mvS start c L i))), (15, .int i)]) (fun i => i ≤ c.length) (fun i => c.length - i) 0 (by simp) (by simp [go_sem, mvS]) (by simp [go_sem]) ?_
  intro i hi
  simp [go_sem]
  refine ⟨fun h => ?_, fun h => ?_⟩ <;> simp at h
  · have hic := h
    have hiL : i < L.length := by omega
    simp [go_sem, avs_drop hic]
    refine ⟨⟨hic, by rintro rfl; simp at hic⟩, ?_⟩
    refine loop_inv (7 :: 10 :: List.range' 22 21) (fun j : Nat => [(7, .own 25 start.length (omat (mxS (mvS start c L i) (mvS start c L (i + 1)) j))), (22, .int j)]) (fun j => j ≤ start.length) (fun j => start.length - j) 0 (by simp) (by simp [go_sem, mxS_zero]) (by simp [go_sem]) ?_
    intro j hj
    simp [go_sem]
    refine ⟨fun h => ?_, fun h => ?_⟩ <;> simp at h
    · have hjs := h
      have hM : j < (mxS (mvS start c L i) (mvS start c L (i + 1)) j).length := by rw [mxS_len, mvS_len]; exact hjs
      have hg := omat_get hM
      have hj2 : j < (mvS start c L i).length := by rw [mvS_len]; exact hjs
      rw [mxS_get hj2] at hg
      have hx := hL (L[i]?.getD []) (by simp [hiL])
      have hjL : j < (L[i]?.getD []).length := by omega
      have hy := hx.2 ((L[i]?.getD [])[j]?.getD []) (by simp [hjL])
      have hz := mvS_row (c := c) (L := L) hs i ((mvS start c L i)[j]?.getD []) (by simp [hj2])
      have hset := omat_set (mxS (mvS start c L i) (mvS start c L (i + 1)) j) j ((mvS start c L (i + 1))[j]?.getD [])
      have hnext : (mvS start c L (i + 1))[j]?.getD [] = plusS ((mvS start c L i)[j]?.getD []) (raiS ((L[i]?.getD [])[j]?.getD [])) (c[i]?.getD 0) := by simp [mvS, hjs]
      rw [mxS_set hj2] at hset
      have cR := raised_c ((L[i]?.getD [])[j]?.getD []) (by omega) (by omega)
      have ck := hcN.get i
      have cP := plus_c ((mvS start c L i)[j]?.getD []) (raiS ((L[i]?.getD [])[j]?.getD [])) (c[i]?.getD 0) hz.2 (raiS_N hy.2) (by obtain ⟨x0, x1⟩ := ck; exact ⟨by omega, by omega⟩) (by omega) (by simp; omega)
      rw [raiS_len] at cP
      rw [← hnext] at cP
      rw [hnext, plusS_len, ← hnext] at hset
      generalize mxS (mvS start c L i) (mvS start c L (i + 1)) j = M at *
      generalize (mvS start c L (i + 1))[j]?.getD [] = new at *
      generalize (mvS start c L i)[j]?.getD [] = old at *
      simp [go_sem, hg, cube_drop hiL, mat_drop hjL]
      refine ⟨by kernel_rfl, hjs, ⟨hiL, by rintro rfl; simp at hiL⟩, ⟨hjL, by intro e; simp [e] at hjL⟩, ?_⟩
      refine CallD.of (cR) (by simp [roots, rootsL]) (by decide) ?_
      simp [go_sem]
      simp [go_sem, hg]
      refine CallD.of (cP) (by simp [roots, rootsL]) (by decide) ?_
      simp [go_sem]
      refine ⟨hjs, hM, ?_⟩
      refine ⟨by kernel_rfl, ?_⟩
      simp [go_sem]
      refine ⟨by omega, j + 1, by omega, by omega, Off_reset _ _ _ (by simp), ?_⟩
      rw [← hset]
      exact ⟨rfl, by omega⟩
    · have e : j = start.length := by omega
      have hall := mxS_all (A := mvS start c L i) (C := mvS start c L (i + 1)) (by rw [mvS_len, mvS_len])
      rw [mvS_len] at hall
      subst e
      simp [go_sem]
      exact ⟨by omega, i + 1, by omega, by omega, (Off.reset (by intro x hx; simp at hx ⊢; omega) (by simp) (by simp [go_sem, Off_reset])), by rw [hall], by omega⟩
  · have e : i = c.length := by omega
    subst e
    simp [go_sem]
end Go.Proofs.YtnokgijakdaehaaGreatDoor


namespace Go.Proofs.YtnokgijakdaehaaGreatDoor
open Go.Abs
set_option linter.unusedSectionVars false
set_option linter.unusedVariables false
set_option linter.unusedSimpArgs false
set_option maxHeartbeats 1000000
end Go.Proofs.YtnokgijakdaehaaGreatDoor


namespace Go.Proofs.YtnokgijakdaehaaGreatDoor
open Go.Abs
set_option linter.unusedSectionVars false
set_option linter.unusedVariables false
set_option linter.unusedSimpArgs false
set_option maxHeartbeats 1000000
def tmN (i j n : Nat) : Nat := if i ≤ n then (if n < i + j then i + 1 else i) else n + 1
def tmS (a b : List Int) (i j : Nat) : List Int := tb (fun n => cv a b n (tmN i j n) % 10007) a.length
@[simp] theorem tmS_len (a b : List Int) (i j : Nat) : (tmS a b i j).length = a.length := by simp [tmS]
theorem tmS_N (a b : List Int) (i j : Nat) : Ns (tmS a b i j) := tb_N fun i _ => isN_mod _
theorem tmS_zero (a b : List Int) : tmS a b 0 0 = List.replicate a.length 0 := by
  refine List.ext_getElem (by simp) fun n h1 h2 => ?_
  simp [tmS, tb, tmN, cv]
theorem tmS_next (a b : List Int) (i j : Nat) (h : a.length ≤ i + j) : tmS a b i j = tmS a b (i + 1) 0 := by
  unfold tmS tb
  refine List.map_congr_left fun n hn => ?_
  have hn : n < a.length := by simpa using hn
  have e : tmN i j n = tmN (i + 1) 0 n := by unfold tmN; (repeat' split) <;> omega
  rw [e]
theorem tmS_end (a b : List Int) : tmS a b a.length 0 = mulS a b := by
  unfold tmS mulS tb
  refine List.map_congr_left fun n hn => ?_
  have hn : n < a.length := by simpa using hn
  have e : tmN a.length 0 n = n + 1 := by unfold tmN; split <;> omega
  rw [e]
theorem tmS_set (a b : List Int) (i j : Nat) (h : i + j < a.length) : (tmS a b i j).set (i + j) (((tmS a b i j)[i + j]?.getD 0 + a[i]?.getD 0 * b[j]?.getD 0) % 10007) = tmS a b i (j + 1) := by
  refine List.ext_getElem (by simp) fun n h1 h2 => ?_
  simp at h1
  rw [List.getElem_set]
  by_cases e : i + j = n
  · subst e
    have e1 : tmN i j (i + j) = i := by unfold tmN; (repeat' split) <;> omega
    have e2 : tmN i (j + 1) (i + j) = i + 1 := by unfold tmN; (repeat' split) <;> omega
    have e3 : i + j - i = j := by omega
    have g := tb_get (fun n => cv a b n (tmN i j n) % 10007) h
    have g2 : (tmS a b i j)[i + j]?.getD 0 = cv a b (i + j) (tmN i j (i + j)) % 10007 := g
    simp only [if_true, g2, e1]
    simp only [tmS, tb, List.getElem_map, List.getElem_range, e2, cv, e3]
    omega
  · have e1 : tmN i j n = tmN i (j + 1) n := by unfold tmN; (repeat' split) <;> omega
    simp only [e, if_false, tmS, tb, List.getElem_map, List.getElem_range, e1]
set_option maxRecDepth 100000 in
theorem timesSeries_c (a b : List Int) (ha : Ns a) (hb : Ns b) (hl : a.length ≤ 1048576) (hab : a.length ≤ b.length) :
    Con Tryz.prog 104 [.sl a.length (avs a), .sl b.length (avs b)] (.own 2 a.length (avs (mulS a b))) := by
  refine con_of_vc Tryz.mixed ⟨9, [], [], []⟩ Tryz.func104 (by decide) rfl (by simp) (by decide) (by simp [freshOK, freshL, go_sem]) ?_
  rw [Tryz.ntmps104]
  simp [go_sem]
  refine ⟨by omega, ?_⟩
  refine loop_inv (5 :: 6 :: 7 :: 8 :: List.range' 14 33) (fun i : Nat => [(5, .own 2 a.length (avs (tmS a b i 0))), (14, .int i)]) (fun i => i ≤ a.length) (fun i => a.length - i) 0 (by simp) (by simp [go_sem, tmS_zero, avs_repl]) (by simp [go_sem]) ?_
  intro i hi
  simp [go_sem]
  refine ⟨fun h => ?_, fun h => ?_⟩ <;> simp at h
  · have hi2 := h
    simp [go_sem, avs_drop hi2]
    refine ⟨⟨hi2, by rintro rfl; simp at hi2⟩, ?_⟩
    refine loop_inv (5 :: 8 :: List.range' 19 27) (fun j : Nat => [(5, .own 2 a.length (avs (tmS a b i j))), (8, .int j)]) (fun j => i + j ≤ a.length) (fun j => a.length - j) 0 (by simp; omega) (by simp [go_sem]) (by simp [go_sem]) ?_
    intro j hj
    simp [go_sem]
    refine ⟨⟨by omega, by omega⟩, ?_⟩
    refine ⟨fun h => ?_, fun h => ?_⟩ <;> simp at h
    · have k0 : i + j < a.length := by omega
      have k1 : j < b.length := by omega
      have k2 : i + j < (tmS a b i j).length := by rw [tmS_len]; exact k0
      have hset := tmS_set a b i j k0
      have tN := (tmS_N a b i j).get (i + j)
      have m1 := mul_fits (ha.get i) (hb.get j)
      have m2 : fits ((tmS a b i j)[i + j]?.getD 0 + a[i]?.getD 0 * b[j]?.getD 0) := by
        have x0 := mul_bound (ha.get i) (hb.get j)
        obtain ⟨y0, y1⟩ := tN
        exact ⟨by omega, by omega⟩
      have ij : ((i : Int) + j).toNat = i + j := by omega
      simp [go_sem, ij, avs_drop k1, avs_at k2]
      refine ⟨by kernel_rfl, ⟨by omega, by omega⟩, ⟨by omega, by omega⟩, ⟨k1, by intro e; simp [e] at k1⟩, m1, m2, ?_⟩
      refine CallD.of (num_c _ m2.1 m2.2) (by simp [roots, rootsL]) (by decide) ?_
      simp [go_sem]
      refine ⟨⟨by omega, by omega⟩, by omega, ?_⟩
      refine ⟨by kernel_rfl, ?_⟩
      simp [go_sem]
      exact ⟨by omega, j + 1, by omega, by omega, Off_reset _ _ _ (by simp), by rw [ij, avs_set, hset], by omega⟩
    · have hx : a.length ≤ i + j := by omega
      have hn := tmS_next a b i j hx
      simp [go_sem]
      exact ⟨by omega, i + 1, by omega, by omega, (Off.reset (by intro x hx; simp at hx ⊢; omega) (by simp) (by simp [go_sem, Off_reset])), by rw [hn], by omega⟩
  · have e : i = a.length := by omega
    subst e
    simp [go_sem]
    exact tmS_end a b
end Go.Proofs.YtnokgijakdaehaaGreatDoor


namespace Go.Proofs.YtnokgijakdaehaaGreatDoor
open Go.Abs
set_option linter.unusedSectionVars false
set_option linter.unusedVariables false
set_option linter.unusedSimpArgs false
set_option maxHeartbeats 1000000
def pwS (s x : List Int) : Nat → List Int
  | 0 => s
  | n + 1 => mulS (pwS s x n) x
@[simp] theorem pwS_len (s x : List Int) : ∀ n, (pwS s x n).length = s.length
  | 0 => rfl
  | n + 1 => by rw [pwS, mulS_len, pwS_len s x n]
theorem pwS_N {s x : List Int} (h : Ns s) : ∀ n, Ns (pwS s x n)
  | 0 => h
  | n + 1 => mulS_N _ _
def teS (L : List (List Int)) (e : List Int) (s : List Int) : Nat → List Int
  | 0 => s
  | i + 1 => pwS (teS L e s i) (L[i]?.getD []) (e[i]?.getD 0).toNat
@[simp] theorem teS_len (L : List (List Int)) (e s : List Int) : ∀ i, (teS L e s i).length = s.length
  | 0 => rfl
  | i + 1 => by rw [teS, pwS_len, teS_len L e s i]
theorem teS_N {L : List (List Int)} {e s : List Int} (h : Ns s) : ∀ i, Ns (teS L e s i)
  | 0 => h
  | i + 1 => pwS_N (teS_N h i) _
theorem teS_congr {L : List (List Int)} {e e' s : List Int} : ∀ {n : Nat}, (∀ i, i < n → e[i]?.getD 0 = e'[i]?.getD 0) → teS L e s n = teS L e' s n
  | 0, _ => rfl
  | n + 1, h => by rw [teS, teS, teS_congr (fun i hi => h i (by omega)), h n (by omega)]
def unS (a : Int) : List Int := [a, 0, 0, 0, 0, 0, 0]
theorem unS_N {a : Int} (h : isN a) : Ns (unS a) := by
  intro x hx
  simp [unS] at hx
  rcases hx with rfl | rfl
  · exact h
  · exact ⟨by omega, by omega⟩
def teK (L : List (List Int)) (k : Key) (x : Int) : List Int := teS L [k.1, k.2.1, k.2.2] (unS x) L.length
def reS (L : List (List Int)) (n : Nat) : List (Key × Int) → Int
  | [] => 0
  | e :: es => (teK L e.1 e.2)[n]?.getD 0 + reS L n es
def voS (L : List (List Int)) (n : Nat) : List Mon → Int
  | [] => 0
  | m :: p => (teS L m.2 (unS m.1) L.length)[n]?.getD 0 + voS L n p
theorem reS_app (L : List (List Int)) (n : Nat) (a b : List (Key × Int)) : reS L n (a ++ b) = reS L n a + reS L n b := by
  induction a with
  | nil => simp [reS]
  | cons e a ih => simp [reS, ih]; omega
theorem reS_perm (L : List (List Int)) (n : Nat) {a b : List (Key × Int)} (h : a.Perm b) : reS L n a = reS L n b := by
  induction h with
  | nil => rfl
  | cons x _ ih => simp [reS, ih]
  | swap x z l => simp [reS]; omega
  | trans _ _ i1 i2 => rw [i1, i2]
theorem teK_of {L : List (List Int)} (hl : L.length ≤ 3) (m : Mon) : teK L (keyOf m.2) m.1 = teS L m.2 (unS m.1) L.length := by
  refine teS_congr (fun i hi => ?_)
  have : i = 0 ∨ i = 1 ∨ i = 2 := by omega
  rcases this with rfl | rfl | rfl <;> simp [keyOf]
theorem reS_map {L : List (List Int)} (hl : L.length ≤ 3) (n : Nat) : ∀ p : List Mon, reS L n (p.map keyM) = voS L n p
  | [] => rfl
  | m :: p => by
    rw [List.map_cons, reS, voS, reS_map hl n p]
    have := teK_of hl m
    simp only [keyM]
    rw [this]
def evS (L : List (List Int)) (p : List Mon) : List Int := tb (fun n => voS L n p % 10007) 7
@[simp] theorem evS_len (L : List (List Int)) (p : List Mon) : (evS L p).length = 7 := by simp [evS]
theorem evS_N (L : List (List Int)) (p : List Mon) : Ns (evS L p) := tb_N fun i _ => isN_mod _
end Go.Proofs.YtnokgijakdaehaaGreatDoor


namespace Go.Proofs.YtnokgijakdaehaaGreatDoor
open Go.Abs
set_option linter.unusedSectionVars false
set_option linter.unusedVariables false
set_option linter.unusedSimpArgs false
set_option maxHeartbeats 1000000
set_option maxRecDepth 100000 in
theorem series_c (c : Key → Option Int) (L : List (List Int)) (T : Nat → Int) (hL : L.length ≤ 3) (hr : ∀ r ∈ L, r.length = 7 ∧ Ns r) (hc : ∀ k x, c k = some x → EOk (k, x)) (hE : ∀ es, Enum c es → ∀ n, reS L n es % 10007 = T n) :
    Con Tryz.prog 185 [.fmp c, .sl L.length (mat L)] (.own 2 7 (avs (tb T 7))) := by
  refine con_of_vc Tryz.mixed ⟨11, [], [], []⟩ Tryz.func185 (by decide) rfl (by simp) (by decide) (by simp [freshOK, freshL, go_sem]) ?_
  rw [Tryz.ntmps185]
  simp [go_sem]
  intro es hes
  have hok : ∀ e ∈ es, EOk e := fun e he => hc e.1 e.2 (hes.val e he)
  have hsum := hE es hes
  refine loop_inv (5 :: 6 :: 7 :: 8 :: 9 :: 10 :: List.range' 13 30) (fun x : List Int × Option (Key × Int) × List (Key × Int) => [(5, .own 2 7 (avs x.1)), (13, .it x.2.1 x.2.2)]) (fun x => x.1.length = 7 ∧ Ns x.1 ∧ (∀ n, n < 7 → (x.1[n]?.getD 0 + reS L n x.2.2) % 10007 = T n) ∧ ∀ e ∈ x.2.2, EOk e) (fun x => x.2.2.length) ([0, 0, 0, 0, 0, 0, 0], none, es) ?_ ?_ (by simp [go_sem]) ?_
  · refine ⟨rfl, ?_, fun n _ => ?_, hok⟩
    · intro x hx
      simp at hx; subst hx; exact ⟨by omega, by omega⟩
    · have e : ([0, 0, 0, 0, 0, 0, 0] : List Int)[n]?.getD 0 = 0 := by
        rcases Nat.lt_or_ge n 7 with h | h
        · have : n = 0 ∨ n = 1 ∨ n = 2 ∨ n = 3 ∨ n = 4 ∨ n = 5 ∨ n = 6 := by omega
          rcases this with rfl | rfl | rfl | rfl | rfl | rfl | rfl <;> rfl
        · simp [List.getElem?_eq_none, h]
      simp only [e, Int.zero_add]
      exact hsum n
  · simp [go_sem, avs]
  rintro ⟨o, l, rem⟩ ⟨ho, hoN, hoT, hrem⟩
  simp only at ho hoN hoT hrem
  simp [go_sem, keyAV]
  refine ⟨fun hr => ?_, fun l1 k0 k1 k2 x l2 hr2 => ?_⟩
  · subst hr
    refine List.ext_getElem (by simp [ho]) fun n h1 h2 => ?_
    have h7 : n < 7 := by omega
    have t := hoT n h7
    have oN := hoN.get n
    simp only [reS, Int.add_zero] at t
    rw [Int.emod_eq_of_lt oN.1 (by have := oN.2; omega)] at t
    simpa [tb, h1] using t
  · subst hr2
    have hek := hrem ((k0, k1, k2), x) (by simp)
    have hx : isN x := hek.1
    have hg : ∀ i : Nat, 0 ≤ ([k0, k1, k2] : List Int)[i]?.getD 0 ∧ ([k0, k1, k2] : List Int)[i]?.getD 0 ≤ 1000 := by
      intro i
      obtain ⟨_, a1, a2, a3, a4, a5, a6⟩ := hek
      match i with
      | 0 => exact ⟨a1, a2⟩
      | 1 => exact ⟨a3, a4⟩
      | 2 => exact ⟨a5, a6⟩
      | i + 3 => simp
    have hu := unS_N hx
    refine loop_inv (8 :: 9 :: 10 :: List.range' 25 15) (fun i : Nat => [(8, .own 2 7 (avs (teS L [k0, k1, k2] (unS x) i))), (25, .int i)]) (fun i => i ≤ L.length) (fun i => L.length - i) 0 (by simp) (by simp [go_sem, teS, unS, avs]) (by simp [go_sem]) ?_
    intro i hi
    simp [go_sem]
    refine ⟨fun h => ?_, fun h => ?_⟩ <;> simp at h
    · have hiL := h
      have h3 : i < ([k0, k1, k2] : List Int).length := by simp; omega
      have e3 : ([.val (.int .i64 k0), .val (.int .i64 k1), .val (.int .i64 k2)] : List AV)[i]? = some (.val (.int .i64 (([k0, k1, k2] : List Int)[i]?.getD 0))) := avs_at' (xs := [k0, k1, k2]) h3
      have g := hg i
      have hy := hr (L[i]?.getD []) (by simp [hiL])
      have hs : teS L [k0, k1, k2] (unS x) (i + 1) = pwS (teS L [k0, k1, k2] (unS x) i) (L[i]?.getD []) (([k0, k1, k2] : List Int)[i]?.getD 0).toNat := rfl
      simp [go_sem, mat_drop hiL, e3]
      refine ⟨⟨hiL, by rintro rfl; simp at hiL⟩, by omega, ?_⟩
      have hteN := teS_N (L := L) (e := [k0, k1, k2]) hu i
      have htl := teS_len L [k0, k1, k2] (unS x) i
      have hul : (unS x).length = 7 := rfl
      rw [hul] at htl
      generalize teS L [k0, k1, k2] (unS x) i = te at *
      generalize ([k0, k1, k2] : List Int)[i]?.getD 0 = ki at *
      obtain ⟨m, rfl⟩ : ∃ m : Nat, ki = m := ⟨ki.toNat, by omega⟩
      simp only [Int.toNat_natCast] at hs
      refine loop_inv (8 :: List.range' 33 6) (fun t : Nat => [(8, .own 2 7 (avs (pwS te (L[i]?.getD []) t))), (33, .int t)]) (fun t => t ≤ m) (fun t => m - t) 0 (by simp) (by simp [go_sem, pwS]) (by simp [go_sem]) ?_
      intro t ht
      simp [go_sem]
      refine ⟨fun h => ?_, fun h => ?_⟩ <;> simp at h
      · have cT := timesSeries_c (pwS te (L[i]?.getD []) t) (L[i]?.getD []) (pwS_N hteN t) hy.2 (by rw [pwS_len]; omega) (by rw [pwS_len]; omega)
        rw [pwS_len, htl] at cT
        simp [go_sem]
        refine CallVC.of (cT) (by decide) ?_
        simp [go_sem]
        exact ⟨by omega, t + 1, by omega, by omega, Off_reset _ _ _ (by simp), rfl, by omega⟩
      · have e : t = m := by omega
        subst e
        simp [go_sem]
        exact ⟨by omega, i + 1, by omega, by omega, (Off.reset (by intro x hx; simp at hx ⊢; omega) (by simp) (by simp [go_sem, Off_reset])), by rw [hs], by omega⟩
    · have e : i = L.length := by omega
      subst e
      have hteN := teS_N (L := L) (e := [k0, k1, k2]) hu L.length
      have htl := teS_len L [k0, k1, k2] (unS x) L.length
      have hul : (unS x).length = 7 := rfl
      rw [hul] at htl
      have hinv : ∀ n, n < 7 → ((plusS o (teS L [k0, k1, k2] (unS x) L.length) 1)[n]?.getD 0 + reS L n (l1 ++ l2)) % 10007 = T n := by
        intro n hn
        have t := hoT n hn
        have q := tb_get (fun i => (o[i]?.getD 0 + 1 % 10007 * (teS L [k0, k1, k2] (unS x) L.length)[i]?.getD 0) % 10007) (show n < o.length by omega)
        have q2 : (plusS o (teS L [k0, k1, k2] (unS x) L.length) 1)[n]?.getD 0 = (o[n]?.getD 0 + 1 % 10007 * (teS L [k0, k1, k2] (unS x) L.length)[n]?.getD 0) % 10007 := q
        rw [reS_app, reS] at t
        simp only [teK] at t
        rw [q2, reS_app, ← t]
        omega
      have cP := plus_c o (teS L [k0, k1, k2] (unS x) L.length) 1 hoN hteN ⟨by omega, by omega⟩ (by omega) (by omega)
      rw [ho, htl] at cP
      simp [go_sem]
      refine CallVC.of (cP) (by decide) ?_
      simp [go_sem]
      refine ⟨_, _, _, ⟨?_, plusS_N _ _ _, hinv, fun a b c d he => hrem _ ?_⟩, ?_, (Off.reset (by intro x hx; simp at hx ⊢; omega) (by simp) (by simp [go_sem, Off_reset])), rfl, rfl, rfl⟩
      · rw [plusS_len, ho]
      · rcases List.mem_append.1 he with he | he <;> simp [he]
      · simp
end Go.Proofs.YtnokgijakdaehaaGreatDoor


namespace Go.Proofs.YtnokgijakdaehaaGreatDoor
open Go.Abs
set_option linter.unusedSectionVars false
set_option linter.unusedVariables false
set_option linter.unusedSimpArgs false
set_option maxHeartbeats 1000000
theorem partSeries_c {z : Int} {p : List Mon} {L : List (List Int)} (hz : z ≤ 3) (hp : partB z p = true) (hL : (L.length : Int) = z) (hr : ∀ r ∈ L, r.length = 7 ∧ Ns r) :
    Con Tryz.prog 185 [.fmp (polF p), .sl L.length (mat L)] (.own 2 7 (avs (evS L p))) := by
  refine series_c (polF p) L (fun n => voS L n p % 10007) (by omega) hr (fun k x hk => part_entries hz hp hk) (fun es he n => ?_)
  rw [reS_perm L n (enum_perm (keys_nd hz hp) he), reS_map (by omega) n p]
def fdS (L : List (List Int)) (f : List (List Mon)) : List (List Int) := f.map (evS L)
@[simp] theorem fdS_len (L : List (List Int)) (f : List (List Mon)) : (fdS L f).length = f.length := by simp [fdS]
theorem fdS_row {L : List (List Int)} {f : List (List Mon)} : ∀ r ∈ fdS L f, r.length = 7 ∧ Ns r := by
  intro r hr
  obtain ⟨p, _, rfl⟩ := List.mem_map.1 hr
  exact ⟨evS_len L p, evS_N L p⟩
theorem fdS_take {L : List (List Int)} {f : List (List Mon)} {i : Nat} (h : i < f.length) : fdS L (f.take (i + 1)) = fdS L (f.take i) ++ [evS L (f[i]?.getD [])] := by
  rw [List.take_add_one, List.getElem?_eq_getElem h]; simp only [fdS, List.map_append, Option.toList_some, List.map_cons, List.map_nil, Option.getD_some]
end Go.Proofs.YtnokgijakdaehaaGreatDoor


namespace Go.Proofs.YtnokgijakdaehaaGreatDoor
open Go.Abs
set_option linter.unusedSectionVars false
set_option linter.unusedVariables false
set_option linter.unusedSimpArgs false
set_option maxHeartbeats 1000000
theorem fieldSeries_c {z : Int} {f : List (List Mon)} {L : List (List Int)} (hf : FieldOk z f) (hs : Small f) (hL : (L.length : Int) = z) (hr : ∀ r ∈ L, r.length = 7 ∧ Ns r) :
    Con Tryz.prog 165 [.sl f.length (fpols f), .sl L.length (mat L)] (.own 25 f.length (omat (fdS L f))) := by
  have fl := hs.1
  have z3 := hf.hi
  refine con_of_vc Tryz.mixed ⟨8, [], [], []⟩ Tryz.func165 (by decide) rfl (by simp) (by decide) (by simp [freshOK, freshL, go_sem]) ?_
  rw [Tryz.ntmps165]
  simp [go_sem]
  refine loop_inv (5 :: 7 :: List.range' 11 11) (fun i : Nat => [(5, .own 25 i (omat (fdS L (f.take i)))), (11, .int i)]) (fun i => i ≤ f.length) (fun i => f.length - i) 0 (by simp) (by simp [go_sem, fdS, omat_nil]) (by simp [go_sem]) ?_
  intro i hi
  simp [go_sem]
  refine ⟨fun h => ?_, fun h => ?_⟩ <;> simp at h
  · have hif := h
    have hx : f[i]?.getD [] ∈ f := by simp [h]
    have hv := fdS_take (L := L) h
    simp [go_sem, fpols_drop hif]
    refine ⟨⟨hif, by rintro rfl; simp at hif⟩, ?_⟩
    refine CallVC.of (partSeries_c z3 (hf.part _ hx) hL hr) (by decide) ?_
    simp [go_sem]
    refine ⟨⟨by omega, by omega⟩, by omega, i + 1, by omega, by omega, Off_reset _ _ _ (by simp), ?_, by omega⟩
    rw [hv, omat_app, omat_one]; simp
  · simp [go_sem]
    have e : i = f.length := by omega
    subst e; simp
end Go.Proofs.YtnokgijakdaehaaGreatDoor


namespace Go.Proofs.YtnokgijakdaehaaGreatDoor
open Go.Abs
set_option linter.unusedSectionVars false
set_option linter.unusedVariables false
set_option linter.unusedSimpArgs false
set_option maxHeartbeats 1000000
abbrev z7 : List Int := [0, 0, 0, 0, 0, 0, 0]
def sloS (A : List (List Int)) (f : List (List Mon)) (start : List (List Int)) : Nat → List (List (List Int))
  | 0 => List.replicate A.length (List.replicate start.length z7)
  | n + 1 => A.map fun row => fdS (mvS start row (sloS A f start n) row.length) f
@[simp] theorem sloS_len (A : List (List Int)) (f : List (List Mon)) (start : List (List Int)) : ∀ n, (sloS A f start n).length = A.length
  | 0 => by simp [sloS]
  | n + 1 => by simp [sloS]
theorem sloS_row {A : List (List Int)} {f : List (List Mon)} {start : List (List Int)} (hl : f.length = start.length) : ∀ n, ∀ m ∈ sloS A f start n, m.length = start.length ∧ ∀ r ∈ m, r.length = 7 ∧ Ns r
  | 0, m, hm => by
    simp only [sloS, List.mem_replicate] at hm
    obtain ⟨_, rfl⟩ := hm
    refine ⟨by simp, fun r hr => ?_⟩
    obtain ⟨_, rfl⟩ := List.mem_replicate.1 hr
    refine ⟨rfl, fun x hx => ?_⟩
    simp at hx; subst hx; exact ⟨by omega, by omega⟩
  | n + 1, m, hm => by
    rw [sloS] at hm
    obtain ⟨row, _, rfl⟩ := List.mem_map.1 hm
    exact ⟨by simp [hl], fdS_row⟩
theorem omat_rep_succ (n : Nat) : omat (List.replicate (n + 1) z7) = omat (List.replicate n z7) ++ [.own 2 7 (avs z7)] := by
  rw [List.replicate_succ', omat_app, omat_one]; rfl
theorem ocube_rep_succ (n : Nat) (m : List (List Int)) : ocube (List.replicate (n + 1) m) = ocube (List.replicate n m) ++ [.own 25 m.length (omat m)] := by
  rw [List.replicate_succ', ocube_app, ocube_one]
theorem ocube_nil : ocube [] = [] := rfl
theorem ocube_take (X : List (List (List Int))) (i : Nat) (h : i < X.length) : ocube (X.take (i + 1)) = ocube (X.take i) ++ [.own 25 (X[i]?.getD []).length (omat (X[i]?.getD []))] := by
  rw [List.take_add_one, List.getElem?_eq_getElem h, ocube_app]; rfl
theorem sloS_at {A : List (List Int)} (f : List (List Mon)) (start : List (List Int)) (n : Nat) {i : Nat} (h : i < A.length) : (sloS A f start (n + 1))[i]?.getD [] = fdS (mvS start (A[i]?.getD []) (sloS A f start n) (A[i]?.getD []).length) f := by
  simp [sloS, h]
set_option maxRecDepth 100000 in
theorem slopes_c {z : Int} (A : List (List Int)) (B : List Int) (f : List (List Mon)) (start : List (List Int)) (hT : Tab A B) (hf : FieldOk z f) (hs : Small f) (hl : (start.length : Int) = z) (hr : ∀ r ∈ start, r.length = 7 ∧ Ns r) :
    Con Tryz.prog 146 [.agg [.sl A.length (mat A), .sl B.length (avs B)], .sl f.length (fpols f), .sl start.length (mat start)] (.own 24 A.length (ocube (sloS A f start 7))) := by
  have fl := hs.1
  have z3 := hf.hi
  have fz := hf.len
  have b8 := hT.le
  have ab := hT.len
  refine con_of_vc Tryz.mixed ⟨9, [], [], []⟩ Tryz.func146 (by decide) rfl (by simp) (by decide) (by simp [freshOK, freshL, go_sem]) ?_
  rw [Tryz.ntmps146]
  simp [go_sem]
  refine loop_inv (7 :: 8 :: List.range' 16 17) (fun i : Nat => [(7, .own 24 i (ocube (List.replicate i (List.replicate start.length z7)))), (16, .int i)]) (fun i => i ≤ B.length) (fun i => B.length - i) 0 (by simp) (by simp [go_sem, ocube_nil]) (by simp [go_sem]) ?_
  intro i hi
  simp [go_sem]
  refine ⟨fun h => ?_, fun h => ?_⟩ <;> simp at h
  · simp [go_sem]
    refine loop_inv (8 :: List.range' 21 7) (fun j : Nat => [(8, .own 25 j (omat (List.replicate j z7))), (21, .int j)]) (fun j => j ≤ start.length) (fun j => start.length - j) 0 (by simp) (by simp [go_sem, omat_nil]) (by simp [go_sem]) ?_
    intro j hj
    simp [go_sem]
    refine ⟨fun h => ?_, fun h => ?_⟩ <;> simp at h
    · simp [go_sem]
      refine ⟨⟨by omega, by omega⟩, by omega, j + 1, by omega, by omega, Off_reset _ _ _ (by simp), ?_, by omega⟩
      rw [omat_rep_succ]; exact ⟨rfl, rfl⟩
    · have e : j = start.length := by omega
      subst e
      simp [go_sem]
      refine ⟨⟨by omega, by omega⟩, by omega, i + 1, by omega, by omega, (Off.reset (by intro x hx; simp at hx ⊢; omega) (by simp) (by simp [go_sem, Off_reset])), ?_, by omega⟩
      rw [ocube_rep_succ]; simp
  · have e : i = B.length := by omega
    subst e
    simp [go_sem]
    refine loop_inv (7 :: 9 :: 11 :: List.range' 33 22) (fun n : Nat => [(7, .own 24 A.length (ocube (sloS A f start n))), (33, .int n)]) (fun n => n ≤ 7) (fun n => 7 - n) 0 (by simp) (by simp [go_sem, sloS, ab]) (by simp [go_sem]) ?_
    intro n hn
    simp [go_sem]
    refine ⟨fun h => ?_, fun h => ?_⟩ <;> simp at h
    · simp [go_sem]
      refine loop_inv (9 :: 11 :: List.range' 39 14) (fun i : Nat => [(9, .own 24 i (ocube ((sloS A f start (n + 1)).take i))), (39, .int i)]) (fun i => i ≤ A.length) (fun i => A.length - i) 0 (by simp) (by simp [go_sem, ocube_nil]) (by simp [go_sem]) ?_
      intro i hi
      simp [go_sem]
      refine ⟨fun h => ?_, fun h => ?_⟩ <;> simp at h
      · have hif := h
        have hx : A[i]?.getD [] ∈ A := by simp [h]
        have hm := hT.a _ hx
        have ht := ocube_take (sloS A f start (n + 1)) i (by rw [sloS_len]; exact hif)
        rw [sloS_at f start n hif, fdS_len] at ht
        have cM := moved_c start (A[i]?.getD []) (sloS A f start n) 7 (by omega) (by omega) hr (by omega) (by have := hm.1; omega) (by rw [sloS_len]; have := hm.1; omega) hm.2 (sloS_row (by omega) n) (by rw [sloS_len]; omega)
        rw [sloS_len] at cM
        have cF := fieldSeries_c (L := mvS start (A[i]?.getD []) (sloS A f start n) (A[i]?.getD []).length) hf hs (by rw [mvS_len]; exact hl) (mvS_row hr _)
        rw [mvS_len] at cF
        simp [go_sem, mat_drop hif]
        refine ⟨⟨hif, by rintro rfl; simp at hif⟩, ?_⟩
        refine CallVC.of (cM) (by decide) ?_
        simp [go_sem]
        refine CallVC.of (cF) (by decide) ?_
        simp [go_sem]
        refine ⟨⟨by omega, by omega⟩, by omega, i + 1, by omega, by omega, Off_reset _ _ _ (by simp), ?_, by omega⟩
        rw [ht]; exact ⟨rfl, rfl⟩
      · have e : i = A.length := by omega
        subst e
        simp [go_sem]
        have hfin : (sloS A f start (n + 1)).take A.length = sloS A f start (n + 1) := List.take_of_length_le (by simp)
        exact ⟨by omega, n + 1, by omega, by omega, (Off.reset (by intro x hx; simp at hx ⊢; omega) (by simp) (by simp [go_sem, Off_reset])), by rw [hfin], by omega⟩
    · have e : n = 7 := by omega
      subst e
      simp [go_sem]
end Go.Proofs.YtnokgijakdaehaaGreatDoor


namespace Go.Proofs.YtnokgijakdaehaaGreatDoor
open Go.Abs
set_option linter.unusedSectionVars false
set_option linter.unusedVariables false
set_option linter.unusedSimpArgs false
set_option maxHeartbeats 1000000
theorem getD_mem {α : Type} {l : List α} {i : Nat} (d : α) (h : i < l.length) : l[i]?.getD d ∈ l := by simp [h]
theorem colS_N {a : List (List Int)} (h : ∀ r ∈ a, Ns r) (k : Nat) : Ns (colS a k) := tb_N fun i hi => (h (a[i]?.getD []) (by simp [hi])).get k
theorem turnS_row {n : Nat} {a : List (List Int)} (h7 : a.length = n) (h : ∀ r ∈ a, Ns r) : ∀ r ∈ turnS a, r.length = n ∧ Ns r := by
  intro r hr
  obtain ⟨k, _, rfl⟩ := List.mem_map.1 hr
  exact ⟨by rw [colS_len, h7], colS_N h k⟩
def steS (A : List (List Int)) (B : List Int) (f : List (List Mon)) (start : List (List Int)) : List (List Int) := mvS start B (sloS A f start 7) B.length
@[simp] theorem steS_len (A : List (List Int)) (B : List Int) (f : List (List Mon)) (start : List (List Int)) : (steS A B f start).length = start.length := mvS_len _ _ _ _
theorem steS_row {A : List (List Int)} {B : List Int} {f : List (List Mon)} {start : List (List Int)} (hr : ∀ r ∈ start, r.length = 7 ∧ Ns r) : ∀ r ∈ steS A B f start, r.length = 7 ∧ Ns r := mvS_row hr _
set_option maxRecDepth 100000 in
theorem stepped_c {z : Int} (A : List (List Int)) (B : List Int) (f : List (List Mon)) (start : List (List Int)) (hT : Tab A B) (hf : FieldOk z f) (hs : Small f) (hl : (start.length : Int) = z) (hr : ∀ r ∈ start, r.length = 7 ∧ Ns r) :
    Con Tryz.prog 75 [.agg [.sl A.length (mat A), .sl B.length (avs B)], .sl f.length (fpols f), .sl start.length (mat start)] (.own 25 start.length (omat (steS A B f start))) := by
  have fl := hs.1
  have z3 := hf.hi
  have fz := hf.len
  have b8 := hT.le
  have ab := hT.len
  have cS := slopes_c A B f start hT hf hs hl hr
  have cM := moved_c start B (sloS A f start 7) 7 (by omega) (by omega) hr (by omega) (by omega) (by rw [sloS_len]; omega) hT.b (sloS_row (by omega) 7) (by rw [sloS_len]; omega)
  rw [sloS_len] at cM
  refine con_of_vc Tryz.mixed ⟨7, [], [], []⟩ Tryz.func75 (by decide) rfl (by simp) (by decide) (by simp [freshOK, freshL, go_sem]) ?_
  rw [Tryz.ntmps75]
  simp [go_sem]
  refine ⟨by kernel_rfl, ?_⟩
  refine CallD.of (cS) (by simp [roots, rootsL]) (by decide) ?_
  simp [go_sem]
  refine CallD.of (cM) (by simp [roots, rootsL]) (by decide) ?_
  simp [go_sem]
  refine ⟨by kernel_rfl, ?_⟩
  simp [go_sem]
  rfl
def serB (z : Int) (L : List (List Int)) : Bool := decide (L.length = 7) && L.all (vecB z)
theorem notSeries_c (z : Int) (n : Nat) (cs : List AV) (y : List Int) (hl : y.length ≤ 9223372036854775807) :
    Con Tryz.prog 143 [.sl y.length (avs y), .fptr [.int z, .sl n cs]] (.bool (!vecB z y)) := by
  refine con_of_vc Tryz.mixed ⟨4, [], [], []⟩ Tryz.func143 (by decide) rfl (by simp) (by decide) (by simp [freshOK, freshL, go_sem]) ?_
  rw [Tryz.ntmps143]
  simp [go_sem]
  refine CallVC.of (isVector_c z n cs y hl) (by decide) ?_
  simp [go_sem]
theorem isVectorSeries_c (z : Int) (n : Nat) (cs : List AV) (L : List (List Int)) (hl : L.length ≤ 9223372036854775807) (hr : ∀ y ∈ L, y.length ≤ 9223372036854775807) :
    Con Tryz.prog 73 [.agg [.int z, .sl n cs], .sl L.length (mat L)] (.bool (serB z L)) := by
  have cC := ContainsFuncV_c 143 [.int z, .sl n cs] (fun y => !vecB z y) L hl (fun y hy => notSeries_c z n cs y (hr y hy))
  have e : L.any (fun y => !vecB z y) = !L.all (vecB z) := by rw [List.not_all_eq_any_not]
  rw [e] at cC
  unfold serB
  generalize L.all (vecB z) = b at *
  refine con_of_vc Tryz.mixed ⟨5, [], [], []⟩ Tryz.func73 (by decide) rfl (by simp) (by decide) (by simp [freshOK, freshL, go_sem]) ?_
  rw [Tryz.ntmps73]
  simp [go_sem]
  by_cases h : L.length = 7
  · have h2 : (L.length : Int) = 7 := by omega
    simp [go_sem, h2]
    refine CallVC.of (cC) (by decide) ?_
    simp [go_sem]
    cases b <;> simp [h]
  · have h2 : ¬ (L.length : Int) = 7 := by omega
    simp [go_sem, h2]
    simp [h]
end Go.Proofs.YtnokgijakdaehaaGreatDoor


namespace Go.Proofs.YtnokgijakdaehaaGreatDoor
open Go.Abs
set_option linter.unusedSectionVars false
set_option linter.unusedVariables false
set_option linter.unusedSimpArgs false
set_option maxHeartbeats 1000000
theorem serB_iff {z : Int} {L : List (List Int)} : serB z L = true ↔ L.length = 7 ∧ ∀ y ∈ L, (y.length : Int) = z ∧ Ns y := by
  unfold serB vecB
  simp [numsB_N]
end Go.Proofs.YtnokgijakdaehaaGreatDoor


namespace Go.Proofs.YtnokgijakdaehaaGreatDoor
open Go.Abs
set_option linter.unusedSectionVars false
set_option linter.unusedVariables false
set_option linter.unusedSimpArgs false
set_option maxHeartbeats 1000000
def poS (y : List Int) : List (List Int) := y.map unS
@[simp] theorem poS_len (y : List Int) : (poS y).length = y.length := by simp [poS]
theorem poS_row {y : List Int} (h : Ns y) : ∀ r ∈ poS y, r.length = 7 ∧ Ns r := by
  intro r hr
  obtain ⟨a, ha, rfl⟩ := List.mem_map.1 hr
  exact ⟨rfl, unS_N (h a ha)⟩
theorem poS_take {y : List Int} {i : Nat} (h : i < y.length) : omat (poS (y.take (i + 1))) = omat (poS (y.take i)) ++ [.own 2 7 (avs (unS (y[i]?.getD 0)))] := by
  rw [List.take_add_one, List.getElem?_eq_getElem h]
  simp only [poS, List.map_append, omat_app]; rfl
theorem pointStart_c (y : List Int) (hy : y.length ≤ 1048576) : Con Tryz.prog 106 [.sl y.length (avs y)] (.own 25 y.length (omat (poS y))) := by
  refine con_of_vc Tryz.mixed ⟨7, [], [], []⟩ Tryz.func106 (by decide) rfl (by simp) (by decide) (by simp [freshOK, freshL, go_sem]) ?_
  rw [Tryz.ntmps106]
  simp [go_sem]
  refine loop_inv (3 :: 5 :: 6 :: List.range' 10 13) (fun i : Nat => [(3, .own 25 i (omat (poS (y.take i)))), (10, .int i)]) (fun i => i ≤ y.length) (fun i => y.length - i) 0 (by simp) (by simp [go_sem, poS, omat_nil]) (by simp [go_sem]) ?_
  intro i hi
  simp [go_sem]
  refine ⟨fun h => ?_, fun h => ?_⟩ <;> simp at h
  · have ht := poS_take h
    simp [go_sem, avs_drop h]
    refine ⟨⟨h, by rintro rfl; simp at h⟩, ⟨by omega, by omega⟩, by omega, i + 1, by omega, by omega, Off_reset _ _ _ (by simp), ⟨rfl, ?_⟩, by omega⟩
    rw [ht]; rfl
  · have e : i = y.length := by omega
    subst e
    simp [go_sem]
def ssX (A : List (List Int)) (B : List Int) (z : Int) (f : List (List Mon)) (y : List Int) : List (List Int) := if stE A B z f y = 0 then turnS (steS A B f (poS y)) else []
def ssR (A : List (List Int)) (B : List Int) (z : Int) (f : List (List Mon)) (y : List Int) : AV := .tup [.own 25 (ssX A B z f y).length (omat (ssX A B z f y)), .int (stE A B z f y)]
theorem ste_point {A : List (List Int)} {B : List Int} {f : List (List Mon)} {y : List Int} (y1 : 1 ≤ y.length) (hy : Ns y) :
    (turnS (steS A B f (poS y))).length = 7 ∧ ∀ r ∈ turnS (steS A B f (poS y)), r.length = y.length ∧ Ns r := by
  have sr := steS_row (A := A) (B := B) (f := f) (poS_row hy)
  have s0 : ((steS A B f (poS y))[0]?.getD []) ∈ steS A B f (poS y) := getD_mem _ (by rw [steS_len, poS_len]; omega)
  refine ⟨by rw [turnS_len, (sr _ s0).1], fun r h => ?_⟩
  have := turnS_row (a := steS A B f (poS y)) rfl (fun r h => (sr r h).2) r h
  rw [steS_len, poS_len] at this
  exact this
theorem stE_ok {A : List (List Int)} {B : List Int} {z : Int} {f : List (List Mon)} {y : List Int} (h : stE A B z f y = 0) : Tab A B ∧ FieldOk z f ∧ (y.length : Int) = z ∧ Ns y := by
  obtain ⟨hT, hF, hV⟩ := stE_zero h
  unfold vecB at hV
  simp only [Bool.and_eq_true, decide_eq_true_eq] at hV
  exact ⟨tabB_iff.1 hT, fieldB_iff.1 hF, hV.1, numsB_N.1 hV.2⟩
set_option maxRecDepth 100000 in
theorem StepSeries_c (A : List (List Int)) (B : List Int) (z : Int) (f : List (List Mon)) (y : List Int) (hA : A.length ≤ 1048576) (hB : B.length ≤ 1048576) (hr : ∀ r ∈ A, r.length ≤ 1048576) (hs : Small f) (hy : y.length ≤ 1048576) :
    Con Tryz.prog 35 [.agg [.sl A.length (mat A), .sl B.length (avs B)], .agg [.int z, .sl f.length (prt f)], .sl y.length (avs y)] (ssR A B z f y) := by
  have c1 := checkStep_c A B z f y hA hB hr hs hy
  unfold ssR ssX
  have hz := @stE_ok A B z f y
  generalize stE A B z f y = e at *
  by_cases he : e = 0
  · subst he
    obtain ⟨hT, hF, hl, hN⟩ := hz rfl
    have fl := hs.1
    have z1 := hF.lo
    have z3 := hF.hi
    have cP := polynomials_c z f hF hs
    have cU := pointStart_c y hy
    have cS := stepped_c A B f (poS y) hT hF hs (by rw [poS_len]; exact hl) (poS_row hN)
    have sl := steS_len A B f (poS y)
    have sr := steS_row (A := A) (B := B) (f := f) (poS_row hN)
    rw [poS_len] at cS sl
    have cE := turned_c (steS A B f (poS y)) (by omega) (by omega) (fun r h => by
      have s0 : ((steS A B f (poS y))[0]?.getD []) ∈ steS A B f (poS y) := getD_mem _ (by omega)
      have := (sr r h).1; have := (sr _ s0).1; omega) (by
      have s0 : ((steS A B f (poS y))[0]?.getD []) ∈ steS A B f (poS y) := getD_mem _ (by omega)
      have := (sr _ s0).1; omega)
    rw [sl] at cE
    rw [if_pos rfl]
    generalize turnS (steS A B f (poS y)) = X at *
    generalize steS A B f (poS y) = E at *
    generalize poS y = U at *
    refine con_of_vc Tryz.mixed ⟨9, [], [], []⟩ Tryz.func35 (by decide) rfl (by simp) (by decide) (by simp [freshOK, freshL, go_sem]) ?_
    rw [Tryz.ntmps35]
    simp [go_sem]
    refine CallVC.of (c1) (by decide) ?_
    simp [go_sem]
    refine ⟨by kernel_rfl, ?_⟩
    refine CallD.of (cP) (by simp [roots, rootsL]) (by decide) ?_
    simp [go_sem]
    refine CallD.of (cU) (by simp [roots, rootsL]) (by decide) ?_
    simp [go_sem]
    refine CallD.of (cS) (by simp [roots, rootsL]) (by decide) ?_
    simp [go_sem]
    refine CallD.of (cE) (by simp [roots, rootsL]) (by decide) ?_
    simp [go_sem]
    refine ⟨by kernel_rfl, ?_⟩
    simp [go_sem]
  · rw [if_neg he]
    refine Con.n1 _ ?_
    refine con_of_vc Tryz.mixed ⟨9, [], [], []⟩ Tryz.func35 (by decide) rfl (by simp) (by decide) (by simp [freshOK, freshL, go_sem]) ?_
    rw [Tryz.ntmps35]
    simp [go_sem]
    refine CallVC.of (c1) (by decide) ?_
    simp [go_sem]
    simp [go_sem, he]
end Go.Proofs.YtnokgijakdaehaaGreatDoor


namespace Go.Proofs.YtnokgijakdaehaaGreatDoor
open Go.Abs
set_option linter.unusedSectionVars false
set_option linter.unusedVariables false
set_option linter.unusedSimpArgs false
set_option maxHeartbeats 1000000
def floS (f : List (List Mon)) (y : List Int) : Nat → List (List Int)
  | 0 => poS y
  | n + 1 => (List.range y.length).map fun i => ((floS f y n)[i]?.getD []).set (n + 1) (((fdS (floS f y n) f)[i]?.getD [])[n]?.getD 0 * pw ((n : Int) + 1) 10005 % 10007)
@[simp] theorem floS_len (f : List (List Mon)) (y : List Int) : ∀ n, (floS f y n).length = y.length
  | 0 => by simp [floS]
  | n + 1 => by simp [floS]
theorem set_N {a : List Int} (h : Ns a) {i : Nat} {x : Int} (hx : isN x) : Ns (a.set i x) := by
  intro z hz
  rcases List.mem_or_eq_of_mem_set hz with hz | rfl
  · exact h z hz
  · exact hx
theorem floS_row {f : List (List Mon)} {y : List Int} (hy : Ns y) : ∀ n, ∀ r ∈ floS f y n, r.length = 7 ∧ Ns r
  | 0 => poS_row hy
  | n + 1 => by
    intro r hr
    obtain ⟨i, hi, rfl⟩ := List.mem_map.1 hr
    have h := floS_row hy n _ (memD [] (show i < (floS f y n).length by rw [floS_len]; simpa using hi))
    exact ⟨by simp [h.1], set_N h.2 (isN_mod _)⟩
set_option maxRecDepth 100000 in
theorem flow_c {z : Int} (f : List (List Mon)) (y : List Int) (hf : FieldOk z f) (hs : Small f) (hl : (y.length : Int) = z) (hy : Ns y) :
    Con Tryz.prog 102 [.sl f.length (fpols f), .sl y.length (avs y)] (.own 25 y.length (omat (floS f y 6))) := by
  have fl := hs.1
  have z3 := hf.hi
  have fz := hf.len
  refine con_of_vc Tryz.mixed ⟨12, [], [], []⟩ Tryz.func102 (by decide) rfl (by simp) (by decide) (by simp [freshOK, freshL, go_sem]) ?_
  rw [Tryz.ntmps102]
  simp [go_sem]
  refine loop_inv (5 :: 7 :: 8 :: List.range' 15 13) (fun i : Nat => [(5, .own 25 i (omat (poS (y.take i)))), (15, .int i)]) (fun i => i ≤ y.length) (fun i => y.length - i) 0 (by simp) (by simp [go_sem, poS, omat_nil]) (by simp [go_sem]) ?_
  intro i hi
  simp [go_sem]
  refine ⟨fun h => ?_, fun h => ?_⟩ <;> simp at h
  · have ht := poS_take h
    simp [go_sem, avs_drop h]
    refine ⟨⟨h, by rintro rfl; simp at h⟩, ⟨by omega, by omega⟩, by omega, i + 1, by omega, by omega, Off_reset _ _ _ (by simp), ⟨rfl, ?_⟩, by omega⟩
    rw [ht]; rfl
  · have e : i = y.length := by omega
    subst e
    simp [go_sem]
    refine loop_inv (5 :: 9 :: 10 :: 11 :: List.range' 28 31) (fun k : Nat => [(5, .own 25 y.length (omat (floS f y k))), (9, .int ((k + 1 : Nat) : Int))]) (fun k => k ≤ 6) (fun k => 7 - k) 0 (by simp) (by simp [go_sem, floS]) (by simp [go_sem]) ?_
    intro k hk
    simp [go_sem]
    refine ⟨fun h => ?_, fun h => ?_⟩ <;> simp at h
    · have fr := floS_row (f := f) hy k
      have cF := fieldSeries_c (L := floS f y k) hf hs (by rw [floS_len]; exact hl) fr
      rw [floS_len] at cF
      simp [go_sem]
      refine CallVC.of (cF) (by decide) ?_
      simp [go_sem]
      refine loop_inv (5 :: 11 :: List.range' 37 22) (fun j : Nat => [(5, .own 25 y.length (omat (mxS (floS f y k) (floS f y (k + 1)) j))), (37, .int j)]) (fun j => j ≤ y.length) (fun j => y.length - j) 0 (by simp) (by simp [go_sem, mxS_zero]) (by simp [go_sem]) ?_
      intro j hj
      simp [go_sem]
      refine ⟨fun h => ?_, fun h => ?_⟩ <;> simp at h
      · have hjy := h
        have hM : j < (mxS (floS f y k) (floS f y (k + 1)) j).length := by rw [mxS_len, floS_len]; exact hjy
        have hj2 : j < (floS f y k).length := by rw [floS_len]; exact hjy
        have hg := omat_get hM
        rw [mxS_get hj2] at hg
        have hr := fr _ (memD [] hj2)
        have hV : j < (fdS (floS f y k) f).length := by rw [fdS_len]; omega
        have hgv := omat_get hV
        have hv := fdS_row (L := floS f y k) (f := f) _ (memD [] hV)
        have hset := omat_set (mxS (floS f y k) (floS f y (k + 1)) j) j ((floS f y (k + 1))[j]?.getD [])
        have hnext : (floS f y (k + 1))[j]?.getD [] = ((floS f y k)[j]?.getD []).set (k + 1) (((fdS (floS f y k) f)[j]?.getD [])[k]?.getD 0 * pw ((k : Int) + 1) 10005 % 10007) := by simp [floS, hjy]
        rw [mxS_set hj2] at hset
        have m1 : fits (((fdS (floS f y k) f)[j]?.getD [])[k]?.getD 0 * pw ((k : Int) + 1) 10005) := mul_fits (hv.2.get k) (isN_mod _)
        have hk7 : k < ((fdS (floS f y k) f)[j]?.getD []).length := by omega
        have hk8 : k + 1 < ((floS f y k)[j]?.getD []).length := by omega
        generalize mxS (floS f y k) (floS f y (k + 1)) j = M at *
        generalize (floS f y (k + 1))[j]?.getD [] = new at *
        generalize (floS f y k)[j]?.getD [] = old at *
        generalize (fdS (floS f y k) f)[j]?.getD [] = vs at *
        simp [go_sem, hg, hgv, avs_at hk7, avs_drop hk7]
        refine ⟨by kernel_rfl, hjy, by omega, by omega, hk7, ?_⟩
        refine CallD.of (inv_c _ ⟨by omega, by omega⟩) (by simp [roots, rootsL]) (by decide) ?_
        simp [go_sem]
        refine ⟨m1, ?_⟩
        refine CallD.of (num_c _ m1.1 m1.2) (by simp [roots, rootsL]) (by decide) ?_
        simp [go_sem]
        simp [go_sem, hg]
        refine ⟨⟨by omega, by omega⟩, hk8, ?_⟩
        refine ⟨by kernel_rfl, ?_⟩
        simp [go_sem]
        refine ⟨by omega, j + 1, by omega, by omega, Off_reset _ _ _ (by simp), ?_, by omega⟩
        rw [← hset, hnext, List.length_set, avs_set]
      · have e : j = y.length := by omega
        have hall := mxS_all (A := floS f y k) (C := floS f y (k + 1)) (by rw [floS_len, floS_len])
        rw [floS_len] at hall
        subst e
        simp [go_sem]
        exact ⟨by omega, k + 1, by omega, by omega, (Off.reset (by intro x hx; simp at hx ⊢; omega) (by simp) (by simp [go_sem, Off_reset])), by rw [hall], by omega⟩
    · have e : k = 6 := by omega
      subst e
      simp [go_sem]
theorem FieldOk.wok {z : Int} {f : List (List Mon)} (hf : FieldOk z f) : ∀ F ∈ f, ∀ m ∈ F, WOk f.length 3 m := fun F hF m hm => by
  have h := partB_mem (hf.part F hF) hm
  have h1 := h.lo
  have h2 := h.hi
  have h3 := h.len
  have h4 := hf.len
  exact ⟨⟨by omega, by omega⟩, by omega, h.pw⟩
end Go.Proofs.YtnokgijakdaehaaGreatDoor


namespace Go.Proofs.YtnokgijakdaehaaGreatDoor
open Go.Abs
set_option linter.unusedSectionVars false
set_option linter.unusedVariables false
set_option linter.unusedSimpArgs false
set_option maxHeartbeats 2000000
end Go.Proofs.YtnokgijakdaehaaGreatDoor


namespace Go.Proofs.YtnokgijakdaehaaGreatDoor
open Go.Abs CR
set_option linter.unusedSectionVars false
set_option linter.unusedVariables false
set_option linter.unusedSimpArgs false
set_option maxHeartbeats 1000000
def toS (a : List Int) : Ser Int := fun n => a[n]?.getD 0
def csum (A B : Nat → Int) (n : Nat) : Nat → Int
  | 0 => 0
  | m + 1 => csum A B n m + A m * B (n - m)
theorem csum_shift (A B : Nat → Int) (n : Nat) : ∀ m, csum A B (n + 1) (m + 1) = A 0 * B (n + 1) + csum (sh A) B n m
  | 0 => by simp [csum]
  | m + 1 => by
    rw [csum, csum_shift A B n m, csum]
    have : n + 1 - (m + 1) = n - m := by omega
    rw [this, Int.add_assoc]; rfl
theorem csum_all : ∀ (n : Nat) (A B : Nat → Int), csum A B n (n + 1) = cmul n A B
  | 0, A, B => by simp [csum, cmul]
  | n + 1, A, B => by rw [csum_shift, csum_all n, cmul]
theorem cv_csum (a b : List Int) (n : Nat) : ∀ m, cv a b n m = csum (toS a) (toS b) n m
  | 0 => rfl
  | m + 1 => by rw [cv, cv_csum a b n m]; rfl
abbrev c7 : Cg (Ser Int) := cgS cgI 7
theorem mulS_ser {a b : List Int} (ha : a.length = 7) : c7.r (toS (mulS a b)) (toS a * toS b) := by
  intro n hn
  show (toS (mulS a b) n) % 10007 = (cmul n (toS a) (toS b)) % 10007
  rw [← csum_all, ← cv_csum]
  have e := tb_get (fun n => cv a b n (n + 1) % 10007) (show n < a.length by omega)
  have e2 : toS (mulS a b) n = cv a b n (n + 1) % 10007 := e
  rw [e2, Int.emod_emod_of_dvd _ (Int.dvd_refl _)]
theorem pwS_ser {s x : List Int} (hs : s.length = 7) : ∀ n, c7.r (toS (pwS s x n)) (toS s * pwr (toS x) n)
  | 0 => c7.eq (mul1 _).symm
  | n + 1 => by
    refine c7.trans (mulS_ser (by rw [pwS_len, hs])) ?_
    refine c7.trans (c7.mul (pwS_ser hs n) (c7.refl _)) (c7.eq ?_)
    rw [pwr, mulA]
def toU (L : List (List Int)) : Nat → Ser Int := fun k => toS (L[k]?.getD [])
theorem teS_ser {L : List (List Int)} {e s : List Int} (hs : s.length = 7) : ∀ d, c7.r (toS (teS L e s d)) (toS s * mon (toU L) (ex e) d)
  | 0 => c7.eq (mul1 _).symm
  | d + 1 => by
    refine c7.trans (pwS_ser (by rw [teS_len, hs]) _) ?_
    refine c7.trans (c7.mul (teS_ser hs d) (c7.refl _)) (c7.eq ?_)
    rw [mon, mulA]; rfl
theorem unS_ser (a : Int) : toS (unS a) = ofI a := funext fun n => by
  show ([a, 0, 0, 0, 0, 0, 0] : List Int)[n]?.getD 0 = if n = 0 then a else 0
  match n with
  | 0 => rfl
  | 1 => rfl
  | 2 => rfl
  | 3 => rfl
  | 4 => rfl
  | 5 => rfl
  | 6 => rfl
  | n + 7 => simp
theorem voS_ser (L : List (List Int)) : ∀ p : List Mon, c7.r (fun n => voS L n p) (evM L.length (toU L) p)
  | [] => fun n hn => by
    show (0 : Int) % 10007 = (evM L.length (toU L) [] n) % 10007
    rw [evM_nil]
    cases n <;> rfl
  | m :: p => by
    rw [evM_cons, ← unS_ser]
    have h1 := teS_ser (L := L) (e := m.2) (s := unS m.1) rfl L.length
    exact c7.add h1 (voS_ser L p)
theorem evS_ser (L : List (List Int)) (p : List Mon) : c7.r (toS (evS L p)) (evM L.length (toU L) p) := by
  refine c7.trans (fun n hn => ?_) (voS_ser L p)
  have e := tb_get (fun n => voS L n p % 10007) hn
  have e2 : toS (evS L p) n = voS L n p % 10007 := e
  show toS (evS L p) n % 10007 = voS L n p % 10007
  rw [e2, Int.emod_emod_of_dvd _ (Int.dvd_refl _)]
section
variable {α : Type} [CR α]
theorem Cg.evM (c : Cg α) {d : Nat} {U V : Nat → α} (h : ∀ k, k < d → c.r (U k) (V k)) (L : List Mon) : c.r (evM d U L) (evM d V L) := c.ev h _
theorem mon_zero (U : Nat → α) {e : Nat → Nat} : ∀ {d : Nat}, (∀ j, j < d → e j = 0) → mon U e d = ofI 1
  | 0, _ => rfl
  | d + 1, h => by rw [mon, mon_zero U (fun j hj => h j (by omega)), h d (by omega), pwr, mul1]
theorem mon_one (U : Nat → α) {e : Nat → Nat} {k : Nat} (h1 : e k = 1) (h0 : ∀ j, j ≠ k → e j = 0) : ∀ {d : Nat}, k < d → mon U e d = U k
  | 0, h => by omega
  | d + 1, h => by
    rw [mon]
    by_cases hk : k = d
    · subst hk
      rw [mon_zero U (fun j hj => h0 j (by omega)), h1, omul, pwr, pwr, omul]
    · rw [mon_one U h1 h0 (show k < d by omega), h0 d (fun e => hk e.symm), pwr, mul1]
theorem ex_one {n k : Nat} (h : k < n) : ex (oneE n k) k = 1 ∧ ∀ j, j ≠ k → ex (oneE n k) j = 0 := by
  refine ⟨by simp [ex, oneE, h], fun j hj => ?_⟩
  unfold ex oneE
  rw [List.getElem?_set_ne (Ne.symm hj)]
  by_cases hjn : j < n
  · simp [hjn]
  · simp [List.getElem?_eq_none (show (List.replicate n (0 : Int)).length ≤ j by simp; omega)]
theorem evM_one (U : Nat → α) {d k : Nat} (h : k < d) : evM d U [(1, oneE d k)] = U k := by
  rw [evM_cons, evM_nil, add0, omul]
  exact mon_one U (ex_one h).1 (ex_one h).2 h
end
theorem FieldOk.lok {z : Int} {f : List (List Mon)} (hf : FieldOk z f) : ∀ F ∈ f, LOk f.length F := fun F hF m hm => ⟨(hf.wok F hF m hm).len, fun x hx => ((hf.wok F hF m hm).pw x hx).1⟩
theorem oneE_lok (n k : Nat) : LOk n [(1, oneE n k)] := fun m hm => by
  simp at hm; subst hm
  exact ⟨oneE_wok.len, fun x hx => (oneE_wok (n := n) (k := k).pw x hx).1⟩
theorem inv_6 : ∀ n : Nat, n < 6 → ((n + 1 : Nat) : Int) * pw ((n : Int) + 1) 10005 % 10007 = 1 := by
  have h : ∀ n ∈ List.range 6, ((n + 1 : Nat) : Int) * pw ((n : Int) + 1) 10005 % 10007 = 1 := by decide +kernel
  exact fun n hn => h n (by simpa using hn)
theorem floS_at {f : List (List Mon)} {y : List Int} (n : Nat) {k : Nat} (hk : k < y.length) : (floS f y (n + 1))[k]?.getD [] = ((floS f y n)[k]?.getD []).set (n + 1) (((fdS (floS f y n) f)[k]?.getD [])[n]?.getD 0 * pw ((n : Int) + 1) 10005 % 10007) := by
  simp [floS, hk]
theorem floS_keep {f : List (List Mon)} {y : List Int} {k j : Nat} (hk : k < y.length) (n : Nat) (hj : j ≤ n) : ∀ m, ((floS f y (n + m))[k]?.getD [])[j]?.getD 0 = ((floS f y n)[k]?.getD [])[j]?.getD 0
  | 0 => rfl
  | m + 1 => by
    rw [← Nat.add_assoc, floS_at (n + m) hk, List.getElem?_set_ne (by omega), floS_keep hk n hj m]
theorem floS_new {f : List (List Mon)} {y : List Int} {n k : Nat} (hy : Ns y) (hk : k < y.length) (hf : k < f.length) (hn : n < 6) : ((floS f y (n + 1))[k]?.getD [])[n + 1]?.getD 0 = (evS (floS f y n) (f[k]?.getD []))[n]?.getD 0 * pw ((n : Int) + 1) 10005 % 10007 := by
  have hr := (floS_row (f := f) hy n _ (memD [] (show k < (floS f y n).length by rw [floS_len]; exact hk))).1
  have e : (fdS (floS f y n) f)[k]?.getD [] = evS (floS f y n) (f[k]?.getD []) := by simp [fdS, hf]
  rw [floS_at n hk, e, List.getElem?_set_self (by omega)]; rfl
theorem floS_ode {z : Int} {f : List (List Mon)} {y : List Int} (hf : FieldOk z f) (hl : y.length = f.length) (hy : Ns y) : ∀ k, k < f.length → ∀ n, n < 6 → cgI.r (ofI ((n + 1 : Nat) : Int) * toU (floS f y 6) k (n + 1)) (evM f.length (toU (floS f y 6)) (f[k]?.getD []) n) := by
  intro k hk n hn
  have hky : k < y.length := by omega
  have e1 : toU (floS f y 6) k (n + 1) = (evS (floS f y n) (f[k]?.getD []))[n]?.getD 0 * pw ((n : Int) + 1) 10005 % 10007 := by
    rw [← floS_new hy hky hk hn]
    have := floS_keep (f := f) hky (n + 1) (Nat.le_refl _) (6 - (n + 1))
    rw [show n + 1 + (6 - (n + 1)) = 6 by omega] at this
    exact this
  have e2 : cgI.r ((evS (floS f y n) (f[k]?.getD []))[n]?.getD 0) (evM f.length (toU (floS f y 6)) (f[k]?.getD []) n) := by
    have h1 := evS_ser (floS f y n) (f[k]?.getD []) n (by omega)
    rw [floS_len, hl] at h1
    refine cgI.trans h1 ?_
    refine (cgS cgI (n + 1)).evM (U := toU (floS f y n)) (V := toU (floS f y 6)) (fun j hj i hi => ?_) (f[k]?.getD []) n (by omega)
    have := floS_keep (f := f) (show j < y.length by omega) n (show i ≤ n by omega) (6 - n)
    rw [show n + (6 - n) = 6 by omega] at this
    exact cgI.eq this.symm
  rw [e1]
  refine cgI.trans ?_ e2
  have h3 := inv_6 n hn
  generalize (evS (floS f y n) (f[k]?.getD []))[n]?.getD 0 = v at *
  generalize pw ((n : Int) + 1) 10005 = w at *
  show (((n + 1 : Nat) : Int) * (v * w % 10007)) % 10007 = v % 10007
  have e : ((n + 1 : Nat) : Int) * (v * w) = v * (((n + 1 : Nat) : Int) * w) := by ac_rfl
  rw [Int.mul_emod, Int.emod_emod_of_dvd _ (Int.dvd_refl _), ← Int.mul_emod, e, Int.mul_emod, h3, Int.mul_one, Int.emod_emod_of_dvd _ (Int.dvd_refl _)]
theorem poS_at {y : List Int} {k : Nat} (hk : k < y.length) : (poS y)[k]?.getD [] = unS (y[k]?.getD 0) := by simp [poS, hk]
end Go.Proofs.YtnokgijakdaehaaGreatDoor


namespace Go.Proofs.YtnokgijakdaehaaGreatDoor
open Go.Abs
set_option linter.unusedSectionVars false
set_option linter.unusedVariables false
set_option linter.unusedSimpArgs false
set_option maxHeartbeats 1000000
def fpE (z : Int) (f : List (List Mon)) (y : List Int) : Int := if fieldB z f = true then if vecB z y = true then 0 else 2 else 1
theorem fpE_ok {z : Int} {f : List (List Mon)} {y : List Int} (h : fpE z f y = 0) : FieldOk z f ∧ (y.length : Int) = z ∧ Ns y := by
  unfold fpE at h
  split at h
  · rename_i hF
    split at h
    · rename_i hV
      unfold vecB at hV
      simp only [Bool.and_eq_true, decide_eq_true_eq] at hV
      exact ⟨fieldB_iff.1 hF, hV.1, numsB_N.1 hV.2⟩
    · simp at h
  · simp at h
theorem chk_one (z : Int) (f : List (List Mon)) (y : List Int) : chk z f [y] = fpE z f y := by
  unfold chk fpE
  cases hV : vecB z y <;> simp [hV]
def fsX (z : Int) (f : List (List Mon)) (y : List Int) : List (List Int) := if fpE z f y = 0 then turnS (floS f y 6) else []
def fsR (z : Int) (f : List (List Mon)) (y : List Int) : AV := .tup [.own 25 (fsX z f y).length (omat (fsX z f y)), .int (fpE z f y)]
theorem flo_turn {f : List (List Mon)} {y : List Int} (y1 : 1 ≤ y.length) (hy : Ns y) (n : Nat) : (turnS (floS f y n)).length = 7 ∧ ∀ r ∈ turnS (floS f y n), r.length = y.length ∧ Ns r := by
  have sr := floS_row (f := f) hy n
  have s0 := memD (i := 0) [] (l := floS f y n) (by rw [floS_len]; omega)
  refine ⟨by rw [turnS_len, (sr _ s0).1], fun r h => ?_⟩
  have := turnS_row rfl (fun r h => (sr r h).2) r h
  rw [floS_len] at this
  exact this
theorem fsX_row {z : Int} {f : List (List Mon)} {y : List Int} (h : fpE z f y = 0) : (fsX z f y).length = 7 ∧ ∀ r ∈ fsX z f y, r.length = y.length ∧ Ns r := by
  obtain ⟨hF, hl, hN⟩ := fpE_ok h
  have z1 := hF.lo
  unfold fsX
  rw [if_pos h]
  exact flo_turn (by omega) hN 6
set_option maxRecDepth 100000 in
theorem FlowSeries_c (z : Int) (f : List (List Mon)) (y : List Int) (hs : Small f) (hy : y.length ≤ 1048576) :
    Con Tryz.prog 33 [.agg [.int z, .sl f.length (prt f)], .sl y.length (avs y)] (fsR z f y) := by
  have cK := checkVectors_c z f [y] hs (by simp) (by simp; omega)
  have e1 : mat [y] = [.sl y.length (avs y)] := rfl
  have e2 : ([y] : List (List Int)).length = 1 := rfl
  rw [e1, e2, chk_one] at cK
  unfold fsR fsX
  have hz := @fpE_ok z f y
  generalize fpE z f y = e at *
  by_cases he : e = 0
  · subst he
    obtain ⟨hF, hl, hN⟩ := hz rfl
    have z1 := hF.lo
    have z3 := hF.hi
    have zl := hF.len
    have cP := polynomials_c z f hF hs
    have cL := flow_c f y hF hs hl hN
    obtain ⟨t1, t2⟩ := flo_turn (f := f) (by omega) hN 6
    have sl := floS_len f y 6
    have sr := floS_row (f := f) hN 6
    have s0 := memD (i := 0) [] (l := floS f y 6) (by omega)
    have s7 := (sr _ s0).1
    have cE := turned_c (floS f y 6) (by omega) (by omega) (fun r h => by have := (sr r h).1; omega) (by omega)
    rw [sl] at cE
    rw [if_pos rfl]
    generalize turnS (floS f y 6) = X at *
    generalize floS f y 6 = E at *
    refine con_of_vc Tryz.mixed ⟨7, [], [], []⟩ Tryz.func33 (by decide) rfl (by simp) (by decide) (by simp [freshOK, freshL, go_sem]) ?_
    rw [Tryz.ntmps33]
    simp [go_sem]
    refine CallVC.of (cK) (by decide) ?_
    simp [go_sem]
    refine CallVC.of (cP) (by decide) ?_
    simp [go_sem]
    refine CallVC.of (cL) (by decide) ?_
    simp [go_sem]
    refine CallVC.of (cE) (by decide) ?_
    simp [go_sem]
  · rw [if_neg he]
    refine Con.n1 _ ?_
    refine con_of_vc Tryz.mixed ⟨7, [], [], []⟩ Tryz.func33 (by decide) rfl (by simp) (by decide) (by simp [freshOK, freshL, go_sem]) ?_
    rw [Tryz.ntmps33]
    simp [go_sem]
    refine CallVC.of (cK) (by decide) ?_
    simp [go_sem]
    simp [go_sem, he]
end Go.Proofs.YtnokgijakdaehaaGreatDoor


namespace Go.Proofs.YtnokgijakdaehaaGreatDoor
open Go.Abs
set_option linter.unusedSectionVars false
set_option linter.unusedVariables false
set_option linter.unusedSimpArgs false
set_option maxHeartbeats 1000000
end Go.Proofs.YtnokgijakdaehaaGreatDoor


namespace Go.Proofs.YtnokgijakdaehaaGreatDoor
open Go.Abs
set_option linter.unusedSectionVars false
set_option linter.unusedVariables false
set_option linter.unusedSimpArgs false
set_option maxHeartbeats 1000000
theorem mvS_first {start : List (List Int)} {c : List Int} {L : List (List (List Int))} (hs : ∀ r ∈ start, r.length = 7 ∧ Ns r) : ∀ i k, k < start.length → ((mvS start c L i)[k]?.getD [])[0]?.getD 0 = (start[k]?.getD [])[0]?.getD 0
  | 0, _, _ => rfl
  | i + 1, k, hk => by
    have ih := mvS_first (c := c) (L := L) hs i k hk
    have hm := mvS_row (c := c) (L := L) hs i _ (memD [] (show k < (mvS start c L i).length by rw [mvS_len]; exact hk))
    have e : (mvS start c L (i + 1))[k]?.getD [] = plusS ((mvS start c L i)[k]?.getD []) (raiS ((L[i]?.getD [])[k]?.getD [])) (c[i]?.getD 0) := by simp [mvS, hk]
    have e2 : (raiS ((L[i]?.getD [])[k]?.getD []))[0]?.getD 0 = 0 := by
      unfold raiS
      rcases Nat.lt_or_ge 0 ((L[i]?.getD [])[k]?.getD []).length with h | h
      · rw [tb_get _ h]; rfl
      · rw [List.getElem?_eq_none (by simpa using h)]; rfl
    have h3 := tb_get (fun j => (((mvS start c L i)[k]?.getD [])[j]?.getD 0 + c[i]?.getD 0 % 10007 * (raiS ((L[i]?.getD [])[k]?.getD []))[j]?.getD 0) % 10007) (show 0 < ((mvS start c L i)[k]?.getD []).length by omega)
    have hn := hm.2.get 0
    rw [e]
    unfold plusS
    rw [h3, e2, Int.mul_zero, Int.add_zero, Int.emod_eq_of_lt hn.1 (by have := hn.2; omega), ih]
end Go.Proofs.YtnokgijakdaehaaGreatDoor


namespace Go.Proofs.YtnokgijakdaehaaGreatDoor
open Go.Abs
set_option linter.unusedSectionVars false
set_option linter.unusedVariables false
set_option linter.unusedSimpArgs false
set_option maxHeartbeats 1000000
end Go.Proofs.YtnokgijakdaehaaGreatDoor


namespace Go.Proofs.YtnokgijakdaehaaGreatDoor
open Go.Abs
set_option linter.unusedSectionVars false
set_option linter.unusedVariables false
set_option linter.unusedSimpArgs false
set_option maxHeartbeats 1000000
end Go.Proofs.YtnokgijakdaehaaGreatDoor

