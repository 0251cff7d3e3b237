/- Texts of the own layer and contracts, part 6: C0 C1 C4 C5 C6 C7 C8 C2 C9 C10 C11 C12 C13 W0 P0 F0 F1 F2 F3 F4 F5 F6 P1 P2 P3 P4 P5 P6 F7 Q0 G0 G1 Q1 Q2 L3 Q9 Q10 Q11 Q12 Q13 Q3 Q4 Q5 P7 Q6 Q7 Q8 Q14 W12 Q29 W13 V2 Q35 Q37 V0 V1 W1 W3 W14 W15 W6. -/
import Derived.Test.YtmojbncbbnjblaaGreatM5
namespace Go.Abs
def avs (xs : List Int) : List AV := xs.map AV.int
@[simp] theorem avs_len (xs : List Int) : (avs xs).length = xs.length := by simp [avs]
@[simp] theorem avs_nil : avs [] = [] := rfl
theorem avs_snoc (xs : List Int) (x : Int) : avs (xs ++ [x]) = avs xs ++ [.val (.int .i64 x)] := by simp [avs]
theorem avs_cons (xs : List Int) (x : Int) : avs (x :: xs) = .val (.int .i64 x) :: avs xs := by simp [avs]
theorem avs_drop {xs : List Int} {k : Nat} (h : k < xs.length) : (avs xs).drop k = .val (.int .i64 (xs.getD k 0)) :: avs (xs.drop (k + 1)) := by
  rw [avs, ← List.map_drop, List.drop_eq_getElem_cons h, List.map_cons]; simp [h, avs]
@[simp] theorem avs_inj {xs ys : List Int} : (avs xs = avs ys) = (xs = ys) := by
  apply propext
  constructor
  · intro h
    induction xs generalizing ys with
    | nil => cases ys with
      | nil => rfl
      | cons y ys => simp [avs] at h
    | cons x xs ih => cases ys with
      | nil => simp [avs] at h
      | cons y ys =>
        rw [avs_cons, avs_cons] at h
        injection h with h1 h2
        injection h1 with h1
        injection h1 with _ h1
        rw [h1, ih h2]
  · rintro rfl; rfl
theorem avs_set (xs : List Int) (k : Nat) (x : Int) : (avs xs).set k (.val (.int .i64 x)) = avs (xs.set k x) := by
  simp [avs, List.map_set]
theorem avs_repl (n : Nat) (x : Int) : List.replicate n (AV.val (.int .i64 x)) = avs (List.replicate n x) := by simp [avs]
@[simp] theorem avs_fresh (xs : List Int) : freshL (avs xs) = true := by
  induction xs with
  | nil => rfl
  | cons x xs ih => simp [avs_cons, freshL, ih, freshOK]
@[simp] theorem avs_frz (xs : List Int) : frzL (avs xs) = avs xs := by
  induction xs with
  | nil => rfl
  | cons x xs ih => simp [avs_cons, frzL, ih, frz]
@[simp] theorem avs_kl (W : List Nat) (xs : List Int) : klL W (avs xs) = avs xs := by
  induction xs with
  | nil => rfl
  | cons x xs ih => simp [avs_cons, klL, ih, kl]
@[simp] theorem avs_own (xs : List Int) : hasOwnL (avs xs) = false := by
  induction xs with
  | nil => rfl
  | cons x xs ih => simp [avs_cons, hasOwnL, ih, hasOwn]
@[simp] theorem avs_ne {xs : List Int} : (avs xs = []) = (xs = []) := by
  cases xs <;> simp [avs]
theorem tmod_up {n : Int} (h : 0 ≤ n) (m : Int) : n.tmod m = n % m := Int.tmod_eq_emod_of_nonneg h
theorem tdiv_up {n : Int} (h : 0 ≤ n) (m : Int) : n.tdiv m = n / m := Int.tdiv_eq_ediv_of_nonneg h
theorem num_law (n : Int) : (n.tmod 10007 + 10007).tmod 10007 = n % 10007 := by
  rw [Int.tmod_eq_emod, Int.tmod_eq_emod]; split <;> split <;> simp_all <;> omega
theorem num_low (n : Int) : -10007 < n.tmod 10007 ∧ n.tmod 10007 < 10007 := by
  constructor
  · rw [Int.tmod_eq_emod]; split <;> simp_all <;> omega
  · exact Int.tmod_lt_of_pos n (by omega)
end Go.Abs


namespace Go.Proofs.YtmojbncbbnjblaaGreat
open Go.Abs
set_option linter.unusedVariables false
set_option linter.unusedSimpArgs false
set_option maxHeartbeats 400000
theorem inRange_c (n a b : Int) : Con Tryz.prog 101 [.int n, .int a, .int b] (.bool (decide (a ≤ n) && decide (n ≤ b))) := by
  refine con_of_vc Tryz.mixed ⟨4, [], [], []⟩ Tryz.func101 (by decide) rfl (by simp) (by decide) rfl ?_
  rw [Tryz.ntmps101]
  simp [go_sem]
  refine ⟨fun h => ?_, fun h => ?_⟩ <;> simp at h <;> simp [go_sem, h] <;> omega
theorem l01In_c (n a b : Int) : Con Tryz.prog 94 [.int n, .int a, .int b] (.bool (decide (a ≤ n) && decide (n ≤ b))) := by
  refine con_of_vc Tryz.mixed ⟨4, [], [], []⟩ Tryz.func94 (by decide) rfl (by simp) (by decide) rfl ?_
  rw [Tryz.ntmps94]
  simp [go_sem]
  refine ⟨fun h => ?_, fun h => ?_⟩ <;> simp at h <;> simp [go_sem, h] <;> omega
def held (xs : List Int) (k : Int) : Int := if xs = (List.range xs.length).map (fun (i : Nat) => k + i) then k + xs.length else -1
end Go.Proofs.YtmojbncbbnjblaaGreat


namespace Go.Proofs.YtmojbncbbnjblaaGreat
open Go.Abs
set_option linter.unusedVariables false
set_option linter.unusedSimpArgs false
set_option maxHeartbeats 1000000
def idxF {α : Type} (p : α → Bool) : List α → Int
  | [] => -1
  | x :: xs => if p x then 0 else if idxF p xs = -1 then -1 else idxF p xs + 1
theorem idxF_ge {α : Type} (p : α → Bool) : ∀ xs : List α, -1 ≤ idxF p xs ∧ idxF p xs < xs.length
  | [] => by simp [idxF]
  | x :: xs => by
    have := idxF_ge p xs
    simp only [idxF, List.length_cons]
    split
    · omega
    · split <;> omega
theorem idxF_any {α : Type} (p : α → Bool) (xs : List α) : decide (0 ≤ idxF p xs) = xs.any p := by
  induction xs with
  | nil => simp [idxF]
  | cons x xs ih =>
    have := idxF_ge p xs
    simp only [idxF, List.any_cons, ← ih]
    by_cases hp : p x = true
    · simp [hp]
    · simp only [hp]
      simp
      split
      · rename_i e; simp [e]
      · by_cases h : 0 ≤ idxF p xs <;> simp [h] <;> omega
theorem idxF_skip {α : Type} (p : α → Bool) : ∀ (xs : List α) (i : Nat), (∀ x ∈ xs.take i, p x = false) → i ≤ xs.length → (idxF p xs = if idxF p (xs.drop i) = -1 then -1 else idxF p (xs.drop i) + i)
  | xs, 0, h, hl => by simp
  | [], i + 1, h, hl => by simp at hl
  | x :: xs, i + 1, h, hl => by
    have h1 : p x = false := h x (by simp)
    have h2 := idxF_skip p xs i (fun y hy => h y (by simp [hy])) (by simpa using hl)
    simp only [idxF, h1, List.drop_succ_cons]
    have := (idxF_ge p (xs.drop i)).1
    simp
    rw [h2]
    split
    · simp
    · rename_i hne
      rw [if_neg (by omega)]
      omega
theorem IndexFuncI_c (g : FuncId) (p : Int → Bool) (xs : List Int) (hl : xs.length ≤ 9223372036854775807) (hg : ∀ x ∈ xs, Con Tryz.prog g [.int x] (.bool (p x))) :
    Con Tryz.prog 186 [.sl xs.length (avs xs), .val (.func (.func g) #[] #[])] (.int (idxF p xs)) := by
  refine con_of_vc Tryz.mixed ⟨6, [], [], []⟩ Tryz.func186 (by decide) rfl (by simp) (by decide) rfl ?_
  rw [Tryz.ntmps186]
  simp [go_sem]
  refine loop_inv (5 :: List.range' 8 20) (fun i : Nat => [(8, .int i)]) (fun i => i ≤ xs.length ∧ ∀ x ∈ xs.take i, p x = false) (fun i => xs.length - i) 0 (by simp) (by simp [go_sem]) (by simp [go_sem]) ?_
  rintro i ⟨hi, hf⟩
  simp [go_sem]
  have sk := idxF_skip p xs i hf hi
  refine ⟨fun h => ?_, fun h => ?_⟩ <;> simp at h
  · have hx : xs[i]?.getD 0 ∈ xs := by simp [h]
    have hd : xs.drop i = xs[i]?.getD 0 :: xs.drop (i + 1) := by rw [List.drop_eq_getElem_cons h]; simp [h]
    simp [go_sem, avs_drop h]
    refine ⟨⟨h, by rintro rfl; simp at h⟩, CallVC.of (hg _ hx) (by decide) ?_⟩
    simp [go_sem]
    refine ⟨fun h2 => ?_, fun h2 => ?_⟩ <;> simp [go_sem]
    · rw [sk, hd]; simp [idxF, h2]
    · refine ⟨by omega, i + 1, ⟨by omega, ?_⟩, by omega, Off_reset _ _ _ (by simp), by omega⟩
      intro x hx2
      rw [List.take_add_one, List.getElem?_eq_getElem h, Option.toList_some, List.mem_append, List.mem_singleton] at hx2
      rcases hx2 with hx2 | hx2
      · exact hf x hx2
      · rw [hx2]; simpa [h] using h2
  · simp [go_sem]
    rw [sk, List.drop_eq_nil_of_le h]; simp [idxF]
theorem ContainsFuncI_c (g : FuncId) (p : Int → Bool) (xs : List Int) (hl : xs.length ≤ 9223372036854775807) (hg : ∀ x ∈ xs, Con Tryz.prog g [.int x] (.bool (p x))) :
    Con Tryz.prog 154 [.sl xs.length (avs xs), .val (.func (.func g) #[] #[])] (.bool (xs.any p)) := by
  refine con_of_vc Tryz.mixed ⟨5, [], [], []⟩ Tryz.func154 (by decide) rfl (by simp) (by decide) rfl ?_
  rw [Tryz.ntmps154]
  simp [go_sem]
  refine CallVC.of (IndexFuncI_c g p xs hl hg) (by decide) ?_
  simp [go_sem, idxF_any]
theorem IsNumber_c (a : Int) : Con Tryz.prog 62 [.int a] (.bool (decide (0 ≤ a ∧ a ≤ 10006))) := by
  refine con_of_vc Tryz.mixed ⟨3, [], [], []⟩ Tryz.func62 (by decide) rfl (by simp) (by decide) rfl ?_
  rw [Tryz.ntmps62]
  simp [go_sem]
  refine CallVC.of (inRange_c _ _ _) (by decide) ?_
  simp [go_sem]
theorem notNumber_c (a : Int) : Con Tryz.prog 155 [.int a] (.bool (!decide (0 ≤ a ∧ a ≤ 10006))) := by
  refine con_of_vc Tryz.mixed ⟨3, [], [], []⟩ Tryz.func155 (by decide) rfl (by simp) (by decide) rfl ?_
  rw [Tryz.ntmps155]
  simp [go_sem]
  refine CallVC.of (IsNumber_c _) (by decide) ?_
  simp [go_sem]
def numsB (xs : List Int) : Bool := xs.all fun a => decide (0 ≤ a ∧ a ≤ 10006)
theorem areNumbers_c (xs : List Int) (hl : xs.length ≤ 9223372036854775807) : Con Tryz.prog 118 [.sl xs.length (avs xs)] (.bool (numsB xs)) := by
  refine con_of_vc Tryz.mixed ⟨3, [], [], []⟩ Tryz.func118 (by decide) rfl (by simp) (by decide) rfl ?_
  rw [Tryz.ntmps118]
  simp [go_sem]
  refine CallVC.of (ContainsFuncI_c _ _ xs hl (fun x _ => notNumber_c x)) (by decide) ?_
  simp [go_sem, numsB, List.not_any_eq_all_not]
end Go.Proofs.YtmojbncbbnjblaaGreat


namespace Go.Proofs.YtmojbncbbnjblaaGreat
open Go.Abs
set_option linter.unusedVariables false
set_option linter.unusedSimpArgs false
set_option maxHeartbeats 1000000
def mat (xss : List (List Int)) : List AV := xss.map fun r => .sl r.length (avs r)
@[simp] theorem mat_len (xss : List (List Int)) : (mat xss).length = xss.length := by simp [mat]
theorem mat_drop {xss : List (List Int)} {k : Nat} (h : k < xss.length) : (mat xss).drop k = .sl (xss[k]?.getD []).length (avs (xss[k]?.getD [])) :: mat (xss.drop (k + 1)) := by
  rw [mat, ← List.map_drop, List.drop_eq_getElem_cons h, List.map_cons]; simp [h, mat]
@[simp] theorem mat_ne {xss : List (List Int)} : (mat xss = []) = (xss = []) := by cases xss <;> simp [mat]
theorem IndexFuncM_c (g : FuncId) (s : Int) (p : List Int → Bool) (xss : List (List Int)) (hl : xss.length ≤ 9223372036854775807) (hg : ∀ x ∈ xss, Con Tryz.prog g [.sl x.length (avs x), .fptr [.int s]] (.bool (p x))) :
    Con Tryz.prog 141 [.sl xss.length (mat xss), .fn g [.fptr [.int s]]] (.int (idxF p xss)) := by
  refine con_of_vc Tryz.mixed ⟨6, [], [], []⟩ Tryz.func141 (by decide) rfl (by simp) (by decide) rfl ?_
  rw [Tryz.ntmps141]
  simp [go_sem]
  refine loop_inv (5 :: List.range' 8 20) (fun i : Nat => [(8, .int i)]) (fun i => i ≤ xss.length ∧ ∀ x ∈ xss.take i, p x = false) (fun i => xss.length - i) 0 (by simp) (by simp [go_sem]) (by simp [go_sem]) ?_
  rintro i ⟨hi, hf⟩
  simp [go_sem]
  have sk := idxF_skip p xss i hf hi
  refine ⟨fun h => ?_, fun h => ?_⟩ <;> simp at h
  · have hx : xss[i]?.getD [] ∈ xss := by simp [h]
    have hd : xss.drop i = xss[i]?.getD [] :: xss.drop (i + 1) := by rw [List.drop_eq_getElem_cons h]; simp [h]
    simp [go_sem, mat_drop h]
    refine ⟨⟨h, by rintro rfl; simp at h⟩, CallVC.of (hg _ hx) (by decide) ?_⟩
    simp [go_sem]
    refine ⟨fun h2 => ?_, fun h2 => ?_⟩ <;> simp [go_sem]
    · rw [sk, hd]; simp [idxF, h2]
    · refine ⟨by omega, i + 1, ⟨by omega, ?_⟩, by omega, Off_reset _ _ _ (by simp), by omega⟩
      intro x hx2
      rw [List.take_add_one, List.getElem?_eq_getElem h, Option.toList_some, List.mem_append, List.mem_singleton] at hx2
      rcases hx2 with hx2 | hx2
      · exact hf x hx2
      · rw [hx2]; simpa [h] using h2
  · simp [go_sem]
    rw [sk, List.drop_eq_nil_of_le h]; simp [idxF]
theorem ContainsFuncM_c (g : FuncId) (s : Int) (p : List Int → Bool) (xss : List (List Int)) (hl : xss.length ≤ 9223372036854775807) (hg : ∀ x ∈ xss, Con Tryz.prog g [.sl x.length (avs x), .fptr [.int s]] (.bool (p x))) :
    Con Tryz.prog 89 [.sl xss.length (mat xss), .fn g [.fptr [.int s]]] (.bool (xss.any p)) := by
  refine con_of_vc Tryz.mixed ⟨5, [], [], []⟩ Tryz.func89 (by decide) rfl (by simp) (by decide) rfl ?_
  rw [Tryz.ntmps89]
  simp [go_sem]
  refine CallVC.of (IndexFuncM_c g s p xss hl hg) (by decide) ?_
  simp [go_sem, idxF_any]
theorem badRow_c (x : List Int) (s : Int) (hl : x.length ≤ 9223372036854775807) : Con Tryz.prog 119 [.sl x.length (avs x), .fptr [.int s]] (.bool (!(decide ((x.length : Int) = s) && numsB x))) := by
  refine con_of_vc Tryz.mixed ⟨4, [], [], []⟩ Tryz.func119 (by decide) rfl (by simp) (by decide) rfl ?_
  rw [Tryz.ntmps119]
  simp [go_sem]
  by_cases h : (x.length : Int) = s
  · simp [go_sem, h]
    refine CallVC.of (areNumbers_c x hl) (by decide) ?_
    simp [go_sem, h]
  · simp [go_sem, h]
theorem length_c (n : Nat) (cs : List AV) (hn : n ≤ 9223372036854775807) : Con Tryz.prog 117 [.sl n cs] (.int n) := by
  refine con_of_vc Tryz.mixed ⟨3, [], [], []⟩ Tryz.func117 (by decide) rfl (by simp) (by decide) rfl ?_
  rw [Tryz.ntmps117]
  simp [go_sem]
  try omega
def tabB (A : List (List Int)) (B : List Int) : Bool := decide (1 ≤ B.length ∧ B.length ≤ 8 ∧ A.length = B.length) && numsB B && A.all fun r => decide (r.length = B.length) && numsB r
theorem IsTableau_c (A : List (List Int)) (B : List Int) (hA : A.length ≤ 9223372036854775807) (hB : B.length ≤ 9223372036854775807) (hr : ∀ r ∈ A, r.length ≤ 9223372036854775807) :
    Con Tryz.prog 66 [.agg [.sl A.length (mat A), .sl B.length (avs B)]] (.bool (tabB A B)) := by
  refine con_of_vc Tryz.mixed ⟨4, [], [], []⟩ Tryz.func66 (by decide) rfl (by simp) (by decide) rfl ?_
  rw [Tryz.ntmps66]
  simp [go_sem]
  refine CallVC.of (length_c _ _ hB) (by decide) ?_
  simp [go_sem]
  have cR := inRange_c B.length 1 8
  by_cases h1 : 1 ≤ B.length ∧ B.length ≤ 8
  · have e1 : (decide ((1 : Int) ≤ B.length) && decide ((B.length : Int) ≤ 8)) = true := by simp; omega
    rw [e1] at cR
    refine CallVC.of cR (by decide) ?_
    by_cases h2 : A.length = B.length
    · have h2' : (A.length : Int) = B.length := by omega
      simp [go_sem, h2, h2']
      refine CallVC.of (areNumbers_c B hB) (by decide) ?_
      by_cases h3 : numsB B = true
      · simp [go_sem, h3]
        have cM := ContainsFuncM_c 119 B.length (fun x => !(decide ((x.length : Int) = B.length) && numsB x)) A hA (fun x hx => badRow_c x B.length (hr x hx))
        rw [h2] at cM
        refine CallVC.of cM (by decide) ?_
        simp [go_sem, tabB, h1, h2, h3]
        rw [List.any_eq_not_all_not]
        congr 2
        funext r
        simp [show ((r.length : Int) = B.length) = (r.length = B.length) from propext ⟨fun e => by omega, fun e => by omega⟩]
      · simp at h3
        simp [go_sem, h3, tabB]
    · have h2' : ¬ (A.length : Int) = B.length := by omega
      simp [go_sem, h2, h2', tabB]
  · have e1 : (decide ((1 : Int) ≤ B.length) && decide ((B.length : Int) ≤ 8)) = false := by simp; omega
    rw [e1] at cR
    refine CallVC.of cR (by decide) ?_
    have e3 : tabB A B = false := by
      unfold tabB
      have : decide (1 ≤ B.length ∧ B.length ≤ 8 ∧ A.length = B.length) = false := by simp; omega
      rw [this]; simp
    rw [e3]
    simp [go_sem]
end Go.Proofs.YtmojbncbbnjblaaGreat


namespace Go.Proofs.YtmojbncbbnjblaaGreat
open Go.Abs
set_option linter.unusedVariables false
set_option linter.unusedSimpArgs false
set_option maxHeartbeats 1000000
end Go.Proofs.YtmojbncbbnjblaaGreat


namespace Go.Proofs.YtmojbncbbnjblaaGreat
open Go.Abs
set_option linter.unusedVariables false
set_option linter.unusedSimpArgs false
set_option maxHeartbeats 1000000
def omat (A : List (List Int)) : List AV := A.map fun r => .own 2 r.length (avs r)
@[simp] theorem omat_len (A : List (List Int)) : (omat A).length = A.length := by simp [omat]
@[simp] theorem omat_frz (A : List (List Int)) : frzL (omat A) = mat A := by
  induction A with
  | nil => rfl
  | cons r A ih => simp only [omat, mat, List.map_cons, frzL] at ih ⊢; rw [ih]; simp [frz]
@[simp] theorem omat_fresh (A : List (List Int)) : freshL (omat A) = true := by
  induction A with
  | nil => rfl
  | cons r A ih => simp only [omat, List.map_cons, freshL] at ih ⊢; rw [ih]; simp [freshOK]
end Go.Proofs.YtmojbncbbnjblaaGreat


namespace Go.Proofs.YtmojbncbbnjblaaGreat
open Go.Abs
set_option linter.unusedVariables false
set_option linter.unusedSimpArgs false
set_option maxHeartbeats 1000000
end Go.Proofs.YtmojbncbbnjblaaGreat


namespace Go.Proofs.YtmojbncbbnjblaaGreat
open Go.Abs
set_option linter.unusedVariables false
set_option linter.unusedSimpArgs false
set_option maxHeartbeats 1000000
def pw (a k : Int) : Int := a ^ k.toNat % 10007
theorem num_c (n : Int) (h0 : -9223372036854775808 ≤ n) (h1 : n ≤ 9223372036854775807) : Con Tryz.prog 99 [.int n] (.int (n % 10007)) := by
  have e := num_law n
  have b := num_low n
  refine con_of_vc Tryz.mixed ⟨3, [], [], []⟩ Tryz.func99 (by decide) rfl (by simp) (by decide) rfl ?_
  rw [Tryz.ntmps99]
  simp [go_sem, e]
  omega
theorem l01Mod_c (n : Int) (h0 : -9223372036854775808 ≤ n) (h1 : n ≤ 9223372036854775807) : Con Tryz.prog 150 [.int n] (.int (n % 10007)) := by
  have e := num_law n
  have b := num_low n
  refine con_of_vc Tryz.mixed ⟨3, [], [], []⟩ Tryz.func150 (by decide) rfl (by simp) (by decide) rfl ?_
  rw [Tryz.ntmps150]
  simp [go_sem, e]
  omega
def fits (n : Int) : Prop := -9223372036854775808 ≤ n ∧ n ≤ 9223372036854775807
theorem l01Mul_c (a b : Int) (h : fits (a * b)) : Con Tryz.prog 106 [.int a, .int b] (.int (a * b % 10007)) := by
  refine con_of_vc Tryz.mixed ⟨5, [], [], []⟩ Tryz.func106 (by decide) rfl (by simp) (by decide) rfl ?_
  rw [Tryz.ntmps106]
  simp [go_sem]
  refine ⟨h, CallVC.of (l01Mod_c _ h.1 h.2) (by decide) ?_⟩
  simp [go_sem]
theorem l01Sub_c (a b : Int) (h : fits (a - b)) : Con Tryz.prog 113 [.int a, .int b] (.int ((a - b) % 10007)) := by
  refine con_of_vc Tryz.mixed ⟨5, [], [], []⟩ Tryz.func113 (by decide) rfl (by simp) (by decide) rfl ?_
  rw [Tryz.ntmps113]
  simp [go_sem]
  refine ⟨h, CallVC.of (l01Mod_c _ h.1 h.2) (by decide) ?_⟩
  simp [go_sem]
theorem l01Add_c (a b : Int) (h : fits (a + b)) : Con Tryz.prog 149 [.int a, .int b] (.int ((a + b) % 10007)) := by
  refine con_of_vc Tryz.mixed ⟨5, [], [], []⟩ Tryz.func149 (by decide) rfl (by simp) (by decide) rfl ?_
  rw [Tryz.ntmps149]
  simp [go_sem]
  refine ⟨h, CallVC.of (l01Mod_c _ h.1 h.2) (by decide) ?_⟩
  simp [go_sem]
def isN (a : Int) : Prop := 0 ≤ a ∧ a < 10007
theorem isN_mod (n : Int) : isN (n % 10007) := ⟨Int.emod_nonneg _ (by omega), Int.emod_lt_of_pos _ (by omega)⟩
theorem mul_bound {a b : Int} (ha : isN a) (hb : isN b) : 0 ≤ a * b ∧ a * b ≤ 100120036 := by
  obtain ⟨a0, a1⟩ := ha
  obtain ⟨b0, b1⟩ := hb
  exact ⟨Int.mul_nonneg a0 b0, Int.le_trans (Int.mul_le_mul_of_nonneg_right (show a ≤ 10006 by omega) b0) (by omega)⟩
theorem mul_fits {a b : Int} (ha : isN a) (hb : isN b) : fits (a * b) := by
  have := mul_bound ha hb
  exact ⟨by omega, by omega⟩
theorem add_fits {a b : Int} (ha : isN a) (hb : isN b) : fits (a + b) := by
  obtain ⟨a0, a1⟩ := ha
  obtain ⟨b0, b1⟩ := hb
  exact ⟨by omega, by omega⟩
theorem sub_fits {a b : Int} (ha : isN a) (hb : isN b) : fits (a - b) := by
  obtain ⟨a0, a1⟩ := ha
  obtain ⟨b0, b1⟩ := hb
  exact ⟨by omega, by omega⟩
theorem pow_mod (a : Int) (k : Nat) : (a % 10007) ^ k % 10007 = a ^ k % 10007 := by
  induction k with
  | zero => simp
  | succ k ih => rw [Int.pow_succ, Int.pow_succ, Int.mul_emod, ih, Int.emod_emod, ← Int.mul_emod]
theorem sq_pow (a : Int) (q : Nat) : (a * a) ^ q = a ^ (2 * q) := by
  induction q with
  | zero => simp
  | succ q ih => rw [Int.pow_succ, ih, show 2 * (q + 1) = 2 * q + 1 + 1 by omega, Int.pow_succ, Int.pow_succ, Int.mul_assoc]
theorem mod_mul_r (o x : Int) : o * (x % 10007) % 10007 = o * x % 10007 := by
  rw [Int.mul_emod, Int.emod_emod, ← Int.mul_emod]
theorem mod_mul_l (o x : Int) : (x % 10007) * o % 10007 = x * o % 10007 := by
  rw [Int.mul_emod, Int.emod_emod, ← Int.mul_emod]
theorem pw_even (o a : Int) (q : Nat) : o * (a * a % 10007) ^ q % 10007 = o * a ^ (2 * q) % 10007 := by
  rw [← mod_mul_r, pow_mod, mod_mul_r, sq_pow]
theorem pw_odd (o a : Int) (q : Nat) : (o * a % 10007) * (a * a % 10007) ^ q % 10007 = o * a ^ (2 * q + 1) % 10007 := by
  rw [pw_even, mod_mul_l, Int.pow_succ, Int.mul_assoc, Int.mul_comm (a ^ (2 * q)) a]
theorem half_cast (j : Nat) : (j : Int).tdiv 2 = ((j / 2 : Nat) : Int) := by rw [tdiv_up (by omega)]; omega
theorem bit_cast (j : Nat) : (j : Int).tmod 2 = ((j % 2 : Nat) : Int) := by rw [tmod_up (by omega)]; omega
theorem pow_c (a k : Int) (ha : isN a) (hk : 0 ≤ k) (hk2 : k ≤ 9223372036854775807) : Con Tryz.prog 142 [.int a, .int k] (.int (pw a k)) := by
  refine con_of_vc Tryz.mixed ⟨6, [], [], []⟩ Tryz.func142 (by decide) rfl (by simp) (by decide) rfl ?_
  rw [Tryz.ntmps142]
  simp [go_sem]
  refine loop_inv (0 :: 1 :: List.range' 4 30) (fun x : Int × Nat × Int => [(0, .int x.1), (1, .int x.2.1), (5, .int x.2.2)])
    (fun x => isN x.1 ∧ (x.2.1 : Int) ≤ 9223372036854775807 ∧ isN x.2.2 ∧ x.2.2 * x.1 ^ x.2.1 % 10007 = a ^ k.toNat % 10007) (fun x => x.2.1) (a, k.toNat, 1) ⟨ha, by simp; omega, ⟨by simp, by simp⟩, by simp⟩ (by simp [go_sem]; omega) (by simp [go_sem]) ?_
  rintro ⟨b, j, o⟩ ⟨hb, hj, ho, he⟩
  simp only at hb hj ho he
  have f1 := mul_fits hb hb
  have f2 := mul_fits ho hb
  simp [go_sem]
  refine ⟨fun h => ?_, fun h => ?_⟩ <;> simp at h
  · simp [go_sem, half_cast, bit_cast]
    refine ⟨fun h2 => ?_, fun h2 => ?_⟩ <;> simp at h2 <;> simp [go_sem]
    · refine ⟨f2, CallVC.of (num_c _ f2.1 f2.2) (by decide) ?_⟩
      simp [go_sem]
      refine ⟨f1, CallVC.of (num_c _ f1.1 f1.2) (by decide) ?_⟩
      simp [go_sem, half_cast, bit_cast]
      refine ⟨by omega, b * b % 10007, j / 2, o * b % 10007, ⟨isN_mod _, by omega, isN_mod _, ?_⟩, by omega, Off_reset _ _ _ (by simp), rfl, by omega, rfl⟩
      rw [pw_odd, show 2 * (j / 2) + 1 = j by omega, he]
    · refine ⟨f1, CallVC.of (num_c _ f1.1 f1.2) (by decide) ?_⟩
      simp [go_sem, half_cast, bit_cast]
      refine ⟨by omega, b * b % 10007, j / 2, o, ⟨isN_mod _, by omega, ho, ?_⟩, by omega, Off_reset _ _ _ (by simp), rfl, by omega, rfl⟩
      rw [pw_even, show 2 * (j / 2) = j by omega, he]
  · simp [go_sem]
    subst h
    unfold pw
    rw [← he]
    simp
    rw [Int.emod_eq_of_lt ho.1 ho.2]
theorem l01Pow_c (a k : Int) (ha : isN a) (hk : 0 ≤ k) (hk2 : k ≤ 9223372036854775807) : Con Tryz.prog 130 [.int a, .int k] (.int (pw a k)) := by
  refine con_of_vc Tryz.mixed ⟨6, [], [], []⟩ Tryz.func130 (by decide) rfl (by simp) (by decide) rfl ?_
  rw [Tryz.ntmps130]
  simp [go_sem]
  refine loop_inv (0 :: 1 :: List.range' 4 30) (fun x : Int × Nat × Int => [(0, .int x.1), (1, .int x.2.1), (5, .int x.2.2)])
    (fun x => isN x.1 ∧ (x.2.1 : Int) ≤ 9223372036854775807 ∧ isN x.2.2 ∧ x.2.2 * x.1 ^ x.2.1 % 10007 = a ^ k.toNat % 10007) (fun x => x.2.1) (a, k.toNat, 1) ⟨ha, by simp; omega, ⟨by simp, by simp⟩, by simp⟩ (by simp [go_sem]; omega) (by simp [go_sem]) ?_
  rintro ⟨b, j, o⟩ ⟨hb, hj, ho, he⟩
  simp only at hb hj ho he
  have f1 := mul_fits hb hb
  have f2 := mul_fits ho hb
  simp [go_sem]
  refine ⟨fun h => ?_, fun h => ?_⟩ <;> simp at h
  · simp [go_sem, half_cast, bit_cast]
    refine ⟨fun h2 => ?_, fun h2 => ?_⟩ <;> simp at h2 <;> simp [go_sem]
    · refine CallVC.of (l01Mul_c _ _ f2) (by decide) ?_
      simp [go_sem]
      refine CallVC.of (l01Mul_c _ _ f1) (by decide) ?_
      simp [go_sem, half_cast, bit_cast]
      refine ⟨by omega, b * b % 10007, j / 2, o * b % 10007, ⟨isN_mod _, by omega, isN_mod _, ?_⟩, by omega, Off_reset _ _ _ (by simp), rfl, by omega, rfl⟩
      rw [pw_odd, show 2 * (j / 2) + 1 = j by omega, he]
    · refine CallVC.of (l01Mul_c _ _ f1) (by decide) ?_
      simp [go_sem, half_cast, bit_cast]
      refine ⟨by omega, b * b % 10007, j / 2, o, ⟨isN_mod _, by omega, ho, ?_⟩, by omega, Off_reset _ _ _ (by simp), rfl, by omega, rfl⟩
      rw [pw_even, show 2 * (j / 2) = j by omega, he]
  · simp [go_sem]
    subst h
    unfold pw
    rw [← he]
    simp
    rw [Int.emod_eq_of_lt ho.1 ho.2]
theorem l01Inv_c (a : Int) (ha : isN a) : Con Tryz.prog 74 [.int a] (.int (pw a 10005)) := by
  refine con_of_vc Tryz.mixed ⟨3, [], [], []⟩ Tryz.func74 (by decide) rfl (by simp) (by decide) rfl ?_
  rw [Tryz.ntmps74]
  simp [go_sem]
  refine CallVC.of (l01Pow_c _ _ ha (by omega) (by omega)) (by decide) ?_
  simp [go_sem]
end Go.Proofs.YtmojbncbbnjblaaGreat


namespace Go.Proofs.YtmojbncbbnjblaaGreat
open Go.Abs
set_option linter.unusedVariables false
set_option linter.unusedSimpArgs false
set_option maxHeartbeats 1000000
end Go.Proofs.YtmojbncbbnjblaaGreat


namespace Go.Proofs.YtmojbncbbnjblaaGreat
open Go.Abs
set_option linter.unusedVariables false
set_option linter.unusedSimpArgs false
set_option maxHeartbeats 1000000
def Ns (xs : List Int) : Prop := ∀ x ∈ xs, isN x
theorem Ns.get {xs : List Int} (h : Ns xs) (k : Nat) : isN (xs[k]?.getD 0) := by
  rcases Nat.lt_or_ge k xs.length with hk | hk
  · simp [hk]; exact h _ (List.getElem_mem hk)
  · simp [hk]; exact ⟨by omega, by omega⟩
theorem Ns.take {xs : List Int} (h : Ns xs) (k : Nat) : Ns (xs.take k) := fun x hx => h x (List.mem_of_mem_take hx)
theorem Ns.nil : Ns [] := by intro x hx; simp at hx
def Mat (n : Nat) (A : List (List Int)) : Prop := ∀ r ∈ A, r.length = n ∧ Ns r
theorem Mat.get {n : Nat} {A : List (List Int)} (h : Mat n A) {k : Nat} (hk : k < A.length) : (A[k]?.getD []).length = n ∧ Ns (A[k]?.getD []) := by
  rw [List.getElem?_eq_getElem hk]; exact h _ (List.getElem_mem hk)
end Go.Proofs.YtmojbncbbnjblaaGreat


namespace Go.Proofs.YtmojbncbbnjblaaGreat
open Go.Abs
set_option linter.unusedVariables false
set_option linter.unusedSimpArgs false
set_option maxHeartbeats 1000000
abbrev u64 (n : Int) : AV := .val (.int .u64 n)
end Go.Proofs.YtmojbncbbnjblaaGreat


namespace Go.Proofs.YtmojbncbbnjblaaGreat
open Go.Abs
set_option linter.unusedVariables false
set_option linter.unusedSimpArgs false
set_option maxHeartbeats 1000000
theorem specIsNumber_c (a : Int) : Con Tryz.prog 160 [.int a] (.bool (decide (0 ≤ a ∧ a ≤ 10006))) := by
  refine con_of_vc Tryz.mixed ⟨3, [], [], []⟩ Tryz.func160 (by decide) rfl (by simp) (by decide) (by simp [freshOK, freshL, go_sem]) ?_
  rw [Tryz.ntmps160]
  simp [go_sem]
  refine CallVC.of (l01In_c _ _ _) (by decide) ?_
  simp [go_sem]
theorem numsB_bad {xs : List Int} {i : Nat} (h : i < xs.length) (hb : ¬ (0 ≤ xs[i]?.getD 0 ∧ xs[i]?.getD 0 ≤ 10006)) : numsB xs = false := by
  rw [List.getElem?_eq_getElem h] at hb
  simp only [Option.getD_some] at hb
  unfold numsB
  rw [List.all_eq_false]
  exact ⟨xs[i], List.getElem_mem h, by simpa using hb⟩
theorem numsB_ok {xs : List Int} (h : ∀ x ∈ xs, 0 ≤ x ∧ x ≤ 10006) : numsB xs = true := by
  unfold numsB
  rw [List.all_eq_true]
  intro x hx
  simpa using h x hx
theorem numsB_N {xs : List Int} : numsB xs = true ↔ Ns xs := by
  unfold numsB Ns isN
  rw [List.all_eq_true]
  constructor
  · intro h x hx
    have := h x hx
    simp at this; omega
  · intro h x hx
    have := h x hx
    simp; omega
theorem take_all {α : Type} {p : α → Prop} {xs : List α} {i : Nat} (h : i < xs.length) (h1 : ∀ x ∈ xs.take i, p x) (h2 : p xs[i]) : ∀ x ∈ xs.take (i + 1), p x := by
  intro x hx
  rw [List.take_add_one, List.getElem?_eq_getElem h, Option.toList_some, List.mem_append, List.mem_singleton] at hx
  rcases hx with hx | rfl
  · exact h1 x hx
  · exact h2
theorem l01Numbers_c (xs : List Int) (hl : xs.length ≤ 9223372036854775807) : Con Tryz.prog 127 [.sl xs.length (avs xs)] (.bool (numsB xs)) := by
  refine con_of_vc Tryz.mixed ⟨4, [], [], []⟩ Tryz.func127 (by decide) rfl (by simp) (by decide) (by simp [freshOK, freshL, go_sem]) ?_
  rw [Tryz.ntmps127]
  simp [go_sem]
  refine loop_inv (List.range' 2 14) (fun i : Nat => [(3, .int i)]) (fun i => i ≤ xs.length ∧ ∀ x ∈ xs.take i, 0 ≤ x ∧ x ≤ 10006) (fun i => xs.length - i) 0 (by simp) (by simp [go_sem]) (by simp [go_sem]) ?_
  rintro i ⟨hi, hp⟩
  simp [go_sem]
  refine ⟨fun h => ?_, fun h => ?_⟩ <;> simp at h
  · simp [go_sem, avs_drop h]
    refine ⟨⟨h, by rintro rfl; simp at h⟩, ?_⟩
    refine CallVC.of (specIsNumber_c _) (by decide) ?_
    by_cases hb : 0 ≤ xs[i]?.getD 0 ∧ xs[i]?.getD 0 ≤ 10006
    · simp [go_sem, hb]
      refine ⟨by omega, i + 1, ⟨by omega, ?_⟩, by omega, Off_reset _ _ _ (by simp), by omega⟩
      rw [List.getElem?_eq_getElem h, Option.getD_some] at hb
      exact take_all h hp hb
    · have e : decide (0 ≤ xs[i]?.getD 0 ∧ xs[i]?.getD 0 ≤ 10006) = false := by simpa using hb
      rw [e]
      simp [go_sem]
      exact numsB_bad h hb
  · simp [go_sem]
    have e : i = xs.length := by omega
    subst e
    rw [List.take_length] at hp
    exact numsB_ok hp
theorem l09Is_c (A : List (List Int)) (B : List Int) (hA : A.length ≤ 9223372036854775807) (hB : B.length ≤ 9223372036854775807) (hr : ∀ r ∈ A, r.length ≤ 9223372036854775807) :
    Con Tryz.prog 69 [.agg [.sl A.length (mat A), .sl B.length (avs B)]] (.bool (tabB A B)) := by
  have bad : ¬ (1 ≤ B.length ∧ B.length ≤ 8 ∧ A.length = B.length) → tabB A B = false := fun h => by
    unfold tabB
    rw [decide_eq_false h]; rfl
  refine con_of_vc Tryz.mixed ⟨5, [], [], []⟩ Tryz.func69 (by decide) rfl (by simp) (by decide) (by simp [freshOK, freshL, go_sem]) ?_
  rw [Tryz.ntmps69]
  simp [go_sem]
  by_cases h1 : 1 ≤ B.length
  · by_cases h2 : B.length ≤ 8
    · by_cases h3 : A.length = B.length
      · have i1 : ¬ (B.length : Int) < 1 := by omega
        have i2 : ¬ 8 < (B.length : Int) := by omega
        have i3 : (A.length : Int) = B.length := by omega
        simp [go_sem, i1, i2, i3]
        refine CallVC.of (l01Numbers_c B hB) (by decide) ?_
        cases hB2 : numsB B with
        | false =>
          simp [go_sem]
          unfold tabB; rw [hB2]; simp
        | true =>
          simp [go_sem]
          refine loop_inv (2 :: 4 :: List.range' 27 22) (fun i : Nat => [(4, .int i)]) (fun i => i ≤ B.length ∧ ∀ r ∈ A.take i, r.length = B.length ∧ numsB r = true) (fun i => B.length - i) 0 (by simp) (by simp [go_sem]) (by simp [go_sem]) ?_
          rintro i ⟨hi, hp⟩
          have fine : tabB A B = A.all (fun r => decide (r.length = B.length) && numsB r) := by
            unfold tabB; rw [hB2, decide_eq_true ⟨h1, h2, h3⟩]; simp
          simp [go_sem]
          refine ⟨fun h => ?_, fun h => ?_⟩ <;> simp at h
          · have hA2 : i < A.length := by omega
            have wrong : ¬ ((A[i]?.getD []).length = B.length ∧ numsB (A[i]?.getD []) = true) → tabB A B = false := fun hb => by
              rw [List.getElem?_eq_getElem hA2, Option.getD_some] at hb
              rw [fine, List.all_eq_false]
              exact ⟨A[i], List.getElem_mem hA2, by simpa using hb⟩
            simp [go_sem, mat_drop hA2]
            refine ⟨⟨hA2, by rintro rfl; simp at hA2⟩, ?_⟩
            by_cases g1 : (A[i]?.getD []).length = B.length
            · have g1' : ((A[i]?.getD []).length : Int) = B.length := by omega
              simp [go_sem, g1', mat_drop hA2]
              refine ⟨⟨hA2, by rintro rfl; simp at hA2⟩, ?_⟩
              refine CallVC.of (l01Numbers_c _ (by omega)) (by decide) ?_
              cases g2 : numsB (A[i]?.getD []) with
              | false =>
                simp [go_sem]
                exact wrong (by rw [g2]; simp)
              | true =>
                simp [go_sem]
                refine ⟨by omega, i + 1, ⟨by omega, ?_⟩, by omega, Off_reset _ _ _ (by simp), by omega⟩
                rw [List.getElem?_eq_getElem hA2, Option.getD_some] at g1 g2
                exact take_all hA2 hp ⟨g1, g2⟩
            · have g1' : ¬ ((A[i]?.getD []).length : Int) = B.length := by omega
              simp [go_sem, g1']
              exact wrong (fun h => g1 h.1)
          · simp [go_sem]
            have e : i = A.length := by omega
            subst e
            rw [List.take_length] at hp
            rw [fine, List.all_eq_true]
            intro r hr
            simpa using hp r hr
      · have i1 : ¬ (B.length : Int) < 1 := by omega
        have i2 : ¬ 8 < (B.length : Int) := by omega
        have i3 : ¬ (A.length : Int) = B.length := by omega
        simp [go_sem, i1, i2, i3, bad (fun h => h3 h.2.2)]
    · have i1 : ¬ (B.length : Int) < 1 := by omega
      have i2 : 8 < (B.length : Int) := by omega
      simp [go_sem, i1, i2, bad (fun h => h2 h.2.1)]
  · have i1 : (B.length : Int) < 1 := by omega
    simp [go_sem, i1, bad (fun h => h1 h.1)]
structure Tab (A : List (List Int)) (B : List Int) : Prop where
  pos : 1 ≤ B.length
  le : B.length ≤ 8
  len : A.length = B.length
  b : Ns B
  a : Mat B.length A
theorem tabB_iff {A : List (List Int)} {B : List Int} : tabB A B = true ↔ Tab A B := by
  unfold tabB
  simp only [Bool.and_eq_true, decide_eq_true_eq, List.all_eq_true, numsB_N]
  constructor
  · rintro ⟨⟨⟨h1, h2, h3⟩, h4⟩, h5⟩
    exact ⟨h1, h2, h3, h4, fun r hr => h5 r hr⟩
  · rintro ⟨h1, h2, h3, h4, h5⟩
    exact ⟨⟨⟨h1, h2, h3⟩, h4⟩, fun r hr => h5 r hr⟩
end Go.Proofs.YtmojbncbbnjblaaGreat


namespace Go.Proofs.YtmojbncbbnjblaaGreat
open Go.Abs
set_option linter.unusedVariables false
set_option linter.unusedSimpArgs false
set_option maxHeartbeats 1000000
def tb (f : Nat → Int) (k : Nat) : List Int := (List.range k).map f
@[simp] theorem tb_len (f : Nat → Int) (k : Nat) : (tb f k).length = k := by simp [tb]
@[simp] theorem tb_zero (f : Nat → Int) : tb f 0 = [] := rfl
theorem tb_succ (f : Nat → Int) (k : Nat) : tb f (k + 1) = tb f k ++ [f k] := by simp [tb, List.range_succ]
theorem tb_get (f : Nat → Int) {k i : Nat} (h : i < k) : (tb f k)[i]?.getD 0 = f i := by simp [tb, h]
theorem tb_N {f : Nat → Int} {k : Nat} (h : ∀ i, i < k → isN (f i)) : Ns (tb f k) := by
  intro x hx
  simp [tb] at hx
  obtain ⟨i, hi, rfl⟩ := hx
  exact h i hi
theorem avs_at {xs : List Int} {k : Nat} (h : k < xs.length) : (avs xs)[k]? = some (AV.val (.int .i64 (xs[k]?.getD 0))) := by simp [avs, h]
theorem l02Times_c (a : List Int) (k : Int) (ha : Ns a) (hk : isN k) (hl : a.length ≤ 1048576) :
    Con Tryz.prog 75 [.sl a.length (avs a), .int k] (.own 2 a.length (avs (tb (fun i => a[i]?.getD 0 * k % 10007) a.length))) := by
  refine con_of_vc Tryz.mixed ⟨7, [], [], []⟩ Tryz.func75 (by decide) rfl (by simp) (by decide) (by simp [freshOK, freshL, go_sem]) ?_
  rw [Tryz.ntmps75]
  simp [go_sem]
  refine loop_inv (5 :: 6 :: List.range' 8 15) (fun i : Nat => [(5, .own 2 i (avs (tb (fun i => a[i]?.getD 0 * k % 10007) i))), (6, .int i)]) (fun i => i ≤ a.length) (fun i => a.length - i) 0 (by simp) (by simp [go_sem]) (by simp [go_sem]) ?_
  intro i hi
  simp [go_sem]
  refine ⟨fun h => ?_, fun h => ?_⟩ <;> simp at h
  · simp [go_sem, avs_drop h]
    refine ⟨⟨h, by rintro rfl; simp at h⟩, ?_⟩
    refine CallVC.of (l01Mul_c _ _ (mul_fits (ha.get i) hk)) (by decide) ?_
    simp [go_sem]
    refine ⟨⟨by omega, by omega⟩, by omega, i + 1, by omega, by omega, Off_reset _ _ _ (by simp), ?_, by omega⟩
    simp [tb_succ, avs_snoc]
  · have e : i = a.length := by omega
    subst e
    simp [go_sem]
theorem l02Add_c (a b : List Int) (ha : Ns a) (hb : Ns b) (hl : a.length ≤ 1048576) (hab : a.length ≤ b.length) :
    Con Tryz.prog 139 [.sl a.length (avs a), .sl b.length (avs b)] (.own 2 a.length (avs (tb (fun i => (a[i]?.getD 0 + b[i]?.getD 0) % 10007) a.length))) := by
  refine con_of_vc Tryz.mixed ⟨7, [], [], []⟩ Tryz.func139 (by decide) rfl (by simp) (by decide) (by simp [freshOK, freshL, go_sem]) ?_
  rw [Tryz.ntmps139]
  simp [go_sem]
  refine loop_inv (5 :: 6 :: List.range' 8 18) (fun i : Nat => [(5, .own 2 i (avs (tb (fun i => (a[i]?.getD 0 + b[i]?.getD 0) % 10007) i))), (6, .int i)]) (fun i => i ≤ a.length) (fun i => a.length - i) 0 (by simp) (by simp [go_sem]) (by simp [go_sem]) ?_
  intro i hi
  simp [go_sem]
  refine ⟨fun h => ?_, fun h => ?_⟩ <;> simp at h
  · have h2 : i < b.length := by omega
    simp [go_sem, avs_drop h, avs_drop h2]
    refine ⟨by kernel_rfl, ⟨h, by rintro rfl; simp at h⟩, ⟨h2, by rintro rfl; simp at h2⟩, ?_⟩
    refine CallD.of (l01Add_c _ _ (add_fits (ha.get i) (hb.get i))) (by simp [roots, rootsL]) (by decide) ?_
    simp [go_sem]
    refine ⟨by omega, ?_⟩
    refine ⟨by kernel_rfl, ?_⟩
    simp [go_sem]
    refine ⟨by omega, i + 1, by omega, by omega, Off_reset _ _ _ (by simp), ?_, by omega⟩
    simp [tb_succ, avs_snoc]
  · have e : i = a.length := by omega
    subst e
    simp [go_sem]
def cv (a b : List Int) (n : Nat) : Nat → Int
  | 0 => 0
  | m + 1 => cv a b n m + a[m]?.getD 0 * b[n - m]?.getD 0
def mulS (a b : List Int) : List Int := tb (fun n => cv a b n (n + 1) % 10007) a.length
@[simp] theorem mulS_len (a b : List Int) : (mulS a b).length = a.length := by simp [mulS]
theorem mulS_N (a b : List Int) : Ns (mulS a b) := tb_N fun i _ => isN_mod _
theorem l02Mul_c (a b : List Int) (ha : Ns a) (hb : Ns b) (hl : a.length ≤ 1048576) (hab : a.length ≤ b.length) :
    Con Tryz.prog 179 [.sl a.length (avs a), .sl b.length (avs b)] (.own 2 a.length (avs (mulS a b))) := by
  refine con_of_vc Tryz.mixed ⟨9, [], [], []⟩ Tryz.func179 (by decide) rfl (by simp) (by decide) (by simp [freshOK, freshL, go_sem]) ?_
  rw [Tryz.ntmps179]
  simp [go_sem]
  refine loop_inv (5 :: 6 :: 7 :: 8 :: List.range' 10 28) (fun i : Nat => [(5, .own 2 i (avs (tb (fun n => cv a b n (n + 1) % 10007) i))), (6, .int i)]) (fun i => i ≤ a.length) (fun i => a.length - i) 0 (by simp) (by simp [go_sem]) (by simp [go_sem]) ?_
  intro i hi
  simp [go_sem]
  refine ⟨fun h => ?_, fun h => ?_⟩ <;> simp at h
  · simp [go_sem]
    refine loop_inv (7 :: 8 :: List.range' 16 18) (fun k : Nat => [(7, .int (cv a b i k % 10007)), (8, .int k)]) (fun k => k ≤ i + 1) (fun k => i + 1 - k) 0 (by simp) (by simp [go_sem, cv]) (by simp [go_sem]) ?_
    intro k hk
    simp [go_sem]
    refine ⟨fun h => ?_, fun h => ?_⟩ <;> simp at h
    · have k1 : k < a.length := by omega
      have k2 : i - k < b.length := by omega
      have k3 : ((i : Int) - k) = ((i - k : Nat) : Int) := by omega
      simp [go_sem, avs_drop k1, avs_drop k2, k3]
      refine ⟨by kernel_rfl, ⟨k1, by rintro rfl; simp at k1⟩, by omega, ⟨k2, by rintro rfl; simp at k2⟩, ?_⟩
      refine CallD.of (l01Mul_c _ _ (mul_fits (ha.get k) (hb.get (i - k)))) (by simp [roots, rootsL]) (by decide) ?_
      simp [go_sem]
      refine CallD.of (l01Add_c _ _ (add_fits (isN_mod _) (isN_mod _))) (by simp [roots, rootsL]) (by decide) ?_
      simp [go_sem]
      refine ⟨by kernel_rfl, ?_⟩
      simp [go_sem]
      refine ⟨by omega, k + 1, by omega, by omega, Off_reset _ _ _ (by simp), ?_, by omega⟩
      simp [cv]
    · have e : k = i + 1 := by omega
      subst e
      simp [go_sem]
      refine ⟨by omega, by omega, i + 1, by omega, by omega, (Off.reset (by intro x hx; simp at hx ⊢; omega) (by simp) (by simp [go_sem, Off_reset])), ⟨rfl, ?_⟩, by omega⟩
      simp [tb_succ, avs_snoc]
  · have e : i = a.length := by omega
    subst e
    simp [go_sem]
    rfl
theorem l02Unit_c (n j : Nat) (hn : n ≤ 1048576) (hj : j ≤ 1048576) : Con Tryz.prog 178 [.int n, .int j] (.own 2 n (avs (tb (fun i => if i = j then 1 else 0) n))) := by
  refine con_of_vc Tryz.mixed ⟨6, [], [], []⟩ Tryz.func178 (by decide) rfl (by simp) (by decide) (by simp [freshOK, freshL, go_sem]) ?_
  rw [Tryz.ntmps178]
  simp [go_sem]
  refine ⟨⟨by omega, by omega⟩, ?_⟩
  refine ⟨fun h => ?_, fun h => ?_⟩ <;> simp at h
  · simp [go_sem]
    refine ⟨h, List.ext_getElem (by simp) fun k h1 h2 => ?_⟩
    simp [avs, tb, List.getElem_set]
    by_cases e : j = k
    · simp [e]
    · have e2 : ¬ k = j := fun h => e h.symm
      simp [e, e2]
  · simp [go_sem]
    refine List.ext_getElem (by simp) fun k h1 h2 => ?_
    simp at h1
    have e2 : ¬ k = j := by omega
    simp [avs, tb, e2]
def es (b o : List Int) (n : Nat) : Nat → Int
  | 0 => 0
  | m + 1 => es b o n m + (m + 1) * (b[m + 1]?.getD 0 * o[n - (m + 1)]?.getD 0 % 10007)
end Go.Proofs.YtmojbncbbnjblaaGreat


namespace Go.Proofs.YtmojbncbbnjblaaGreat
open Go.Abs
set_option linter.unusedVariables false
set_option linter.unusedSimpArgs false
set_option maxHeartbeats 1000000
def bys (c : List Int) : List AV := c.map fun x => .val (.int .u8 x)
@[simp] theorem bys_len (c : List Int) : (bys c).length = c.length := by simp [bys]
theorem bys_drop {c : List Int} {k : Nat} (h : k < c.length) : (bys c).drop k = .val (.int .u8 (c[k]?.getD 0)) :: bys (c.drop (k + 1)) := by
  rw [bys, ← List.map_drop, List.drop_eq_getElem_cons h, List.map_cons]; simp [h, bys]
def Byt (c : List Int) : Prop := c.length ≤ 4096 ∧ ∀ x ∈ c, 0 ≤ x ∧ x ≤ 255
theorem Byt.get {c : List Int} (h : Byt c) (k : Nat) : 0 ≤ c[k]?.getD 0 ∧ c[k]?.getD 0 ≤ 255 := by
  rcases Nat.lt_or_ge k c.length with hk | hk
  · simp [hk]; exact h.2 _ (List.getElem_mem hk)
  · simp [hk]
abbrev Src := Nat × Int
def srcA (c : List Int) (σ : Src) : AV := .box 120 [.sl c.length (bys c), .int σ.1, .val (.int .u64 σ.2)]
theorem srcA_eq (c : List Int) (σ : Src) : srcA c σ = .box 120 [.sl c.length (bys c), .int σ.1, .val (.int .u64 σ.2)] := rfl
def nxH (h : Int) : Int := IntKind.u64.wrap (IntKind.u64.wrap (h * 6364136223846793005) + 1442695040888963407)
def nxX (h : Int) : Int := andI IntKind.u64 (shrI IntKind.u64 (nxH h) 33) 16777215
def byV (c : List Int) (k : Nat) : Int := if k < c.length then c[k]?.getD 0 else 0
def nx1 (c : List Int) (σ : Src) (n : Int) : Int := if n < 1 then 0 else (nxX σ.2 + byV c σ.1).tmod n
def nx2 (c : List Int) (σ : Src) (n : Int) : Src := if n < 1 then σ else (if σ.1 < c.length then σ.1 + 1 else σ.1, nxH σ.2)
def SOk (σ : Src) : Prop := σ.1 ≤ 4096
theorem nx2_ok {c : List Int} (hc : Byt c) {σ : Src} (h : SOk σ) (n : Int) : SOk (nx2 c σ n) := by
  unfold SOk nx2 at *
  have := hc.1
  split
  · exact h
  · simp only; split <;> omega
theorem nxX_b (h : Int) : 0 ≤ nxX h ∧ nxX h ≤ 16777215 := by
  unfold nxX andI
  generalize shrI IntKind.u64 (nxH h) 33 = y
  have h1 : (BitVec.ofInt IntKind.u64.bits y &&& BitVec.ofInt IntKind.u64.bits 16777215).toNat ≤ 16777215 := by
    rw [BitVec.toNat_and]
    exact Nat.le_trans Nat.and_le_right (by decide)
  generalize (BitVec.ofInt IntKind.u64.bits y &&& BitVec.ofInt IntKind.u64.bits 16777215).toNat = m at *
  simp [IntKind.wrap, IntKind.signed, IntKind.bits]
  omega
theorem byV_b {c : List Int} (hc : Byt c) (k : Nat) : 0 ≤ byV c k ∧ byV c k ≤ 255 := by
  unfold byV
  split
  · exact hc.get k
  · omega
theorem nx1_b {c : List Int} (hc : Byt c) (σ : Src) {n : Int} (hn : 1 ≤ n) : 0 ≤ nx1 c σ n ∧ nx1 c σ n < n := by
  have h1 := nxX_b σ.2
  have h2 := byV_b hc σ.1
  unfold nx1
  rw [if_neg (by omega), Int.tmod_eq_emod_of_nonneg (by omega)]
  exact ⟨Int.emod_nonneg _ (by omega), Int.emod_lt_of_pos _ (by omega)⟩
set_option maxRecDepth 100000 in
theorem l01Next_c (c : List Int) (σ : Src) (n : Int) (hc : Byt c) (hs : SOk σ) : GCon Tryz.prog 50 [srcA c σ, .int n] (.int (nx1 c σ n)) [srcA c (nx2 c σ n), .any] := by
  have hx := nxX_b σ.2
  have hy := byV_b hc σ.1
  have hcl := hc.1
  unfold SOk at hs
  unfold nx1 nx2
  by_cases h0 : n < 1
  · rw [if_pos h0, if_pos h0]
    unfold srcA
    refine gcon_of_vc Tryz.mixed ⟨6, [], [], []⟩ [4] [0] Tryz.func50 (by decide) rfl rfl (by simp) (by simp) (by decide) ?_
    rw [Tryz.ntmps50]
    simp [go_sem]
    simp [go_sem, h0]
  · rw [if_neg h0, if_neg h0]
    unfold srcA
    have e1 : nxH σ.2 = IntKind.u64.wrap (IntKind.u64.wrap (σ.2 * 6364136223846793005) + 1442695040888963407) := rfl
    have e2 : nxX σ.2 = andI IntKind.u64 (shrI IntKind.u64 (nxH σ.2) 33) 16777215 := rfl
    generalize nxX σ.2 = x at *
    generalize nxH σ.2 = h' at *
    have n0 : ¬ n = 0 := by omega
    by_cases hk : σ.1 < c.length
    · have hb : byV c σ.1 = c[σ.1]?.getD 0 := by unfold byV; rw [if_pos hk]
      have hne : ¬ c = [] := by rintro rfl; simp at hk
      rw [if_pos hk]
      rw [hb] at hy ⊢
      refine gcon_of_vc Tryz.mixed ⟨6, [], [], []⟩ [4] [0] Tryz.func50 (by decide) rfl rfl (by simp) (by simp) (by decide) ?_
      rw [Tryz.ntmps50]
      simp [go_sem]
      simp [go_sem, h0, ← e1, ← e2]
      refine ⟨⟨by omega, by omega⟩, by kernel_rfl, ?_⟩
      refine ⟨by kernel_rfl, ?_⟩
      simp [go_sem]
      have hD := bys_drop hk
      generalize c[σ.1]?.getD 0 = b at *
      simp [go_sem, hk, hD]
      refine ⟨by kernel_rfl, by intro e; exact hne (by simpa [bys] using e), ⟨by omega, by omega⟩, ⟨by omega, by omega⟩, ?_⟩
      refine ⟨by kernel_rfl, ?_⟩
      simp [go_sem]
      exact ⟨⟨by omega, by omega⟩, n0⟩
    · have hb : byV c σ.1 = 0 := by unfold byV; rw [if_neg hk]
      rw [if_neg hk]
      rw [hb] at hy ⊢
      refine gcon_of_vc Tryz.mixed ⟨6, [], [], []⟩ [4] [0] Tryz.func50 (by decide) rfl rfl (by simp) (by simp) (by decide) ?_
      rw [Tryz.ntmps50]
      simp [go_sem]
      simp [go_sem, h0, ← e1, ← e2]
      refine ⟨⟨by omega, by omega⟩, by kernel_rfl, ?_⟩
      refine ⟨by kernel_rfl, ?_⟩
      simp [go_sem]
      simp [go_sem, hk]
      exact n0
theorem getI {xs : List Int} {v : Int} (h0 : 0 ≤ v) (h1 : v < xs.length) : ∃ k : Nat, v = k ∧ k < xs.length ∧ v.toNat = k := ⟨v.toNat, by omega, by omega, rfl⟩
def pk (c : List Int) (σ : Src) (xs : List Int) : Int := xs[(nx1 c σ xs.length).toNat]?.getD 0
theorem pk_mem (c : List Int) (hc : Byt c) (σ : Src) {xs : List Int} (hx : 0 < xs.length) : pk c σ xs ∈ xs := by
  have h := nx1_b hc σ (n := xs.length) (by omega)
  unfold pk
  have hk : (nx1 c σ xs.length).toNat < xs.length := by omega
  simp [hk]
set_option maxRecDepth 100000 in
theorem l01Pick_c (c : List Int) (σ : Src) (xs : List Int) (hc : Byt c) (hs : SOk σ) (hx : 0 < xs.length) (hxl : xs.length ≤ 1000) :
    GCon Tryz.prog 116 [srcA c σ, .own 2 xs.length (avs xs)] (.int (pk c σ xs)) [srcA c (nx2 c σ xs.length), .any] := by
  have cN := l01Next_c c σ xs.length hc hs
  have hb := nx1_b hc σ (n := xs.length) (by omega)
  unfold pk
  obtain ⟨k, hk, hkl, hkt⟩ := getI hb.1 hb.2
  rw [hkt]
  rw [hk] at cN
  unfold srcA at *
  refine gcon_of_vc Tryz.mixed ⟨5, [], [1000000 + 50], []⟩ [4] [0] Tryz.func116 (by decide) rfl rfl (by simp) (by simp) (by decide) ?_
  rw [Tryz.ntmps116]
  simp [go_sem]
  refine ⟨_, _, cN, ?_⟩
  simp [go_sem]
  have hA := avs_at hkl
  simp [go_sem, hA]
  exact hkl
theorem l01Frac_c (p q : Int) (hp : fits p) (hq : fits q) : Con Tryz.prog 153 [.int p, .int q] (.int (p % 10007 * pw (q % 10007) 10005 % 10007)) := by
  have hf : fits (p % 10007 * pw (q % 10007) 10005) := mul_fits (isN_mod _) (isN_mod _)
  refine con_of_vc Tryz.mixed ⟨5, [], [], []⟩ Tryz.func153 (by decide) rfl (by simp) (by decide) (by simp [freshOK, freshL, go_sem]) ?_
  rw [Tryz.ntmps153]
  simp [go_sem]
  refine CallVC.of (l01Mod_c p hp.1 hp.2) (by decide) ?_
  simp [go_sem]
  refine CallVC.of (l01Mod_c q hq.1 hq.2) (by decide) ?_
  simp [go_sem]
  refine CallVC.of (l01Inv_c _ (isN_mod q)) (by decide) ?_
  simp [go_sem]
  refine CallVC.of (l01Mul_c _ _ hf) (by decide) ?_
  simp [go_sem]
def nbV (c : List Int) (σ : Src) : Int × Src :=
  if nx1 c σ 5 = 0 then (nx1 c (nx2 c σ 5) 10007, nx2 c (nx2 c σ 5) 10007)
  else if nx1 c σ 5 = 1 then (pk c (nx2 c σ 5) [0, 1, 0, 1, 10006, 2], nx2 c (nx2 c σ 5) 6)
  else ((nx1 c (nx2 c σ 5) 15 - 7) % 10007 * pw ((1 + nx1 c (nx2 c (nx2 c σ 5) 15) 12) % 10007) 10005 % 10007, nx2 c (nx2 c (nx2 c σ 5) 15) 12)
theorem nbV_ok {c : List Int} (hc : Byt c) {σ : Src} (hs : SOk σ) : isN (nbV c σ).1 ∧ SOk (nbV c σ).2 := by
  have s1 := nx2_ok hc hs 5
  unfold nbV
  split
  · exact ⟨nx1_b hc (nx2 c σ 5) (n := 10007) (by omega), nx2_ok hc s1 _⟩
  · split
    · refine ⟨?_, nx2_ok hc s1 _⟩
      have := pk_mem c hc (nx2 c σ 5) (xs := [0, 1, 0, 1, 10006, 2]) (by simp)
      simp at this
      simp only
      constructor <;> omega
    · exact ⟨isN_mod _, nx2_ok hc (nx2_ok hc s1 _) _⟩
set_option maxRecDepth 100000 in
theorem l01Number_c (c : List Int) (σ : Src) (hc : Byt c) (hs : SOk σ) : GCon Tryz.prog 112 [srcA c σ] (.int (nbV c σ).1) [srcA c (nbV c σ).2] := by
  have s1 := nx2_ok hc hs 5
  have s2 := nx2_ok hc s1 15
  have c1 := l01Next_c c σ 5 hc hs
  have c2 := l01Next_c c (nx2 c σ 5) 10007 hc s1
  have c3 := l01Pick_c c (nx2 c σ 5) [0, 1, 0, 1, 10006, 2] hc s1 (by simp) (by simp)
  have c4 := l01Next_c c (nx2 c σ 5) 15 hc s1
  have c5 := l01Next_c c (nx2 c (nx2 c σ 5) 15) 12 hc s2
  have b4 := nx1_b hc (nx2 c σ 5) (n := 15) (by omega)
  have b5 := nx1_b hc (nx2 c (nx2 c σ 5) 15) (n := 12) (by omega)
  have c6 := l01Frac_c (nx1 c (nx2 c σ 5) 15 - 7) (1 + nx1 c (nx2 c (nx2 c σ 5) 15) 12) ⟨by omega, by omega⟩ ⟨by omega, by omega⟩
  unfold nbV
  have e3 : (([0, 1, 0, 1, 10006, 2] : List Int).length : Int) = 6 := rfl
  rw [e3] at c3
  generalize pk c (nx2 c σ 5) [0, 1, 0, 1, 10006, 2] = pv at *
  generalize nx1 c (nx2 c (nx2 c σ 5) 15) 12 = v5 at *
  generalize nx2 c (nx2 c (nx2 c σ 5) 15) 12 = t5 at *
  generalize nx1 c (nx2 c σ 5) 15 = v4 at *
  generalize nx2 c (nx2 c σ 5) 15 = t4 at *
  generalize nx2 c (nx2 c σ 5) 6 = t3 at *
  generalize nx1 c (nx2 c σ 5) 10007 = v2 at *
  generalize nx2 c (nx2 c σ 5) 10007 = t2 at *
  generalize nx1 c σ 5 = v1 at *
  generalize nx2 c σ 5 = t1 at *
  unfold srcA at *
  by_cases h0 : v1 = 0
  · rw [if_pos h0]
    refine gcon_of_vc Tryz.mixed ⟨3, [], [1000000 + 50, 1000000 + 116], []⟩ [2] [0] Tryz.func112 (by decide) rfl rfl (by simp) (by simp) (by decide) ?_
    rw [Tryz.ntmps112]
    simp [go_sem]
    refine ⟨_, _, c1, ?_⟩
    simp [go_sem]
    simp [go_sem, h0]
    refine ⟨_, _, c2, ?_⟩
    simp [go_sem]
  · rw [if_neg h0]
    by_cases h1 : v1 = 1
    · rw [if_pos h1]
      refine gcon_of_vc Tryz.mixed ⟨3, [], [1000000 + 50, 1000000 + 116], []⟩ [2] [0] Tryz.func112 (by decide) rfl rfl (by simp) (by simp) (by decide) ?_
      rw [Tryz.ntmps112]
      simp [go_sem]
      refine ⟨_, _, c1, ?_⟩
      simp [go_sem]
      simp [go_sem, h0, h1]
      refine ⟨_, _, c3, ?_⟩
      simp [go_sem]
    · rw [if_neg h1]
      refine gcon_of_vc Tryz.mixed ⟨3, [], [1000000 + 50, 1000000 + 116], []⟩ [2] [0] Tryz.func112 (by decide) rfl rfl (by simp) (by simp) (by decide) ?_
      rw [Tryz.ntmps112]
      simp [go_sem]
      refine ⟨_, _, c1, ?_⟩
      simp [go_sem]
      simp [go_sem, h0, h1]
      refine ⟨_, _, c4, ?_⟩
      simp [go_sem]
      refine ⟨⟨by omega, by omega⟩, ?_⟩
      refine ⟨_, _, c5, ?_⟩
      simp [go_sem]
      refine ⟨⟨by omega, by omega⟩, ?_⟩
      refine CallVC.of (c6) (by decide) ?_
      simp [go_sem]
theorem mod5_c (n : Int) (h0 : -9223372036854775808 ≤ n) (h1 : n ≤ 9223372036854775807) : Con Tryz.prog 32 [.int n] (.int (n % 10007)) := by
  have e := num_law n
  have b := num_low n
  refine con_of_vc Tryz.mixed ⟨3, [], [], []⟩ Tryz.func32 (by decide) rfl (by simp) (by decide) (by simp [freshOK, freshL, go_sem]) ?_
  rw [Tryz.ntmps32]
  simp [go_sem]
  simp [go_sem, e]
  omega
def lsV (f : Src → Int × Src) : Nat → Src → List Int × Src
  | 0, σ => ([], σ)
  | n + 1, σ => ((f σ).1 :: (lsV f n (f σ).2).1, (lsV f n (f σ).2).2)
theorem lsV_ok {f : Src → Int × Src} (hf : ∀ σ, SOk σ → isN (f σ).1 ∧ SOk (f σ).2) : ∀ (n : Nat) (σ : Src), SOk σ → (lsV f n σ).1.length = n ∧ Ns (lsV f n σ).1 ∧ SOk (lsV f n σ).2
  | 0, σ, h => ⟨rfl, by simp [lsV, Ns], h⟩
  | n + 1, σ, h => by
    have h1 := hf σ h
    have h2 := lsV_ok hf n _ h1.2
    refine ⟨by simp [lsV, h2.1], fun x hx => ?_, h2.2.2⟩
    rcases List.mem_cons.1 hx with rfl | hx
    · exact h1.1
    · exact h2.2.1 x hx
set_option maxRecDepth 100000 in
theorem l01List_c (c : List Int) (σ : Src) (n : Nat) (hc : Byt c) (hs : SOk σ) (hn : n ≤ 100000) :
    GCon Tryz.prog 98 [srcA c σ, .int n] (.own 2 n (avs (lsV (nbV c) n σ).1)) [srcA c (lsV (nbV c) n σ).2, .any] := by
  unfold srcA
  refine gcon_of_vc Tryz.mixed ⟨6, [], [1000000 + 112], []⟩ [4] [0] Tryz.func98 (by decide) rfl rfl (by simp) (by simp) (by decide) ?_
  rw [Tryz.ntmps98]
  simp [go_sem]
  refine loop_inv (0 :: 1 :: 5 :: List.range' 7 9) (fun x : List Int × Src × Nat => [(0, .box 120 [.sl c.length (bys c), .int x.2.1.1, .val (.int .u64 x.2.1.2)]), (1, .int x.2.2), (5, .own 2 x.1.length (avs x.1))]) (fun x => SOk x.2.1 ∧ x.1.length + x.2.2 = n ∧ x.1 ++ (lsV (nbV c) x.2.2 x.2.1).1 = (lsV (nbV c) n σ).1 ∧ (lsV (nbV c) x.2.2 x.2.1).2 = (lsV (nbV c) n σ).2) (fun x => x.2.2) ([], σ, n) ⟨hs, by simp, rfl, rfl⟩ (by simp [go_sem, avs]) (by simp [go_sem]) ?_
  rintro ⟨acc, τ, k⟩ ⟨h1, h2, h3, h4⟩
  simp only at h1 h2 h3 h4
  simp [go_sem]
  refine ⟨fun h => ?_, fun h => ?_⟩ <;> simp at h
  · obtain ⟨j, rfl⟩ : ∃ j, k = j + 1 := ⟨k - 1, by omega⟩
    have cN := l01Number_c c τ hc h1
    have hok := nbV_ok hc h1
    unfold srcA at cN
    simp only [lsV] at h3 h4
    generalize nbV c τ = r at *
    simp [go_sem]
    refine ⟨_, _, cN, ?_⟩
    simp [go_sem]
    refine ⟨⟨by omega, by omega⟩, by omega, acc ++ [r.1], r.2.1, r.2.2, j, ⟨hok.2, by simp; omega, by simpa using h3, h4⟩, by omega, Off_reset _ _ _ (by simp), ?_⟩
    simp [avs]
  · have e : k = 0 := by omega
    subst e
    simp only [lsV, List.append_nil] at h3 h4
    simp [go_sem]
    rw [← h3, ← h4]
    simp at h2
    simp [h2]
set_option maxRecDepth 100000 in
theorem l01From_r (c : List Int) (hc : Byt c) : RCon Tryz.prog 48 [.sl c.length (bys c)] (fun r o => o = [.any] ∧ ∃ h, r = srcA c (0, h)) := by
  have hcl := hc.1
  unfold srcA
  refine rcon_of_vcH Tryz.mixed ⟨5, [], [], []⟩ [] Tryz.func48 (by decide) rfl (by simp) (by simp) (by decide) ?_
  rw [Tryz.ntmps48]
  simp [go_sem]
  refine loop_inv (3 :: 4 :: List.range' 12 25) (fun x : Nat × Int => [(3, .box 120 [.sl c.length (bys c), .int 0, .val (.int .u64 x.2)]), (4, .int x.1)]) (fun x => x.1 ≤ c.length) (fun x => c.length - x.1) (0, IntKind.u64.wrap (5381 + IntKind.u64.wrap c.length)) (by simp) (by simp [go_sem]) (by simp [go_sem]) ?_
  rintro ⟨i, h⟩ hi
  simp only at hi
  by_cases hic : i < c.length
  · have h4 : (i : Int) < 4096 := by omega
    have hne : ¬ c = [] := by rintro rfl; simp at hic
    have hD := bys_drop hic
    have hb := hc.get i
    generalize c[i]?.getD 0 = b at *
    simp [go_sem, hic, h4, hD]
    refine ⟨by kernel_rfl, by intro e; exact hne (by simpa [bys] using e), ?_⟩
    refine ⟨by kernel_rfl, ?_⟩
    simp [go_sem]
    exact ⟨⟨by omega, by omega⟩, i + 1, by omega, by omega, Off_reset _ _ _ (by simp), by omega⟩
  · simp [go_sem, hic]
set_option maxRecDepth 100000 in
theorem likeInts_c (a b : List Int) (ha : a.length ≤ 9223372036854775807) : Con Tryz.prog 13 [.sl a.length (avs a), .sl b.length (avs b)] (.bool (decide (a = b))) := by
  by_cases hl : a.length = b.length
  · refine con_of_vc Tryz.mixed ⟨6, [], [], []⟩ Tryz.func13 (by decide) rfl (by simp) (by decide) (by simp [freshOK, freshL, go_sem]) ?_
    rw [Tryz.ntmps13]
    simp [go_sem]
    simp [go_sem, hl]
    refine loop_inv (4 :: 5 :: List.range' 11 15) (fun i : Nat => [(5, .int i)]) (fun i => i ≤ a.length ∧ ∀ j, j < i → a[j]?.getD 0 = b[j]?.getD 0) (fun i => a.length - i) 0 (by simp) (by simp [go_sem]) (by simp [go_sem]) ?_
    rintro i ⟨hi, hj⟩
    simp [go_sem]
    refine ⟨fun h => ?_, fun h => ?_⟩ <;> simp at h
    · have hia : i < a.length := by omega
      have hib : i < b.length := by omega
      have na : ¬ a = [] := by rintro rfl; simp at hia
      have nb : ¬ b = [] := by rintro rfl; simp at hib
      simp [go_sem, avs_drop hia, avs_drop hib]
      refine ⟨by kernel_rfl, ⟨hib, na⟩, ⟨hib, nb⟩, ?_⟩
      refine ⟨by kernel_rfl, ?_⟩
      simp [go_sem]
      refine ⟨fun h2 => ?_, fun h2 => ?_⟩ <;> simp at h2
      · have e : ¬ a = b := fun e => h2 (by rw [e])
        simp [go_sem, e]
      · simp [go_sem]
        refine ⟨by omega, i + 1, ⟨by omega, fun j hj2 => ?_⟩, by omega, Off_reset _ _ _ (by simp), by omega⟩
        rcases Nat.lt_or_ge j i with h3 | h3
        · exact hj j h3
        · have : j = i := by omega
          subst this
          exact h2
    · have e : a = b := by
        refine List.ext_getElem hl fun k h1 h2 => ?_
        have := hj k (by omega)
        simpa [h1, h2] using this
      simp [go_sem, e]
  · have e : ¬ a = b := fun e => hl (by rw [e])
    have hl2 : ¬ (a.length : Int) = b.length := by omega
    refine con_of_vc Tryz.mixed ⟨6, [], [], []⟩ Tryz.func13 (by decide) rfl (by simp) (by decide) (by simp [freshOK, freshL, go_sem]) ?_
    rw [Tryz.ntmps13]
    simp [go_sem]
    simp [go_sem, hl2, e]
def tm5 (a : List Int) (k : Int) : List Int := a.map fun x => x * k % 10007
@[simp] theorem tm5_len (a : List Int) (k : Int) : (tm5 a k).length = a.length := by simp [tm5]
theorem tm5_N (a : List Int) (k : Int) : Ns (tm5 a k) := fun x hx => by
  obtain ⟨y, _, rfl⟩ := List.mem_map.1 hx
  exact isN_mod _
theorem tm5_take {a : List Int} {k : Int} {i : Nat} (h : i < a.length) : tm5 (a.take (i + 1)) k = tm5 (a.take i) k ++ [a[i]?.getD 0 * k % 10007] := by
  rw [tm5, tm5, List.take_add_one, List.map_append, List.getElem?_eq_getElem h]; rfl
theorem tm5_get {a : List Int} {k : Int} {i : Nat} (h : i < a.length) : (tm5 a k)[i]?.getD 0 = a[i]?.getD 0 * k % 10007 := by simp [tm5, h]
def pl5 (a b : List Int) : List Int := (List.range a.length).map fun i => (a[i]?.getD 0 + b[i]?.getD 0) % 10007
@[simp] theorem pl5_len (a b : List Int) : (pl5 a b).length = a.length := by simp [pl5]
theorem pl5_N (a b : List Int) : Ns (pl5 a b) := fun x hx => by
  obtain ⟨y, _, rfl⟩ := List.mem_map.1 hx
  exact isN_mod _
theorem pl5_get {a b : List Int} {i : Nat} (h : i < a.length) : (pl5 a b)[i]?.getD 0 = (a[i]?.getD 0 + b[i]?.getD 0) % 10007 := by simp [pl5, h]
theorem pl5_take {a b : List Int} {i : Nat} (h : i < a.length) : (pl5 a b).take (i + 1) = (pl5 a b).take i ++ [(a[i]?.getD 0 + b[i]?.getD 0) % 10007] := by
  have hl : i < (pl5 a b).length := by simpa using h
  rw [List.take_add_one, List.getElem?_eq_getElem hl]
  simp [pl5]
set_option maxRecDepth 100000 in
theorem times5_c (a : List Int) (k : Int) (ha : a.length ≤ 1048576) (hN : Ns a) (hk : isN k) : Con Tryz.prog 15 [.sl a.length (avs a), .int k] (.own 2 a.length (avs (tm5 a k))) := by
  refine con_of_vc Tryz.mixed ⟨7, [], [], []⟩ Tryz.func15 (by decide) rfl (by simp) (by decide) (by simp [freshOK, freshL, go_sem]) ?_
  rw [Tryz.ntmps15]
  simp [go_sem]
  refine loop_inv (5 :: 6 :: List.range' 8 16) (fun i : Nat => [(5, .own 2 i (avs (tm5 (a.take i) k))), (6, .int i)]) (fun i => i ≤ a.length) (fun i => a.length - i) 0 (by simp) (by simp [go_sem, tm5, avs]) (by simp [go_sem]) ?_
  intro i hi
  simp [go_sem]
  refine ⟨fun h => ?_, fun h => ?_⟩ <;> simp at h
  · have hif := h
    have hf := mul_fits (hN.get i) hk
    have ht := tm5_take (k := k) hif
    simp [go_sem, avs_drop hif]
    refine ⟨⟨hif, by rintro rfl; simp at hif⟩, hf, ?_⟩
    refine CallVC.of (mod5_c _ hf.1 hf.2) (by decide) ?_
    simp [go_sem]
    refine ⟨⟨by omega, by omega⟩, by omega, i + 1, by omega, by omega, Off_reset _ _ _ (by simp), ?_, by omega⟩
    rw [ht]
    simp [avs]
  · have e : i = a.length := by omega
    subst e
    simp [go_sem]
set_option maxRecDepth 100000 in
theorem plus5_c (a b : List Int) (ha : a.length ≤ 1048576) (hab : a.length = b.length) (hN : Ns a) (hM : Ns b) : Con Tryz.prog 14 [.sl a.length (avs a), .sl b.length (avs b)] (.own 2 a.length (avs (pl5 a b))) := by
  refine con_of_vc Tryz.mixed ⟨7, [], [], []⟩ Tryz.func14 (by decide) rfl (by simp) (by decide) (by simp [freshOK, freshL, go_sem]) ?_
  rw [Tryz.ntmps14]
  simp [go_sem]
  refine loop_inv (5 :: 6 :: List.range' 8 25) (fun i : Nat => [(5, .own 2 i (avs ((pl5 a b).take i))), (6, .int i)]) (fun i => i ≤ a.length) (fun i => a.length - i) 0 (by simp) (by simp [go_sem, avs]) (by simp [go_sem]) ?_
  intro i hi
  by_cases hif : i < a.length
  · have hib : i < b.length := by omega
    have hf := add_fits (hN.get i) (hM.get i)
    have ht := pl5_take (b := b) hif
    have hD := avs_drop hif
    have hE := avs_drop hib
    rw [List.getD_eq_getElem?_getD] at hD hE
    have na : ¬ a = [] := by rintro rfl; simp at hif
    have nb : ¬ b = [] := by rintro rfl; simp at hib
    generalize a[i]?.getD 0 = u at *
    generalize b[i]?.getD 0 = v at *
    simp [go_sem, hif, hib, hD, hE]
    refine ⟨by kernel_rfl, na, nb, hf, ?_⟩
    refine CallD.of (mod5_c _ hf.1 hf.2) (by simp [roots, rootsL]) (by decide) ?_
    simp [go_sem]
    refine ⟨⟨by omega, by omega, by omega⟩, ?_⟩
    refine ⟨by kernel_rfl, ?_⟩
    simp [go_sem]
    refine ⟨by omega, i + 1, by omega, by omega, Off_reset _ _ _ (by simp), ?_, by omega⟩
    rw [ht]
    simp [avs]
  · have e : i = a.length := by omega
    subst e
    simp [go_sem]
    rw [List.take_of_length_le (by simp)]
end Go.Proofs.YtmojbncbbnjblaaGreat


namespace Go.Proofs.YtmojbncbbnjblaaGreat
set_option linter.unusedVariables false
set_option linter.unusedSimpArgs false
abbrev Key3 := Int × Int × Int
def r4 : List Int := [0, 1, 2, 3]
def box : List Key3 := r4.flatMap fun i => r4.flatMap fun j => r4.map fun k => (i, j, k)
theorem mem_box {k : Key3} : k ∈ box ↔ 0 ≤ k.1 ∧ k.1 ≤ 3 ∧ 0 ≤ k.2.1 ∧ k.2.1 ≤ 3 ∧ 0 ≤ k.2.2 ∧ k.2.2 ≤ 3 := by
  obtain ⟨a, b, c⟩ := k
  have h4 : ∀ x : Int, x ∈ r4 ↔ 0 ≤ x ∧ x ≤ 3 := fun x => by simp [r4]; omega
  simp only [box, List.mem_flatMap, List.mem_map, Prod.mk.injEq]
  constructor
  · rintro ⟨i, hi, j, hj, k, hk, rfl, rfl, rfl⟩
    have := (h4 i).1 hi; have := (h4 j).1 hj; have := (h4 k).1 hk
    omega
  · rintro ⟨h1, h2, h3, h5, h6, h7⟩
    exact ⟨a, (h4 a).2 ⟨h1, h2⟩, b, (h4 b).2 ⟨h3, h5⟩, c, (h4 c).2 ⟨h6, h7⟩, rfl, rfl, rfl⟩
end Go.Proofs.YtmojbncbbnjblaaGreat


namespace Go.Proofs.YtmojbncbbnjblaaGreat
open Go.Abs
set_option linter.unusedVariables false
set_option linter.unusedSimpArgs false
set_option maxHeartbeats 1000000
abbrev Mon := Int × List Int
def mons (p : List Mon) : List AV := p.flatMap fun m => [.int m.1, .sl m.2.length (avs m.2)]
def omons (p : List Mon) : List AV := p.flatMap fun m => [.int m.1, .own 2 m.2.length (avs m.2)]
def prt (f : List (List Mon)) : List AV := f.map fun p => .sl p.length (mons p)
def oprt (f : List (List Mon)) : List AV := f.map fun p => .own 93 p.length (omons p)
theorem mons_cons (m : Mon) (p : List Mon) : mons (m :: p) = .int m.1 :: .sl m.2.length (avs m.2) :: mons p := rfl
theorem omons_cons (m : Mon) (p : List Mon) : omons (m :: p) = .int m.1 :: .own 2 m.2.length (avs m.2) :: omons p := rfl
@[simp] theorem mons_nil : mons [] = [] := rfl
@[simp] theorem omons_nil : omons [] = [] := rfl
@[simp] theorem mons_len : ∀ p : List Mon, (mons p).length = p.length * 2
  | [] => rfl
  | m :: p => by rw [mons_cons]; simp [mons_len p]; omega
@[simp] theorem omons_len : ∀ p : List Mon, (omons p).length = p.length * 2
  | [] => rfl
  | m :: p => by rw [omons_cons]; simp [omons_len p]; omega
@[simp] theorem mons_ne {p : List Mon} : (mons p = []) = (p = []) := by cases p <;> simp [mons_cons]
@[simp] theorem prt_len (f : List (List Mon)) : (prt f).length = f.length := by simp [prt]
@[simp] theorem oprt_len (f : List (List Mon)) : (oprt f).length = f.length := by simp [oprt]
@[simp] theorem prt_ne {f : List (List Mon)} : (prt f = []) = (f = []) := by cases f <;> simp [prt]
@[simp] theorem omons_frz : ∀ p : List Mon, frzL (omons p) = mons p
  | [] => rfl
  | m :: p => by rw [omons_cons, mons_cons]; simp [frzL, frz, omons_frz p]
@[simp] theorem mons_frz : ∀ p : List Mon, frzL (mons p) = mons p
  | [] => rfl
  | m :: p => by rw [mons_cons]; simp [frzL, frz, mons_frz p]
@[simp] theorem omons_fresh : ∀ p : List Mon, freshL (omons p) = true
  | [] => rfl
  | m :: p => by rw [omons_cons]; simp [freshL, freshOK, omons_fresh p]
@[simp] theorem oprt_frz : ∀ f : List (List Mon), frzL (oprt f) = prt f
  | [] => rfl
  | p :: f => by have := oprt_frz f; simp only [oprt, prt, List.map_cons, frzL] at this ⊢; rw [this]; simp [frz]
@[simp] theorem oprt_fresh : ∀ f : List (List Mon), freshL (oprt f) = true
  | [] => rfl
  | p :: f => by have := oprt_fresh f; simp only [oprt, List.map_cons, freshL] at this ⊢; rw [this]; simp [freshOK]
theorem mons_drop : ∀ {p : List Mon} {k : Nat}, k < p.length → (mons p).drop (k * 2) = .val (.int .i64 (p[k]?.getD (0, [])).1) :: .sl (p[k]?.getD (0, [])).2.length (avs (p[k]?.getD (0, [])).2) :: mons (p.drop (k + 1))
  | m :: p, 0, _ => rfl
  | m :: p, k + 1, h => by
    have := mons_drop (p := p) (k := k) (by simpa using h)
    rw [mons_cons, show (k + 1) * 2 = k * 2 + 1 + 1 by omega]
    simpa using this
theorem prt_drop {f : List (List Mon)} {k : Nat} (h : k < f.length) : (prt f).drop k = .sl (f[k]?.getD []).length (mons (f[k]?.getD [])) :: prt (f.drop (k + 1)) := by
  rw [prt, ← List.map_drop, List.drop_eq_getElem_cons h, List.map_cons]; simp [h, prt]
def sumC {α : Type} (c : α → Nat) : List α → Nat
  | [] => 0
  | a :: l => c a + sumC c l
structure SzOk {α : Type} (g : Int → α → Int) (c : α → Nat) : Prop where
  lo : ∀ l a, -1 ≤ g l a
  hi : ∀ l a, 0 ≤ l → g l a ≤ l
  ok : ∀ l a, 0 ≤ l → 0 ≤ g l a → (c a : Int) ≤ l - g l a
def cM (m : Mon) : Nat := m.2.length
def cP (p : List Mon) : Nat := p.length + sumC cM p
def cF (f : List (List Mon)) : Nat := f.length + sumC cP f
end Go.Proofs.YtmojbncbbnjblaaGreat


namespace Go.Proofs.YtmojbncbbnjblaaGreat
open Go.Abs
set_option linter.unusedVariables false
set_option linter.unusedSimpArgs false
set_option maxHeartbeats 1000000
theorem omons_app (p q : List Mon) : omons (p ++ q) = omons p ++ omons q := by simp [omons]
theorem oprt_app (f g : List (List Mon)) : oprt (f ++ g) = oprt f ++ oprt g := by simp [oprt]
end Go.Proofs.YtmojbncbbnjblaaGreat


namespace Go.Proofs.YtmojbncbbnjblaaGreat
open Go.Abs
set_option linter.unusedVariables false
set_option linter.unusedSimpArgs false
set_option maxHeartbeats 1000000
theorem avs_at' {xs : List Int} {k : Nat} (h : k < xs.length) : (avs xs)[k]? = some (AV.val (.int .i64 (xs[k]?.getD 0))) := by simp [avs, h]
def ltL : List Int → List Int → Bool
  | _, [] => false
  | [], _ :: _ => true
  | x :: xs, y :: ys => if x = y then ltL xs ys else decide (x < y)
theorem ltL_at : ∀ {a b : List Int} {i : Nat}, i < a.length → i < b.length → a.take i = b.take i → a[i]?.getD 0 ≠ b[i]?.getD 0 → ltL a b = decide (a[i]?.getD 0 < b[i]?.getD 0)
  | x :: a, y :: b, 0, _, _, _, h => by
    simp at h
    simp [ltL, h]
  | x :: a, y :: b, i + 1, h1, h2, h3, h4 => by
    simp at h3
    simp only [ltL, if_pos h3.1]
    simpa using ltL_at (a := a) (b := b) (i := i) (by simpa using h1) (by simpa using h2) h3.2 (by simpa using h4)
theorem ltL_end : ∀ {a b : List Int} {i : Nat}, a.take i = b.take i → i ≤ a.length → i ≤ b.length → (a.length ≤ i ∨ b.length ≤ i) → ltL a b = decide (a.length < b.length)
  | _, [], i, _, _, _, _ => by simp [ltL]
  | [], _ :: _, i, _, _, _, _ => by simp [ltL]
  | x :: a, y :: b, 0, _, h1, h2, h3 => by simp at h3
  | x :: a, y :: b, i + 1, h, h1, h2, h3 => by
    simp at h
    simp only [ltL, if_pos h.1]
    have := ltL_end (a := a) (b := b) (i := i) h.2 (by simpa using h1) (by simpa using h2) (by simpa using h3)
    rw [this]; simp
theorem take_ext {a b : List Int} {i : Nat} (h1 : i < a.length) (h2 : i < b.length) (h : a.take i = b.take i) (e : a[i]?.getD 0 = b[i]?.getD 0) : a.take (i + 1) = b.take (i + 1) := by
  rw [List.getElem?_eq_getElem h1, List.getElem?_eq_getElem h2] at e
  simp at e
  rw [List.take_add_one, List.take_add_one, h, List.getElem?_eq_getElem h1, List.getElem?_eq_getElem h2, e]
set_option maxRecDepth 100000 in
theorem l01Less_c (a b : List Int) (ha : a.length ≤ 9223372036854775807) (hb : b.length ≤ 9223372036854775807) : Con Tryz.prog 95 [.sl a.length (avs a), .sl b.length (avs b)] (.bool (ltL a b)) := by
  refine con_of_vc Tryz.mixed ⟨6, [], [], []⟩ Tryz.func95 (by decide) rfl (by simp) (by decide) (by simp [freshOK, freshL, go_sem]) ?_
  rw [Tryz.ntmps95]
  simp [go_sem]
  refine loop_inv (4 :: 5 :: List.range' 6 30) (fun i : Nat => [(5, .int i)]) (fun i => i ≤ a.length ∧ i ≤ b.length ∧ a.take i = b.take i) (fun i => a.length - i) 0 (by simp) (by simp [go_sem]) (by simp [go_sem]) ?_
  rintro i ⟨hi, hj, he⟩
  by_cases h1 : i < a.length
  · by_cases h2 : i < b.length
    · have h1' : (i : Int) < a.length := by omega
      have h2' : (i : Int) < b.length := by omega
      by_cases hd : a[i]?.getD 0 = b[i]?.getD 0
      · simp [go_sem, h1, h2, h1', h2', avs_drop h1, avs_drop h2, hd]
        refine ⟨by kernel_rfl, by rintro rfl; simp at h1, by rintro rfl; simp at h2, ?_⟩
        have hd2 : a[i] = b[i] := by simpa [h1, h2] using hd
        refine ⟨by kernel_rfl, ?_⟩
        simp [go_sem]
        simp [go_sem, hd2]
        refine ⟨by omega, i + 1, ⟨by omega, by omega, take_ext h1 h2 he hd⟩, by omega, Off_reset _ _ _ (by simp), by omega⟩
      · simp [go_sem, h1, h2, h1', h2', avs_drop h1, avs_drop h2, hd]
        refine ⟨by kernel_rfl, by rintro rfl; simp at h1, by rintro rfl; simp at h2, ?_⟩
        have hd2 : ¬ a[i] = b[i] := by simpa [h1, h2] using hd
        refine ⟨by kernel_rfl, ?_⟩
        simp [go_sem]
        simp [go_sem, hd2, avs_drop h1, avs_drop h2]
        refine ⟨by kernel_rfl, ⟨h1, by rintro rfl; simp at h1⟩, ⟨h2, by rintro rfl; simp at h2⟩, ?_⟩
        refine ⟨by kernel_rfl, ?_⟩
        simp [go_sem]
        rw [ltL_at h1 h2 he hd]
    · have h2' : ¬ (i : Int) < b.length := by omega
      simp [go_sem, h1, h2, h2']
      rw [ltL_end he hi hj (.inr (by omega))]
  · simp [go_sem, h1]
    rw [ltL_end he hi hj (.inl (by omega))]
def degL : List Int → Int → Int
  | [], s => s
  | x :: xs, s => if x < 0 ∨ 100 < x then 1000 else degL xs (s + x)
set_option maxRecDepth 100000 in
theorem l13Degree_c (a : List Int) (ha : a.length ≤ 1048576) : Con Tryz.prog 61 [.sl a.length (avs a)] (.int (degL a 0)) := by
  refine con_of_vc Tryz.mixed ⟨5, [], [], []⟩ Tryz.func61 (by decide) rfl (by simp) (by decide) (by simp [freshOK, freshL, go_sem]) ?_
  rw [Tryz.ntmps61]
  simp [go_sem]
  refine loop_inv (2 :: 3 :: 4 :: List.range' 5 24) (fun x : Nat × Int => [(3, .int x.2), (4, .int x.1)]) (fun x => x.1 ≤ a.length ∧ 0 ≤ x.2 ∧ x.2 ≤ 100 * x.1 ∧ degL (a.drop x.1) x.2 = degL a 0) (fun x => a.length - x.1) (0, 0) (by simp) (by simp [go_sem]) (by simp [go_sem]) ?_
  rintro ⟨i, s⟩ ⟨hi, hs0, hs1, he⟩
  simp only at hi hs0 hs1 he
  simp [go_sem]
  refine ⟨fun h => ?_, fun h => ?_⟩ <;> simp at h
  · have hd : a.drop i = a[i]?.getD 0 :: a.drop (i + 1) := by rw [List.drop_eq_getElem_cons h]; simp [h]
    rw [hd, degL] at he
    by_cases b1 : a[i]?.getD 0 < 0
    · simp [go_sem, avs_drop h, b1]
      rw [if_pos (.inl b1)] at he
      exact ⟨⟨h, by rintro rfl; simp at h⟩, he⟩
    · by_cases b2 : 100 < a[i]?.getD 0
      · simp [go_sem, avs_drop h, b1, b2]
        rw [if_pos (.inr b2)] at he
        exact ⟨⟨h, by rintro rfl; simp at h⟩, he⟩
      · simp [go_sem, avs_drop h, b1, b2]
        rw [if_neg (by omega)] at he
        refine ⟨⟨h, by rintro rfl; simp at h⟩, by omega, by omega, i + 1, _, ⟨by omega, by omega, by omega, he⟩, by omega, Off_reset _ _ _ (by simp), rfl, by omega⟩
  · simp [go_sem]
    rw [List.drop_eq_nil_of_le h] at he
    exact he
def monB (z : Int) (m : Mon) : Bool := decide (1 ≤ m.1 ∧ m.1 ≤ 10006) && decide ((m.2.length : Int) = z) && decide (degL m.2 0 ≤ 3)
def atB (z : Int) (p : List Mon) (j : Nat) : Bool := monB z (p[j]?.getD (0, [])) && (decide (j = 0) || ltL (p[j - 1]?.getD (0, [])).2 (p[j]?.getD (0, [])).2)
def partB (z : Int) (p : List Mon) : Bool := (List.range p.length).all (atB z p)
def fieldB (z : Int) (f : List (List Mon)) : Bool := decide (1 ≤ z ∧ z ≤ 3) && decide ((f.length : Int) = z) && f.all (partB z)
theorem partB_no {z : Int} {p : List Mon} {j : Nat} (hj : j < p.length) (h : atB z p j = false) : partB z p = false := by
  unfold partB; rw [List.all_eq_false]; exact ⟨j, by simpa using hj, by simp [h]⟩
theorem partB_yes {z : Int} {p : List Mon} (h : ∀ j, j < p.length → atB z p j = true) : partB z p = true := by
  unfold partB; rw [List.all_eq_true]; intro j hj; exact h j (by simpa using hj)
theorem fieldB_no {z : Int} {f : List (List Mon)} {i : Nat} (hi : i < f.length) (h : partB z (f[i]?.getD []) = false) : fieldB z f = false := by
  unfold fieldB
  have : f.all (partB z) = false := by rw [List.all_eq_false]; exact ⟨f[i]?.getD [], by simp [hi], by simp [h]⟩
  rw [this]; simp
def Small (f : List (List Mon)) : Prop := f.length ≤ 1048576 ∧ ∀ p ∈ f, p.length ≤ 1048576 ∧ ∀ q ∈ p, q.2.length ≤ 1048576
set_option maxRecDepth 100000 in
theorem l13Is_c (z : Int) (f : List (List Mon)) (hf : Small f) : Con Tryz.prog 49 [.agg [.int z, .sl f.length (prt f)]] (.bool (fieldB z f)) := by
  have fl := hf.1
  refine con_of_vc Tryz.mixed ⟨6, [], [], []⟩ Tryz.func49 (by decide) rfl (by simp) (by decide) (by simp [freshOK, freshL, go_sem]) ?_
  rw [Tryz.ntmps49]
  simp [go_sem]
  refine CallVC.of (l01In_c z 1 3) (by decide) ?_
  simp [go_sem]
  by_cases hz : 1 ≤ z ∧ z ≤ 3
  · by_cases hl : (f.length : Int) = z
    · have fine : fieldB z f = f.all (partB z) := by unfold fieldB; simp [hz, hl]
      simp [go_sem, hz.1, hz.2, hl]
      refine loop_inv (2 :: 3 :: 4 :: 5 :: List.range' 18 61) (fun i : Nat => [(3, .int i)]) (fun i => i ≤ f.length ∧ ∀ p ∈ f.take i, partB z p = true) (fun i => f.length - i) 0 (by simp) (by simp [go_sem]) (by simp [go_sem]) ?_
      rintro i ⟨hi, hp⟩
      simp [go_sem]
      refine ⟨fun h => ?_, fun h => ?_⟩ <;> simp at h
      · have hx : f[i]?.getD [] ∈ f := by simp [h]
        obtain ⟨hm1, hm2⟩ := hf.2 _ hx
        simp [go_sem]
        refine loop_inv (2 :: 4 :: 5 :: List.range' 25 54) (fun j : Nat => [(4, .int j)]) (fun j => j ≤ (f[i]?.getD []).length ∧ ∀ k, k < j → atB z (f[i]?.getD []) k = true) (fun j => (f[i]?.getD []).length - j) 0 (by simp) (by simp [go_sem]) (by simp [go_sem]) ?_
        rintro j ⟨hj, hq⟩
        have hif := h
        simp [go_sem, prt_drop hif]
        refine ⟨⟨hif, by rintro rfl; simp at hif⟩, ?_⟩
        generalize hP : f[i]?.getD [] = P at *
        refine ⟨fun h => ?_, fun h => ?_⟩ <;> simp at h
        · have hy : P[j]?.getD (0, []) ∈ P := by simp [h]
          have hm := hm2 _ hy
          have hno : atB z P j = false → fieldB z f = false := fun hh => fieldB_no hif (by rw [hP]; exact partB_no h hh)
          simp [go_sem, prt_drop hif, hP, mons_drop h]
          refine ⟨⟨hif, by rintro rfl; simp at hif⟩, ⟨h, by rintro rfl; simp at h⟩, ?_⟩
          generalize hM : P[j]?.getD (0, []) = m at *
          have cD := l13Degree_c m.2 hm
          refine CallVC.of (l01In_c _ _ _) (by decide) ?_
          by_cases c1 : 1 ≤ m.1 ∧ m.1 ≤ 10006
          · by_cases c2 : (m.2.length : Int) = z
            · simp [go_sem, c1.1, c1.2, c2]
              refine CallVC.of (cD) (by decide) ?_
              by_cases c3 : degL m.2 0 ≤ 3
              · have c3' : ¬ 3 < degL m.2 0 := by omega
                have hmb : monB z m = true := by unfold monB; simp [c1, c2, c3]
                simp [go_sem, c3']
                refine ⟨by kernel_rfl, ?_⟩
                by_cases j0 : 0 < j
                · have hk : j - 1 < P.length := by omega
                  have ek : (j : Int) - 1 = ((j - 1 : Nat) : Int) := by omega
                  have hyk : P[j - 1]?.getD (0, []) ∈ P := by simp [hk]
                  have hmk := hm2 _ hyk
                  have cL := l01Less_c (P[j - 1]?.getD (0, [])).2 m.2 (by omega) (by omega)
                  have hat : atB z P j = ltL (P[j - 1]?.getD (0, [])).2 m.2 := by unfold atB; rw [hM, hmb, decide_eq_false (by omega : ¬ j = 0)]; simp
                  simp [go_sem, j0, ek, prt_drop hif, hP, mons_drop hk]
                  generalize (P[j - 1]?.getD (0, [])).2 = pw0 at *
                  refine ⟨⟨hif, by rintro rfl; simp at hif⟩, by omega, ⟨hk, by rintro rfl; simp at h⟩, ?_⟩
                  generalize hL : ltL pw0 m.2 = bb at *
                  refine CallD.of (cL) (by simp [roots, rootsL]) (by decide) ?_
                  simp [go_sem]
                  cases bb with
                  | false =>
                    simp [go_sem]
                    refine ⟨by kernel_rfl, ?_⟩
                    simp [go_sem]
                    rw [hno hat]
                  | true =>
                    simp [go_sem]
                    refine ⟨by kernel_rfl, ?_⟩
                    simp [go_sem]
                    refine ⟨by omega, j + 1, ⟨by omega, fun k hk2 => ?_⟩, by omega, Off_reset _ _ _ (by simp), by omega⟩
                    by_cases e : k = j
                    · rw [e]; exact hat
                    · exact hq k (by omega)
                · simp [go_sem, j0]
                  refine ⟨by kernel_rfl, ?_⟩
                  simp [go_sem]
                  have hat : atB z P j = true := by unfold atB; rw [hM, hmb, decide_eq_true (by omega : j = 0)]; rfl
                  refine ⟨by omega, j + 1, ⟨by omega, fun k hk2 => ?_⟩, by omega, Off_reset _ _ _ (by simp), by omega⟩
                  by_cases e : k = j
                  · rw [e]; exact hat
                  · exact hq k (by omega)
              · have c3' : 3 < degL m.2 0 := by omega
                simp [go_sem, c3']
                rw [hno (by unfold atB monB; rw [hM, decide_eq_false c3]; simp)]
            · simp [go_sem, c1.1, c1.2, c2]
              rw [hno (by unfold atB monB; simp [hM, c2])]
          · have c1' : (decide (1 ≤ m.1) && decide (m.1 ≤ 10006)) = false := by simpa using c1
            rw [c1']
            simp [go_sem]
            rw [hno (by unfold atB monB; rw [hM, decide_eq_false c1]; simp)]
        · simp [go_sem]
          have hpb : partB z P = true := partB_yes (fun k hk => hq k (by omega))
          refine ⟨by omega, i + 1, ⟨by omega, take_all hif hp (by rw [← hP] at hpb; simpa [hif] using hpb)⟩, by omega, (Off.reset (by intro x hx; simp at hx ⊢; omega) (by simp) (by simp [go_sem, Off_reset])), by omega⟩
      · simp [go_sem]
        rw [List.take_of_length_le h] at hp
        rw [fine, List.all_eq_true.2 hp]
    · simp [go_sem, hz.1, hz.2, hl]
      unfold fieldB; simp [hl]
  · have hz' : (decide (1 ≤ z) && decide (z ≤ 3)) = false := by simpa using hz
    rw [hz']
    simp [go_sem]
    unfold fieldB; rw [decide_eq_false hz]; simp
end Go.Proofs.YtmojbncbbnjblaaGreat


namespace Go.Proofs.YtmojbncbbnjblaaGreat
open Go.Abs
set_option linter.unusedVariables false
set_option linter.unusedSimpArgs false
set_option maxHeartbeats 1000000
theorem degL_le : ∀ {xs : List Int} {s : Int}, 0 ≤ s → degL xs s ≤ 3 → (∀ x ∈ xs, 0 ≤ x ∧ x ≤ 3) ∧ s + xs.sum ≤ 3
  | [], s, h0, h => by simpa [degL] using h
  | x :: xs, s, h0, h => by
    rw [degL] at h
    split at h
    · omega
    · rename_i hx
      have hd := degL_le (xs := xs) (s := s + x) (by omega) h
      have pos : ∀ (l : List Int), (∀ x ∈ l, 0 ≤ x ∧ x ≤ 3) → 0 ≤ l.sum := by
        intro l
        induction l with
        | nil => simp
        | cons a l ih => intro h; have h1 := h a (by simp); have h2 := ih (fun x hx => h x (by simp [hx])); simp; omega
      have hs := pos xs hd.1
      have hd2 := hd.2
      refine ⟨fun y hy => ?_, by simp; omega⟩
      rcases List.mem_cons.1 hy with rfl | hy
      · omega
      · exact hd.1 y hy
structure MonOk (z : Int) (m : Mon) : Prop where
  lo : 1 ≤ m.1
  hi : m.1 ≤ 10006
  len : (m.2.length : Int) = z
  pw : ∀ x ∈ m.2, 0 ≤ x ∧ x ≤ 3
  deg : m.2.sum ≤ 3
theorem monB_ok {z : Int} {m : Mon} (h : monB z m = true) : MonOk z m := by
  unfold monB at h
  simp only [Bool.and_eq_true, decide_eq_true_eq] at h
  have := degL_le (by omega : (0 : Int) ≤ 0) h.2
  exact ⟨h.1.1.1, h.1.1.2, h.1.2, this.1, by omega⟩
theorem MonOk.get {z : Int} {m : Mon} (h : MonOk z m) (k : Nat) : 0 ≤ m.2[k]?.getD 0 ∧ m.2[k]?.getD 0 ≤ 3 := by
  rcases Nat.lt_or_ge k m.2.length with hk | hk
  · simp [hk]; exact h.pw _ (List.getElem_mem hk)
  · simp [hk]
structure FieldOk (z : Int) (f : List (List Mon)) : Prop where
  lo : 1 ≤ z
  hi : z ≤ 3
  len : (f.length : Int) = z
  part : ∀ p ∈ f, partB z p = true
theorem fieldB_iff {z : Int} {f : List (List Mon)} : fieldB z f = true ↔ FieldOk z f := by
  unfold fieldB
  simp only [Bool.and_eq_true, decide_eq_true_eq, List.all_eq_true]
  exact ⟨fun ⟨⟨⟨a, b⟩, c⟩, d⟩ => ⟨a, b, c, d⟩, fun ⟨a, b, c, d⟩ => ⟨⟨⟨a, b⟩, c⟩, d⟩⟩
theorem partB_at {z : Int} {p : List Mon} (h : partB z p = true) {j : Nat} (hj : j < p.length) : MonOk z (p[j]?.getD (0, [])) ∧ (0 < j → ltL (p[j - 1]?.getD (0, [])).2 (p[j]?.getD (0, [])).2 = true) := by
  unfold partB at h
  have := (List.all_eq_true.1 h) j (by simpa using hj)
  unfold atB at this
  simp only [Bool.and_eq_true, Bool.or_eq_true, decide_eq_true_eq] at this
  exact ⟨monB_ok this.1, fun h0 => this.2.resolve_left (by omega)⟩
theorem partB_mem {z : Int} {p : List Mon} (h : partB z p = true) {m : Mon} (hm : m ∈ p) : MonOk z m := by
  obtain ⟨j, hj, rfl⟩ := List.getElem_of_mem hm
  have := (partB_at h hj).1
  simpa [hj] using this
def tmF (y e : List Int) (x : Int) : Nat → Int
  | 0 => x
  | i + 1 => tmF y e x i * Go.Proofs.YtmojbncbbnjblaaGreat.pw (y[i]?.getD 0) (e[i]?.getD 0) % 10007
theorem tmF_N {y e : List Int} {x : Int} (h : isN x) : ∀ i, isN (tmF y e x i)
  | 0 => h
  | i + 1 => isN_mod _
def vsum (y : List Int) : List Mon → Int
  | [] => 0
  | m :: p => tmF y m.2 m.1 y.length + vsum y p
theorem l13Point_c (z : Int) (y : List Int) (hl : y.length ≤ 9223372036854775807) : Con Tryz.prog 84 [.int z, .sl y.length (avs y)] (.bool (decide ((y.length : Int) = z) && numsB y)) := by
  refine con_of_vc Tryz.mixed ⟨5, [], [], []⟩ Tryz.func84 (by decide) rfl (by simp) (by decide) (by simp [freshOK, freshL, go_sem]) ?_
  rw [Tryz.ntmps84]
  simp [go_sem]
  by_cases h : (y.length : Int) = z
  · simp [go_sem, h]
    refine CallVC.of (l01Numbers_c y hl) (by decide) ?_
    simp [go_sem]
  · simp [go_sem, h]
def evL (y : List Int) (f : List (List Mon)) : List Int := f.map fun p => vsum y p % 10007
@[simp] theorem evL_len (y : List Int) (f : List (List Mon)) : (evL y f).length = f.length := by simp [evL]
theorem evL_take {y : List Int} {f : List (List Mon)} {i : Nat} (h : i < f.length) : evL y (f.take (i + 1)) = evL y (f.take i) ++ [vsum y (f[i]?.getD []) % 10007] := by
  rw [evL, evL, List.take_add_one, List.map_append, List.getElem?_eq_getElem h]; rfl
def evX (z : Int) (f : List (List Mon)) (y : List Int) : List Int := if fieldB z f = true ∧ (decide ((y.length : Int) = z) && numsB y) = true then evL y f else []
def evE (z : Int) (f : List (List Mon)) (y : List Int) : Int := if fieldB z f = true then if (decide ((y.length : Int) = z) && numsB y) = true then 0 else 2 else 1
def evR (z : Int) (f : List (List Mon)) (y : List Int) : AV := .tup [.own 2 (evX z f y).length (avs (evX z f y)), .int (evE z f y)]
end Go.Proofs.YtmojbncbbnjblaaGreat


namespace Go.Proofs.YtmojbncbbnjblaaGreat
open Go.Abs
set_option linter.unusedVariables false
set_option linter.unusedSimpArgs false
set_option maxHeartbeats 1000000
def cmpI (x y : Int) : Int := if x < y then -1 else if y < x then 1 else 0
theorem isNaN_c (x : Int) : Con Tryz.prog 182 [.int x] (.bool false) := by
  refine con_of_vc Tryz.mixed ⟨3, [], [], []⟩ Tryz.func182 (by decide) rfl (by simp) (by decide) (by simp [freshOK, freshL, go_sem]) ?_
  rw [Tryz.ntmps182]
  simp [go_sem]
theorem Compare1_c (x y : Int) : Con Tryz.prog 147 [.int x, .int y] (.int (cmpI x y)) := by
  refine con_of_vc Tryz.mixed ⟨7, [], [], []⟩ Tryz.func147 (by decide) rfl (by simp) (by decide) (by simp [freshOK, freshL, go_sem]) ?_
  rw [Tryz.ntmps147]
  simp [go_sem]
  refine CallVC.of (isNaN_c _) (by decide) ?_
  simp [go_sem]
  refine CallVC.of (isNaN_c _) (by decide) ?_
  simp [go_sem]
  unfold cmpI
  by_cases h1 : x < y
  · simp [go_sem, h1]
  · by_cases h2 : y < x
    · simp [go_sem, h1, h2]
    · simp [go_sem, h1, h2]
def cmpL : List Int → List Int → Int
  | [], [] => 0
  | [], _ :: _ => -1
  | _ :: _, [] => 1
  | x :: xs, y :: ys => if x = y then cmpL xs ys else cmpI x y
theorem cmpI_ne {x y : Int} (h : x ≠ y) : cmpI x y ≠ 0 := by unfold cmpI; split; omega; split <;> omega
theorem cmpL_lt : ∀ a b : List Int, decide (0 ≤ cmpL a b) = !ltL a b
  | [], [] => by simp [cmpL, ltL]
  | [], _ :: _ => by simp [cmpL, ltL]
  | _ :: _, [] => by simp [cmpL, ltL]
  | x :: xs, y :: ys => by
    rw [cmpL, ltL]
    by_cases h : x = y
    · rw [if_pos h, if_pos h]; exact cmpL_lt xs ys
    · rw [if_neg h, if_neg h]
      unfold cmpI
      by_cases h1 : x < y
      · simp [h1]
      · have : y < x := by omega
        simp [h1, this]
theorem cmpL_at : ∀ {a b : List Int} {i : Nat}, i < a.length → i < b.length → a.take i = b.take i → a[i]?.getD 0 ≠ b[i]?.getD 0 → cmpL a b = cmpI (a[i]?.getD 0) (b[i]?.getD 0)
  | x :: a, y :: b, 0, _, _, _, h => by
    simp at h
    simp [cmpL, h]
  | x :: a, y :: b, i + 1, h1, h2, h3, h4 => by
    simp at h3
    simp only [cmpL, if_pos h3.1]
    simpa using cmpL_at (a := a) (b := b) (i := i) (by simpa using h1) (by simpa using h2) h3.2 (by simpa using h4)
theorem cmpL_more : ∀ {a b : List Int} {i : Nat}, i < a.length → b.length ≤ i → a.take b.length = b → cmpL a b = 1
  | x :: a, [], _, _, _, _ => by simp [cmpL]
  | x :: a, y :: b, 0, _, h, _ => by simp at h
  | x :: a, y :: b, i + 1, h1, h2, h3 => by
    simp at h3
    simp only [cmpL, if_pos h3.1]
    exact cmpL_more (a := a) (b := b) (i := i) (by simpa using h1) (by simpa using h2) h3.2
theorem cmpL_end : ∀ {a b : List Int}, a = b.take a.length → cmpL a b = if a.length < b.length then -1 else 0
  | [], [], _ => by simp [cmpL]
  | [], _ :: _, _ => by simp [cmpL]
  | x :: a, [], h => by simp at h
  | x :: a, y :: b, h => by
    simp at h
    simp only [cmpL, if_pos h.1]
    rw [cmpL_end h.2]; simp
set_option maxRecDepth 100000 in
theorem Compare_c (a b : List Int) (ha : a.length ≤ 9223372036854775807) (hb : b.length ≤ 9223372036854775807) : Con Tryz.prog 104 [.sl a.length (avs a), .sl b.length (avs b)] (.int (cmpL a b)) := by
  refine con_of_vc Tryz.mixed ⟨9, [], [], []⟩ Tryz.func104 (by decide) rfl (by simp) (by decide) (by simp [freshOK, freshL, go_sem]) ?_
  rw [Tryz.ntmps104]
  simp [go_sem]
  refine loop_inv (4 :: 5 :: 6 :: 7 :: 8 :: List.range' 11 20) (fun i : Nat => [(11, .int i)]) (fun i => i ≤ a.length ∧ i ≤ b.length ∧ a.take i = b.take i) (fun i => a.length - i) 0 (by simp) (by simp [go_sem]) (by simp [go_sem]) ?_
  rintro i ⟨hi, hj, he⟩
  simp [go_sem]
  refine ⟨fun h => ?_, fun h => ?_⟩ <;> simp at h
  · have h1 := h
    simp [go_sem, avs_drop h1]
    refine ⟨⟨h1, by rintro rfl; simp at h1⟩, ?_⟩
    by_cases h2 : i < b.length
    · have h2' : ¬ (b.length ≤ i) := by omega
      simp [go_sem, h2', avs_drop h2]
      refine ⟨⟨h2, by rintro rfl; simp at h2⟩, ?_⟩
      refine CallVC.of (Compare1_c _ _) (by decide) ?_
      simp [go_sem]
      by_cases hd : a[i]?.getD 0 = b[i]?.getD 0
      · have hc : cmpI (a[i]?.getD 0) (b[i]?.getD 0) = 0 := by unfold cmpI; rw [if_neg (by omega), if_neg (by omega)]
        simp [go_sem, hc]
        refine ⟨by omega, i + 1, ⟨by omega, by omega, take_ext h1 h2 he hd⟩, by omega, Off_reset _ _ _ (by simp), by omega⟩
      · have hc := cmpI_ne hd
        simp [go_sem, hc]
        rw [cmpL_at h1 h2 he hd]
    · have h2' : b.length ≤ i := by omega
      have e : i = b.length := by omega
      simp [go_sem, h2']
      rw [cmpL_more h1 h2' (by rw [← e, he, e, List.take_length])]
  · simp [go_sem]
    have e : i = a.length := by omega
    subst e
    rw [List.take_length] at he
    rw [cmpL_end he]
    by_cases h3 : a.length < b.length
    · simp [go_sem, h3]
    · simp [go_sem, h3]
theorem degL_big {xs : List Int} {s : Int} (h : 3 < s) : ¬ degL xs s ≤ 3 := by
  intro hd
  have := degL_le (by omega : 0 ≤ s) hd
  have pos : ∀ (l : List Int), (∀ x ∈ l, 0 ≤ x ∧ x ≤ 3) → 0 ≤ l.sum := by
    intro l
    induction l with
    | nil => simp
    | cons a l ih => intro h; have h1 := h a (by simp); have h2 := ih (fun x hx => h x (by simp [hx])); simp; omega
  have := pos xs this.1
  omega
set_option maxRecDepth 100000 in
theorem isMonomial_c (z : Int) (m : Mon) (hl : m.2.length ≤ 1048576) : Con Tryz.prog 103 [.agg [.int m.1, .sl m.2.length (avs m.2)], .int z] (.bool (monB z m)) := by
  refine con_of_vc Tryz.mixed ⟨8, [], [], []⟩ Tryz.func103 (by decide) rfl (by simp) (by decide) (by simp [freshOK, freshL, go_sem]) ?_
  rw [Tryz.ntmps103]
  simp [go_sem]
  refine loop_inv (4 :: 5 :: 7 :: List.range' 11 11) (fun x : Nat × Int => [(5, .int x.2), (11, .int x.1)]) (fun x => x.1 ≤ m.2.length ∧ 0 ≤ x.2 ∧ x.2 ≤ 3 * x.1 ∧ degL (m.2.drop x.1) x.2 = degL m.2 0) (fun x => m.2.length - x.1) (0, 0) (by simp) (by simp [go_sem]) (by simp [go_sem]) ?_
  rintro ⟨i, s⟩ ⟨hi, hs0, hs1, he⟩
  simp only at hi hs0 hs1 he
  simp [go_sem]
  refine ⟨fun h => ?_, fun h => ?_⟩ <;> simp at h
  · have hd : m.2.drop i = m.2[i]?.getD 0 :: m.2.drop (i + 1) := by rw [List.drop_eq_getElem_cons h]; simp [h]
    simp [go_sem, avs_drop h]
    refine ⟨⟨h, fun e => by rw [e] at h; simp at h⟩, ?_⟩
    refine CallVC.of (inRange_c _ _ _) (by decide) ?_
    by_cases hx : 0 ≤ m.2[i]?.getD 0 ∧ m.2[i]?.getD 0 ≤ 3
    · simp [go_sem, hx.1, hx.2]
      rw [hd, degL, if_neg (by omega)] at he
      refine ⟨by omega, by omega, i + 1, _, ⟨by omega, by omega, by omega, he⟩, by omega, Off_reset _ _ _ (by simp), rfl, by omega⟩
    · have hx' : (decide (0 ≤ m.2[i]?.getD 0) && decide (m.2[i]?.getD 0 ≤ 3)) = false := by simpa using hx
      have hm : monB z m = false := by
        have : ¬ degL m.2 0 ≤ 3 := by
          rw [← he, hd, degL]
          split
          · omega
          · exact degL_big (by omega)
        unfold monB; rw [decide_eq_false this]; simp
      rw [hx']
      simp [go_sem]
      rw [hm]
  · simp [go_sem]
    rw [List.drop_eq_nil_of_le h, degL] at he
    subst he
    by_cases c0 : m.1 = 0
    · simp [go_sem, c0]
      unfold monB; simp [c0]
    · simp [go_sem, c0]
      refine CallVC.of (IsNumber_c _) (by decide) ?_
      simp [go_sem]
      by_cases c1 : 0 ≤ m.1 ∧ m.1 ≤ 10006
      · simp [go_sem, c1.1, c1.2]
        refine CallVC.of (length_c _ _ (by omega)) (by decide) ?_
        simp [go_sem]
        by_cases c2 : (m.2.length : Int) = z
        · simp [go_sem, c2]
          unfold monB
          have : 1 ≤ m.1 := by omega
          simp [this, c1.2, c2]
        · simp [go_sem, c2]
          unfold monB; simp [c2]
      · have c1' : (decide (0 ≤ m.1) && decide (m.1 ≤ 10006)) = false := by simpa using c1
        rw [c1']
        simp [go_sem]
        have : ¬ (1 ≤ m.1 ∧ m.1 ≤ 10006) := by omega
        unfold monB; rw [decide_eq_false this]; simp
theorem lengthP_c (n : Nat) (cs : List AV) (hn : n ≤ 9223372036854775807) : Con Tryz.prog 102 [.sl n cs] (.int n) := by
  refine con_of_vc Tryz.mixed ⟨3, [], [], []⟩ Tryz.func102 (by decide) rfl (by simp) (by decide) (by simp [freshOK, freshL, go_sem]) ?_
  rw [Tryz.ntmps102]
  simp [go_sem]
  try omega
set_option maxRecDepth 100000 in
theorem IsField_c (z : Int) (f : List (List Mon)) (hf : Small f) : Con Tryz.prog 58 [.agg [.int z, .sl f.length (prt f)]] (.bool (fieldB z f)) := by
  have fl := hf.1
  refine con_of_vc Tryz.mixed ⟨7, [], [], []⟩ Tryz.func58 (by decide) rfl (by simp) (by decide) (by simp [freshOK, freshL, go_sem]) ?_
  rw [Tryz.ntmps58]
  simp [go_sem]
  refine ⟨by kernel_rfl, ?_⟩
  refine CallD.of (inRange_c z 1 3) (by simp [roots, rootsL]) (by decide) ?_
  simp [go_sem]
  by_cases hz : 1 ≤ z ∧ z ≤ 3
  · have cl := lengthP_c f.length (prt f) (by omega)
    by_cases hl : (f.length : Int) = z
    · have fine : fieldB z f = f.all (partB z) := by unfold fieldB; simp [hz, hl]
      simp [go_sem, hz.1, hz.2]
      refine CallD.of (cl) (by simp [roots, rootsL]) (by decide) ?_
      simp [go_sem]
      simp [go_sem, hl]
      refine ⟨by kernel_rfl, ?_⟩
      simp [go_sem]
      refine loop_inv (2 :: 4 :: 5 :: 6 :: List.range' 22 34) (fun i : Nat => [(22, .int i)]) (fun i => i ≤ f.length ∧ ∀ p ∈ f.take i, partB z p = true) (fun i => f.length - i) 0 (by simp) (by simp [go_sem]) (by simp [go_sem]) ?_
      rintro i ⟨hi, hp⟩
      simp [go_sem]
      refine ⟨fun h => ?_, fun h => ?_⟩ <;> simp at h
      · have hif := h
        have hx : f[i]?.getD [] ∈ f := by simp [h]
        obtain ⟨hm1, hm2⟩ := hf.2 _ hx
        simp [go_sem, prt_drop hif]
        refine ⟨⟨hif, by rintro rfl; simp at hif⟩, ?_⟩
        generalize hP : f[i]?.getD [] = P at *
        refine loop_inv (2 :: 5 :: 6 :: List.range' 28 27) (fun j : Nat => [(28, .int j)]) (fun j => j ≤ P.length ∧ ∀ k, k < j → atB z P k = true) (fun j => P.length - j) 0 (by simp) (by simp [go_sem]) (by simp [go_sem]) ?_
        rintro j ⟨hj, hq⟩
        simp [go_sem]
        refine ⟨fun h => ?_, fun h => ?_⟩ <;> simp at h
        · have hy : P[j]?.getD (0, []) ∈ P := by simp [h]
          have hm := hm2 _ hy
          have hno : atB z P j = false → fieldB z f = false := fun hh => fieldB_no hif (by rw [hP]; exact partB_no h hh)
          simp [go_sem, mons_drop h]
          refine ⟨⟨h, by rintro rfl; simp at h⟩, by kernel_rfl, ?_⟩
          generalize hM : P[j]?.getD (0, []) = m at *
          have cM := isMonomial_c z m hm
          generalize hmb : monB z m = mb at *
          refine CallD.of (cM) (by simp [roots, rootsL]) (by decide) ?_
          simp [go_sem]
          cases mb with
          | false =>
            simp [go_sem]
            refine ⟨by kernel_rfl, ?_⟩
            simp [go_sem]
            rw [hno (by unfold atB; rw [hM, hmb]; rfl)]
          | true =>
            by_cases j0 : 0 < j
            · have hk : j - 1 < P.length := by omega
              have ek : (j : Int) - 1 = ((j - 1 : Nat) : Int) := by omega
              have hyk : P[j - 1]?.getD (0, []) ∈ P := by simp [hk]
              have hmk := hm2 _ hyk
              have cC := Compare_c (P[j - 1]?.getD (0, [])).2 m.2 (by omega) (by omega)
              have hat : atB z P j = ltL (P[j - 1]?.getD (0, [])).2 m.2 := by unfold atB; rw [hM, hmb, decide_eq_false (by omega : ¬ j = 0)]; simp
              have hlt := cmpL_lt (P[j - 1]?.getD (0, [])).2 m.2
              simp [go_sem, j0, ek, mons_drop hk]
              refine ⟨by omega, ⟨hk, by rintro rfl; simp at h⟩, ?_⟩
              generalize (P[j - 1]?.getD (0, [])).2 = pw0 at *
              generalize hc : cmpL pw0 m.2 = c at *
              refine CallD.of (cC) (by simp [roots, rootsL]) (by decide) ?_
              simp [go_sem]
              cases hL : ltL pw0 m.2 with
              | false =>
                rw [hL] at hlt hat
                have hc0 : 0 ≤ c := by simpa using hlt
                simp [go_sem, hc0]
                refine ⟨by kernel_rfl, ?_⟩
                simp [go_sem]
                rw [hno hat]
              | true =>
                rw [hL] at hlt hat
                have hc0 : ¬ 0 ≤ c := by simpa using hlt
                simp [go_sem, hc0]
                refine ⟨by kernel_rfl, ?_⟩
                simp [go_sem]
                refine ⟨by omega, j + 1, ⟨by omega, fun k hk2 => ?_⟩, by omega, Off_reset _ _ _ (by simp), by omega⟩
                by_cases e : k = j
                · rw [e]; exact hat
                · exact hq k (by omega)
            · simp [go_sem, j0]
              refine ⟨by kernel_rfl, ?_⟩
              simp [go_sem]
              have hat : atB z P j = true := by unfold atB; rw [hM, hmb, decide_eq_true (by omega : j = 0)]; rfl
              refine ⟨by omega, j + 1, ⟨by omega, fun k hk2 => ?_⟩, by omega, Off_reset _ _ _ (by simp), by omega⟩
              by_cases e : k = j
              · rw [e]; exact hat
              · exact hq k (by omega)
        · simp [go_sem]
          have hpb : partB z P = true := partB_yes (fun k hk => hq k (by omega))
          refine ⟨by omega, i + 1, ⟨by omega, take_all hif hp (by rw [← hP] at hpb; simpa [hif] using hpb)⟩, by omega, (Off.reset (by intro x hx; simp at hx ⊢; omega) (by simp) (by simp [go_sem, Off_reset])), by omega⟩
      · simp [go_sem]
        rw [List.take_of_length_le h] at hp
        rw [fine, List.all_eq_true.2 hp]
    · simp [go_sem, hz.1, hz.2]
      refine CallD.of (cl) (by simp [roots, rootsL]) (by decide) ?_
      simp [go_sem]
      simp [go_sem, hl]
      refine ⟨by kernel_rfl, ?_⟩
      simp [go_sem]
      unfold fieldB; simp [hl]
  · by_cases z1 : 1 ≤ z
    · have z3 : ¬ z ≤ 3 := fun h => hz ⟨z1, h⟩
      simp [go_sem, z1, z3]
      refine ⟨by kernel_rfl, ?_⟩
      simp [go_sem]
      unfold fieldB; rw [decide_eq_false hz]; simp
    · simp [go_sem, z1]
      refine ⟨by kernel_rfl, ?_⟩
      simp [go_sem]
      unfold fieldB; rw [decide_eq_false hz]; simp
def vecB (z : Int) (y : List Int) : Bool := decide ((y.length : Int) = z) && numsB y
theorem isVector_c (z : Int) (n : Nat) (cs : List AV) (y : List Int) (hl : y.length ≤ 9223372036854775807) :
    Con Tryz.prog 79 [.agg [.int z, .sl n cs], .sl y.length (avs y)] (.bool (vecB z y)) := by
  refine con_of_vc Tryz.mixed ⟨5, [], [], []⟩ Tryz.func79 (by decide) rfl (by simp) (by decide) (by simp [freshOK, freshL, go_sem]) ?_
  rw [Tryz.ntmps79]
  simp [go_sem]
  refine ⟨by kernel_rfl, ?_⟩
  refine CallD.of (length_c _ _ hl) (by simp [roots, rootsL]) (by decide) ?_
  simp [go_sem]
  unfold vecB
  by_cases h : (y.length : Int) = z
  · simp [go_sem, h]
    refine CallD.of (areNumbers_c y hl) (by simp [roots, rootsL]) (by decide) ?_
    simp [go_sem]
    refine ⟨by kernel_rfl, ?_⟩
    simp [go_sem]
  · simp [go_sem, h]
    refine ⟨by kernel_rfl, ?_⟩
    simp [go_sem]
theorem notVector_c (z : Int) (n : Nat) (cs : List AV) (y : List Int) (hl : y.length ≤ 9223372036854775807) :
    Con Tryz.prog 90 [.sl y.length (avs y), .fptr [.int z, .sl n cs]] (.bool (!vecB z y)) := by
  refine con_of_vc Tryz.mixed ⟨4, [], [], []⟩ Tryz.func90 (by decide) rfl (by simp) (by decide) (by simp [freshOK, freshL, go_sem]) ?_
  rw [Tryz.ntmps90]
  simp [go_sem]
  refine CallVC.of (isVector_c z n cs y hl) (by decide) ?_
  simp [go_sem]
theorem IndexFuncV_c (g : FuncId) (cs : List AV) (p : List Int → Bool) (xss : List (List Int)) (hl : xss.length ≤ 9223372036854775807) (hg : ∀ x ∈ xss, Con Tryz.prog g [.sl x.length (avs x), .fptr cs] (.bool (p x))) :
    Con Tryz.prog 141 [.sl xss.length (mat xss), .fn g [.fptr cs]] (.int (idxF p xss)) := by
  refine con_of_vc Tryz.mixed ⟨6, [], [], []⟩ Tryz.func141 (by decide) rfl (by simp) (by decide) (by simp [freshOK, freshL, go_sem]) ?_
  rw [Tryz.ntmps141]
  simp [go_sem]
  refine loop_inv (5 :: List.range' 8 20) (fun i : Nat => [(8, .int i)]) (fun i => i ≤ xss.length ∧ ∀ x ∈ xss.take i, p x = false) (fun i => xss.length - i) 0 (by simp) (by simp [go_sem]) (by simp [go_sem]) ?_
  rintro i ⟨hi, hf⟩
  simp [go_sem]
  have sk := idxF_skip p xss i hf hi
  refine ⟨fun h => ?_, fun h => ?_⟩ <;> simp at h
  · have hx : xss[i]?.getD [] ∈ xss := by simp [h]
    have hd : xss.drop i = xss[i]?.getD [] :: xss.drop (i + 1) := by rw [List.drop_eq_getElem_cons h]; simp [h]
    simp [go_sem, mat_drop h]
    refine ⟨⟨h, by rintro rfl; simp at h⟩, CallVC.of (hg _ hx) (by decide) ?_⟩
    simp [go_sem]
    refine ⟨fun h2 => ?_, fun h2 => ?_⟩ <;> simp [go_sem]
    · rw [sk, hd]; simp [idxF, h2]
    · refine ⟨by omega, i + 1, ⟨by omega, ?_⟩, by omega, Off_reset _ _ _ (by simp), by omega⟩
      intro x hx2
      rw [List.take_add_one, List.getElem?_eq_getElem h, Option.toList_some, List.mem_append, List.mem_singleton] at hx2
      rcases hx2 with hx2 | hx2
      · exact hf x hx2
      · rw [hx2]; simpa [h] using h2
  · simp [go_sem]
    rw [sk, List.drop_eq_nil_of_le h]; simp [idxF]
theorem ContainsFuncV_c (g : FuncId) (cs : List AV) (p : List Int → Bool) (xss : List (List Int)) (hl : xss.length ≤ 9223372036854775807) (hg : ∀ x ∈ xss, Con Tryz.prog g [.sl x.length (avs x), .fptr cs] (.bool (p x))) :
    Con Tryz.prog 89 [.sl xss.length (mat xss), .fn g [.fptr cs]] (.bool (xss.any p)) := by
  refine con_of_vc Tryz.mixed ⟨5, [], [], []⟩ Tryz.func89 (by decide) rfl (by simp) (by decide) (by simp [freshOK, freshL, go_sem]) ?_
  rw [Tryz.ntmps89]
  simp [go_sem]
  refine CallVC.of (IndexFuncV_c g cs p xss hl hg) (by decide) ?_
  simp [go_sem]
  simp [idxF_any]
def chk (z : Int) (f : List (List Mon)) (ys : List (List Int)) : Int := if fieldB z f = true then if ys.any (fun y => !vecB z y) = true then 2 else 0 else 1
theorem checkVectors_c (z : Int) (f : List (List Mon)) (ys : List (List Int)) (hs : Small f) (hl : ys.length ≤ 9223372036854775807) (hr : ∀ y ∈ ys, y.length ≤ 9223372036854775807) :
    Con Tryz.prog 45 [.agg [.int z, .sl f.length (prt f)], .sl ys.length (mat ys)] (.int (chk z f ys)) := by
  have cI := IsField_c z f hs
  have cC := ContainsFuncV_c 90 [.int z, .sl f.length (prt f)] (fun y => !vecB z y) ys hl (fun y hy => notVector_c z _ _ y (hr y hy))
  unfold chk
  generalize fieldB z f = b at *
  generalize ys.any (fun y => !vecB z y) = c at *
  refine con_of_vc Tryz.mixed ⟨5, [], [], []⟩ Tryz.func45 (by decide) rfl (by simp) (by decide) (by simp [freshOK, freshL, go_sem]) ?_
  rw [Tryz.ntmps45]
  simp [go_sem]
  refine CallVC.of (cI) (by decide) ?_
  simp [go_sem]
  cases b with
  | false =>
    simp [go_sem]
  | true =>
    simp [go_sem]
    refine CallVC.of (cC) (by decide) ?_
    simp [go_sem]
    cases c with
    | false =>
      simp [go_sem]
    | true =>
      simp [go_sem]
end Go.Proofs.YtmojbncbbnjblaaGreat


namespace Go.Proofs.YtmojbncbbnjblaaGreat
open Go.Abs
set_option linter.unusedVariables false
set_option linter.unusedSimpArgs false
set_option maxHeartbeats 1000000
def keyOf (e : List Int) : Key := (e[0]?.getD 0, e[1]?.getD 0, e[2]?.getD 0)
def polG (c : Key → Option Int) : List Mon → Key → Option Int
  | [] => c
  | m :: p => polG (mset c (keyOf m.2) m.1) p
def polF (p : List Mon) : Key → Option Int := polG mzero p
theorem polG_app (c : Key → Option Int) (p q : List Mon) : polG c (p ++ q) = polG (polG c p) q := by
  induction p generalizing c with
  | nil => rfl
  | cons m p ih => exact ih _
theorem polF_take {p : List Mon} {i : Nat} (h : i < p.length) : polF (p.take (i + 1)) = mset (polF (p.take i)) (keyOf (p[i]?.getD (0, [])).2) (p[i]?.getD (0, [])).1 := by
  rw [List.take_add_one, List.getElem?_eq_getElem h, polF, polG_app]; rfl
set_option maxRecDepth 100000 in
theorem polynomialOf_c (p : List Mon) (hp : p.length ≤ 1048576) (hm : ∀ m ∈ p, m.2.length ≤ 3) :
    Con Tryz.prog 82 [.sl p.length (mons p)] (.mp (polF p)) := by
  refine con_of_vc Tryz.mixed ⟨7, [], [], []⟩ Tryz.func82 (by decide) rfl (by simp) (by decide) (by simp [freshOK, freshL, go_sem]) ?_
  rw [Tryz.ntmps82]
  simp [go_sem]
  refine loop_inv (3 :: 5 :: 6 :: List.range' 10 14) (fun i : Nat => [(3, .mp (polF (p.take i))), (10, .int i)]) (fun i => i ≤ p.length) (fun i => p.length - i) 0 (by simp) (by simp [go_sem, polF, polG]) (by simp [go_sem]) ?_
  intro i hi
  simp [go_sem]
  refine ⟨fun h => ?_, fun h => ?_⟩ <;> simp at h
  · have hif := h
    have hx : p[i]?.getD (0, []) ∈ p := by simp [h]
    have hl := hm _ hx
    have hv := polF_take h
    simp [go_sem, mons_drop hif]
    generalize p[i]?.getD (0, []) = m at *
    obtain ⟨x, e⟩ := m
    simp only at hl hv
    refine ⟨⟨hif, by rintro rfl; simp at hif⟩, by kernel_rfl, ⟨by omega, by omega⟩, ?_⟩
    refine ⟨by kernel_rfl, ?_⟩
    simp [go_sem]
    rcases e with _ | ⟨a, _ | ⟨b, _ | ⟨c, _ | ⟨d, e⟩⟩⟩⟩
    · simp [go_sem, avs]
      refine ⟨by omega, i + 1, by omega, by omega, Off_reset _ _ _ (by simp), hv.symm, by omega⟩
    · simp [go_sem, avs]
      refine ⟨by omega, i + 1, by omega, by omega, Off_reset _ _ _ (by simp), hv.symm, by omega⟩
    · simp [go_sem, avs]
      refine ⟨by omega, i + 1, by omega, by omega, Off_reset _ _ _ (by simp), hv.symm, by omega⟩
    · simp [go_sem, avs]
      refine ⟨by omega, i + 1, by omega, by omega, Off_reset _ _ _ (by simp), hv.symm, by omega⟩
    · simp at hl
  · simp [go_sem]
    rw [List.take_of_length_le h]
def pols (f : List (List Mon)) : List AV := f.map fun p => .mp (polF p)
def fpols (f : List (List Mon)) : List AV := f.map fun p => .fmp (polF p)
@[simp] theorem pols_len (f : List (List Mon)) : (pols f).length = f.length := by simp [pols]
@[simp] theorem fpols_len (f : List (List Mon)) : (fpols f).length = f.length := by simp [fpols]
@[simp] theorem fpols_ne {f : List (List Mon)} : (fpols f = []) = (f = []) := by cases f <;> simp [fpols]
@[simp] theorem pols_frz : ∀ f : List (List Mon), frzL (pols f) = fpols f
  | [] => rfl
  | p :: f => by have := pols_frz f; simp only [pols, fpols, List.map_cons, frzL] at this ⊢; rw [this]; simp [frz]
@[simp] theorem pols_fresh : ∀ f : List (List Mon), freshL (pols f) = true
  | [] => rfl
  | p :: f => by have := pols_fresh f; simp only [pols, List.map_cons, freshL] at this ⊢; rw [this]; simp [freshOK]
theorem fpols_drop {f : List (List Mon)} {k : Nat} (h : k < f.length) : (fpols f).drop k = .fmp (polF (f[k]?.getD [])) :: fpols (f.drop (k + 1)) := by
  rw [fpols, ← List.map_drop, List.drop_eq_getElem_cons h, List.map_cons]; simp [h, fpols]
theorem polynomials_c (z : Int) (f : List (List Mon)) (hf : FieldOk z f) (hs : Small f) :
    Con Tryz.prog 37 [.agg [.int z, .sl f.length (prt f)]] (.own 83 f.length (pols f)) := by
  have fl := hs.1
  have z3 := hf.hi
  have zl := hf.len
  refine con_of_vc Tryz.mixed ⟨6, [], [], []⟩ Tryz.func37 (by decide) rfl (by simp) (by decide) (by simp [freshOK, freshL, go_sem]) ?_
  rw [Tryz.ntmps37]
  simp [go_sem]
  refine loop_inv (3 :: 5 :: List.range' 10 10) (fun i : Nat => [(3, .own 83 i (pols (f.take i))), (10, .int i)]) (fun i => i ≤ f.length) (fun i => f.length - i) 0 (by simp) (by simp [go_sem, pols]) (by simp [go_sem]) ?_
  intro i hi
  simp [go_sem]
  refine ⟨fun h => ?_, fun h => ?_⟩ <;> simp at h
  · have hif := h
    have hx : f[i]?.getD [] ∈ f := by simp [h]
    have hm := hs.2 _ hx
    simp [go_sem, prt_drop hif]
    refine ⟨⟨hif, by rintro rfl; simp at hif⟩, ?_⟩
    refine CallVC.of (polynomialOf_c _ hm.1 (fun m hm => by have := (partB_mem (hf.part _ hx) hm).len; omega)) (by decide) ?_
    simp [go_sem]
    have e1 : f.take (i + 1) = f.take i ++ [f[i]?.getD []] := by rw [List.take_add_one]; simp [hif]
    refine ⟨⟨by omega, by omega, by omega⟩, by omega, i + 1, by omega, by omega, Off_reset _ _ _ (by simp), ⟨rfl, ?_⟩, by omega⟩
    rw [e1]; simp [pols]
  · simp [go_sem]
    rw [List.take_of_length_le h]
    exact ⟨by omega, rfl⟩
def tmK (y : List Int) (k : Key) (x : Int) : Int := tmF y [k.1, k.2.1, k.2.2] x y.length
def rest (y : List Int) : List (Key × Int) → Int
  | [] => 0
  | e :: es => tmK y e.1 e.2 + rest y es
theorem rest_app (y : List Int) (a b : List (Key × Int)) : rest y (a ++ b) = rest y a + rest y b := by
  induction a with
  | nil => simp [rest]
  | cons e a ih => simp [rest, ih]; omega
theorem rest_pos (y : List Int) : ∀ {es : List (Key × Int)}, (∀ e ∈ es, isN e.2) → 0 ≤ rest y es
  | [], _ => by simp [rest]
  | e :: es, h => by
    have h1 := rest_pos y (es := es) (fun a ha => h a (by simp [ha]))
    have h2 := (tmF_N (y := y) (e := [e.1.1, e.1.2.1, e.1.2.2]) (h e (by simp)) y.length).1
    simp only [rest, tmK]; omega
def EOk (e : Key × Int) : Prop := isN e.2 ∧ 0 ≤ e.1.1 ∧ e.1.1 ≤ 1000 ∧ 0 ≤ e.1.2.1 ∧ e.1.2.1 ≤ 1000 ∧ 0 ≤ e.1.2.2 ∧ e.1.2.2 ≤ 1000
set_option maxRecDepth 100000 in
theorem value_c (c : Key → Option Int) (y : List Int) (T : Int) (hy : Ns y) (hl : y.length ≤ 3) (hc : ∀ k x, c k = some x → EOk (k, x)) (hT : T ≤ 1000000000000000000) (hE : ∀ es, Enum c es → rest y es = T) :
    Con Tryz.prog 91 [.fmp c, .sl y.length (avs y)] (.int (T % 10007)) := by
  refine con_of_vc Tryz.mixed ⟨10, [], [], []⟩ Tryz.func91 (by decide) rfl (by simp) (by decide) (by simp [freshOK, freshL, go_sem]) ?_
  rw [Tryz.ntmps91]
  simp [go_sem]
  intro es hes
  have hok : ∀ e ∈ es, EOk e := fun e he => hc e.1 e.2 (hes.val e he)
  have hsum := hE es hes
  refine loop_inv (5 :: 6 :: 7 :: 8 :: 9 :: 11 :: List.range' 12 24) (fun x : Int × Option (Key × Int) × List (Key × Int) => [(5, .int x.1), (11, .it x.2.1 x.2.2)]) (fun x => 0 ≤ x.1 ∧ x.1 + rest y x.2.2 = T ∧ ∀ e ∈ x.2.2, EOk e) (fun x => x.2.2.length) (0, none, es) ⟨by simp, by simpa using hsum, hok⟩ (by simp [go_sem]) (by simp [go_sem]) ?_
  rintro ⟨s, l, rem⟩ ⟨hs0, hsT, hrem⟩
  simp only at hs0 hsT hrem
  simp [go_sem, keyAV]
  refine ⟨fun hr => ?_, fun l1 k0 k1 k2 x l2 hr => ?_⟩
  · subst hr
    have : s = T := by simpa [rest] using hsT
    subst this
    refine CallVC.of (num_c _ (by omega) (by omega)) (by decide) ?_
    simp [go_sem]
  · subst hr
    have hek := hrem ((k0, k1, k2), x) (by simp)
    have hx : isN x := hek.1
    have hg : ∀ i : Nat, 0 ≤ ([k0, k1, k2] : List Int)[i]?.getD 0 ∧ ([k0, k1, k2] : List Int)[i]?.getD 0 ≤ 1000 := by
      intro i
      obtain ⟨_, a1, a2, a3, a4, a5, a6⟩ := hek
      match i with
      | 0 => exact ⟨a1, a2⟩
      | 1 => exact ⟨a3, a4⟩
      | 2 => exact ⟨a5, a6⟩
      | i + 3 => simp
    refine loop_inv (7 :: 8 :: 9 :: List.range' 19 14) (fun i : Nat => [(7, .int (tmF y [k0, k1, k2] x i)), (19, .int i)]) (fun i => i ≤ y.length) (fun i => y.length - i) 0 (by simp) (by simp [go_sem, tmF]) (by simp [go_sem]) ?_
    intro i hi
    simp [go_sem]
    refine ⟨fun h => ?_, fun h => ?_⟩ <;> simp at h
    · have h3 : i < ([k0, k1, k2] : List Int).length := by simp; omega
      have e3 : ([.val (.int .i64 k0), .val (.int .i64 k1), .val (.int .i64 k2)] : List AV)[i]? = some (.val (.int .i64 (([k0, k1, k2] : List Int)[i]?.getD 0))) := avs_at' (xs := [k0, k1, k2]) h3
      have g := hg i
      have m1 := mul_fits (tmF_N (y := y) (e := [k0, k1, k2]) hx i) (isN_mod ((y[i]?.getD 0) ^ (([k0, k1, k2] : List Int)[i]?.getD 0).toNat))
      have m2 : fits (tmF y [k0, k1, k2] x i * pw (y[i]?.getD 0) (([k0, k1, k2] : List Int)[i]?.getD 0)) := m1
      have hs : tmF y [k0, k1, k2] x (i + 1) = tmF y [k0, k1, k2] x i * pw (y[i]?.getD 0) (([k0, k1, k2] : List Int)[i]?.getD 0) % 10007 := rfl
      simp [go_sem, avs_drop h, e3]
      generalize ([k0, k1, k2] : List Int)[i]?.getD 0 = ki at *
      refine ⟨⟨h, by rintro rfl; simp at h⟩, by omega, ?_⟩
      refine CallVC.of (pow_c _ _ (hy.get i) g.1 (by omega)) (by decide) ?_
      simp [go_sem]
      refine ⟨m2, ?_⟩
      refine CallVC.of (num_c _ m2.1 m2.2) (by decide) ?_
      simp [go_sem]
      refine ⟨by omega, i + 1, by omega, by omega, Off_reset _ _ _ (by simp), hs.symm, by omega⟩
    · have e : i = y.length := by omega
      subst e
      have hr0 : 0 ≤ rest y (l1 ++ l2) := rest_pos y (fun e he => (hrem e (by
        rcases List.mem_append.1 he with he | he <;> simp [he])).1)
      have ht := tmF_N (y := y) (e := [k0, k1, k2]) hx y.length
      have hsT2 : s + tmF y [k0, k1, k2] x y.length + rest y (l1 ++ l2) = T := by
        rw [← hsT, rest_app, rest_app, rest]
        show _ = s + (rest y l1 + (tmF y [k0, k1, k2] x y.length + rest y l2))
        omega
      have ht1 := ht.1
      simp [go_sem]
      refine ⟨⟨by omega, by omega⟩, _, _, _, ⟨?_, hsT2, fun a b c d he => hrem _ ?_⟩, ?_, (Off.reset (by intro x hx; simp at hx ⊢; omega) (by simp) (by simp [go_sem, Off_reset])), rfl, rfl, rfl⟩
      · omega
      · rcases List.mem_append.1 he with he | he <;> simp [he]
      · simp
end Go.Proofs.YtmojbncbbnjblaaGreat


namespace Go.Proofs.YtmojbncbbnjblaaGreat
open Go.Abs
set_option linter.unusedVariables false
set_option linter.unusedSimpArgs false
set_option maxHeartbeats 1000000
theorem ltL_irr : ∀ a : List Int, ltL a a = false
  | [] => rfl
  | x :: a => by simp [ltL, ltL_irr a]
theorem ltL_trans : ∀ {a b c : List Int}, ltL a b = true → ltL b c = true → ltL a c = true
  | _, [], _, h, _ => by simp [ltL] at h
  | _, _ :: _, [], _, h => by simp [ltL] at h
  | [], _ :: _, _ :: _, _, _ => rfl
  | x :: a, y :: b, z :: c, h1, h2 => by
    simp only [ltL] at h1 h2 ⊢
    split at h1
    · rename_i e; subst e
      split at h2
      · rename_i e; subst e; rw [if_pos rfl]; exact ltL_trans h1 h2
      · rename_i e; rw [if_neg e]; exact h2
    · rename_i e1
      simp only [decide_eq_true_eq] at h1
      split at h2
      · rename_i e; subst e; rw [if_neg e1]; simpa using h1
      · rename_i e
        simp only [decide_eq_true_eq] at h2
        rw [if_neg (by omega)]; simp; omega
theorem chain_lt {z : Int} {p : List Mon} (h : partB z p = true) {i : Nat} : ∀ {j : Nat}, i < j → j < p.length → ltL (p[i]?.getD (0, [])).2 (p[j]?.getD (0, [])).2 = true
  | 0, h1, _ => by omega
  | j + 1, h1, h2 => by
    have hs := (partB_at h h2).2 (by omega)
    rw [Nat.add_sub_cancel] at hs
    rcases Nat.lt_or_ge i j with hl | hg
    · exact ltL_trans (chain_lt h hl (by omega)) hs
    · have : i = j := by omega
      subst this; exact hs
theorem keyOf_inj {a b : List Int} (hl : a.length = b.length) (h3 : a.length ≤ 3) (h : keyOf a = keyOf b) : a = b := by
  match a, b, hl, h3 with
  | [], [], _, _ => rfl
  | [x], [y], _, _ => simp [keyOf] at h; rw [h]
  | [x, x'], [y, y'], _, _ => simp [keyOf] at h; rw [h.1, h.2]
  | [x, x', x''], [y, y', y''], _, _ => simp [keyOf] at h; rw [h.1, h.2.1, h.2.2]
def keyM (m : Mon) : Key × Int := (keyOf m.2, m.1)
theorem keys_nd {z : Int} {p : List Mon} (hz : z ≤ 3) (h : partB z p = true) : p.Pairwise (fun a b => keyOf a.2 ≠ keyOf b.2) := by
  rw [List.pairwise_iff_getElem]
  intro i j hi hj hij he
  have hl := chain_lt h hij hj
  have m1 := (partB_at h hi).1.len
  have m2 := (partB_at h hj).1.len
  simp only [List.getElem?_eq_getElem hi, List.getElem?_eq_getElem hj, Option.getD_some] at hl m1 m2
  have := keyOf_inj (by omega) (by omega) he
  rw [this, ltL_irr] at hl
  simp at hl
theorem polG_out : ∀ (p : List Mon) (c : Key → Option Int) (k : Key), (∀ m ∈ p, keyOf m.2 ≠ k) → polG c p k = c k
  | [], c, k, _ => rfl
  | m :: p, c, k, h => by
    rw [polG, polG_out p _ k (fun a ha => h a (by simp [ha]))]
    have := h m (by simp)
    simp [mset, Ne.symm this]
theorem polG_in : ∀ (p : List Mon) (c : Key → Option Int), p.Pairwise (fun a b => keyOf a.2 ≠ keyOf b.2) → ∀ m ∈ p, polG c p (keyOf m.2) = some m.1
  | [], _, _, m, hm => by simp at hm
  | a :: p, c, h, m, hm => by
    obtain ⟨h1, h2⟩ := List.pairwise_cons.1 h
    rw [polG]
    rcases List.mem_cons.1 hm with rfl | hm
    · rw [polG_out p _ _ (fun b hb => Ne.symm (h1 b hb))]; simp [mset]
    · exact polG_in p _ h2 m hm
theorem polF_some {p : List Mon} (h : p.Pairwise (fun a b => keyOf a.2 ≠ keyOf b.2)) {k : Key} {x : Int} : polF p k = some x ↔ (k, x) ∈ p.map keyM := by
  constructor
  · intro hk
    by_cases hin : ∃ m ∈ p, keyOf m.2 = k
    · obtain ⟨m, hm, rfl⟩ := hin
      rw [polF, polG_in p _ h m hm] at hk
      injection hk with hk; subst hk
      exact List.mem_map.2 ⟨m, hm, rfl⟩
    · rw [polF, polG_out p _ k (fun m hm he => hin ⟨m, hm, he⟩)] at hk
      simp [mzero] at hk
  · intro hm
    obtain ⟨m, hm, he⟩ := List.mem_map.1 hm
    simp only [keyM, Prod.mk.injEq] at he
    rw [← he.1, ← he.2]
    exact polG_in p _ h m hm
theorem rest_perm (y : List Int) {a b : List (Key × Int)} (h : a.Perm b) : rest y a = rest y b := by
  induction h with
  | nil => rfl
  | cons x _ ih => simp [rest, ih]
  | swap x z l => simp [rest]; omega
  | trans _ _ i1 i2 => rw [i1, i2]
theorem nodup_of_key {α β : Type} {f : α → β} {l : List α} (h : l.Pairwise (fun a b => f a ≠ f b)) : l.Nodup := h.imp (fun hn e => hn (by rw [e]))
theorem enum_perm {p : List Mon} (h : p.Pairwise (fun a b => keyOf a.2 ≠ keyOf b.2)) {es : List (Key × Int)} (he : Enum (polF p) es) : es.Perm (p.map keyM) := by
  refine (List.perm_ext_iff_of_nodup (nodup_of_key (f := Prod.fst) he.nd) ?_).2 (fun e => ?_)
  · rw [List.Nodup, List.pairwise_map]
    exact h.imp (fun hn e => hn (congrArg Prod.fst e))
  · obtain ⟨k, x⟩ := e
    rw [← polF_some h]
    constructor
    · intro hm; exact he.val _ hm
    · intro hk
      by_cases hin : ∃ q ∈ es, q.1 = k
      · obtain ⟨⟨k', x'⟩, hq, hqk⟩ := hin
        simp only at hqk; subst hqk
        have := he.val _ hq
        simp only at this
        rw [hk] at this
        injection this with this; subst this
        exact hq
      · have := he.out k (fun q hq e => hin ⟨q, hq, e⟩)
        rw [hk] at this; simp at this
theorem tmF_congr {y e e' : List Int} {x : Int} : ∀ {n : Nat}, (∀ i, i < n → e[i]?.getD 0 = e'[i]?.getD 0) → tmF y e x n = tmF y e' x n
  | 0, _ => rfl
  | n + 1, h => by rw [tmF, tmF, tmF_congr (fun i hi => h i (by omega)), h n (by omega)]
theorem tmK_of {y : List Int} (hl : y.length ≤ 3) (m : Mon) : tmK y (keyOf m.2) m.1 = tmF y m.2 m.1 y.length := by
  refine tmF_congr (fun i hi => ?_)
  have : i = 0 ∨ i = 1 ∨ i = 2 := by omega
  rcases this with rfl | rfl | rfl <;> simp [keyOf]
theorem rest_map {y : List Int} (hl : y.length ≤ 3) : ∀ p : List Mon, rest y (p.map keyM) = vsum y p
  | [] => rfl
  | m :: p => by
    rw [List.map_cons, rest, vsum, rest_map hl p]
    show tmK y (keyOf m.2) m.1 + vsum y p = _
    rw [tmK_of hl]
theorem vsum_le (y : List Int) : ∀ p : List Mon, (∀ m ∈ p, isN m.1) → vsum y p ≤ 10006 * p.length
  | [], _ => by simp [vsum]
  | m :: p, h => by
    have h1 := vsum_le y p (fun a ha => h a (by simp [ha]))
    have h2 := (tmF_N (y := y) (e := m.2) (h m (by simp)) y.length).2
    simp only [vsum, List.length_cons]; omega
theorem part_entries {z : Int} {p : List Mon} (hz : z ≤ 3) (h : partB z p = true) {k : Key} {x : Int} (hk : polF p k = some x) : EOk (k, x) := by
  obtain ⟨m, hm, he⟩ := List.mem_map.1 ((polF_some (keys_nd hz h)).1 hk)
  simp only [keyM, Prod.mk.injEq] at he
  obtain ⟨rfl, rfl⟩ := he
  have ho := partB_mem h hm
  have g0 := ho.get 0
  have g1 := ho.get 1
  have g2 := ho.get 2
  have l1 := ho.lo
  have l2 := ho.hi
  unfold EOk isN keyOf
  simp only
  refine ⟨⟨by omega, by omega⟩, by omega, by omega, by omega, by omega, by omega, by omega⟩
end Go.Proofs.YtmojbncbbnjblaaGreat


namespace Go.Proofs.YtmojbncbbnjblaaGreat
open Go.Abs
set_option linter.unusedVariables false
set_option linter.unusedSimpArgs false
set_option maxHeartbeats 1000000
end Go.Proofs.YtmojbncbbnjblaaGreat


namespace Go.Proofs.YtmojbncbbnjblaaGreat
open Go.Abs
set_option linter.unusedVariables false
set_option linter.unusedSimpArgs false
set_option maxHeartbeats 1000000
structure VOk (n : Nat) (m : Mon) : Prop where
  num : isN m.1
  len : m.2.length = n
  pw : ∀ x ∈ m.2, 0 ≤ x ∧ x ≤ 3
def putGo (c : Int) (e : List Int) : List Mon → Bool → List Mon
  | [], done => if done then [] else [(c, e)]
  | m :: l, done =>
    if done = false ∧ m.2 = e then (if (m.1 + c) % 10007 = 0 then [] else [((m.1 + c) % 10007, m.2)]) ++ putGo c e l true
    else if done = false ∧ ltL e m.2 = true then (c, e) :: ((if m.1 = 0 then [] else [m]) ++ putGo c e l true)
    else (if m.1 = 0 then [] else [m]) ++ putGo c e l done
def putL (L : List Mon) (c : Int) (e : List Int) : List Mon := putGo c e L (decide (c = 0))
end Go.Proofs.YtmojbncbbnjblaaGreat


namespace Go.Proofs.YtmojbncbbnjblaaGreat
open Go.Abs
set_option linter.unusedVariables false
set_option linter.unusedSimpArgs false
set_option maxHeartbeats 1000000
end Go.Proofs.YtmojbncbbnjblaaGreat


namespace Go.Proofs.YtmojbncbbnjblaaGreat
open Go.Abs
set_option linter.unusedVariables false
set_option linter.unusedSimpArgs false
set_option maxHeartbeats 1000000
end Go.Proofs.YtmojbncbbnjblaaGreat


namespace Go.Proofs.YtmojbncbbnjblaaGreat
open Go.Abs
set_option linter.unusedVariables false
set_option linter.unusedSimpArgs false
set_option maxHeartbeats 1000000
end Go.Proofs.YtmojbncbbnjblaaGreat


namespace Go.Proofs.YtmojbncbbnjblaaGreat
open Go.Abs
set_option linter.unusedVariables false
set_option linter.unusedSimpArgs false
set_option maxHeartbeats 1000000
def NN (k : Key) : Prop := 0 ≤ k.1 ∧ 0 ≤ k.2.1 ∧ 0 ≤ k.2.2
def Eqv (C D : Key → Int) : Prop := ∀ k, NN k → C k % 10007 = D k % 10007
theorem NN.box {k : Key} (h : k ∈ box) : NN k := by have := mem_box.1 h; exact ⟨by omega, by omega, by omega⟩
theorem Eqv.refl (C : Key → Int) : Eqv C C := fun _ _ => rfl
theorem Eqv.symm {C D : Key → Int} (h : Eqv C D) : Eqv D C := fun k hk => (h k hk).symm
theorem Eqv.trans {C D E : Key → Int} (h : Eqv C D) (h2 : Eqv D E) : Eqv C E := fun k hk => (h k hk).trans (h2 k hk)
end Go.Proofs.YtmojbncbbnjblaaGreat


namespace Go.Proofs.YtmojbncbbnjblaaGreat
open Go.Abs
set_option linter.unusedVariables false
set_option linter.unusedSimpArgs false
set_option maxHeartbeats 1000000
theorem partValue_c {z : Int} {p : List Mon} {y : List Int} (hz : z ≤ 3) (hp : partB z p = true) (hpl : p.length ≤ 1048576) (hy : Ns y) (hl : (y.length : Int) = z) :
    Con Tryz.prog 91 [.fmp (polF p), .sl y.length (avs y)] (.int (vsum y p % 10007)) := by
  have hv := vsum_le y p (fun m hm => by have := partB_mem hp hm; have l1 := this.lo; have l2 := this.hi; exact ⟨by omega, by omega⟩)
  refine value_c (polF p) y (vsum y p) hy (by omega) (fun k x hk => part_entries hz hp hk) (by omega) (fun es he => ?_)
  rw [rest_perm y (enum_perm (keys_nd hz hp) he)]
  exact rest_map (by omega) p
theorem valuesAt_c (z : Int) (f : List (List Mon)) (y : List Int) (hf : FieldOk z f) (hs : Small f) (hy : Ns y) (hl : (y.length : Int) = z) :
    Con Tryz.prog 46 [.sl f.length (fpols f), .sl y.length (avs y)] (.own 2 f.length (avs (evL y f))) := by
  have fl := hs.1
  have z3 := hf.hi
  refine con_of_vc Tryz.mixed ⟨8, [], [], []⟩ Tryz.func46 (by decide) rfl (by simp) (by decide) (by simp [freshOK, freshL, go_sem]) ?_
  rw [Tryz.ntmps46]
  simp [go_sem]
  refine loop_inv (5 :: 7 :: List.range' 11 11) (fun i : Nat => [(5, .own 2 i (avs (evL y (f.take i)))), (11, .int i)]) (fun i => i ≤ f.length) (fun i => f.length - i) 0 (by simp) (by simp [go_sem, evL]) (by simp [go_sem]) ?_
  intro i hi
  simp [go_sem]
  refine ⟨fun h => ?_, fun h => ?_⟩ <;> simp at h
  · have hif := h
    have hx : f[i]?.getD [] ∈ f := by simp [h]
    have hv := evL_take (y := y) h
    simp [go_sem, fpols_drop hif]
    refine ⟨⟨hif, by rintro rfl; simp at hif⟩, ?_⟩
    refine CallVC.of (partValue_c z3 (hf.part _ hx) (hs.2 _ hx).1 hy hl) (by decide) ?_
    simp [go_sem]
    refine ⟨⟨by omega, by omega⟩, by omega, i + 1, by omega, by omega, Off_reset _ _ _ (by simp), ?_, by omega⟩
    rw [hv]; simp [avs_snoc, Nat.min_eq_left hi]
  · simp [go_sem]
    have e : i = f.length := by omega
    subst e; simp
theorem EvaluateField_c (z : Int) (f : List (List Mon)) (y : List Int) (hs : Small f) (hy : y.length ≤ 9223372036854775807) :
    Con Tryz.prog 12 [.agg [.int z, .sl f.length (prt f)], .sl y.length (avs y)] (evR z f y) := by
  have cK := checkVectors_c z f [y] hs (by simp) (by simpa using hy)
  have e1 : mat [y] = [.sl y.length (avs y)] := rfl
  have e2 : ([y] : List (List Int)).length = 1 := rfl
  rw [e1, e2] at cK
  unfold evR evX evE
  have hv : ([y] : List (List Int)).any (fun y => !vecB z y) = !vecB z y := by simp
  unfold chk at cK
  rw [hv] at cK
  have hvb : (decide ((y.length : Int) = z) && numsB y) = vecB z y := rfl
  rw [hvb]
  cases hT : fieldB z f with
  | false =>
    rw [hT] at cK
    refine Con.n1 _ ?_
    refine con_of_vc Tryz.mixed ⟨7, [], [], []⟩ Tryz.func12 (by decide) rfl (by simp) (by decide) (by simp [freshOK, freshL, go_sem]) ?_
    rw [Tryz.ntmps12]
    simp [go_sem]
    refine CallVC.of (cK) (by decide) ?_
    simp [go_sem]
  | true =>
    rw [hT] at cK
    cases hn : vecB z y with
    | true =>
      rw [hn] at cK
      simp at cK
      have hn2 : (y.length : Int) = z ∧ numsB y = true := by simpa [vecB] using hn
      have hF := fieldB_iff.1 hT
      simp only [and_self, if_true, evL_len]
      refine con_of_vc Tryz.mixed ⟨7, [], [], []⟩ Tryz.func12 (by decide) rfl (by simp) (by decide) (by simp [freshOK, freshL, go_sem]) ?_
      rw [Tryz.ntmps12]
      simp [go_sem]
      refine CallVC.of (cK) (by decide) ?_
      simp [go_sem]
      refine CallVC.of (polynomials_c z f hF hs) (by decide) ?_
      simp [go_sem]
      refine CallVC.of (valuesAt_c z f y hF hs (numsB_N.1 hn2.2) hn2.1) (by decide) ?_
      simp [go_sem]
    | false =>
      rw [hn] at cK
      simp at cK
      refine Con.n1 _ ?_
      refine con_of_vc Tryz.mixed ⟨7, [], [], []⟩ Tryz.func12 (by decide) rfl (by simp) (by decide) (by simp [freshOK, freshL, go_sem]) ?_
      rw [Tryz.ntmps12]
      simp [go_sem]
      refine CallVC.of (cK) (by decide) ?_
      simp [go_sem]
end Go.Proofs.YtmojbncbbnjblaaGreat


namespace Go.Proofs.YtmojbncbbnjblaaGreat
open Go.Abs
set_option linter.unusedVariables false
set_option linter.unusedSimpArgs false
set_option maxHeartbeats 1000000
theorem l01Own_c (xs : List Int) (hl : xs.length ≤ 17592186044416) : Con Tryz.prog 88 [.sl xs.length (avs xs)] (.own 2 xs.length (avs xs)) := by
  refine con_of_vc Tryz.mixed ⟨3, [], [], []⟩ Tryz.func88 (by decide) rfl (by simp) (by decide) (by simp [freshOK, freshL, go_sem]) ?_
  rw [Tryz.ntmps88]
  simp [go_sem]
  try omega
theorem l01Same_c (a b : List Int) (ha : a.length ≤ 9223372036854775807) : Con Tryz.prog 148 [.sl a.length (avs a), .sl b.length (avs b)] (.bool (decide (a = b))) := by
  refine con_of_vc Tryz.mixed ⟨6, [], [], []⟩ Tryz.func148 (by decide) rfl (by simp) (by decide) (by simp [freshOK, freshL, go_sem]) ?_
  rw [Tryz.ntmps148]
  simp [go_sem]
  refine ⟨fun h => ?_, fun h => ?_⟩ <;> simp at h <;> simp [go_sem]
  · rintro rfl; omega
  have hl : a.length = b.length := by omega
  refine loop_inv (4 :: 5 :: List.range' 11 16) (fun i : Nat => [(5, .int i)]) (fun i => i ≤ a.length ∧ a.take i = b.take i) (fun i => a.length - i) 0 (by simp) (by simp [go_sem]) (by simp [go_sem]) ?_
  intro i hi
  simp [go_sem]
  refine ⟨fun h => ?_, fun h => ?_⟩ <;> simp at h
  · have h2 : i < b.length := by omega
    simp [go_sem, avs_drop h, avs_drop h2]
    refine ⟨by kernel_rfl, ⟨h, by rintro rfl; simp at h⟩, ⟨h2, by rintro rfl; simp at h2⟩, ?_⟩
    refine ⟨by kernel_rfl, ?_⟩
    simp [go_sem]
    refine ⟨fun h3 => ?_, fun h3 => ?_⟩ <;> simp at h3 <;> simp [go_sem]
    · rintro rfl; exact h3 rfl
    · refine ⟨by omega, i + 1, ⟨by omega, ?_⟩, by omega, Off_reset _ _ _ (by simp), by omega⟩
      rw [List.take_add_one, List.take_add_one, hi.2]
      rw [List.getElem?_eq_getElem h, List.getElem?_eq_getElem h2] at h3 ⊢
      simp only [Option.getD_some] at h3
      rw [h3]
  · simp [go_sem]
    have e : i = a.length := by omega
    subst e
    have := hi.2
    rw [List.take_length, hl, List.take_length] at this
    exact this
theorem omons_one (m : Mon) : omons [m] = [.int m.1, .own 2 m.2.length (avs m.2)] := rfl
theorem putGo_t (c : Int) (e : List Int) (m : Mon) (l : List Mon) : putGo c e (m :: l) true = (if m.1 = 0 then [] else [m]) ++ putGo c e l true := by
  rw [putGo, if_neg (by simp), if_neg (by simp)]
theorem putGo_e (c : Int) (m : Mon) (l : List Mon) : putGo c m.2 (m :: l) false = (if (m.1 + c) % 10007 = 0 then [] else [((m.1 + c) % 10007, m.2)]) ++ putGo c m.2 l true := by
  rw [putGo, if_pos (by simp)]
theorem putGo_l {c : Int} {e : List Int} {m : Mon} (l : List Mon) (h : ¬ m.2 = e) (h2 : ltL e m.2 = true) : putGo c e (m :: l) false = (c, e) :: ((if m.1 = 0 then [] else [m]) ++ putGo c e l true) := by
  rw [putGo, if_neg (by simp [h]), if_pos (by simp [h2])]
theorem putGo_g {c : Int} {e : List Int} {m : Mon} (l : List Mon) (h : ¬ m.2 = e) (h2 : ltL e m.2 = false) : putGo c e (m :: l) false = (if m.1 = 0 then [] else [m]) ++ putGo c e l false := by
  rw [putGo, if_neg (by simp [h]), if_neg (by simp [h2])]
set_option maxRecDepth 100000 in
theorem l13Put_c (L : List Mon) (c : Int) (e : List Int) (hc : isN c) (hL : ∀ m ∈ L, isN m.1 ∧ m.2.length ≤ 1048576) (hl : L.length ≤ 1000000000000) (he : e.length ≤ 1048576) :
    Con Tryz.prog 105 [.sl L.length (mons L), .int c, .sl e.length (avs e)] (.own 93 (putL L c e).length (omons (putL L c e))) := by
  refine con_of_vc Tryz.mixed ⟨11, [], [], []⟩ Tryz.func105 (by decide) rfl (by simp) (by decide) (by simp [freshOK, freshL, go_sem]) ?_
  rw [Tryz.ntmps105]
  simp [go_sem]
  refine loop_inv (List.range' 7 61) (fun x : Nat × Bool × List Mon => [(7, .own 93 x.2.2.length (omons x.2.2)), (8, .bool x.2.1), (9, .int x.1)]) (fun x => x.1 ≤ L.length ∧ x.2.2.length ≤ x.1 + (if x.2.1 = true then 1 else 0) ∧ x.2.2 ++ putGo c e (L.drop x.1) x.2.1 = putL L c e) (fun x => L.length - x.1) (0, decide (c = 0), []) ⟨by simp, by simp, by simp [putL]⟩ (by simp [go_sem]) (by simp [go_sem]) ?_
  rintro ⟨i, done, O⟩ ⟨hi, hO, he2⟩
  simp only at hi hO he2
  simp [go_sem]
  refine ⟨fun h => ?_, fun h => ?_⟩ <;> simp at h
  · have hif := h
    have hx : L[i]?.getD (0, []) ∈ L := by simp [h]
    have hd : L.drop i = L[i]?.getD (0, []) :: L.drop (i + 1) := by rw [List.drop_eq_getElem_cons h]; simp [h]
    obtain ⟨hm1, hm2⟩ := hL _ hx
    simp [go_sem, mons_drop hif]
    generalize hM : L[i]?.getD (0, []) = m at *
    refine ⟨by kernel_rfl, ⟨hif, by rintro rfl; simp at hif⟩, ?_⟩
    refine CallD.of (l01Own_c m.2 (by omega)) (by simp [roots, rootsL]) (by decide) ?_
    simp [go_sem]
    refine ⟨by kernel_rfl, ?_⟩
    simp [go_sem]
    rw [hd] at he2
    cases done with
    | true =>
      rw [putGo_t] at he2
      simp only [if_true] at hO
      simp [go_sem]
      by_cases h0 : m.1 = 0
      · simp [go_sem, h0]
        rw [if_pos h0] at he2
        exact ⟨by omega, i + 1, O, ⟨by omega, by omega, he2⟩, by omega, Off_reset _ _ _ (by simp), ⟨rfl, rfl⟩, by omega⟩
      · simp [go_sem, h0]
        rw [if_neg h0] at he2
        exact ⟨⟨by omega, by omega⟩, by omega, i + 1, O ++ [m], ⟨by omega, by simp; omega, by simpa using he2⟩, by omega, Off_reset _ _ _ (by simp), ⟨by simp, by simp [omons_app, omons_one]⟩, by omega⟩
    | false =>
      simp only [Bool.false_eq_true, if_false] at hO
      by_cases hme : m.2 = e
      · subst hme
        rw [putGo_e] at he2
        simp [go_sem]
        refine CallVC.of (l01Same_c m.2 m.2 (by omega)) (by decide) ?_
        simp [go_sem]
        refine CallVC.of (l01Add_c _ _ (add_fits hm1 hc)) (by decide) ?_
        simp [go_sem]
        by_cases h0 : (m.1 + c) % 10007 = 0
        · simp [go_sem, h0]
          rw [if_pos h0] at he2
          exact ⟨by omega, i + 1, O, ⟨by omega, by omega, he2⟩, by omega, Off_reset _ _ _ (by simp), ⟨rfl, rfl⟩, by omega⟩
        · simp [go_sem, h0]
          rw [if_neg h0] at he2
          exact ⟨⟨by omega, by omega⟩, by omega, i + 1, O ++ [((m.1 + c) % 10007, m.2)], ⟨by omega, by simp; omega, by simpa using he2⟩, by omega, Off_reset _ _ _ (by simp), ⟨by simp, by simp [omons_app, omons_one]⟩, by omega⟩
      · simp [go_sem]
        refine CallVC.of (l01Same_c m.2 e (by omega)) (by decide) ?_
        simp [go_sem]
        simp [go_sem, hme]
        refine CallVC.of (l01Less_c e m.2 (by omega) (by omega)) (by decide) ?_
        simp [go_sem]
        cases hlt : ltL e m.2 with
        | true =>
          rw [putGo_l _ hme hlt] at he2
          simp [go_sem]
          refine CallVC.of (l01Own_c e (by omega)) (by decide) ?_
          simp [go_sem]
          by_cases h0 : m.1 = 0
          · simp [go_sem, h0]
            rw [if_pos h0] at he2
            exact ⟨⟨by omega, by omega⟩, by omega, i + 1, O ++ [(c, e)], ⟨by omega, by simp; omega, by simpa using he2⟩, by omega, Off_reset _ _ _ (by simp), ⟨by simp, by simp [omons_app, omons_one]⟩, by omega⟩
          · simp [go_sem, h0]
            rw [if_neg h0] at he2
            exact ⟨⟨by omega, by omega⟩, ⟨by omega, by omega, by omega⟩, by omega, i + 1, O ++ [(c, e), m], ⟨by omega, by simp; omega, by simpa using he2⟩, by omega, Off_reset _ _ _ (by simp), ⟨by simp, by simp [omons]⟩, by omega⟩
        | false =>
          rw [putGo_g _ hme hlt] at he2
          simp [go_sem]
          by_cases h0 : m.1 = 0
          · simp [go_sem, h0]
            rw [if_pos h0] at he2
            exact ⟨by omega, i + 1, O, ⟨by omega, by omega, he2⟩, by omega, Off_reset _ _ _ (by simp), ⟨rfl, rfl⟩, by omega⟩
          · simp [go_sem, h0]
            rw [if_neg h0] at he2
            exact ⟨⟨by omega, by omega⟩, by omega, i + 1, O ++ [m], ⟨by omega, by simp; omega, by simpa using he2⟩, by omega, Off_reset _ _ _ (by simp), ⟨by simp, by simp [omons_app, omons_one]⟩, by omega⟩
  · simp [go_sem]
    rw [List.drop_eq_nil_of_le h] at he2
    cases done with
    | true =>
      simp [go_sem]
      rw [← he2]; simp [putGo]
    | false =>
      simp only [Bool.false_eq_true, if_false] at hO
      simp [go_sem]
      refine CallVC.of (l01Own_c e (by omega)) (by decide) ?_
      simp [go_sem]
      rw [← he2]
      exact ⟨⟨by omega, by omega⟩, by simp [putGo], by simp [putGo, omons_app, omons_one]⟩
end Go.Proofs.YtmojbncbbnjblaaGreat


namespace Go.Proofs.YtmojbncbbnjblaaGreat
set_option linter.unusedVariables false
set_option linter.unusedSimpArgs false
class CR (α : Type) extends Add α, Mul α where
  ofI : Int → α
  addC : ∀ a b : α, a + b = b + a
  addA : ∀ a b c : α, a + b + c = a + (b + c)
  add0 : ∀ a : α, a + ofI 0 = a
  mulC : ∀ a b : α, a * b = b * a
  mulA : ∀ a b c : α, a * b * c = a * (b * c)
  mul1 : ∀ a : α, a * ofI 1 = a
  mulD : ∀ a b c : α, a * (b + c) = a * b + a * c
  mul0 : ∀ a : α, a * ofI 0 = ofI 0
  ofAdd : ∀ a b : Int, ofI (a + b) = ofI a + ofI b
  ofMul : ∀ a b : Int, ofI (a * b) = ofI a * ofI b
namespace CR
section
variable {α : Type} [CR α]
instance : Std.Associative (α := α) (· + ·) := ⟨addA⟩
instance : Std.Commutative (α := α) (· + ·) := ⟨addC⟩
instance : Std.Associative (α := α) (· * ·) := ⟨mulA⟩
instance : Std.Commutative (α := α) (· * ·) := ⟨mulC⟩
theorem zadd (a : α) : ofI 0 + a = a := by rw [addC, add0]
theorem zmul (a : α) : ofI 0 * a = ofI 0 := by rw [mulC, mul0]
end
end CR
open CR
instance : CR Int where
  ofI := id
  addC := Int.add_comm
  addA := Int.add_assoc
  add0 := Int.add_zero
  mulC := Int.mul_comm
  mulA := Int.mul_assoc
  mul1 := Int.mul_one
  mulD := Int.mul_add
  mul0 := Int.mul_zero
  ofAdd := fun _ _ => rfl
  ofMul := fun _ _ => rfl
abbrev Ser (α : Type) := Nat → α
def sh {α : Type} (a : Ser α) : Ser α := fun n => a (n + 1)
def cmul {α : Type} [CR α] : Nat → Ser α → Ser α → α
  | 0, a, b => a 0 * b 0
  | n + 1, a, b => a 0 * b (n + 1) + cmul n (sh a) b
section
variable {α : Type} [CR α]
theorem cmul_add (n : Nat) : ∀ (a b c : Ser α), cmul n a (fun i => b i + c i) = cmul n a b + cmul n a c := by
  induction n with
  | zero => intro a b c; exact mulD _ _ _
  | succ n ih => intro a b c; simp only [cmul, ih, mulD]; ac_rfl
theorem cmul_last (n : Nat) : ∀ (a b : Ser α), cmul (n + 1) a b = cmul n a (sh b) + a (n + 1) * b 0 := by
  induction n with
  | zero => intro a b; rfl
  | succ n ih =>
    intro a b
    rw [cmul, ih, cmul]
    show a 0 * b (n + 1 + 1) + (cmul n (sh a) (sh b) + a (n + 1 + 1) * b 0) = a 0 * b (n + 1 + 1) + cmul n (sh a) (sh b) + a (n + 1 + 1) * b 0
    ac_rfl
theorem cmul_comm (n : Nat) : ∀ (a b : Ser α), cmul n a b = cmul n b a := by
  induction n with
  | zero => intro a b; exact mulC _ _
  | succ n ih => intro a b; rw [cmul, cmul_last, ih, mulC, addC]
theorem cmul_smul (c : α) (n : Nat) : ∀ (a b : Ser α), cmul n (fun i => c * a i) b = c * cmul n a b := by
  induction n with
  | zero => intro a b; exact mulA _ _ _
  | succ n ih =>
    intro a b
    have := ih (sh a) b
    simp only [cmul, mulD]
    rw [← this, mulA]; rfl
theorem cmul_addl (n : Nat) (a b c : Ser α) : cmul n (fun i => a i + b i) c = cmul n a c + cmul n b c := by
  rw [cmul_comm n (fun i => a i + b i) c, cmul_add, cmul_comm n c a, cmul_comm n c b]
theorem cmul_assoc (n : Nat) : ∀ (a b c : Ser α), cmul n (fun i => cmul i a b) c = cmul n a (fun i => cmul i b c) := by
  induction n with
  | zero => intro a b c; exact mulA _ _ _
  | succ n ih =>
    intro a b c
    have e : sh (fun i => cmul i a b) = fun i => a 0 * sh b i + cmul i (sh a) b := rfl
    simp only [cmul]
    rw [e, cmul_addl, cmul_smul, ih, mulD]
    show a 0 * b 0 * c (n + 1) + _ = _
    rw [mulA]; ac_rfl
def sOf (k : Int) : Ser α := fun n => if n = 0 then ofI k else ofI 0
theorem cmul_of (k : Int) : ∀ (n : Nat) (a : Ser α), cmul n a (sOf k) = a n * ofI k := by
  intro n
  induction n with
  | zero => intro a; rfl
  | succ n ih =>
    intro a
    rw [cmul, ih]
    show a 0 * ofI 0 + a (n + 1) * ofI k = _
    rw [mul0, zadd]
instance : CR (Ser α) where
  add := fun a b n => a n + b n
  mul := fun a b n => cmul n a b
  ofI := sOf
  addC := fun a b => funext fun n => addC _ _
  addA := fun a b c => funext fun n => addA _ _ _
  add0 := fun a => funext fun n => by show a n + (if n = 0 then ofI 0 else ofI 0) = a n; rw [ite_self, add0]
  mulC := fun a b => funext fun n => cmul_comm n a b
  mulA := fun a b c => funext fun n => cmul_assoc n a b c
  mul1 := fun a => funext fun n => by show cmul n a (sOf 1) = a n; rw [cmul_of, mul1]
  mulD := fun a b c => funext fun n => cmul_add n a b c
  mul0 := fun a => funext fun n => by show cmul n a (sOf 0) = if n = 0 then ofI 0 else ofI 0; rw [cmul_of, mul0, ite_self]
  ofAdd := fun a b => funext fun n => by
    show (if n = 0 then (ofI (a + b) : α) else ofI 0) = (if n = 0 then ofI a else ofI 0) + (if n = 0 then ofI b else ofI 0)
    split
    · exact ofAdd _ _
    · rw [add0]
  ofMul := fun a b => funext fun n => by
    show (if n = 0 then (ofI (a * b) : α) else ofI 0) = cmul n (sOf a) (sOf b)
    rw [cmul_of]
    show (if n = 0 then (ofI (a * b) : α) else ofI 0) = (if n = 0 then ofI a else ofI 0) * ofI b
    split
    · exact ofMul _ _
    · rw [zmul]
def pwr (a : α) : Nat → α
  | 0 => ofI 1
  | n + 1 => pwr a n * a
def sL {β : Type} (f : β → α) : List β → α
  | [] => ofI 0
  | b :: l => f b + sL f l
def mon (U : Nat → α) (e : Nat → Nat) : Nat → α
  | 0 => ofI 1
  | d + 1 => mon U e d * pwr (U d) (e d)
abbrev Trm := Int × (Nat → Nat)
def ev (d : Nat) (U : Nat → α) (L : List Trm) : α := sL (fun m => ofI m.1 * mon U m.2 d) L
end
structure Cg (α : Type) [CR α] where
  r : α → α → Prop
  refl : ∀ a, r a a
  symm : ∀ {a b}, r a b → r b a
  trans : ∀ {a b c}, r a b → r b c → r a c
  add : ∀ {a b c d}, r a b → r c d → r (a + c) (b + d)
  mul : ∀ {a b c d}, r a b → r c d → r (a * c) (b * d)
  of : ∀ {a b : Int}, a % 10007 = b % 10007 → r (ofI a) (ofI b)
def cgI : Cg Int where
  r := fun a b => a % 10007 = b % 10007
  refl := fun _ => rfl
  symm := fun h => h.symm
  trans := fun h k => h.trans k
  add := fun h k => by omega
  mul := fun {a b c d} h k => by rw [Int.mul_emod, h, k, ← Int.mul_emod]
  of := fun h => h
section
variable {α : Type} [CR α]
theorem cmul_cg (c : Cg α) {N : Nat} : ∀ {n : Nat} {a b a' b' : Ser α}, n < N → (∀ i, i < N → c.r (a i) (a' i)) → (∀ i, i < N → c.r (b i) (b' i)) → c.r (cmul n a b) (cmul n a' b')
  | n, a, b, a', b', hn, ha, hb => by
    have gen : ∀ (n : Nat) (a b a' b' : Ser α), (∀ i, i ≤ n → c.r (a i) (a' i)) → (∀ i, i ≤ n → c.r (b i) (b' i)) → c.r (cmul n a b) (cmul n a' b') := by
      intro n
      induction n with
      | zero => intro a b a' b' ha hb; exact c.mul (ha 0 (by omega)) (hb 0 (by omega))
      | succ n ih =>
        intro a b a' b' ha hb
        exact c.add (c.mul (ha 0 (by omega)) (hb (n + 1) (by omega))) (ih _ _ _ _ (fun i hi => ha (i + 1) (by omega)) (fun i hi => hb i (by omega)))
    exact gen n a b a' b' (fun i hi => ha i (by omega)) (fun i hi => hb i (by omega))
def cgS (c : Cg α) (N : Nat) : Cg (Ser α) where
  r := fun a b => ∀ n, n < N → c.r (a n) (b n)
  refl := fun a n _ => c.refl _
  symm := fun h n hn => c.symm (h n hn)
  trans := fun h k n hn => c.trans (h n hn) (k n hn)
  add := fun h k n hn => c.add (h n hn) (k n hn)
  mul := fun h k n hn => cmul_cg c hn h k
  of := fun {a b} h n hn => by
    show c.r (if n = 0 then ofI a else ofI 0) (if n = 0 then ofI b else ofI 0)
    split
    · exact c.of h
    · exact c.refl _
theorem Cg.sL (c : Cg α) {β : Type} {f g : β → α} : ∀ {l : List β}, (∀ b ∈ l, c.r (f b) (g b)) → c.r (sL f l) (sL g l)
  | [], _ => c.refl _
  | b :: l, h => c.add (h b (by simp)) (Cg.sL c (fun x hx => h x (by simp [hx])))
theorem Cg.pwr (c : Cg α) {a b : α} (h : c.r a b) : ∀ n, c.r (pwr a n) (pwr b n)
  | 0 => c.refl _
  | n + 1 => c.mul (Cg.pwr c h n) h
theorem Cg.mon (c : Cg α) {U V : Nat → α} (e : Nat → Nat) : ∀ {d : Nat}, (∀ k, k < d → c.r (U k) (V k)) → c.r (mon U e d) (mon V e d)
  | 0, _ => c.refl _
  | d + 1, h => c.mul (Cg.mon c e (fun k hk => h k (by omega))) (Cg.pwr c (h d (by omega)) _)
theorem Cg.ev (c : Cg α) {d : Nat} {U V : Nat → α} (h : ∀ k, k < d → c.r (U k) (V k)) (L : List Trm) : c.r (ev d U L) (ev d V L) :=
  c.sL (fun m _ => c.mul (c.refl _) (c.mon m.2 h))
end
end Go.Proofs.YtmojbncbbnjblaaGreat


namespace Go.Proofs.YtmojbncbbnjblaaGreat
open CR
set_option linter.unusedVariables false
set_option linter.unusedSimpArgs false
set_option maxHeartbeats 1000000
structure WOk (n : Nat) (B : Int) (m : Mon) : Prop where
  num : isN m.1
  len : m.2.length = n
  pw : ∀ x ∈ m.2, 0 ≤ x ∧ x ≤ B
theorem WOk.le {n : Nat} {B C : Int} {m : Mon} (h : WOk n B m) (hBC : B ≤ C) : WOk n C m := ⟨h.num, h.len, fun x hx => ⟨(h.pw x hx).1, Int.le_trans (h.pw x hx).2 hBC⟩⟩
theorem WOk.get {n : Nat} {B : Int} {m : Mon} (h : WOk n B m) (hB : 0 ≤ B) (k : Nat) : 0 ≤ m.2[k]?.getD 0 ∧ m.2[k]?.getD 0 ≤ B := by
  rcases Nat.lt_or_ge k m.2.length with hk | hk
  · simp [hk]; exact h.pw _ (List.getElem_mem hk)
  · simp [hk]; exact hB
section
variable {α : Type} [CR α]
def LOk (n : Nat) (L : List Mon) : Prop := ∀ m ∈ L, m.2.length = n ∧ ∀ x ∈ m.2, 0 ≤ x
theorem LOk.hd {n : Nat} {m : Mon} {L : List Mon} (h : LOk n (m :: L)) : m.2.length = n ∧ ∀ x ∈ m.2, 0 ≤ x := h m (by simp)
end
end Go.Proofs.YtmojbncbbnjblaaGreat


namespace Go.Proofs.YtmojbncbbnjblaaGreat
open Go.Abs
set_option linter.unusedVariables false
set_option linter.unusedSimpArgs false
set_option maxHeartbeats 1000000
theorem putGo_len (c : Int) (e : List Int) : ∀ (l : List Mon) (done : Bool), (putGo c e l done).length ≤ l.length + 1
  | [], true => by simp [putGo]
  | [], false => by simp [putGo]
  | m :: l, done => by
    have one : ∀ b : Mon, (if b.1 = 0 then [] else [b]).length ≤ 1 := fun b => by split <;> simp
    have ht : ∀ l : List Mon, (putGo c e l true).length ≤ l.length := by
      intro l
      induction l with
      | nil => simp [putGo]
      | cons m l ih => rw [putGo_t]; have := one m; simp; omega
    have h1 := putGo_len c e l done
    have h2 := ht l
    have h3 := one m
    have h4 := one ((m.1 + c) % 10007, m.2)
    simp only at h4
    rw [putGo]
    split
    · simp only [List.length_append, List.length_cons]; omega
    · split
      · simp only [List.length_append, List.length_cons]; omega
      · simp only [List.length_append, List.length_cons]; omega
theorem putL_len (L : List Mon) (c : Int) (e : List Int) : (putL L c e).length ≤ L.length + 1 := putGo_len c e L _
theorem putGo_wok {n : Nat} {B c : Int} {e : List Int} (h : WOk n B (c, e)) : ∀ (l : List Mon) (done : Bool), (∀ m ∈ l, WOk n B m) → ∀ m ∈ putGo c e l done, WOk n B m
  | [], true, _, m, hm => by simp [putGo] at hm
  | [], false, _, m, hm => by simp [putGo] at hm; rw [hm]; exact h
  | a :: l, done, hl, m, hm => by
    have ha := hl a (by simp)
    have ih := fun d => putGo_wok h l d (fun b hb => hl b (by simp [hb]))
    have one : ∀ b : Mon, WOk n B b → m ∈ (if b.1 = 0 then [] else [b]) → WOk n B m := fun b hb hmm => by
      split at hmm
      · simp at hmm
      · simp at hmm; rw [hmm]; exact hb
    rw [putGo] at hm
    split at hm
    · rcases List.mem_append.1 hm with hm | hm
      · exact one ((a.1 + c) % 10007, a.2) ⟨isN_mod _, ha.len, ha.pw⟩ hm
      · exact ih _ m hm
    · split at hm
      · rcases List.mem_cons.1 hm with hm | hm
        · rw [hm]; exact h
        · rcases List.mem_append.1 hm with hm | hm
          · exact one a ha hm
          · exact ih _ m hm
      · rcases List.mem_append.1 hm with hm | hm
        · exact one a ha hm
        · exact ih _ m hm
end Go.Proofs.YtmojbncbbnjblaaGreat


namespace Go.Proofs.YtmojbncbbnjblaaGreat
open Go.Abs
set_option linter.unusedVariables false
set_option linter.unusedSimpArgs false
set_option maxHeartbeats 1000000
theorem omat_app (A C : List (List Int)) : omat (A ++ C) = omat A ++ omat C := by simp [omat]
theorem omat_one (r : List Int) : omat [r] = [.own 2 r.length (avs r)] := rfl
theorem omat_nil : omat [] = [] := rfl
end Go.Proofs.YtmojbncbbnjblaaGreat


namespace Go.Proofs.YtmojbncbbnjblaaGreat
open Go.Abs
set_option linter.unusedVariables false
set_option linter.unusedSimpArgs false
set_option maxHeartbeats 1000000
end Go.Proofs.YtmojbncbbnjblaaGreat


namespace Go.Proofs.YtmojbncbbnjblaaGreat
open Go.Abs
set_option linter.unusedVariables false
set_option linter.unusedSimpArgs false
set_option maxHeartbeats 4000000
def plusS (a b : List Int) (k : Int) : List Int := tb (fun i => (a[i]?.getD 0 + k % 10007 * b[i]?.getD 0) % 10007) a.length
@[simp] theorem plusS_len (a b : List Int) (k : Int) : (plusS a b k).length = a.length := by simp [plusS]
theorem plusS_N (a b : List Int) (k : Int) : Ns (plusS a b k) := tb_N fun i _ => isN_mod _
theorem plus_c (a b : List Int) (k : Int) (ha : Ns a) (hb : Ns b) (hk : fits k) (hl : a.length ≤ 1048576) (hab : a.length ≤ b.length) :
    Con Tryz.prog 125 [.sl a.length (avs a), .sl b.length (avs b), .int k] (.own 2 a.length (avs (plusS a b k))) := by
  refine con_of_vc Tryz.mixed ⟨10, [], [], []⟩ Tryz.func125 (by decide) rfl (by simp) (by decide) (by simp [freshOK, freshL, go_sem]) ?_
  rw [Tryz.ntmps125]
  simp [go_sem]
  refine loop_inv (7 :: 8 :: 9 :: List.range' 13 19) (fun i : Nat => [(7, .own 2 i (avs (tb (fun i => (a[i]?.getD 0 + k % 10007 * b[i]?.getD 0) % 10007) i))), (13, .int i)]) (fun i => i ≤ a.length) (fun i => a.length - i) 0 (by simp) (by simp [go_sem]) (by simp [go_sem]) ?_
  intro i hi
  simp [go_sem]
  refine ⟨fun h => ?_, fun h => ?_⟩ <;> simp at h
  · have h2 : i < b.length := by omega
    have m1 := mul_bound (isN_mod k) (hb.get i)
    have m2 := ha.get i
    have f1 : fits (k % 10007 * b[i]?.getD 0) := ⟨by omega, by omega⟩
    have f2 : fits (a[i]?.getD 0 + k % 10007 * b[i]?.getD 0) := by obtain ⟨x0, x1⟩ := m2; exact ⟨by omega, by omega⟩
    simp [go_sem, avs_drop h, avs_drop h2]
    refine ⟨⟨h, by rintro rfl; simp at h⟩, by kernel_rfl, ?_⟩
    refine CallD.of (num_c _ hk.1 hk.2) (by simp [roots, rootsL]) (by decide) ?_
    simp [go_sem]
    simp [go_sem, avs_drop h, avs_drop h2]
    refine ⟨⟨h2, by rintro rfl; simp at h2⟩, f1, f2, ?_⟩
    refine CallD.of (num_c _ f2.1 f2.2) (by simp [roots, rootsL]) (by decide) ?_
    simp [go_sem]
    refine ⟨by omega, ?_⟩
    refine ⟨by kernel_rfl, ?_⟩
    simp [go_sem]
    exact ⟨by omega, i + 1, by omega, by omega, Off_reset _ _ _ (by simp), by simp [tb_succ, avs_snoc], by omega⟩
  · have e : i = a.length := by omega
    subst e
    simp [go_sem]
    rfl
theorem Clone_c (xs : List Int) (hl : xs.length ≤ 1048576) : Con Tryz.prog 144 [.sl xs.length (avs xs)] (.own 2 xs.length (avs xs)) := by
  refine con_of_vcN Tryz.mixed ⟨3, [], [], []⟩ Tryz.func144 (by decide) rfl (by simp) (by decide) (by simp [freshOK, freshL, go_sem]) ?_
  rw [Tryz.ntmps144]
  simp [go_sem]
  exact ⟨by omega, by omega⟩
end Go.Proofs.YtmojbncbbnjblaaGreat


namespace Go.Proofs.YtmojbncbbnjblaaGreat
open Go.Abs
set_option linter.unusedVariables false
set_option linter.unusedSimpArgs false
set_option maxHeartbeats 1000000
@[go_sem] theorem klW_bor (W : List Nat) (s : Nat) (p : List Nat) : kl W (.bor s p) = if W.contains s then .any else .bor s p := by rw [kl]
@[go_sem] theorem klW_ptr (W : List Nat) (s : Nat) (p : List Nat) (o : Nat) : kl W (.ptr s p o) = if W.contains s then .any else .ptr s p o := by rw [kl]
theorem omat_get {A : List (List Int)} {k : Nat} (h : k < A.length) : (omat A)[k]? = some (.own 2 (A[k]?.getD []).length (avs (A[k]?.getD []))) := by simp [omat, h]
end Go.Proofs.YtmojbncbbnjblaaGreat


namespace Go.Proofs.YtmojbncbbnjblaaGreat
open Go.Abs
set_option linter.unusedVariables false
set_option linter.unusedSimpArgs false
set_option maxHeartbeats 1000000
def stE (A : List (List Int)) (B : List Int) (z : Int) (f : List (List Mon)) (y : List Int) : Int := if (tabB A B && fieldB z f) = false then 1 else if vecB z y = false then 2 else 0
theorem l15Code_c (A : List (List Int)) (B : List Int) (z : Int) (f : List (List Mon)) (y : List Int) (hA : A.length ≤ 1048576) (hB : B.length ≤ 1048576) (hr : ∀ r ∈ A, r.length ≤ 1048576) (hs : Small f) (hy : y.length ≤ 1048576) :
    Con Tryz.prog 40 [.agg [.sl A.length (mat A), .sl B.length (avs B)], .agg [.int z, .sl f.length (prt f)], .sl y.length (avs y)] (.int (stE A B z f y)) := by
  have cA := l09Is_c A B (by omega) (by omega) (fun r h => by have := hr r h; omega)
  have cT := l13Is_c z f hs
  have cR := l13Point_c z y (by omega)
  have hvb : (decide ((y.length : Int) = z) && numsB y) = vecB z y := rfl
  rw [hvb] at cR
  unfold stE
  generalize tabB A B = a at *
  generalize fieldB z f = b at *
  generalize vecB z y = c at *
  cases a <;> cases b <;> cases c
  all_goals simp only [Bool.and_self, Bool.and_false, Bool.false_and, Bool.true_and, Bool.false_eq_true, if_true, if_false, reduceCtorEq]
  · refine con_of_vc Tryz.mixed ⟨7, [], [], []⟩ Tryz.func40 (by decide) rfl (by simp) (by decide) (by simp [freshOK, freshL, go_sem]) ?_
    rw [Tryz.ntmps40]
    simp [go_sem]
    refine CallVC.of (cA) (by decide) ?_
    simp [go_sem]
  · refine con_of_vc Tryz.mixed ⟨7, [], [], []⟩ Tryz.func40 (by decide) rfl (by simp) (by decide) (by simp [freshOK, freshL, go_sem]) ?_
    rw [Tryz.ntmps40]
    simp [go_sem]
    refine CallVC.of (cA) (by decide) ?_
    simp [go_sem]
  · refine con_of_vc Tryz.mixed ⟨7, [], [], []⟩ Tryz.func40 (by decide) rfl (by simp) (by decide) (by simp [freshOK, freshL, go_sem]) ?_
    rw [Tryz.ntmps40]
    simp [go_sem]
    refine CallVC.of (cA) (by decide) ?_
    simp [go_sem]
  · refine con_of_vc Tryz.mixed ⟨7, [], [], []⟩ Tryz.func40 (by decide) rfl (by simp) (by decide) (by simp [freshOK, freshL, go_sem]) ?_
    rw [Tryz.ntmps40]
    simp [go_sem]
    refine CallVC.of (cA) (by decide) ?_
    simp [go_sem]
  · refine con_of_vc Tryz.mixed ⟨7, [], [], []⟩ Tryz.func40 (by decide) rfl (by simp) (by decide) (by simp [freshOK, freshL, go_sem]) ?_
    rw [Tryz.ntmps40]
    simp [go_sem]
    refine CallVC.of (cA) (by decide) ?_
    simp [go_sem]
    refine CallVC.of (cT) (by decide) ?_
    simp [go_sem]
  · refine con_of_vc Tryz.mixed ⟨7, [], [], []⟩ Tryz.func40 (by decide) rfl (by simp) (by decide) (by simp [freshOK, freshL, go_sem]) ?_
    rw [Tryz.ntmps40]
    simp [go_sem]
    refine CallVC.of (cA) (by decide) ?_
    simp [go_sem]
    refine CallVC.of (cT) (by decide) ?_
    simp [go_sem]
  · refine con_of_vc Tryz.mixed ⟨7, [], [], []⟩ Tryz.func40 (by decide) rfl (by simp) (by decide) (by simp [freshOK, freshL, go_sem]) ?_
    rw [Tryz.ntmps40]
    simp [go_sem]
    refine CallVC.of (cA) (by decide) ?_
    simp [go_sem]
    refine CallVC.of (cT) (by decide) ?_
    simp [go_sem]
    refine CallVC.of (cR) (by decide) ?_
    simp [go_sem]
  · refine con_of_vc Tryz.mixed ⟨7, [], [], []⟩ Tryz.func40 (by decide) rfl (by simp) (by decide) (by simp [freshOK, freshL, go_sem]) ?_
    rw [Tryz.ntmps40]
    simp [go_sem]
    refine CallVC.of (cA) (by decide) ?_
    simp [go_sem]
    refine CallVC.of (cT) (by decide) ?_
    simp [go_sem]
    refine CallVC.of (cR) (by decide) ?_
    simp [go_sem]
theorem checkStep_c (A : List (List Int)) (B : List Int) (z : Int) (f : List (List Mon)) (y : List Int) (hA : A.length ≤ 1048576) (hB : B.length ≤ 1048576) (hr : ∀ r ∈ A, r.length ≤ 1048576) (hs : Small f) (hy : y.length ≤ 1048576) :
    Con Tryz.prog 35 [.agg [.sl A.length (mat A), .sl B.length (avs B)], .agg [.int z, .sl f.length (prt f)], .sl y.length (avs y)] (.int (stE A B z f y)) := by
  have cA := IsTableau_c A B (by omega) (by omega) (fun r h => by have := hr r h; omega)
  have cT := IsField_c z f hs
  have cR := isVector_c z f.length (prt f) y (by omega)
  unfold stE
  generalize tabB A B = a at *
  generalize fieldB z f = b at *
  generalize vecB z y = c at *
  cases a <;> cases b <;> cases c
  all_goals simp only [Bool.and_self, Bool.and_false, Bool.false_and, Bool.true_and, Bool.false_eq_true, if_true, if_false, reduceCtorEq]
  · refine con_of_vc Tryz.mixed ⟨7, [], [], []⟩ Tryz.func35 (by decide) rfl (by simp) (by decide) (by simp [freshOK, freshL, go_sem]) ?_
    rw [Tryz.ntmps35]
    simp [go_sem]
    refine CallVC.of (cA) (by decide) ?_
    simp [go_sem]
  · refine con_of_vc Tryz.mixed ⟨7, [], [], []⟩ Tryz.func35 (by decide) rfl (by simp) (by decide) (by simp [freshOK, freshL, go_sem]) ?_
    rw [Tryz.ntmps35]
    simp [go_sem]
    refine CallVC.of (cA) (by decide) ?_
    simp [go_sem]
  · refine con_of_vc Tryz.mixed ⟨7, [], [], []⟩ Tryz.func35 (by decide) rfl (by simp) (by decide) (by simp [freshOK, freshL, go_sem]) ?_
    rw [Tryz.ntmps35]
    simp [go_sem]
    refine CallVC.of (cA) (by decide) ?_
    simp [go_sem]
  · refine con_of_vc Tryz.mixed ⟨7, [], [], []⟩ Tryz.func35 (by decide) rfl (by simp) (by decide) (by simp [freshOK, freshL, go_sem]) ?_
    rw [Tryz.ntmps35]
    simp [go_sem]
    refine CallVC.of (cA) (by decide) ?_
    simp [go_sem]
  · refine con_of_vc Tryz.mixed ⟨7, [], [], []⟩ Tryz.func35 (by decide) rfl (by simp) (by decide) (by simp [freshOK, freshL, go_sem]) ?_
    rw [Tryz.ntmps35]
    simp [go_sem]
    refine CallVC.of (cA) (by decide) ?_
    simp [go_sem]
    refine CallVC.of (cT) (by decide) ?_
    simp [go_sem]
  · refine con_of_vc Tryz.mixed ⟨7, [], [], []⟩ Tryz.func35 (by decide) rfl (by simp) (by decide) (by simp [freshOK, freshL, go_sem]) ?_
    rw [Tryz.ntmps35]
    simp [go_sem]
    refine CallVC.of (cA) (by decide) ?_
    simp [go_sem]
    refine CallVC.of (cT) (by decide) ?_
    simp [go_sem]
  · refine con_of_vc Tryz.mixed ⟨7, [], [], []⟩ Tryz.func35 (by decide) rfl (by simp) (by decide) (by simp [freshOK, freshL, go_sem]) ?_
    rw [Tryz.ntmps35]
    simp [go_sem]
    refine CallVC.of (cA) (by decide) ?_
    simp [go_sem]
    refine CallVC.of (cT) (by decide) ?_
    simp [go_sem]
    refine CallVC.of (cR) (by decide) ?_
    simp [go_sem]
  · refine con_of_vc Tryz.mixed ⟨7, [], [], []⟩ Tryz.func35 (by decide) rfl (by simp) (by decide) (by simp [freshOK, freshL, go_sem]) ?_
    rw [Tryz.ntmps35]
    simp [go_sem]
    refine CallVC.of (cA) (by decide) ?_
    simp [go_sem]
    refine CallVC.of (cT) (by decide) ?_
    simp [go_sem]
    refine CallVC.of (cR) (by decide) ?_
    simp [go_sem]
theorem stE_zero {A : List (List Int)} {B : List Int} {z : Int} {f : List (List Mon)} {y : List Int} (h : stE A B z f y = 0) : tabB A B = true ∧ fieldB z f = true ∧ vecB z y = true := by
  unfold stE at h
  generalize tabB A B = a at *
  generalize fieldB z f = b at *
  generalize vecB z y = c at *
  cases a <;> cases b <;> cases c <;> simp_all
end Go.Proofs.YtmojbncbbnjblaaGreat


namespace Go.Proofs.YtmojbncbbnjblaaGreat
open Go.Abs
set_option linter.unusedVariables false
set_option linter.unusedSimpArgs false
set_option maxHeartbeats 1000000
end Go.Proofs.YtmojbncbbnjblaaGreat


namespace Go.Proofs.YtmojbncbbnjblaaGreat
open Go.Abs
set_option linter.unusedVariables false
set_option linter.unusedSimpArgs false
set_option maxHeartbeats 1000000
end Go.Proofs.YtmojbncbbnjblaaGreat


namespace Go.Proofs.YtmojbncbbnjblaaGreat
open Go.Abs
set_option linter.unusedVariables false
set_option linter.unusedSimpArgs false
set_option maxHeartbeats 1000000
end Go.Proofs.YtmojbncbbnjblaaGreat


namespace Go.Proofs.YtmojbncbbnjblaaGreat
open Go.Abs
set_option linter.unusedVariables false
set_option linter.unusedSimpArgs false
set_option maxHeartbeats 1000000
@[simp] theorem mat_frz (A : List (List Int)) : frzL (mat A) = mat A := by
  induction A with
  | nil => rfl
  | cons r A ih => simp only [mat, List.map_cons, frzL] at ih ⊢; rw [ih]; rfl
end Go.Proofs.YtmojbncbbnjblaaGreat


namespace Go.Proofs.YtmojbncbbnjblaaGreat
open Go.Abs
set_option linter.unusedVariables false
set_option linter.unusedSimpArgs false
set_option maxHeartbeats 4000000
end Go.Proofs.YtmojbncbbnjblaaGreat


namespace Go.Proofs.YtmojbncbbnjblaaGreat
set_option linter.unusedVariables false
set_option linter.unusedSimpArgs false
def Lv (t : List Int) : Prop := 0 < t.length ∧ t[0]?.getD 0 = 0 ∧ ∀ j, 0 < j → j < t.length → 1 ≤ t[j]?.getD 0 ∧ t[j]?.getD 0 ≤ t[j - 1]?.getD 0 + 1
theorem Lv.le {t : List Int} (h : Lv t) : ∀ j, j < t.length → 0 ≤ t[j]?.getD 0 ∧ t[j]?.getD 0 ≤ j
  | 0, _ => by rw [h.2.1]; omega
  | j + 1, hj => by
    have h1 := h.le j (by omega)
    have h2 := h.2.2 (j + 1) (by omega) hj
    rw [Nat.add_sub_cancel] at h2
    omega
end Go.Proofs.YtmojbncbbnjblaaGreat


namespace Go.Proofs.YtmojbncbbnjblaaGreat
open Go.Abs
set_option linter.unusedVariables false
set_option linter.unusedSimpArgs false
set_option maxHeartbeats 4000000
end Go.Proofs.YtmojbncbbnjblaaGreat


namespace Go.Proofs.YtmojbncbbnjblaaGreat
open Go.Abs
set_option linter.unusedVariables false
set_option linter.unusedSimpArgs false
set_option maxHeartbeats 4000000
theorem omat_set (A : List (List Int)) (k : Nat) (l : List Int) : (omat A).set k (.own 2 l.length (avs l)) = omat (A.set k l) := by
  simp [omat, List.map_set]
end Go.Proofs.YtmojbncbbnjblaaGreat


namespace Go.Proofs.YtmojbncbbnjblaaGreat
open Go.Abs
set_option linter.unusedVariables false
set_option linter.unusedSimpArgs false
set_option maxHeartbeats 4000000
theorem omat_take (A : List (List Int)) (i : Nat) (h : i < A.length) : omat (A.take (i + 1)) = omat (A.take i) ++ [.own 2 (A[i]?.getD []).length (avs (A[i]?.getD []))] := by
  rw [List.take_add_one, omat_app]; simp [h, omat]
end Go.Proofs.YtmojbncbbnjblaaGreat


namespace Go.Proofs.YtmojbncbbnjblaaGreat
open Go.Abs
set_option linter.unusedVariables false
set_option linter.unusedSimpArgs false
set_option maxHeartbeats 1000000
def colS (a : List (List Int)) (k : Nat) : List Int := tb (fun i => (a[i]?.getD [])[k]?.getD 0) a.length
@[simp] theorem colS_len (a : List (List Int)) (k : Nat) : (colS a k).length = a.length := by simp [colS]
def turnS (a : List (List Int)) : List (List Int) := (List.range (a[0]?.getD []).length).map (colS a)
@[simp] theorem turnS_len (a : List (List Int)) : (turnS a).length = (a[0]?.getD []).length := by simp [turnS]
theorem l01Column_c (a : List (List Int)) (k : Nat) (hl : a.length ≤ 1048576) (hr : ∀ r ∈ a, k < r.length) (hk : k ≤ 1048576) :
    Con Tryz.prog 87 [.sl a.length (mat a), .int k] (.own 2 a.length (avs (colS a k))) := by
  refine con_of_vc Tryz.mixed ⟨7, [], [], []⟩ Tryz.func87 (by decide) rfl (by simp) (by decide) (by simp [freshOK, freshL, go_sem]) ?_
  rw [Tryz.ntmps87]
  simp [go_sem]
  refine loop_inv (5 :: 6 :: List.range' 8 16) (fun i : Nat => [(5, .own 2 i (avs (tb (fun i => (a[i]?.getD [])[k]?.getD 0) i))), (6, .int i)]) (fun i => i ≤ a.length) (fun i => a.length - i) 0 (by simp) (by simp [go_sem]) (by simp [go_sem]) ?_
  intro i hi
  simp [go_sem]
  refine ⟨fun h => ?_, fun h => ?_⟩ <;> simp at h
  · have hx : k < (a[i]?.getD []).length := hr _ (by simp [h])
    simp [go_sem, mat_drop h, avs_drop hx]
    refine ⟨⟨h, by rintro rfl; simp at h⟩, ⟨hx, by intro e; simp [e] at hx⟩, ?_⟩
    exact ⟨⟨by omega, by omega⟩, by omega, i + 1, by omega, by omega, Off_reset _ _ _ (by simp), by simp [tb_succ, avs_snoc], by omega⟩
  · have e : i = a.length := by omega
    subst e
    simp [go_sem]
    rfl
theorem column_c (a : List (List Int)) (k : Nat) (hl : a.length ≤ 1048576) (hr : ∀ r ∈ a, k < r.length) (hk : k ≤ 1048576) :
    Con Tryz.prog 83 [.sl a.length (mat a), .int k] (.own 2 a.length (avs (colS a k))) := by
  refine con_of_vc Tryz.mixed ⟨8, [], [], []⟩ Tryz.func83 (by decide) rfl (by simp) (by decide) (by simp [freshOK, freshL, go_sem]) ?_
  rw [Tryz.ntmps83]
  simp [go_sem]
  refine loop_inv (5 :: 7 :: List.range' 11 12) (fun i : Nat => [(5, .own 2 i (avs (tb (fun i => (a[i]?.getD [])[k]?.getD 0) i))), (11, .int i)]) (fun i => i ≤ a.length) (fun i => a.length - i) 0 (by simp) (by simp [go_sem]) (by simp [go_sem]) ?_
  intro i hi
  simp [go_sem]
  refine ⟨fun h => ?_, fun h => ?_⟩ <;> simp at h
  · have hx : k < (a[i]?.getD []).length := hr _ (by simp [h])
    simp [go_sem, mat_drop h, avs_drop hx]
    refine ⟨⟨h, by rintro rfl; simp at h⟩, ⟨hx, by intro e; simp [e] at hx⟩, ?_⟩
    exact ⟨⟨by omega, by omega⟩, by omega, i + 1, by omega, by omega, Off_reset _ _ _ (by simp), by simp [tb_succ, avs_snoc], by omega⟩
  · have e : i = a.length := by omega
    subst e
    simp [go_sem]
    rfl
theorem omat_range_succ (g : Nat → List Int) (i : Nat) : omat ((List.range (i + 1)).map g) = omat ((List.range i).map g) ++ [.own 2 (g i).length (avs (g i))] := by
  rw [List.range_succ, List.map_append, omat_app]; rfl
theorem l14Turn_c (a : List (List Int)) (hl : a.length ≤ 1048576) (h0 : 0 < a.length) (hr : ∀ r ∈ a, r.length = (a[0]?.getD []).length) (hn : (a[0]?.getD []).length ≤ 1048576) :
    Con Tryz.prog 42 [.sl a.length (mat a)] (.own 25 (turnS a).length (omat (turnS a))) := by
  rw [turnS_len]
  refine con_of_vc Tryz.mixed ⟨5, [], [], []⟩ Tryz.func42 (by decide) rfl (by simp) (by decide) (by simp [freshOK, freshL, go_sem]) ?_
  rw [Tryz.ntmps42]
  simp [go_sem]
  refine loop_inv (3 :: 4 :: List.range' 6 14) (fun i : Nat => [(3, .own 25 i (omat ((List.range i).map (colS a)))), (4, .int i)]) (fun i => i ≤ (a[0]?.getD []).length) (fun i => (a[0]?.getD []).length - i) 0 (by simp) (by simp [go_sem, omat_nil]) (by simp [go_sem]) ?_
  intro i hi
  have m0 := mat_drop h0
  simp only [List.drop_zero] at m0
  simp [go_sem, m0]
  have m1 : AV.sl (a[0]?.getD []).length (avs (a[0]?.getD [])) :: mat a.tail = mat a := by cases a with | nil => simp at h0 | cons x l => simp [mat]
  simp only [m1]
  refine ⟨h0, ?_⟩
  refine ⟨fun h => ?_, fun h => ?_⟩ <;> simp at h
  · simp [go_sem]
    refine CallVC.of (l01Column_c a i hl (fun r h2 => by rw [hr r h2]; exact h) (by omega)) (by decide) ?_
    simp [go_sem]
    have ho := omat_range_succ (colS a) i
    rw [colS_len] at ho
    exact ⟨⟨by omega, by omega⟩, by omega, i + 1, by omega, by omega, Off_reset _ _ _ (by simp), by rw [ho]; exact ⟨rfl, rfl⟩, by omega⟩
  · have e : i = (a[0]?.getD []).length := by omega
    subst e
    simp [go_sem]
    rfl
theorem turned_c (a : List (List Int)) (hl : a.length ≤ 1048576) (h0 : 0 < a.length) (hr : ∀ r ∈ a, r.length = (a[0]?.getD []).length) (hn : (a[0]?.getD []).length ≤ 1048576) :
    Con Tryz.prog 39 [.sl a.length (mat a)] (.own 25 (turnS a).length (omat (turnS a))) := by
  rw [turnS_len]
  have m0 := mat_drop h0
  simp only [List.drop_zero] at m0
  refine con_of_vc Tryz.mixed ⟨5, [], [], []⟩ Tryz.func39 (by decide) rfl (by simp) (by decide) (by simp [freshOK, freshL, go_sem]) ?_
  rw [Tryz.ntmps39]
  simp [go_sem]
  simp [go_sem, m0]
  have m1 : AV.sl (a[0]?.getD []).length (avs (a[0]?.getD [])) :: mat a.tail = mat a := by cases a with | nil => simp at h0 | cons x l => simp [mat]
  simp only [m1]
  refine ⟨⟨h0, by rintro rfl; simp at h0⟩, ?_⟩
  refine loop_inv (3 :: 4 :: List.range' 10 10) (fun i : Nat => [(3, .own 25 i (omat ((List.range i).map (colS a)))), (10, .int i)]) (fun i => i ≤ (a[0]?.getD []).length) (fun i => (a[0]?.getD []).length - i) 0 (by simp) (by simp [go_sem, omat_nil]) (by simp [go_sem]) ?_
  intro i hi
  simp [go_sem]
  refine ⟨fun h => ?_, fun h => ?_⟩ <;> simp at h
  · simp [go_sem]
    refine CallVC.of (column_c a i hl (fun r h2 => by rw [hr r h2]; exact h) (by omega)) (by decide) ?_
    simp [go_sem]
    have ho := omat_range_succ (colS a) i
    rw [colS_len] at ho
    exact ⟨⟨by omega, by omega⟩, by omega, i + 1, by omega, by omega, Off_reset _ _ _ (by simp), by rw [ho]; exact ⟨rfl, rfl⟩, by omega⟩
  · have e : i = (a[0]?.getD []).length := by omega
    subst e
    simp [go_sem]
    rfl
theorem cloneRows_c (a : List (List Int)) (hl : a.length ≤ 1048576) (hr : ∀ r ∈ a, r.length ≤ 1048576) :
    Con Tryz.prog 135 [.sl a.length (mat a)] (.own 25 a.length (omat a)) := by
  refine con_of_vc Tryz.mixed ⟨6, [], [], []⟩ Tryz.func135 (by decide) rfl (by simp) (by decide) (by simp [freshOK, freshL, go_sem]) ?_
  rw [Tryz.ntmps135]
  simp [go_sem]
  refine loop_inv (3 :: 5 :: List.range' 9 10) (fun i : Nat => [(3, .own 25 i (omat (a.take i))), (9, .int i)]) (fun i => i ≤ a.length) (fun i => a.length - i) 0 (by simp) (by simp [go_sem, omat_nil]) (by simp [go_sem]) ?_
  intro i hi
  simp [go_sem]
  refine ⟨fun h => ?_, fun h => ?_⟩ <;> simp at h
  · simp [go_sem, mat_drop h]
    refine ⟨⟨h, by rintro rfl; simp at h⟩, ?_⟩
    refine CallVC.of (Clone_c (a[i]?.getD []) (hr _ (by simp [h]))) (by decide) ?_
    simp [go_sem]
    have ht := omat_take a i h
    refine ⟨⟨by omega, by omega, by omega⟩, by omega, i + 1, by omega, by omega, Off_reset _ _ _ (by simp), by rw [ht]; exact ⟨rfl, rfl⟩, by omega⟩
  · have e : i = a.length := by omega
    subst e
    simp [go_sem]
theorem l01Own2_c (a : List (List Int)) (hl : a.length ≤ 1048576) (hr : ∀ r ∈ a, r.length ≤ 1048576) :
    Con Tryz.prog 138 [.sl a.length (mat a)] (.own 25 a.length (omat a)) := by
  refine con_of_vc Tryz.mixed ⟨5, [], [], []⟩ Tryz.func138 (by decide) rfl (by simp) (by decide) (by simp [freshOK, freshL, go_sem]) ?_
  rw [Tryz.ntmps138]
  simp [go_sem]
  refine loop_inv (3 :: 4 :: List.range' 6 14) (fun i : Nat => [(3, .own 25 i (omat (a.take i))), (4, .int i)]) (fun i => i ≤ a.length) (fun i => a.length - i) 0 (by simp) (by simp [go_sem, omat_nil]) (by simp [go_sem]) ?_
  intro i hi
  simp [go_sem]
  refine ⟨fun h => ?_, fun h => ?_⟩ <;> simp at h
  · simp [go_sem, mat_drop h]
    refine ⟨⟨h, by rintro rfl; simp at h⟩, ?_⟩
    refine CallVC.of (l01Own_c (a[i]?.getD []) (by have := hr _ (show a[i]?.getD [] ∈ a by simp [h]); omega)) (by decide) ?_
    simp [go_sem]
    have ht := omat_take a i h
    refine ⟨⟨by omega, by omega, by omega⟩, by omega, i + 1, by omega, by omega, Off_reset _ _ _ (by simp), by rw [ht]; exact ⟨rfl, rfl⟩, by omega⟩
  · have e : i = a.length := by omega
    subst e
    simp [go_sem]
end Go.Proofs.YtmojbncbbnjblaaGreat


namespace Go.Proofs.YtmojbncbbnjblaaGreat
open Go.Abs
set_option linter.unusedVariables false
set_option linter.unusedSimpArgs false
set_option maxHeartbeats 1000000
def frI (p q : Int) : Int := p % 10007 * pw (q % 10007) 10005 % 10007
theorem frI_N (p q : Int) : isN (frI p q) := isN_mod _
def sqL (s : Nat) (q : Int) (l : List Int) : List (List Int) := (List.range s).map fun i => tb (fun k => frI (l[i * s + k]?.getD 0) q) s
def rwL (q : Int) (l : List Int) : List Int := tb (fun i => frI (l[i]?.getD 0) q) l.length
theorem sq_lt {i k s : Nat} (hi : i < s) (hk : k < s) : i * s + k < s * s := by
  have h : (i + 1) * s ≤ s * s := Nat.mul_le_mul_right s (by omega)
  rw [Nat.succ_mul] at h
  omega
theorem fits_get {l : List Int} (h : ∀ x ∈ l, fits x) (k : Nat) : fits (l[k]?.getD 0) := by
  rcases Nat.lt_or_ge k l.length with hk | hk
  · exact h _ (by simp [hk])
  · rw [List.getElem?_eq_none hk]; exact ⟨by simp, by simp⟩
set_option maxRecDepth 100000 in
theorem l09Square_c (s : Nat) (q : Int) (l : List Int) (hs : s ≤ 8) (hl : l.length = s * s) (hq : fits q) (hN : ∀ x ∈ l, fits x) :
    Con Tryz.prog 183 [.int s, .int q, .sl l.length (avs l)] (.own 25 s (omat (sqL s q l))) := by
  have hd : sqL s q l = (List.range s).map fun i => tb (fun k => frI (l[i * s + k]?.getD 0) q) s := rfl
  have h64 : s * s ≤ 64 := by
    have := Nat.mul_le_mul hs hs
    omega
  rw [hd]
  refine con_of_vc Tryz.mixed ⟨11, [], [], []⟩ Tryz.func183 (by decide) rfl (by simp) (by decide) (by simp [freshOK, freshL, go_sem]) ?_
  rw [Tryz.ntmps183]
  simp [go_sem]
  refine loop_inv ([7, 8, 9, 10] ++ List.range' 12 28) (fun i : Nat => [(7, .own 25 i (omat ((List.range i).map fun i => tb (fun k => frI (l[i * s + k]?.getD 0) q) s))), (8, .int i)]) (fun i => i ≤ s) (fun i => s - i) 0 (by simp) (by simp [go_sem, omat]) (by simp [go_sem]) ?_
  intro i hi
  by_cases his : i < s
  · have hii : (i : Int) < s := by omega
    have os := omat_range_succ (fun i => tb (fun k => frI (l[i * s + k]?.getD 0) q) s) i
    rw [tb_len] at os
    simp [go_sem, hii]
    refine loop_inv ([9, 10] ++ List.range' 18 18) (fun k : Nat => [(9, .own 2 k (avs (tb (fun k => frI (l[i * s + k]?.getD 0) q) k))), (10, .int k)]) (fun k => k ≤ s) (fun k => s - k) 0 (by simp) (by simp [go_sem]) (by simp [go_sem]) ?_
    intro k hk
    by_cases hks : k < s
    · have hki : (k : Int) < s := by omega
      have hx : i * s + k < l.length := by rw [hl]; exact sq_lt his hks
      have ec : (i : Int) * (s : Int) = ((i * s : Nat) : Int) := by simp
      have hm : i * s ≤ 64 := by omega
      have ts := tb_succ (fun k => frI (l[i * s + k]?.getD 0) q) k
      have fx := fits_get hN (i * s + k)
      have cF := l01Frac_c (l[i * s + k]?.getD 0) q fx hq
      have fe : frI (l[i * s + k]?.getD 0) q = l[i * s + k]?.getD 0 % 10007 * pw (q % 10007) 10005 % 10007 := rfl
      rw [← fe] at cF
      have dr := avs_drop hx
      have ne : ¬ l = [] := by rintro rfl; simp at hx
      generalize hz : i * s = z at *
      rw [List.getD_eq_getElem?_getD] at dr
      generalize l[z + k]?.getD 0 = x at *
      have et : ((z : Int) + (k : Int)).toNat = z + k := by omega
      simp [go_sem, hki, ec, et, dr]
      refine ⟨by omega, ⟨by omega, by omega⟩, ⟨by omega, by omega, ne⟩, ?_⟩
      refine CallVC.of (cF) (by decide) ?_
      simp [go_sem]
      exact ⟨by omega, by omega, k + 1, by omega, by omega, Off_reset _ _ _ (by simp), by rw [ts, avs_snoc]; exact ⟨rfl, rfl⟩, by omega⟩
    · have e : k = s := by omega
      subst e
      simp [go_sem]
      exact ⟨⟨by omega, by omega⟩, by omega, i + 1, by omega, by omega, (Off.reset (by intro x hx; simp at hx ⊢; omega) (by simp) (by simp [go_sem, Off_reset])), by rw [os]; exact ⟨rfl, rfl⟩, by omega⟩
  · have e : i = s := by omega
    subst e
    simp [go_sem]
set_option maxRecDepth 100000 in
theorem l09Row_c (q : Int) (l : List Int) (hl : l.length ≤ 64) (hq : fits q) (hN : ∀ x ∈ l, fits x) :
    Con Tryz.prog 184 [.int q, .sl l.length (avs l)] (.own 2 l.length (avs (rwL q l))) := by
  have hd : rwL q l = tb (fun i => frI (l[i]?.getD 0) q) l.length := rfl
  rw [hd]
  refine con_of_vc Tryz.mixed ⟨7, [], [], []⟩ Tryz.func184 (by decide) rfl (by simp) (by decide) (by simp [freshOK, freshL, go_sem]) ?_
  rw [Tryz.ntmps184]
  simp [go_sem]
  refine loop_inv ([5, 6] ++ List.range' 8 15) (fun i : Nat => [(5, .own 2 i (avs (tb (fun i => frI (l[i]?.getD 0) q) i))), (6, .int i)]) (fun i => i ≤ l.length) (fun i => l.length - i) 0 (by simp) (by simp [go_sem]) (by simp [go_sem]) ?_
  intro i hi
  by_cases hil : i < l.length
  · have hii : (i : Int) < l.length := by omega
    have ts := tb_succ (fun i => frI (l[i]?.getD 0) q) i
    have fx := fits_get hN i
    have cF := l01Frac_c (l[i]?.getD 0) q fx hq
    have fe : frI (l[i]?.getD 0) q = l[i]?.getD 0 % 10007 * pw (q % 10007) 10005 % 10007 := rfl
    rw [← fe] at cF
    have dr := avs_drop hil
    have ne : ¬ l = [] := by rintro rfl; simp at hil
    rw [List.getD_eq_getElem?_getD] at dr
    generalize l[i]?.getD 0 = x at *
    simp [go_sem, hii, dr]
    refine ⟨ne, ?_⟩
    refine CallVC.of (cF) (by decide) ?_
    simp [go_sem]
    exact ⟨by omega, by omega, i + 1, by omega, by omega, Off_reset _ _ _ (by simp), by rw [ts, avs_snoc]; exact ⟨rfl, rfl⟩, by omega⟩
  · have e : i = l.length := by omega
    simp [go_sem, e]
set_option maxRecDepth 100000 in
theorem l01Root_r (a k : Int) (hk : 0 ≤ k) (hk2 : k ≤ 9223372036854775807) : RCon Tryz.prog 185 [.int a, .int k] (fun r o => o = [.any, .any] ∧ ∃ x : Int, -1 ≤ x ∧ x ≤ 10006 ∧ r = .int x) := by
  refine rcon_of_vcH Tryz.mixed ⟨6, [], [], []⟩ [] Tryz.func185 (by decide) rfl (by simp) (by simp) (by decide) ?_
  rw [Tryz.ntmps185]
  simp [go_sem]
  refine loop_inv (List.range' 4 12) (fun i : Nat => [(5, .int i)]) (fun i => i ≤ 10007) (fun i => 10007 - i) 0 (by simp) (by simp [go_sem]) (by simp [go_sem]) ?_
  intro i hi
  by_cases h : i < 10007
  · have hii : (i : Int) < 10007 := by omega
    have cP := l01Pow_c i k ⟨by omega, by omega⟩ hk hk2
    simp [go_sem, hii]
    refine CallVC.of (cP) (by decide) ?_
    simp [go_sem]
    refine ⟨fun h => ?_, fun h => ?_⟩ <;> simp at h
    · simp [go_sem]
      omega
    · simp [go_sem]
      exact ⟨⟨by omega, by omega⟩, i + 1, by omega, by omega, Off_reset _ _ _ (by simp), by omega⟩
  · have hii : ¬ (i : Int) < 10007 := by omega
    simp [go_sem, hii]
end Go.Proofs.YtmojbncbbnjblaaGreat


namespace Go.Proofs.YtmojbncbbnjblaaGreat
open Go.Abs
set_option linter.unusedVariables false
set_option linter.unusedSimpArgs false
set_option maxHeartbeats 1000000
theorem memD {α : Type} {l : List α} {i : Nat} (d : α) (h : i < l.length) : l[i]?.getD d ∈ l := by simp [h]
def oneE (n k : Nat) : List Int := (List.replicate n 0).set k 1
@[simp] theorem oneE_len (n k : Nat) : (oneE n k).length = n := by simp [oneE]
theorem l13One_c (n k : Nat) (hn : n ≤ 1048576) (hk : k < n) : Con Tryz.prog 143 [.int n, .int k] (.own 2 n (avs (oneE n k))) := by
  refine con_of_vc Tryz.mixed ⟨6, [], [], []⟩ Tryz.func143 (by decide) rfl (by simp) (by decide) (by simp [freshOK, freshL, go_sem]) ?_
  rw [Tryz.ntmps143]
  simp [go_sem]
  refine ⟨⟨by omega, by omega⟩, hk, ?_⟩
  rw [avs_repl, avs_set]; rfl
end Go.Proofs.YtmojbncbbnjblaaGreat


namespace Go.Proofs.YtmojbncbbnjblaaGreat
open Go.Abs
set_option linter.unusedVariables false
set_option linter.unusedSimpArgs false
set_option maxHeartbeats 4000000
theorem sqL_tab {s : Nat} (q p : Int) (l b : List Int) (h1 : 1 ≤ s) (h8 : s ≤ 8) (hb : b.length = s) : Tab (sqL s q l) (rwL p b) := by
  have bl : (rwL p b).length = s := by simp [rwL, hb]
  refine ⟨by omega, by omega, by rw [bl]; simp [sqL], tb_N fun k _ => frI_N _ _, fun r hr => ?_⟩
  obtain ⟨i, _, rfl⟩ := List.mem_map.1 hr
  exact ⟨by rw [bl]; simp, tb_N fun k _ => frI_N _ _⟩
theorem sqL_len (s : Nat) (q : Int) (l : List Int) : (sqL s q l).length = s := by simp [sqL]
theorem rwL_len (p : Int) (b : List Int) : (rwL p b).length = b.length := by simp [rwL]
def Tb8 (A : List (List Int)) (B : List Int) : Prop := Tab A B
theorem named_fin (s : Nat) (q p : Int) (l b : List Int) (h1 : 1 ≤ s) (h8 : s ≤ 8) (hb : b.length = s) :
    ∃ (A : List (List Int)) (B : List Int), Tb8 A B ∧ (s = A.length ∧ omat (sqL s q l) = omat A) ∧ s = B.length ∧ rwL p b = B :=
  ⟨sqL s q l, rwL p b, sqL_tab q p l b h1 h8 hb, ⟨(sqL_len s q l).symm, rfl⟩, by rw [rwL_len]; exact hb.symm, rfl⟩
set_option maxRecDepth 100000 in
theorem l09Named_r (nm : ByteArray) : RCon Tryz.prog 152 [.val (.string nm)] (fun r o => o = [.any] ∧ ∃ (A : List (List Int)) (B : List Int), Tb8 A B ∧ r = .agg [.own 25 A.length (omat A), .own 2 B.length (avs B)]) := by
  have sq := fun (s : Nat) (q : Int) (l : List Int) (h1 : s ≤ 8) (h2 : l.length = s * s) (h3 : fits q) (h4 : ∀ x ∈ l, fits x) => l09Square_c s q l h1 h2 h3 h4
  have rw_ := fun (q : Int) (l : List Int) (h1 : l.length ≤ 64) (h3 : fits q) (h4 : ∀ x ∈ l, fits x) => l09Row_c q l h1 h3 h4
  have f1 : fits 1 := ⟨by omega, by omega⟩
  have ff : ∀ n : Int, -100 ≤ n → n ≤ 100 → fits n := fun n h1 h2 => ⟨by omega, by omega⟩
  refine rcon_of_vcH Tryz.mixed ⟨5, [], [2000000 + 185], []⟩ [] Tryz.func152 (by decide) rfl (by simp) (by simp) (by decide) ?_
  rw [Tryz.ntmps152]
  simp [go_sem]
  refine ⟨fun h => ?_, fun h => ?_⟩
  · simp [go_sem]
    refine CallVC.of (sq 1 1 [0] (by omega) rfl (ff _ (by omega) (by omega)) (by simp [fits])) (by decide) ?_
    simp [go_sem]
    refine CallVC.of (rw_ 1 [1] (by simp) (ff _ (by omega) (by omega)) (by simp [fits])) (by decide) ?_
    simp [go_sem]
    exact named_fin 1 1 1 [0] [1] (by omega) (by omega) rfl
  simp [go_sem]
  refine ⟨fun h => ?_, fun h => ?_⟩
  · simp [go_sem]
    refine ⟨_, l01Root_r 3 2 (by omega) (by omega), ?_⟩
    rintro _ _ ⟨rfl, x, hx1, hx2, rfl⟩
    have n6 := frI_N 1 6
    have n4 := frI_N 1 4
    have c6 := l01Frac_c 1 6 f1 (ff _ (by omega) (by omega))
    have c4 := l01Frac_c 1 4 f1 (ff _ (by omega) (by omega))
    have e6 : frI 1 6 = 1 % 10007 * pw (6 % 10007) 10005 % 10007 := rfl
    have e4 : frI 1 4 = 1 % 10007 * pw (4 % 10007) 10005 % 10007 := rfl
    rw [← e6] at c6
    rw [← e4] at c4
    generalize frI 1 6 = y at *
    generalize frI 1 4 = z at *
    have fm : fits (x * y) := by
      have h1 : x * y ≤ 10006 * y := Int.mul_le_mul_of_nonneg_right hx2 n6.1
      have h2 : -1 * y ≤ x * y := Int.mul_le_mul_of_nonneg_right hx1 n6.1
      have := n6.1
      have := n6.2
      exact ⟨by omega, by omega⟩
    have cm := l01Mul_c x y fm
    have nm' : isN (x * y % 10007) := isN_mod _
    generalize x * y % 10007 = u at *
    have fs : fits (z - u) := sub_fits n4 nm'
    have fa : fits (z + u) := add_fits n4 nm'
    have cs := l01Sub_c z u fs
    have ca := l01Add_c z u fa
    have ns : isN ((z - u) % 10007) := isN_mod _
    have na : isN ((z + u) % 10007) := isN_mod _
    generalize (z - u) % 10007 = v at *
    generalize (z + u) % 10007 = w at *
    simp [go_sem]
    refine CallVC.of (c6) (by decide) ?_
    simp [go_sem]
    refine CallVC.of (cm) (by decide) ?_
    simp [go_sem]
    refine CallVC.of (c4) (by decide) ?_
    simp [go_sem]
    refine CallVC.of (cs) (by decide) ?_
    simp [go_sem]
    refine CallVC.of (ca) (by decide) ?_
    simp [go_sem]
    refine CallVC.of (rw_ 2 [1, 1] (by simp) (ff _ (by omega) (by omega)) (by simp [fits])) (by decide) ?_
    simp [go_sem]
    have hT : Tab [[z, v], [w, z]] (rwL 2 [1, 1]) := by
      refine ⟨by simp [rwL], by simp [rwL], by simp [rwL], tb_N fun k _ => frI_N _ _, fun r hr => ?_⟩
      simp at hr
      rcases hr with rfl | rfl
      · refine ⟨by simp [rwL], fun x hx => ?_⟩
        simp at hx
        rcases hx with rfl | rfl <;> assumption
      · refine ⟨by simp [rwL], fun x hx => ?_⟩
        simp at hx
        rcases hx with rfl | rfl <;> assumption
    exact ⟨[[z, v], [w, z]], rwL 2 [1, 1], hT, by simp [omat, avs], by simp [rwL]⟩
  simp [go_sem]
  refine ⟨fun h => ?_, fun h => ?_⟩
  · simp [go_sem]
    refine CallVC.of (sq 2 1 [0, 0, 1, 0] (by omega) rfl (ff _ (by omega) (by omega)) (by simp [fits])) (by decide) ?_
    simp [go_sem]
    refine CallVC.of (rw_ 2 [1, 1] (by simp) (ff _ (by omega) (by omega)) (by simp [fits])) (by decide) ?_
    simp [go_sem]
    exact named_fin 2 1 2 [0, 0, 1, 0] [1, 1] (by omega) (by omega) rfl
  simp [go_sem]
  refine ⟨fun h => ?_, fun h => ?_⟩
  · simp [go_sem]
    refine CallVC.of (sq 1 1 [1] (by omega) rfl (ff _ (by omega) (by omega)) (by simp [fits])) (by decide) ?_
    simp [go_sem]
    refine CallVC.of (rw_ 1 [1] (by simp) (ff _ (by omega) (by omega)) (by simp [fits])) (by decide) ?_
    simp [go_sem]
    exact named_fin 1 1 1 [1] [1] (by omega) (by omega) rfl
  simp [go_sem]
  refine ⟨fun h => ?_, fun h => ?_⟩
  · simp [go_sem]
    refine CallVC.of (sq 3 2 [0, 0, 0, 1, 0, 0, -2, 4, 0] (by omega) rfl (ff _ (by omega) (by omega)) (by simp [fits])) (by decide) ?_
    simp [go_sem]
    refine CallVC.of (rw_ 6 [1, 4, 1] (by simp) (ff _ (by omega) (by omega)) (by simp [fits])) (by decide) ?_
    simp [go_sem]
    exact named_fin 3 2 6 [0, 0, 0, 1, 0, 0, -2, 4, 0] [1, 4, 1] (by omega) (by omega) rfl
  simp [go_sem]
  refine ⟨fun h => ?_, fun h => ?_⟩
  · simp [go_sem]
    refine CallVC.of (sq 3 24 [0, 0, 0, 5, 8, -1, 4, 16, 4] (by omega) rfl (ff _ (by omega) (by omega)) (by simp [fits])) (by decide) ?_
    simp [go_sem]
    refine CallVC.of (rw_ 6 [1, 4, 1] (by simp) (ff _ (by omega) (by omega)) (by simp [fits])) (by decide) ?_
    simp [go_sem]
    exact named_fin 3 24 6 [0, 0, 0, 5, 8, -1, 4, 16, 4] [1, 4, 1] (by omega) (by omega) rfl
  simp [go_sem]
  refine ⟨fun h => ?_, fun h => ?_⟩
  · simp [go_sem]
    refine CallVC.of (sq 1 2 [1] (by omega) rfl (ff _ (by omega) (by omega)) (by simp [fits])) (by decide) ?_
    simp [go_sem]
    refine CallVC.of (rw_ 1 [1] (by simp) (ff _ (by omega) (by omega)) (by simp [fits])) (by decide) ?_
    simp [go_sem]
    exact named_fin 1 2 1 [1] [1] (by omega) (by omega) rfl
  simp [go_sem]
  refine ⟨fun h => ?_, fun h => ?_⟩
  · simp [go_sem]
    refine CallVC.of (sq 2 2 [0, 0, 1, 0] (by omega) rfl (ff _ (by omega) (by omega)) (by simp [fits])) (by decide) ?_
    simp [go_sem]
    refine CallVC.of (rw_ 1 [0, 1] (by simp) (ff _ (by omega) (by omega)) (by simp [fits])) (by decide) ?_
    simp [go_sem]
    exact named_fin 2 2 1 [0, 0, 1, 0] [0, 1] (by omega) (by omega) rfl
  simp [go_sem]
  refine ⟨fun h => ?_, fun h => ?_⟩
  · simp [go_sem]
    refine CallVC.of (sq 2 12 [5, -1, 9, 3] (by omega) rfl (ff _ (by omega) (by omega)) (by simp [fits])) (by decide) ?_
    simp [go_sem]
    refine CallVC.of (rw_ 4 [3, 1] (by simp) (ff _ (by omega) (by omega)) (by simp [fits])) (by decide) ?_
    simp [go_sem]
    exact named_fin 2 12 4 [5, -1, 9, 3] [3, 1] (by omega) (by omega) rfl
  simp [go_sem]
  refine ⟨fun h => ?_, fun h => ?_⟩
  · simp [go_sem]
    refine CallVC.of (sq 2 3 [0, 0, 2, 0] (by omega) rfl (ff _ (by omega) (by omega)) (by simp [fits])) (by decide) ?_
    simp [go_sem]
    refine CallVC.of (rw_ 4 [1, 3] (by simp) (ff _ (by omega) (by omega)) (by simp [fits])) (by decide) ?_
    simp [go_sem]
    exact named_fin 2 3 4 [0, 0, 2, 0] [1, 3] (by omega) (by omega) rfl
  simp [go_sem]
  refine ⟨fun h => ?_, fun h => ?_⟩
  · simp [go_sem]
    refine CallVC.of (sq 4 2 [0, 0, 0, 0, 1, 0, 0, 0, 0, 1, 0, 0, 0, 0, 2, 0] (by omega) rfl (ff _ (by omega) (by omega)) (by simp [fits])) (by decide) ?_
    simp [go_sem]
    refine CallVC.of (rw_ 6 [1, 2, 2, 1] (by simp) (ff _ (by omega) (by omega)) (by simp [fits])) (by decide) ?_
    simp [go_sem]
    exact named_fin 4 2 6 [0, 0, 0, 0, 1, 0, 0, 0, 0, 1, 0, 0, 0, 0, 2, 0] [1, 2, 2, 1] (by omega) (by omega) rfl
  simp [go_sem]
  refine CallVC.of (sq 2 2 [0, 0, 1, 1] (by omega) rfl (ff _ (by omega) (by omega)) (by simp [fits])) (by decide) ?_
  simp [go_sem]
  refine CallVC.of (rw_ 2 [1, 1] (by simp) (ff _ (by omega) (by omega)) (by simp [fits])) (by decide) ?_
  simp [go_sem]
  exact named_fin 2 2 2 [0, 0, 1, 1] [1, 1] (by omega) (by omega) rfl
end Go.Proofs.YtmojbncbbnjblaaGreat


namespace Go.Proofs.YtmojbncbbnjblaaGreat
open Go.Abs
set_option linter.unusedVariables false
set_option linter.unusedSimpArgs false
set_option maxHeartbeats 1000000
end Go.Proofs.YtmojbncbbnjblaaGreat


namespace Go.Proofs.YtmojbncbbnjblaaGreat
open Go.Abs
set_option linter.unusedVariables false
set_option linter.unusedSimpArgs false
set_option maxHeartbeats 1000000
end Go.Proofs.YtmojbncbbnjblaaGreat


namespace Go.Proofs.YtmojbncbbnjblaaGreat
open Go.Abs
set_option linter.unusedVariables false
set_option linter.unusedSimpArgs false
set_option maxHeartbeats 1000000
end Go.Proofs.YtmojbncbbnjblaaGreat


namespace Go.Proofs.YtmojbncbbnjblaaGreat
open Go.Abs Go.Shelf Go.Sort
set_option linter.unusedVariables false
set_option linter.unusedSimpArgs false
set_option maxHeartbeats 1000000
end Go.Proofs.YtmojbncbbnjblaaGreat


namespace Go.Proofs.YtmojbncbbnjblaaGreat
open Go.Abs
set_option linter.unusedVariables false
set_option linter.unusedSimpArgs false
set_option maxHeartbeats 1000000
def ptA (Ls : List (List Mon)) : Nat → AV
  | 0 => .val (.slice none 0 0)
  | i + 1 => .own 88 (i + 1) (oprt (Ls.take (i + 1)))
theorem ptA_zero (Ls : List (List Mon)) : ptA Ls 0 = .val (.slice none 0 0) := rfl
theorem ptA_succ (Ls : List (List Mon)) (i : Nat) : ptA Ls (i + 1) = .own 88 (i + 1) (oprt (Ls.take (i + 1))) := rfl
end Go.Proofs.YtmojbncbbnjblaaGreat


namespace Go.Proofs.YtmojbncbbnjblaaGreat
open Go.Abs
set_option linter.unusedVariables false
set_option linter.unusedSimpArgs false
set_option maxHeartbeats 1000000
def DrP (n : Nat) (p : List Mon) : Prop := p.length ≤ 3 ∧ ∀ m ∈ p, WOk n 3 m
theorem set_bump {w : List Int} {B : Int} {k : Nat} (hw : ∀ x ∈ w, 0 ≤ x ∧ x ≤ B) (hk : k < w.length) : ∀ x ∈ w.set k (w[k]?.getD 0 + 1), 0 ≤ x ∧ x ≤ B + 1 := fun x hx => by
  rcases List.mem_or_eq_of_mem_set hx with hx | rfl
  · have := hw x hx; omega
  · have := hw (w[k]?.getD 0) (by simp [hk])
    omega
set_option maxRecDepth 100000 in
theorem l13Draw_r (c : List Int) (σ : Src) (hc : Byt c) (hs : SOk σ) :
    RCon Tryz.prog 93 [srcA c σ] (fun r o => ∃ (τ : Src) (n : Nat) (f : List (List Mon)), SOk τ ∧ o = [srcA c τ] ∧ 1 ≤ n ∧ n ≤ 3 ∧ f.length = n ∧ (∀ p ∈ f, DrP n p) ∧ r = .agg [.int n, .own 88 n (oprt f)]) := by
  have c1 := l01Next_c c σ 3 hc hs
  have s1 := nx2_ok hc hs 3
  have b1 := nx1_b hc σ (n := 3) (by omega)
  obtain ⟨n, hn⟩ : ∃ n : Nat, 1 + nx1 c σ 3 = n := ⟨(1 + nx1 c σ 3).toNat, by omega⟩
  generalize nx1 c σ 3 = v1 at *
  generalize nx2 c σ 3 = σ1 at *
  simp only [srcA_eq] at *
  refine rcon_of_vcH Tryz.mixed ⟨10, [], [1000000 + 50, 1000000 + 116, 1000000 + 112], []⟩ [0] Tryz.func93 (by decide) rfl (by simp) (by simp) (by decide) ?_
  rw [Tryz.ntmps93]
  simp [go_sem]
  refine ⟨_, _, c1, ?_⟩
  simp [go_sem]
  refine ⟨⟨by omega, by omega⟩, ?_⟩
  rw [hn]
  refine loop_inv (0 :: 3 :: 4 :: 5 :: 6 :: 7 :: 8 :: 9 :: List.range' 14 46) (fun x : Src × List (List Mon) => [(0, .box 120 [.sl c.length (bys c), .int x.1.1, .val (.int .u64 x.1.2)]), (3, .box 30 [.int n, ptA x.2 x.2.length]), (4, .int x.2.length)]) (fun x => SOk x.1 ∧ x.2.length ≤ n ∧ ∀ p ∈ x.2, DrP n p) (fun x => n - x.2.length) (σ1, []) (by simp; exact s1) (by simp [go_sem, ptA_zero]) (by simp [go_sem]) ?_
  rintro ⟨τ, f⟩ ⟨h1, h2, h3⟩
  simp only at h1 h2 h3
  simp [go_sem]
  refine ⟨fun h => ?_, fun h => ?_⟩ <;> simp at h
  · have c4 := l01Next_c c τ 4 hc h1
    have s4 := nx2_ok hc h1 4
    have b4 := nx1_b hc τ (n := 4) (by omega)
    obtain ⟨m, hm⟩ : ∃ m : Nat, nx1 c τ 4 = m := ⟨(nx1 c τ 4).toNat, by omega⟩
    rw [hm] at c4 b4
    generalize nx2 c τ 4 = τ1 at *
    simp only [srcA_eq] at c4
    simp [go_sem]
    refine ⟨_, _, c4, ?_⟩
    simp [go_sem]
    refine loop_inv (0 :: 5 :: 6 :: 7 :: 8 :: 9 :: List.range' 23 31) (fun x : Src × List Mon × Nat => [(0, .box 120 [.sl c.length (bys c), .int x.1.1, .val (.int .u64 x.1.2)]), (5, .own 93 x.2.1.length (omons x.2.1)), (6, .int x.2.2)]) (fun x => SOk x.1 ∧ x.2.1.length + x.2.2 ≤ 3 ∧ ∀ m ∈ x.2.1, WOk n 3 m) (fun x => x.2.2) (τ1, [], m) ⟨s4, by simp; omega, by simp⟩ (by simp [go_sem]) (by simp [go_sem]) ?_
    rintro ⟨ρ, p, k⟩ ⟨g1, g2, g3⟩
    simp only at g1 g2 g3
    simp [go_sem]
    refine ⟨fun h => ?_, fun h => ?_⟩ <;> simp at h
    · have c5 := l01Pick_c c ρ [0, 1, 1, 2, 2, 3] hc g1 (by simp) (by simp)
      have m5 := pk_mem c hc ρ (xs := [0, 1, 1, 2, 2, 3]) (by simp)
      have s5 := nx2_ok hc g1 6
      obtain ⟨d0, hd0⟩ : ∃ d0 : Nat, pk c ρ [0, 1, 1, 2, 2, 3] = d0 := ⟨(pk c ρ [0, 1, 1, 2, 2, 3]).toNat, by simp at m5; omega⟩
      have hd3 : d0 ≤ 3 := by rw [hd0] at m5; simp at m5; omega
      have e6 : (([0, 1, 1, 2, 2, 3] : List Int).length : Int) = 6 := rfl
      rw [hd0, e6] at c5
      generalize nx2 c ρ 6 = ρ1 at *
      simp only [srcA_eq] at c5
      simp [go_sem]
      refine ⟨⟨by omega, by omega⟩, ?_⟩
      refine ⟨_, _, c5, ?_⟩
      simp [go_sem]
      rw [avs_repl]
      refine loop_inv (0 :: 7 :: 8 :: 9 :: List.range' 33 16) (fun x : Src × List Int × Nat => [(0, .box 120 [.sl c.length (bys c), .int x.1.1, .val (.int .u64 x.1.2)]), (7, .own 2 n (avs x.2.1)), (8, .int x.2.2)]) (fun x => SOk x.1 ∧ x.2.1.length = n ∧ x.2.2 ≤ 3 ∧ ∀ y ∈ x.2.1, 0 ≤ y ∧ y + x.2.2 ≤ 3) (fun x => x.2.2) (ρ1, List.replicate n 0, d0) ⟨s5, by simp, by simpa using hd3, by intro y hy; have := List.eq_of_mem_replicate hy; simp only; omega⟩ (by simp [go_sem]) (by simp [go_sem]) ?_
      rintro ⟨κ, w, d⟩ ⟨q1, q2, q3, q4⟩
      simp only at q1 q2 q3 q4
      simp [go_sem]
      refine ⟨fun h => ?_, fun h => ?_⟩ <;> simp at h
      · obtain ⟨e, rfl⟩ : ∃ e, d = e + 1 := ⟨d - 1, by omega⟩
        have hnn : 1 ≤ n := by omega
        have c6 := l01Next_c c κ n hc q1
        have s6 := nx2_ok hc q1 n
        have b6 := nx1_b hc κ (n := n) (by omega)
        obtain ⟨j, hj⟩ : ∃ j : Nat, nx1 c κ n = j := ⟨(nx1 c κ n).toNat, by omega⟩
        rw [hj] at c6 b6
        have hjn : j < w.length := by omega
        have hA := avs_at hjn
        have hB := set_bump (B := 3 - (e + 1)) (fun y hy => by have := q4 y hy; constructor <;> omega) hjn
        have wj := q4 (w[j]?.getD 0) (by simp [hjn])
        have hS := avs_set w j (w[j]?.getD 0 + 1)
        generalize w[j]?.getD 0 = u at *
        generalize nx2 c κ n = κ1 at *
        simp only [srcA_eq] at c6
        simp [go_sem]
        refine ⟨_, _, c6, ?_⟩
        simp [go_sem]
        simp [go_sem, hA]
        refine ⟨by omega, ⟨by omega, by omega⟩, by omega, by omega, by omega, κ1.1, κ1.2, w.set j (u + 1), e, ⟨s6, by simpa using q2, by omega, fun y hy => ?_⟩, by omega, Off_reset _ _ _ (by simp), ?_⟩
        · have := hB y hy; omega
        · simp [hS]
      · have e0 : d = 0 := by omega
        subst e0
        have c7 := l01Number_c c κ hc q1
        have h7 := nbV_ok hc q1
        have c8 := l13Put_c p (nbV c κ).1 w h7.1 (fun m hm => ⟨(g3 m hm).num, by have := (g3 m hm).len; omega⟩) (by omega) (by omega)
        have l8 := putL_len p (nbV c κ).1 w
        have w8 := putGo_wok (n := n) (B := 3) (c := (nbV c κ).1) (e := w) ⟨h7.1, q2, fun y hy => by have := q4 y hy; constructor <;> omega⟩ p (decide ((nbV c κ).1 = 0)) g3
        have w9 : ∀ m ∈ putL p (nbV c κ).1 w, WOk n 3 m := w8
        rw [q2] at c8
        generalize putL p (nbV c κ).1 w = p2 at *
        generalize nbV c κ = r7 at *
        simp only [srcA_eq] at c7
        simp [go_sem]
        refine ⟨_, _, c7, ?_⟩
        simp [go_sem]
        refine CallVC.of (c8) (by decide) ?_
        simp [go_sem]
        exact ⟨⟨by omega, by omega⟩, r7.2.1, r7.2.2, p2, k - 1, ⟨h7.2, by omega, fun a b hab => w9 (a, b) hab⟩, by omega, (Off.reset (by intro x hx; simp at hx ⊢; omega) (by simp) (by simp [go_sem, Off_reset])), ⟨rfl, rfl⟩, ⟨rfl, rfl⟩, by omega⟩
    · have k0 : k = 0 := by omega
      subst k0
      have hsn : ptA (f ++ [p]) (f.length + 1) = .own 88 (f.length + 1) (oprt f ++ [.own 93 p.length (omons p)]) := by
        rw [ptA_succ, List.take_of_length_le (by simp), oprt_app]; rfl
      have hdr : DrP n p := ⟨by omega, g3⟩
      rcases f with _ | ⟨q, f⟩
      · simp [go_sem, ptA_zero]
        refine ⟨ρ.1, ρ.2, [p], ⟨g1, by simp; omega, by simpa using hdr⟩, by simp; omega, (by repeat (first | exact Off_reset _ _ _ (by simp) | (refine Off.reset (by intro x hx; simp at hx ⊢; omega) (by simp) ?_; simp -failIfUnchanged [go_sem, Off_reset]))), ?_⟩
        exact ⟨⟨rfl, rfl⟩, rfl, by simp⟩
      · rw [List.length_cons] at *
        simp [go_sem, ptA_succ]
        refine ⟨⟨by omega, by omega⟩, by omega, ρ.1, ρ.2, q :: f ++ [p], ⟨g1, by simp; omega, fun t ht => ?_⟩, by simp; omega, (by repeat (first | exact Off_reset _ _ _ (by simp) | (refine Off.reset (by intro x hx; simp at hx ⊢; omega) (by simp) ?_; simp -failIfUnchanged [go_sem, Off_reset]))), ?_⟩
        · rcases List.mem_append.1 ht with ht | ht
          · exact h3 t ht
          · simp at ht; rw [ht]; exact hdr
        · have e1 : (q :: f ++ [p]).length = f.length + 1 + 1 := by simp
          rw [e1, hsn]
          exact ⟨⟨rfl, rfl⟩, rfl, by omega⟩
  · have e0 : f.length = n := by omega
    rcases f with _ | ⟨q, f⟩
    · simp at e0; omega
    · rw [List.length_cons] at *
      simp [go_sem, ptA_succ]
      exact ⟨τ.1, τ.2, h1, ⟨rfl, rfl⟩, n, by omega, by omega, q :: f, by simpa using e0, h3, rfl, e0, rfl⟩
def spr : Bool → List (List Mon) → List AV
  | true, p :: f => .own 93 p.length (mons p) :: oprt f
  | true, [] => []
  | false, f => oprt f
@[simp] theorem spr_len : ∀ (b : Bool) (f : List (List Mon)), (spr b f).length = f.length
  | true, p :: f => by simp [spr]
  | true, [] => rfl
  | false, f => by simp [spr]
@[simp] theorem spr_frz : ∀ (b : Bool) (f : List (List Mon)), frzL (spr b f) = prt f
  | true, p :: f => by simp [spr, frzL, frz, prt, mons_frz]
  | true, [] => rfl
  | false, f => by simp [spr]
def DrS (z : Int) (f : List (List Mon)) : Prop := -1 ≤ z ∧ z ≤ 4 ∧ f.length ≤ 4 ∧ ∀ p ∈ f, p.length ≤ 4 ∧ ∀ m ∈ p, m.2.length ≤ 3
theorem DrS.of {n : Nat} {f : List (List Mon)} (hn : n ≤ 3) (hl : f.length ≤ 3) (h : ∀ p ∈ f, DrP n p) {z : Int} (h1 : -1 ≤ z) (h2 : z ≤ 4) : DrS z f :=
  ⟨h1, h2, by omega, fun p hp => ⟨by have := (h p hp).1; omega, fun m hm => by have := ((h p hp).2 m hm).len; omega⟩⟩
end Go.Proofs.YtmojbncbbnjblaaGreat


namespace Go.Proofs.YtmojbncbbnjblaaGreat
open Go.Abs
set_option linter.unusedVariables false
set_option linter.unusedSimpArgs false
set_option maxHeartbeats 1000000
theorem oprt_cons (q : List Mon) (f : List (List Mon)) : oprt (q :: f) = .own 93 q.length (omons q) :: oprt f := rfl
set_option maxRecDepth 100000 in
theorem l13Spoil_r (c : List Int) (σ : Src) (hc : Byt c) (hs : SOk σ) :
    RCon Tryz.prog 92 [srcA c σ] (fun r o => ∃ (τ : Src) (z : Int) (b : Bool) (f : List (List Mon)), SOk τ ∧ o = [srcA c τ] ∧ DrS z f ∧ r = .agg [.int z, .own 88 f.length (spr b f)]) := by
  have cD := l13Draw_r c σ hc hs
  simp only [srcA_eq] at *
  refine rcon_of_vcH Tryz.mixed ⟨5, [48], [1000000 + 50, 1000000 + 116, 2000000 + 93], [2000614000117]⟩ [0] Tryz.func92 (by decide) rfl (by simp) (by simp) (by decide) ?_
  rw [Tryz.ntmps92]
  simp [go_sem]
  refine ⟨_, cD, ?_⟩
  rintro _ _ ⟨τ, n, f, h1, rfl, h2, h3, h4, h5, rfl⟩
  have c4 := l01Next_c c τ 40 hc h1
  have s4 := nx2_ok hc h1 40
  generalize nx1 c τ 40 = v at *
  generalize nx2 c τ 40 = τ1 at *
  simp only [srcA_eq] at c4
  simp [go_sem]
  refine ⟨_, _, c4, ?_⟩
  simp [go_sem]
  rcases f with _ | ⟨q, f⟩
  · simp at h4; omega
  · have hq : q.length ≤ 3 := (h5 q (by simp)).1
    by_cases v0 : v = 0
    · have c5 := l01Pick_c c τ1 [0, (n : Int) + 1, -1, 4] hc s4 (by simp) (by simp)
      have m5 := pk_mem c hc τ1 (xs := [0, (n : Int) + 1, -1, 4]) (by simp)
      have s5 := nx2_ok hc s4 4
      have e4 : (([0, (n : Int) + 1, -1, 4] : List Int).length : Int) = 4 := rfl
      rw [e4] at c5
      simp only [srcA_eq] at c5
      generalize pk c τ1 [0, (n : Int) + 1, -1, 4] = z at *
      generalize nx2 c τ1 4 = τ2 at *
      simp [go_sem, v0]
      refine ⟨⟨by omega, by omega⟩, ?_⟩
      refine ⟨_, _, c5, ?_⟩
      simp [go_sem]
      refine ⟨τ2.1, τ2.2, s5, ⟨rfl, rfl⟩, z, .inl ⟨q :: f, DrS.of h3 (by omega) h5 ?_ ?_, rfl, h4.symm, rfl⟩⟩
      all_goals (simp at m5; omega)
    · have hfs : DrS n (q :: f) := DrS.of h3 (by omega) h5 (by omega) (by omega)
      by_cases v1 : v = 1
      · have c5 := l01Pick_c c τ1 [0, 10007, 1] hc s4 (by simp) (by simp)
        have s5 := nx2_ok hc s4 3
        have e4 : (([0, 10007, 1] : List Int).length : Int) = 3 := rfl
        have c6 := l13One_c n 0 (by omega) (by omega)
        rw [e4] at c5
        simp only [srcA_eq] at c5
        generalize pk c τ1 [0, 10007, 1] = x at *
        generalize nx2 c τ1 3 = τ2 at *
        have fin : ∃ a b, SOk (a, b) ∧ ((τ2.1 : Int) = a ∧ τ2.2 = b) ∧ ∃ z, (∃ g, DrS z g ∧ (n : Int) = z ∧ n = g.length ∧ AV.own 93 (q.length + 1) (omons q ++ [AV.val (Value.int IntKind.i64 x), AV.own 2 n (avs (oneE n 0))]) :: oprt f = spr false g) ∨ ∃ g, DrS z g ∧ (n : Int) = z ∧ n = g.length ∧ AV.own 93 (q.length + 1) (omons q ++ [AV.val (Value.int IntKind.i64 x), AV.own 2 n (avs (oneE n 0))]) :: oprt f = spr true g := by
          refine ⟨τ2.1, τ2.2, s5, ⟨rfl, rfl⟩, n, .inl ⟨(q ++ [(x, oneE n 0)]) :: f, ⟨by omega, by omega, hfs.2.2.1, fun p hp => ?_⟩, rfl, h4.symm, ?_⟩⟩
          · rcases List.mem_cons.1 hp with rfl | hp
            · refine ⟨by simp; omega, fun m hm => ?_⟩
              rcases List.mem_append.1 hm with hm | hm
              · exact (hfs.2.2.2 q (by simp)).2 m hm
              · simp at hm; subst hm; simp [oneE]; omega
            · exact hfs.2.2.2 p (by simp [hp])
          · have e1 : ((oneE n 0).length : Nat) = n := by simp [oneE]
            rw [spr, oprt_cons, omons_app]
            simp [omons_cons, e1]
        simp [go_sem, v0, v1]
        rw [DrawVC4_app]
        refine ⟨fun i => if i = 8 then [.n 0 .any, .n 27 .any, .n 0 (.box 120 [.sl c.length (bys c), .int τ2.1, .val (.int .u64 τ2.2)]), .n 27 .any, .w 28 (.int x)] else [.w 31 (.own 2 n (avs (oneE n 0)))], by kernel_rfl, ?_, ?_, ?_⟩
        · simp [go_sem, oprt_cons]
          refine ⟨by omega, ?_⟩
          refine ⟨_, _, c5, ?_⟩
          simp [go_sem]
          refine CallD.of (c6) (by simp [roots, rootsL]) (by decide) ?_
          simp [go_sem]
          refine ⟨⟨by omega, by omega⟩, by omega, by kernel_rfl, ?_⟩
          exact fin
        · simp [go_sem, oprt_cons]
          refine ⟨by omega, ?_⟩
          refine ⟨_, _, c5, ?_⟩
          simp [go_sem]
          refine CallD.of (c6) (by simp [roots, rootsL]) (by decide) ?_
          simp [go_sem]
          refine ⟨⟨by omega, by omega⟩, by omega, by kernel_rfl, ?_⟩
          exact fin
        · simp [go_sem, oprt_cons]
          refine ⟨by omega, ?_⟩
          refine ⟨_, _, c5, ?_⟩
          simp [go_sem]
          refine CallD.of (c6) (by simp [roots, rootsL]) (by decide) ?_
          simp [go_sem]
          refine ⟨⟨by omega, by omega⟩, by omega, by kernel_rfl, ?_⟩
          exact fin
      · by_cases v2 : v = 2
        · have c5 := l01Pick_c c τ1 [4, -1, 1099511627776] hc s4 (by simp) (by simp)
          have s5 := nx2_ok hc s4 3
          have e4 : (([4, -1, 1099511627776] : List Int).length : Int) = 3 := rfl
          rw [e4] at c5
          simp only [srcA_eq] at c5
          generalize pk c τ1 [4, -1, 1099511627776] = x at *
          generalize nx2 c τ1 3 = τ2 at *
          simp [go_sem, v0, v1, v2]
          refine ⟨⟨by omega, by omega⟩, ?_⟩
          refine ⟨_, _, c5, ?_⟩
          simp [go_sem]
          refine ⟨by omega, τ2.1, τ2.2, s5, ⟨rfl, rfl⟩, n, .inr ⟨[(1, (List.replicate n 0).set 0 x)] :: f, ⟨by omega, by omega, hfs.2.2.1, fun p hp => ?_⟩, rfl, h4.symm, ?_⟩⟩
          · rcases List.mem_cons.1 hp with rfl | hp
            · exact ⟨by simp, by simp; omega⟩
            · exact hfs.2.2.2 p (by simp [hp])
          · have e1 : avs ((List.replicate n 0).set 0 x) = (List.replicate n (AV.val (.int .i64 0))).set 0 (.val (.int .i64 x)) := by rw [← avs_set, avs_repl]
            have e2 := avs_frz ((List.replicate n 0).set 0 x)
            rw [e1] at e2
            rw [e2, ← e1]
            simp [spr, oprt, mons_cons]
        · by_cases v3 : v = 3
          · simp [go_sem, v0, v1, v2, v3]
            refine ⟨⟨by simpa using h4, by omega, by omega⟩, τ1.1, τ1.2, s4, ⟨rfl, rfl⟩, n, .inl ⟨q :: f ++ [[]], ⟨by omega, by omega, by simp at h4 ⊢; omega, fun p hp => ?_⟩, rfl, by simp at h4 ⊢; omega, ?_⟩⟩
            · rcases List.mem_append.1 hp with hp | hp
              · exact hfs.2.2.2 p hp
              · simp at hp; subst hp; exact ⟨by simp, by simp⟩
            · rw [spr, oprt_app]; rfl
          · simp [go_sem, v0, v1, v2, v3]
            exact ⟨τ1.1, τ1.2, s4, ⟨rfl, rfl⟩, n, .inl ⟨q :: f, hfs, rfl, h4.symm, rfl⟩⟩
theorem RCon.fz {P : Program} {f : FuncId} {args : List AV} {R : AV → List AV → Prop} (h : RCon P f args R) : RCon P f args (fun r o => ∃ r0, R r0 o ∧ r = frz r0) := by
  refine ⟨h.1, fun w vs os F0 hl hn ho hF hr => (h.2 w vs os F0 hl hn ho hF hr).mono ?_⟩
  rintro e w' ⟨r, o, hR, v, orr, oo, F', k1, k2, k3, k4, k5, k6, k7, k8, k9⟩
  refine ⟨frz r, o, ⟨r, hR, rfl⟩, v, [], oo, fun b => F' b ∨ b ∈ orr, k1, k2, fun b hb => .inl (k3 b hb), fun b hb => hb.elim (k4 b) (fun hb => .inr ⟨(k9 b (.inl hb)).1, (k9 b (.inl hb)).2.1⟩), fun tm oss => (k5 tm oss).frz (fun b h => .inl h) (fun b h => .inr h), fun tm oss => ?_, k7, ?_, fun b hb => ?_⟩
  · have := RepTL.kl (w' := w') (F' := fun b => F' b ∨ b ∈ orr) (tm' := tm) (oss' := oss) [] (fun b hb => .inl hb) (fun _ _ _ _ h => h) (k6 tm oss) (fun _ _ => rfl)
    rwa [klL_nil] at this
  · simpa using (List.nodup_append.1 k8).2.1
  · rcases hb with hb | hb
    · simp at hb
    · obtain ⟨j1, j2, j3⟩ := k9 b (.inr hb)
      exact ⟨j1, j2, fun hf => hf.elim j3 (fun hf => (List.nodup_append.1 k8).2.2 b hf b hb rfl)⟩
end Go.Proofs.YtmojbncbbnjblaaGreat


namespace Go.Proofs.YtmojbncbbnjblaaGreat
open Go.Abs
set_option linter.unusedVariables false
set_option linter.unusedSimpArgs false
set_option maxHeartbeats 4000000
theorem str_all (cs : List ByteArray) (h : cs.length = 12) : ∀ k, k < 12 → ∃ b, (cs.map fun b => AV.val (.string b))[k]? = some (.val (.string b)) := fun k hk => ⟨cs[k]?.getD default, by simp [h, hk]⟩
set_option maxRecDepth 100000 in
theorem TableauNames_r : RCon Tryz.prog 151 [] (fun r o => o = [] ∧ ∃ L : List AV, (∀ k, k < 12 → ∃ b, L[k]? = some (.val (.string b))) ∧ r = .own 9 12 L) := by
  refine RCon.mono (R := fun r o => o = [] ∧ ∃ cs : List ByteArray, cs.length = 12 ∧ r = .own 9 12 (cs.map fun b => .val (.string b))) ?_ (fun r o h => ?_)
  · refine rcon_of_vcH Tryz.mixed ⟨1, [], [], []⟩ [] Tryz.func151 (by decide) rfl (by simp) (by simp) (by decide) ?_
    rw [Tryz.ntmps151]
    simp [go_sem]
    exact ⟨[_, _, _, _, _, _, _, _, _, _, _, _], rfl, rfl⟩
  · obtain ⟨h1, cs, h2, h3⟩ := h
    exact ⟨h1, _, str_all cs h2, h3⟩
def ptM : List (List Int) → AV
  | [] => .val (.slice none 0 0)
  | r :: A => .own 25 (A.length + 1) (omat (r :: A))
theorem ptM_nil : ptM [] = .val (.slice none 0 0) := rfl
theorem ptM_cons (r : List Int) (A : List (List Int)) : ptM (r :: A) = .own 25 (A.length + 1) (omat (r :: A)) := rfl
theorem ptM_pos {A : List (List Int)} (h : 1 ≤ A.length) : ptM A = .own 25 A.length (omat A) := by
  cases A with
  | nil => simp at h
  | cons r A => rfl
theorem Ns.set {l : List Int} (h : Ns l) (k : Nat) {x : Int} (hx : isN x) : Ns (l.set k x) := fun y hy => by
  rcases List.mem_or_eq_of_mem_set hy with hy | rfl
  · exact h y hy
  · exact hx
set_option maxRecDepth 100000 in
theorem l09Draw_r (c : List Int) (σ : Src) (m : Int) (hc : Byt c) (hs : SOk σ) (hm : 1 ≤ m) (hm8 : m ≤ 8) :
    RCon Tryz.prog 111 [srcA c σ, .int m] (fun r o => ∃ (τ : Src) (A : List (List Int)) (B : List Int), SOk τ ∧ o = [srcA c τ, .any] ∧ Tb8 A B ∧ r = .agg [.own 25 A.length (omat A), .own 2 B.length (avs B)]) := by
  have c1 := l01Next_c c σ 2 hc hs
  have s1 := nx2_ok hc hs 2
  simp only [srcA_eq] at *
  by_cases h4 : 4 ≤ m
  · refine rcon_of_vcH Tryz.mixed ⟨14, [], [1000000 + 50, 1000000 + 98, 2000000 + 151, 2000000 + 152], []⟩ [0] Tryz.func111 (by decide) rfl (by simp) (by simp) (by decide) ?_
    rw [Tryz.ntmps111]
    simp [go_sem]
    simp [go_sem, h4]
    refine ⟨_, _, c1, ?_⟩
    simp [go_sem]
    generalize nx1 c σ 2 = v at *
    generalize nx2 c σ 2 = τ0 at *
    by_cases v0 : v = 0
    · simp [go_sem, v0]
      refine ⟨_, TableauNames_r, ?_⟩
      rintro _ _ ⟨rfl, L, hL, rfl⟩
      have c9 := l01Next_c c τ0 12 hc s1
      have s9 := nx2_ok hc s1 12
      have b9 := nx1_b hc τ0 (n := 12) (by omega)
      obtain ⟨k, hk⟩ : ∃ k : Nat, nx1 c τ0 12 = k := ⟨(nx1 c τ0 12).toNat, by omega⟩
      rw [hk] at c9 b9
      generalize nx2 c τ0 12 = κ at *
      simp only [srcA_eq] at c9
      obtain ⟨b, hA⟩ := hL k (by omega)
      simp [go_sem]
      refine ⟨_, _, c9, ?_⟩
      simp [go_sem]
      simp [go_sem, hA]
      refine ⟨by omega, ?_⟩
      refine ⟨_, l09Named_r _, ?_⟩
      rintro _ _ ⟨rfl, A, B, hT, rfl⟩
      simp [go_sem]
      exact ⟨κ.1, κ.2, s9, ⟨rfl, rfl⟩, A, B, hT, ⟨rfl, rfl⟩, rfl, rfl⟩
    · simp [go_sem, v0]
      have h0 := s1
      have c4 := l01Next_c c τ0 m hc h0
      have s4 := nx2_ok hc h0 m
      have b4 := nx1_b hc τ0 (n := m) (by omega)
      obtain ⟨N, hN⟩ : ∃ N : Nat, 1 + nx1 c τ0 m = N := ⟨(1 + nx1 c τ0 m).toNat, by omega⟩
      generalize nx1 c τ0 m = v4 at *
      generalize nx2 c τ0 m = τ1 at *
      have N1 : 1 ≤ N := by omega
      have N8 : N ≤ 8 := by omega
      have c5 := l01Next_c c τ1 3 hc s4
      have s5 := nx2_ok hc s4 3
      generalize nx1 c τ1 3 = u at *
      generalize nx2 c τ1 3 = τ2 at *
      have c6 := l01List_c c τ2 N hc s5 (by omega)
      have L6 := lsV_ok (f := nbV c) (fun σ h => nbV_ok hc h) N τ2 s5
      generalize lsV (nbV c) N τ2 = r6 at *
      obtain ⟨B0, τ3⟩ := r6
      simp only at L6 c6
      obtain ⟨lB, nB, s6⟩ := L6
      simp only [srcA_eq] at c4 c5 c6
      refine ⟨_, _, c4, ?_⟩
      simp [go_sem]
      refine ⟨⟨by omega, by omega⟩, ?_⟩
      rw [hN]
      refine ⟨_, _, c5, ?_⟩
      simp [go_sem]
      refine ⟨_, _, c6, ?_⟩
      simp [go_sem]
      refine loop_inv (0 :: 8 :: List.range' 9 3 ++ List.range' 40 38) (fun x : Src × List (List Int) => [(0, .box 120 [.sl c.length (bys c), .int x.1.1, .val (.int .u64 x.1.2)]), (8, .box 27 [ptM x.2, .own 2 N (avs B0)]), (9, .int x.2.length)]) (fun x => SOk x.1 ∧ x.2.length ≤ N ∧ ∀ r ∈ x.2, r.length = N ∧ Ns r) (fun x => N - x.2.length) (τ3, []) ⟨s6, by simp, by simp⟩ (by simp [go_sem, ptM_nil]) (by simp [go_sem]) ?_
      rintro ⟨ρ, A⟩ ⟨h1, h2, h3⟩
      simp only at h1 h2 h3
      by_cases hA : A.length < N
      · have hAi : (A.length : Int) < N := by omega
        have c7 := l01List_c c ρ N hc h1 (by omega)
        have L7 := lsV_ok (f := nbV c) (fun σ h => nbV_ok hc h) N ρ h1
        generalize lsV (nbV c) N ρ = r7 at *
        obtain ⟨row0, κ⟩ := r7
        simp only at L7 c7
        obtain ⟨l7, n7, s7⟩ := L7
        simp only [srcA_eq] at c7
        simp [go_sem, hAi]
        refine ⟨_, _, c7, ?_⟩
        simp [go_sem]
        refine loop_inv (10 :: 11 :: List.range' 48 24) (fun x : List Int × Nat => [(10, .own 2 N (avs x.1)), (11, .int x.2)]) (fun x => x.1.length = N ∧ Ns x.1 ∧ x.2 ≤ N) (fun x => N - x.2) (row0, 0) ⟨l7, n7, by omega⟩ (by simp [go_sem]) (by simp [go_sem]) ?_
        rintro ⟨row, k⟩ ⟨g1, g2, g3⟩
        simp only at g1 g2 g3
        by_cases hk : k < N
        · have hki : (k : Int) < N := by omega
          have hkr : k < row.length := by omega
          have hS := avs_set row k 0
          by_cases u0 : u = 0
          · by_cases u1 : (A.length : Int) ≤ k
            · simp -implicitDefEqProofs [go_sem, hki, u0, u1, hS]
              refine ⟨hkr, ⟨by omega, by omega⟩, row.set k 0, k + 1, ⟨by simpa using g1, Ns.set g2 k ⟨by omega, by omega⟩, by omega⟩, by omega, Off_reset _ _ _ (by simp), rfl, by omega⟩
            · simp -implicitDefEqProofs [go_sem, hki, u0, u1]
              refine ⟨⟨by omega, by omega⟩, row, k + 1, ⟨g1, g2, by omega⟩, by omega, Off_reset _ _ _ (by simp), rfl, by omega⟩
          · by_cases u1 : u = 1
            · by_cases u2 : (A.length : Int) < k
              · simp -implicitDefEqProofs [go_sem, hki, u0, u1, u2, hS]
                refine ⟨hkr, ⟨by omega, by omega⟩, row.set k 0, k + 1, ⟨by simpa using g1, Ns.set g2 k ⟨by omega, by omega⟩, by omega⟩, by omega, Off_reset _ _ _ (by simp), rfl, by omega⟩
              · simp -implicitDefEqProofs [go_sem, hki, u0, u1, u2]
                refine ⟨⟨by omega, by omega⟩, row, k + 1, ⟨g1, g2, by omega⟩, by omega, Off_reset _ _ _ (by simp), rfl, by omega⟩
            · simp -implicitDefEqProofs [go_sem, hki, u0, u1]
              refine ⟨⟨by omega, by omega⟩, row, k + 1, ⟨g1, g2, by omega⟩, by omega, Off_reset _ _ _ (by simp), rfl, by omega⟩
        · have e : k = N := by omega
          subst e
          simp [go_sem]
          have h3' : ∀ r ∈ A ++ [row], r.length = k ∧ Ns r := fun r hr => by
            rcases List.mem_append.1 hr with hr | hr
            · exact h3 r hr
            · simp at hr; subst hr; exact ⟨g1, g2⟩
          have os : omat (A ++ [row]) = omat A ++ [.own 2 k (avs row)] := by rw [omat_app, omat_one, g1]
          rcases A with _ | ⟨r0, A⟩
          · simp [go_sem, ptM_nil]
            refine ⟨κ.1, κ.2, [row], ⟨s7, by simp; omega, by simpa using h3'⟩, by simp; omega, (by repeat (first | exact Off_reset _ _ _ (by simp) | (refine Off.reset (by intro x hx; simp at hx ⊢; omega) (by simp) ?_; simp -failIfUnchanged [go_sem, Off_reset]))), ⟨⟨rfl, rfl⟩, by simp [ptM_cons, omat_one, g1], by simp⟩⟩
          · simp only [List.length_cons] at hA h2 hAi
            have e5 : ptM (r0 :: A ++ [row]) = .own 25 (A.length + 1 + 1) (omat (r0 :: A) ++ [.own 2 k (avs row)]) := by
              show AV.own _ ((A ++ [row]).length + 1) (omat (r0 :: A ++ [row])) = _
              rw [os, List.length_append]; rfl
            simp [go_sem, ptM_cons]
            refine ⟨⟨by omega, by omega⟩, ⟨by omega, by omega⟩, κ.1, κ.2, r0 :: A ++ [row], ⟨s7, by simp; omega, h3'⟩, by simp; omega, (by repeat (first | exact Off_reset _ _ _ (by simp) | (refine Off.reset (by intro x hx; simp at hx ⊢; omega) (by simp) ?_; simp -failIfUnchanged [go_sem, Off_reset]))), ⟨⟨rfl, rfl⟩, e5.symm, by simp⟩⟩
      · have e : A.length = N := by omega
        have hpt := ptM_pos (A := A) (by omega)
        rw [hpt, e]
        have c8 := l01Next_c c ρ 2 hc h1
        have s8 := nx2_ok hc h1 2
        generalize nx1 c ρ 2 = v8 at *
        generalize nx2 c ρ 2 = κ at *
        simp only [srcA_eq] at c8
        have fin : ∀ B : List Int, B.length = N → Ns B → ∃ a b, SOk (a, b) ∧ ((κ.1 : Int) = a ∧ κ.2 = b) ∧ ∃ A' B', Tb8 A' B' ∧ (N = A'.length ∧ omat A = omat A') ∧ N = B'.length ∧ B = B' := fun B hB nB => by
          refine ⟨κ.1, κ.2, s8, ⟨rfl, rfl⟩, A, B, ⟨by omega, by omega, by omega, nB, fun r hr => ?_⟩, ⟨e.symm, rfl⟩, hB.symm, rfl⟩
          rw [hB]; exact h3 r hr
        simp [go_sem, e]
        refine ⟨_, _, c8, ?_⟩
        simp [go_sem]
        by_cases v80 : v8 = 0
        · simp [go_sem, v80]
          refine loop_inv (12 :: 13 :: List.range' 81 12) (fun x : Int × Nat => [(12, .int x.1), (13, .int x.2)]) (fun x => isN x.1 ∧ 1 ≤ x.2 ∧ x.2 ≤ N) (fun x => N - x.2) (0, 1) ⟨⟨by simp, by simp⟩, by simp, by simp; omega⟩ (by simp [go_sem]) (by simp [go_sem]) ?_
          rintro ⟨q, i⟩ ⟨g1, g2, g3⟩
          simp only at g1 g2 g3
          by_cases hi : i < N
          · have hii : (i : Int) < N := by omega
            have hib : i < B0.length := by omega
            have hb := nB.get i
            have fa := add_fits g1 hb
            have cA := l01Add_c q (B0[i]?.getD 0) fa
            have hat := avs_at hib
            generalize B0[i]?.getD 0 = b at *
            simp [go_sem, hii, hat]
            refine CallVC.of (cA) (by decide) ?_
            simp [go_sem]
            exact ⟨⟨by omega, by omega⟩, (q + b) % 10007, i + 1, ⟨isN_mod _, by omega, by omega⟩, by omega, Off_reset _ _ _ (by simp), rfl, by omega⟩
          · have hii : ¬ (i : Int) < N := by omega
            have cS := l01Sub_c 1 q (sub_fits ⟨by omega, by omega⟩ g1)
            have nS : isN ((1 - q) % 10007) := isN_mod _
            generalize (1 - q) % 10007 = x at *
            have hset := avs_set B0 0 x
            simp [go_sem, hii]
            refine ⟨by kernel_rfl, ?_⟩
            refine CallD.of (cS) (by simp [roots, rootsL]) (by decide) ?_
            simp [go_sem]
            refine ⟨by omega, by omega, ?_⟩
            refine ⟨by kernel_rfl, ?_⟩
            simp [go_sem]
            simp only [hset]
            obtain ⟨a, b, k1, k2, A', B', k3, k4, k5, k6⟩ := fin (B0.set 0 x) (by simpa using lB) (Ns.set nB 0 nS)
            exact ⟨a, b, k1, k2, A', B', k3, k4, k5, by rw [k6]⟩
        · simp [go_sem, v80]
          exact fin B0 lB nB
  · refine rcon_of_vcH Tryz.mixed ⟨14, [], [1000000 + 50, 1000000 + 98, 2000000 + 151, 2000000 + 152], []⟩ [0] Tryz.func111 (by decide) rfl (by simp) (by simp) (by decide) ?_
    rw [Tryz.ntmps111]
    simp [go_sem]
    simp [go_sem, h4]
    have τ0h : ∃ τ0 : Src, τ0 = σ := ⟨σ, rfl⟩
    obtain ⟨τ0, rfl⟩ := τ0h
    have h0 := hs
    clear c1 s1 hs
    have c4 := l01Next_c c τ0 m hc h0
    have s4 := nx2_ok hc h0 m
    have b4 := nx1_b hc τ0 (n := m) (by omega)
    obtain ⟨N, hN⟩ : ∃ N : Nat, 1 + nx1 c τ0 m = N := ⟨(1 + nx1 c τ0 m).toNat, by omega⟩
    generalize nx1 c τ0 m = v4 at *
    generalize nx2 c τ0 m = τ1 at *
    have N1 : 1 ≤ N := by omega
    have N8 : N ≤ 8 := by omega
    have c5 := l01Next_c c τ1 3 hc s4
    have s5 := nx2_ok hc s4 3
    generalize nx1 c τ1 3 = u at *
    generalize nx2 c τ1 3 = τ2 at *
    have c6 := l01List_c c τ2 N hc s5 (by omega)
    have L6 := lsV_ok (f := nbV c) (fun σ h => nbV_ok hc h) N τ2 s5
    generalize lsV (nbV c) N τ2 = r6 at *
    obtain ⟨B0, τ3⟩ := r6
    simp only at L6 c6
    obtain ⟨lB, nB, s6⟩ := L6
    simp only [srcA_eq] at c4 c5 c6
    refine ⟨_, _, c4, ?_⟩
    simp [go_sem]
    refine ⟨⟨by omega, by omega⟩, ?_⟩
    rw [hN]
    refine ⟨_, _, c5, ?_⟩
    simp [go_sem]
    refine ⟨_, _, c6, ?_⟩
    simp [go_sem]
    refine loop_inv (0 :: 8 :: List.range' 9 3 ++ List.range' 40 38) (fun x : Src × List (List Int) => [(0, .box 120 [.sl c.length (bys c), .int x.1.1, .val (.int .u64 x.1.2)]), (8, .box 27 [ptM x.2, .own 2 N (avs B0)]), (9, .int x.2.length)]) (fun x => SOk x.1 ∧ x.2.length ≤ N ∧ ∀ r ∈ x.2, r.length = N ∧ Ns r) (fun x => N - x.2.length) (τ3, []) ⟨s6, by simp, by simp⟩ (by simp [go_sem, ptM_nil]) (by simp [go_sem]) ?_
    rintro ⟨ρ, A⟩ ⟨h1, h2, h3⟩
    simp only at h1 h2 h3
    by_cases hA : A.length < N
    · have hAi : (A.length : Int) < N := by omega
      have c7 := l01List_c c ρ N hc h1 (by omega)
      have L7 := lsV_ok (f := nbV c) (fun σ h => nbV_ok hc h) N ρ h1
      generalize lsV (nbV c) N ρ = r7 at *
      obtain ⟨row0, κ⟩ := r7
      simp only at L7 c7
      obtain ⟨l7, n7, s7⟩ := L7
      simp only [srcA_eq] at c7
      simp [go_sem, hAi]
      refine ⟨_, _, c7, ?_⟩
      simp [go_sem]
      refine loop_inv (10 :: 11 :: List.range' 48 24) (fun x : List Int × Nat => [(10, .own 2 N (avs x.1)), (11, .int x.2)]) (fun x => x.1.length = N ∧ Ns x.1 ∧ x.2 ≤ N) (fun x => N - x.2) (row0, 0) ⟨l7, n7, by omega⟩ (by simp [go_sem]) (by simp [go_sem]) ?_
      rintro ⟨row, k⟩ ⟨g1, g2, g3⟩
      simp only at g1 g2 g3
      by_cases hk : k < N
      · have hki : (k : Int) < N := by omega
        have hkr : k < row.length := by omega
        have hS := avs_set row k 0
        by_cases u0 : u = 0
        · by_cases u1 : (A.length : Int) ≤ k
          · simp -implicitDefEqProofs [go_sem, hki, u0, u1, hS]
            refine ⟨hkr, ⟨by omega, by omega⟩, row.set k 0, k + 1, ⟨by simpa using g1, Ns.set g2 k ⟨by omega, by omega⟩, by omega⟩, by omega, Off_reset _ _ _ (by simp), rfl, by omega⟩
          · simp -implicitDefEqProofs [go_sem, hki, u0, u1]
            refine ⟨⟨by omega, by omega⟩, row, k + 1, ⟨g1, g2, by omega⟩, by omega, Off_reset _ _ _ (by simp), rfl, by omega⟩
        · by_cases u1 : u = 1
          · by_cases u2 : (A.length : Int) < k
            · simp -implicitDefEqProofs [go_sem, hki, u0, u1, u2, hS]
              refine ⟨hkr, ⟨by omega, by omega⟩, row.set k 0, k + 1, ⟨by simpa using g1, Ns.set g2 k ⟨by omega, by omega⟩, by omega⟩, by omega, Off_reset _ _ _ (by simp), rfl, by omega⟩
            · simp -implicitDefEqProofs [go_sem, hki, u0, u1, u2]
              refine ⟨⟨by omega, by omega⟩, row, k + 1, ⟨g1, g2, by omega⟩, by omega, Off_reset _ _ _ (by simp), rfl, by omega⟩
          · simp -implicitDefEqProofs [go_sem, hki, u0, u1]
            refine ⟨⟨by omega, by omega⟩, row, k + 1, ⟨g1, g2, by omega⟩, by omega, Off_reset _ _ _ (by simp), rfl, by omega⟩
      · have e : k = N := by omega
        subst e
        simp [go_sem]
        have h3' : ∀ r ∈ A ++ [row], r.length = k ∧ Ns r := fun r hr => by
          rcases List.mem_append.1 hr with hr | hr
          · exact h3 r hr
          · simp at hr; subst hr; exact ⟨g1, g2⟩
        have os : omat (A ++ [row]) = omat A ++ [.own 2 k (avs row)] := by rw [omat_app, omat_one, g1]
        rcases A with _ | ⟨r0, A⟩
        · simp [go_sem, ptM_nil]
          refine ⟨κ.1, κ.2, [row], ⟨s7, by simp; omega, by simpa using h3'⟩, by simp; omega, (by repeat (first | exact Off_reset _ _ _ (by simp) | (refine Off.reset (by intro x hx; simp at hx ⊢; omega) (by simp) ?_; simp -failIfUnchanged [go_sem, Off_reset]))), ⟨⟨rfl, rfl⟩, by simp [ptM_cons, omat_one, g1], by simp⟩⟩
        · simp only [List.length_cons] at hA h2 hAi
          have e5 : ptM (r0 :: A ++ [row]) = .own 25 (A.length + 1 + 1) (omat (r0 :: A) ++ [.own 2 k (avs row)]) := by
            show AV.own _ ((A ++ [row]).length + 1) (omat (r0 :: A ++ [row])) = _
            rw [os, List.length_append]; rfl
          simp [go_sem, ptM_cons]
          refine ⟨⟨by omega, by omega⟩, ⟨by omega, by omega⟩, κ.1, κ.2, r0 :: A ++ [row], ⟨s7, by simp; omega, h3'⟩, by simp; omega, (by repeat (first | exact Off_reset _ _ _ (by simp) | (refine Off.reset (by intro x hx; simp at hx ⊢; omega) (by simp) ?_; simp -failIfUnchanged [go_sem, Off_reset]))), ⟨⟨rfl, rfl⟩, e5.symm, by simp⟩⟩
    · have e : A.length = N := by omega
      have hpt := ptM_pos (A := A) (by omega)
      rw [hpt, e]
      have c8 := l01Next_c c ρ 2 hc h1
      have s8 := nx2_ok hc h1 2
      generalize nx1 c ρ 2 = v8 at *
      generalize nx2 c ρ 2 = κ at *
      simp only [srcA_eq] at c8
      have fin : ∀ B : List Int, B.length = N → Ns B → ∃ a b, SOk (a, b) ∧ ((κ.1 : Int) = a ∧ κ.2 = b) ∧ ∃ A' B', Tb8 A' B' ∧ (N = A'.length ∧ omat A = omat A') ∧ N = B'.length ∧ B = B' := fun B hB nB => by
        refine ⟨κ.1, κ.2, s8, ⟨rfl, rfl⟩, A, B, ⟨by omega, by omega, by omega, nB, fun r hr => ?_⟩, ⟨e.symm, rfl⟩, hB.symm, rfl⟩
        rw [hB]; exact h3 r hr
      simp [go_sem, e]
      refine ⟨_, _, c8, ?_⟩
      simp [go_sem]
      by_cases v80 : v8 = 0
      · simp [go_sem, v80]
        refine loop_inv (12 :: 13 :: List.range' 81 12) (fun x : Int × Nat => [(12, .int x.1), (13, .int x.2)]) (fun x => isN x.1 ∧ 1 ≤ x.2 ∧ x.2 ≤ N) (fun x => N - x.2) (0, 1) ⟨⟨by simp, by simp⟩, by simp, by simp; omega⟩ (by simp [go_sem]) (by simp [go_sem]) ?_
        rintro ⟨q, i⟩ ⟨g1, g2, g3⟩
        simp only at g1 g2 g3
        by_cases hi : i < N
        · have hii : (i : Int) < N := by omega
          have hib : i < B0.length := by omega
          have hb := nB.get i
          have fa := add_fits g1 hb
          have cA := l01Add_c q (B0[i]?.getD 0) fa
          have hat := avs_at hib
          generalize B0[i]?.getD 0 = b at *
          simp [go_sem, hii, hat]
          refine CallVC.of (cA) (by decide) ?_
          simp [go_sem]
          exact ⟨⟨by omega, by omega⟩, (q + b) % 10007, i + 1, ⟨isN_mod _, by omega, by omega⟩, by omega, Off_reset _ _ _ (by simp), rfl, by omega⟩
        · have hii : ¬ (i : Int) < N := by omega
          have cS := l01Sub_c 1 q (sub_fits ⟨by omega, by omega⟩ g1)
          have nS : isN ((1 - q) % 10007) := isN_mod _
          generalize (1 - q) % 10007 = x at *
          have hset := avs_set B0 0 x
          simp [go_sem, hii]
          refine ⟨by kernel_rfl, ?_⟩
          refine CallD.of (cS) (by simp [roots, rootsL]) (by decide) ?_
          simp [go_sem]
          refine ⟨by omega, by omega, ?_⟩
          refine ⟨by kernel_rfl, ?_⟩
          simp [go_sem]
          simp only [hset]
          obtain ⟨a, b, k1, k2, A', B', k3, k4, k5, k6⟩ := fin (B0.set 0 x) (by simpa using lB) (Ns.set nB 0 nS)
          exact ⟨a, b, k1, k2, A', B', k3, k4, k5, by rw [k6]⟩
      · simp [go_sem, v80]
        exact fin B0 lB nB
end Go.Proofs.YtmojbncbbnjblaaGreat


namespace Go.Proofs.YtmojbncbbnjblaaGreat
open Go.Abs
set_option linter.unusedVariables false
set_option linter.unusedSimpArgs false
set_option maxHeartbeats 4000000
theorem RCon.rep {P : Program} {f : FuncId} {args : List AV} {R R' : AV → List AV → Prop} (h : RCon P f args R)
    (hR : ∀ r o, R r o → ∃ r', R' r' o ∧ ∀ (w : World) (F : Nat → Prop) (tm : Nat → Value) (oss : Nat → List Nat) (v : Value) (os : List Nat), RepT P w F tm oss r v os → RepT P w F tm oss r' v os) : RCon P f args R' := by
  refine ⟨h.1, fun w vs os F0 hl hn ho hF hr => (h.2 w vs os F0 hl hn ho hF hr).mono ?_⟩
  rintro e w' ⟨r, o, hr0, v, orr, oo, F', k1, k2, k3, k4, k5, k6⟩
  obtain ⟨r', h1, h2⟩ := hR r o hr0
  exact ⟨r', o, h1, v, orr, oo, F', k1, k2, k3, k4, fun tm oss => h2 _ _ _ _ _ _ (k5 tm oss), k6⟩
theorem rep_nils {P : Program} {w : World} {F : Nat → Prop} {tm : Nat → Value} {oss : Nat → List Nat} {v : Value} {os : List Nat}
    (h : RepT P w F tm oss (.agg [.val (.slice none 0 0), .val (.slice none 0 0)]) v os) : RepT P w F tm oss (.agg [.sl 0 [], .sl 0 []]) v os := by
  cases h with
  | cell c v os h => cases h
  | agg cs vs os hl h =>
    refine .agg _ vs os (by simpa using hl) ?_
    cases h with
    | cons c v o cs vs os' h t =>
      cases t with
      | cons c2 v2 o2 cs2 vs2 os2 h2 t2 =>
        refine .cons _ _ _ _ _ _ ?_ (.cons _ _ _ _ _ _ ?_ t2)
        · cases h with
          | cell _ _ _ h => cases h with | val _ _ => exact .cell _ _ _ (.sl0 none 0)
        · cases h2 with
          | cell _ _ _ h => cases h with | val _ _ => exact .cell _ _ _ (.sl0 none 0)
def Sz (A : List (List Int)) (B : List Int) : Prop := A.length ≤ 9 ∧ B.length ≤ 9 ∧ ∀ r ∈ A, r.length ≤ 9
theorem Tab.sz {A : List (List Int)} {B : List Int} (h : Tab A B) : Sz A B := by
  have h1 := h.le
  have h2 := h.len
  refine ⟨by omega, by omega, fun r hr => ?_⟩
  have := (h.a r hr).1
  omega
theorem omat_cons (r : List Int) (A : List (List Int)) : omat (r :: A) = .own 2 r.length (avs r) :: omat A := rfl
def FrT (r : AV) (A : List (List Int)) (B : List Int) : Prop := frz r = .agg [.sl A.length (mat A), .sl B.length (avs B)]
set_option maxRecDepth 100000 in
theorem l09Spoil_r (c : List Int) (σ : Src) (m : Int) (hc : Byt c) (hs : SOk σ) (hm : 1 ≤ m) (hm8 : m ≤ 8) :
    RCon Tryz.prog 65 [srcA c σ, .int m] (fun r o => ∃ (τ : Src), SOk τ ∧ o = [srcA c τ, .any] ∧ (r = .agg [.val (.slice none 0 0), .val (.slice none 0 0)] ∨ ∃ (A : List (List Int)) (B : List Int), Sz A B ∧ FrT r A B)) := by
  have cD := l09Draw_r c σ m hc hs hm hm8
  simp only [srcA_eq] at *
  refine rcon_of_vcH Tryz.mixed ⟨6, [46], [1000000 + 50, 1000000 + 116, 2000000 + 111], [2000607000110]⟩ [0] Tryz.func65 (by decide) rfl (by simp) (by simp) (by decide) ?_
  rw [Tryz.ntmps65]
  simp [go_sem]
  refine ⟨_, cD, ?_⟩
  rintro _ _ ⟨τ, A, B, h1, rfl, hT, rfl⟩
  have c4 := l01Next_c c τ 40 hc h1
  have s4 := nx2_ok hc h1 40
  generalize nx1 c τ 40 = v at *
  generalize nx2 c τ 40 = τ1 at *
  have hz := Tab.sz hT
  have hp := Tab.pos hT
  have hl := Tab.len hT
  have hle := Tab.le hT
  simp only [srcA_eq] at c4
  simp [go_sem]
  refine ⟨_, _, c4, ?_⟩
  simp [go_sem]
  by_cases v0 : v = 0
  · have ef := avs_frz (B ++ [1])
    rw [avs_snoc] at ef
    simp [go_sem, v0]
    exact ⟨⟨by omega, by omega⟩, τ1.1, τ1.2, s4, ⟨rfl, rfl⟩, A, B ++ [1], ⟨hz.1, by simp; omega, hz.2.2⟩, by simp [FrT, frz, frzL, avs_snoc, ef]⟩
  · by_cases v1 : v = 1
    · rcases A with _ | ⟨r0, A⟩
      · simp at hl; omega
      · have hr0 := hz.2.2 r0 (by simp)
        have fin : ∃ a b, SOk (a, b) ∧ ((τ1.1 : Int) = a ∧ τ1.2 = b) ∧ ∃ A_1 B_1, Sz A_1 B_1 ∧ FrT (.agg [.own 25 (A.length + 1) (.own 2 (r0.length + 1) (avs r0 ++ [.int 1]) :: omat A), .own 2 B.length (avs B)]) A_1 B_1 := by
          refine ⟨τ1.1, τ1.2, s4, ⟨rfl, rfl⟩, (r0 ++ [1]) :: A, B, ⟨hz.1, hz.2.1, fun r hr => ?_⟩, ?_⟩
          · rcases List.mem_cons.1 hr with rfl | hr
            · have := hT.le; have := (hT.a r0 (by simp)).1; simp; omega
            · exact hz.2.2 r (by simp [hr])
          · have e : omat ((r0 ++ [1]) :: A) = .own 2 (r0.length + 1) (avs r0 ++ [.int 1]) :: omat A := by rw [omat_cons, avs_snoc, List.length_append]; rfl
            unfold FrT
            rw [← e]
            simp [frz, frzL]
        simp [go_sem, v0, v1]
        rw [DrawVC4_app]
        refine ⟨fun i => [], by kernel_rfl, ?_, ?_, ?_⟩
        · simp [go_sem, omat_cons]
          refine ⟨⟨by omega, by omega⟩, by kernel_rfl, ?_⟩
          exact fin
        · simp [go_sem, omat_cons]
          refine ⟨⟨by omega, by omega⟩, by kernel_rfl, ?_⟩
          exact fin
        · simp [go_sem, omat_cons]
          refine ⟨⟨by omega, by omega⟩, by kernel_rfl, ?_⟩
          exact fin
    · by_cases v2 : v = 2
      · have c5 := l01Pick_c c τ1 [-1, 10007] hc s4 (by simp) (by simp)
        have s5 := nx2_ok hc s4 2
        have e4 : (([-1, 10007] : List Int).length : Int) = 2 := rfl
        rw [e4] at c5
        simp only [srcA_eq] at c5
        generalize pk c τ1 [-1, 10007] = x at *
        generalize nx2 c τ1 2 = τ2 at *
        rcases A with _ | ⟨r0, A⟩
        · simp at hl; omega
        · simp [go_sem, v0, v1, v2, omat_cons]
          refine ⟨by kernel_rfl, ?_⟩
          refine ⟨_, _, c5, ?_⟩
          simp [go_sem]
          have hr0 : r0.length = B.length := (hT.a r0 (by simp)).1
          have hset := avs_set r0 0 x
          refine ⟨by omega, ?_⟩
          refine ⟨by kernel_rfl, ?_⟩
          simp [go_sem]
          simp only [hset]
          refine ⟨τ2.1, τ2.2, s5, ⟨rfl, rfl⟩, (r0.set 0 x) :: A, B, ⟨hz.1, hz.2.1, fun r hr => ?_⟩, ?_⟩
          · rcases List.mem_cons.1 hr with rfl | hr
            · simp; omega
            · exact hz.2.2 r (by simp [hr])
          · have e : omat ((r0.set 0 x) :: A) = .own 2 r0.length (avs (r0.set 0 x)) :: omat A := by rw [omat_cons, List.length_set]
            unfold FrT
            rw [← e]
            simp [frz, frzL]
      · by_cases v3 : v = 3
        · simp [go_sem, v0, v1, v2, v3]
          exact ⟨τ1.1, s4, rfl⟩
        · by_cases v4 : v = 4
          · simp [go_sem, v0, v1, v2, v3, v4]
            refine ⟨by omega, τ1.1, τ1.2, s4, ⟨rfl, rfl⟩, A.tail, B, ⟨by simp; omega, hz.2.1, fun r hr => hz.2.2 r (List.mem_of_mem_tail hr)⟩, ?_⟩
            have e : List.take (A.length - 1) (mat A).tail = mat A.tail := by rw [List.take_of_length_le (by simp)]; simp [mat]
            unfold FrT
            rw [e]
            simp [frz, frzL]
          · simp [go_sem, v0, v1, v2, v3, v4]
            exact ⟨τ1.1, τ1.2, s4, ⟨rfl, rfl⟩, A, B, hz, by simp [FrT, frz, frzL]⟩
theorem l09Spoil_f (c : List Int) (σ : Src) (m : Int) (hc : Byt c) (hs : SOk σ) (hm : 1 ≤ m) (hm8 : m ≤ 8) :
    RCon Tryz.prog 65 [srcA c σ, .int m] (fun r o => ∃ (τ : Src) (A : List (List Int)) (B : List Int), SOk τ ∧ o = [srcA c τ, .any] ∧ Sz A B ∧ r = .agg [.sl A.length (mat A), .sl B.length (avs B)]) := by
  refine RCon.rep (RCon.fz (l09Spoil_r c σ m hc hs hm hm8)) (fun r o h => ?_)
  obtain ⟨r0, ⟨τ, h1, h2, h3⟩, rfl⟩ := h
  rcases h3 with rfl | ⟨A, B, hz, hf⟩
  · exact ⟨_, ⟨τ, [], [], h1, h2, ⟨by simp, by simp, by simp⟩, rfl⟩, fun w F tm oss v os h => rep_nils h⟩
  · unfold FrT at hf
    exact ⟨_, ⟨τ, A, B, h1, h2, hz, hf⟩, fun w F tm oss v os h => h⟩
end Go.Proofs.YtmojbncbbnjblaaGreat


namespace Go.Proofs.YtmojbncbbnjblaaGreat
open Go.Abs
set_option linter.unusedVariables false
set_option linter.unusedSimpArgs false
set_option maxHeartbeats 1000000
theorem RCon.fzi {P : Program} {f : FuncId} {args : List AV} {R : AV → List AV → Prop} (h : RCon P f args R) (hR : ∀ r o, R r o → ∃ (z : Value) (e n : Nat) (cs : List AV), r = .agg [.val z, .own e n cs]) :
    RCon P f args (fun r o => ∃ (z : Value) (e n : Nat) (cs : List AV), R (.agg [.val z, .own e n cs]) o ∧ r = .agg [.val z, .own e n (frzL cs)]) := by
  refine ⟨h.1, fun w vs os F0 hl hn ho hF hr => (h.2 w vs os F0 hl hn ho hF hr).mono ?_⟩
  rintro e0 w' ⟨r, o, hRr, v, orr, oo, F', k1, k2, k3, k4, k5, k6, k7, k8, k9⟩
  obtain ⟨z, e, n, cs, rfl⟩ := hR r o hRr
  have oouts : ∀ (F2 : Nat → Prop), (∀ b, F' b → F2 b) → ∀ tm oss, RepTL P w' F2 tm oss o vs oo := fun F2 hF2 tm oss => by
    have := RepTL.kl (w' := w') (F' := F2) (tm' := tm) (oss' := oss) [] hF2 (fun _ _ _ _ h => h) (k6 tm oss) (fun _ _ => rfl)
    rwa [klL_nil] at this
  have h1 := k5 (fun _ => undef) (fun _ => [])
  generalize hcc : AV.agg [.val z, .own e n cs] = cc at h1
  generalize hoo : orr = oq at h1
  cases h1 with
  | agg cs' vs' os' hl' hL =>
    simp only [AV.agg.injEq] at hcc
    subst hcc
    cases hL with
    | cons c1 v0 os0 cs1 vs1 os1 hA hB =>
    cases hA with
    | cell c1 v0 os0 hA =>
    cases hA with
    | val z hw =>
    cases hB with
    | cons c2 v1 osc cs2 vs2 os2 hC hD =>
    cases hD with
    | nil =>
    cases hC with
    | cell c2 v1 osc hC =>
    cases hC with
    | own0 e =>
      refine ⟨_, o, ⟨z, e, 0, [], hRr, rfl⟩, _, [], oo, F', k1, k2, k3, k4, fun tm oss => .agg _ _ [] (by simpa using hl') (.cons _ _ [] _ _ [] (.cell _ _ _ (.val _ hw)) (.cons _ _ [] _ _ [] (.cell _ _ _ (.own0 e)) (.nil _))), k6, k7, ?_, fun b hb => k9 b (.inr (by simpa using hb))⟩
      simpa using (List.nodup_append.1 k8).2.1
    | own b e n cap c cs ok hb1 hn1 hc1 hl1 =>
      have hoo' : orr = b :: ok := by simpa using hoo
      subst hoo'
      have hnd := (List.nodup_append.1 k8)
      have hnd2 := List.nodup_cons.1 hnd.1
      refine ⟨_, o, ⟨z, e, n, cs, hRr, rfl⟩, _, [b], oo, fun x => F' x ∨ x ∈ ok, k1, k2, fun x hx => .inl (k3 x hx), fun x hx => hx.elim (k4 x) (fun hx => .inr ⟨(k9 x (.inl (by simp [hx]))).1, (k9 x (.inl (by simp [hx]))).2.1⟩),
        fun tm oss => .agg _ _ [b] (by simpa using hl') (.cons _ _ [] _ _ [b] (.cell _ _ _ (.val _ hw)) (.cons _ _ [b] _ _ [] (.cell _ _ _ (.own b e n cap c _ [] hb1 hn1 hc1 ?_)) (.nil _))), fun tm oss => oouts _ (fun x hx => .inl hx) tm oss, k7, ?_, fun x hx => ?_⟩
      · exact RepL.frz (fun x hx => .inl hx) hl1 (fun x hx => .inr hx)
      · refine List.nodup_append.2 ⟨by simp, hnd.2.1, fun x hx y hy e => ?_⟩
        simp at hx
        exact hnd.2.2 b (by simp) y hy (hx ▸ e)
      · rcases hx with hx | hx
        · simp at hx
          subst hx
          obtain ⟨j1, j2, j3⟩ := k9 x (.inl (by simp))
          exact ⟨j1, j2, fun hf => hf.elim j3 hnd2.1⟩
        · obtain ⟨j1, j2, j3⟩ := k9 x (.inr hx)
          exact ⟨j1, j2, fun hf => hf.elim j3 (fun hf => hnd.2.2 x (by simp [hf]) x hx rfl)⟩
  | cell c v os h => subst hcc; cases h
  | any v => simp at hcc
  | tup cs' vs' os' hl' hL => simp at hcc
  | fn f cs' vs' os' hl' hL => simp at hcc
  | bor s p v h => simp at hcc
  | ptr s p off u b h hb => simp at hcc
  | slp s p off n cap u b h hb hn => simp at hcc
theorem l13Spoil_i (c : List Int) (σ : Src) (hc : Byt c) (hs : SOk σ) :
    RCon Tryz.prog 92 [srcA c σ] (fun r o => ∃ (τ : Src) (z : Int) (f : List (List Mon)), SOk τ ∧ o = [srcA c τ] ∧ DrS z f ∧ r = .agg [.int z, .own 88 f.length (prt f)]) := by
  refine (RCon.fzi (l13Spoil_r c σ hc hs) ?_).mono ?_
  · rintro r o ⟨τ, z, b, f, h1, h2, h3, rfl⟩
    exact ⟨_, _, _, _, rfl⟩
  · rintro r o ⟨z, e, n, cs, ⟨τ, z', b, f, h1, h2, h3, h4⟩, rfl⟩
    simp only [AV.agg.injEq, List.cons.injEq, AV.val.injEq, AV.own.injEq, and_true] at h4
    obtain ⟨rfl, rfl, rfl, rfl⟩ := h4
    exact ⟨τ, z', f, h1, h2, h3, by rw [spr_frz]⟩
end Go.Proofs.YtmojbncbbnjblaaGreat

