/- Texts of the own layer and contracts, part 6: C0 C1 C4 C5 C6 C7 C8 C2 C9 C10 C11 C12 C13 W0 P0 F0 F1 F2 F3 F4 F5 F6 P1 P2 P3 P4 P5 P6 F7 Q0 G0 G1 Q1 Q2 L3 Q9 Q10 Q11 Q12 Q13 Q3 Q4 Q5 P7 Q6 Q7 Q8 Q14 W12 Q29 W13 V2 Q35 Q37 V0 V1 W1 W3 W14 W15 W4 W18 B0 B1 B2 B3 C3 B4 B5 B6 B7 B8 B9 B10 B11 B12 B13 B14 B15 B16 R1 R2 R3 R7 R8 R9 C14 W17 E8 E9 R4 W16 W20. -/
import Derived.Test.YtmojbncbbnjblaaM5
namespace Go.Abs
def avs (xs : List Int) : List AV := xs.map AV.int
@[simp] theorem avs_len (xs : List Int) : (avs xs).length = xs.length := by simp [avs]
@[simp] theorem avs_nil : avs [] = [] := rfl
theorem avs_snoc (xs : List Int) (x : Int) : avs (xs ++ [x]) = avs xs ++ [.val (.int .i64 x)] := by simp [avs]
theorem avs_cons (xs : List Int) (x : Int) : avs (x :: xs) = .val (.int .i64 x) :: avs xs := by simp [avs]
theorem avs_drop {xs : List Int} {k : Nat} (h : k < xs.length) : (avs xs).drop k = .val (.int .i64 (xs.getD k 0)) :: avs (xs.drop (k + 1)) := by
  rw [avs, ← List.map_drop, List.drop_eq_getElem_cons h, List.map_cons]; simp [h, avs]
@[simp] theorem avs_inj {xs ys : List Int} : (avs xs = avs ys) = (xs = ys) := by
  apply propext
  constructor
  · intro h
    induction xs generalizing ys with
    | nil => cases ys with
      | nil => rfl
      | cons y ys => simp [avs] at h
    | cons x xs ih => cases ys with
      | nil => simp [avs] at h
      | cons y ys =>
        rw [avs_cons, avs_cons] at h
        injection h with h1 h2
        injection h1 with h1
        injection h1 with _ h1
        rw [h1, ih h2]
  · rintro rfl; rfl
theorem avs_set (xs : List Int) (k : Nat) (x : Int) : (avs xs).set k (.val (.int .i64 x)) = avs (xs.set k x) := by
  simp [avs, List.map_set]
theorem avs_repl (n : Nat) (x : Int) : List.replicate n (AV.val (.int .i64 x)) = avs (List.replicate n x) := by simp [avs]
@[simp] theorem avs_fresh (xs : List Int) : freshL (avs xs) = true := by
  induction xs with
  | nil => rfl
  | cons x xs ih => simp [avs_cons, freshL, ih, freshOK]
@[simp] theorem avs_frz (xs : List Int) : frzL (avs xs) = avs xs := by
  induction xs with
  | nil => rfl
  | cons x xs ih => simp [avs_cons, frzL, ih, frz]
@[simp] theorem avs_kl (W : List Nat) (xs : List Int) : klL W (avs xs) = avs xs := by
  induction xs with
  | nil => rfl
  | cons x xs ih => simp [avs_cons, klL, ih, kl]
@[simp] theorem avs_own (xs : List Int) : hasOwnL (avs xs) = false := by
  induction xs with
  | nil => rfl
  | cons x xs ih => simp [avs_cons, hasOwnL, ih, hasOwn]
@[simp] theorem avs_ne {xs : List Int} : (avs xs = []) = (xs = []) := by
  cases xs <;> simp [avs]
theorem tmod_up {n : Int} (h : 0 ≤ n) (m : Int) : n.tmod m = n % m := Int.tmod_eq_emod_of_nonneg h
theorem tdiv_up {n : Int} (h : 0 ≤ n) (m : Int) : n.tdiv m = n / m := Int.tdiv_eq_ediv_of_nonneg h
theorem num_law (n : Int) : (n.tmod 10007 + 10007).tmod 10007 = n % 10007 := by
  rw [Int.tmod_eq_emod, Int.tmod_eq_emod]; split <;> split <;> simp_all <;> omega
theorem num_low (n : Int) : -10007 < n.tmod 10007 ∧ n.tmod 10007 < 10007 := by
  constructor
  · rw [Int.tmod_eq_emod]; split <;> simp_all <;> omega
  · exact Int.tmod_lt_of_pos n (by omega)
end Go.Abs


namespace Go.Proofs.Ytmojbncbbnjblaa
open Go.Abs
set_option linter.unusedVariables false
set_option linter.unusedSimpArgs false
set_option maxHeartbeats 400000
theorem inRange_c (n a b : Int) : Con Try.prog 73 [.int n, .int a, .int b] (.bool (decide (a ≤ n) && decide (n ≤ b))) := by
  refine con_of_vc Try.mixed ⟨4, [], [], []⟩ Try.func73 (by decide) rfl (by simp) (by decide) rfl ?_
  rw [Try.ntmps73]
  simp [go_sem]
  refine ⟨fun h => ?_, fun h => ?_⟩ <;> simp at h <;> simp [go_sem, h] <;> omega
theorem l01In_c (n a b : Int) : Con Try.prog 76 [.int n, .int a, .int b] (.bool (decide (a ≤ n) && decide (n ≤ b))) := by
  refine con_of_vc Try.mixed ⟨4, [], [], []⟩ Try.func76 (by decide) rfl (by simp) (by decide) rfl ?_
  rw [Try.ntmps76]
  simp [go_sem]
  refine ⟨fun h => ?_, fun h => ?_⟩ <;> simp at h <;> simp [go_sem, h] <;> omega
def upTo (k : Nat) : List Int := (List.range k).map fun (i : Nat) => (i : Int)
theorem upTo_succ (k : Nat) : upTo (k + 1) = upTo k ++ [(k : Int)] := by simp [upTo, List.range_succ]
@[simp] theorem upTo_len (k : Nat) : (upTo k).length = k := by simp [upTo]
def held (xs : List Int) (k : Int) : Int := if xs = (List.range xs.length).map (fun (i : Nat) => k + i) then k + xs.length else -1
end Go.Proofs.Ytmojbncbbnjblaa


namespace Go.Proofs.Ytmojbncbbnjblaa
open Go.Abs
set_option linter.unusedVariables false
set_option linter.unusedSimpArgs false
set_option maxHeartbeats 1000000
def idxF {α : Type} (p : α → Bool) : List α → Int
  | [] => -1
  | x :: xs => if p x then 0 else if idxF p xs = -1 then -1 else idxF p xs + 1
theorem idxF_ge {α : Type} (p : α → Bool) : ∀ xs : List α, -1 ≤ idxF p xs ∧ idxF p xs < xs.length
  | [] => by simp [idxF]
  | x :: xs => by
    have := idxF_ge p xs
    simp only [idxF, List.length_cons]
    split
    · omega
    · split <;> omega
theorem idxF_any {α : Type} (p : α → Bool) (xs : List α) : decide (0 ≤ idxF p xs) = xs.any p := by
  induction xs with
  | nil => simp [idxF]
  | cons x xs ih =>
    have := idxF_ge p xs
    simp only [idxF, List.any_cons, ← ih]
    by_cases hp : p x = true
    · simp [hp]
    · simp only [hp]
      simp
      split
      · rename_i e; simp [e]
      · by_cases h : 0 ≤ idxF p xs <;> simp [h] <;> omega
theorem idxF_skip {α : Type} (p : α → Bool) : ∀ (xs : List α) (i : Nat), (∀ x ∈ xs.take i, p x = false) → i ≤ xs.length → (idxF p xs = if idxF p (xs.drop i) = -1 then -1 else idxF p (xs.drop i) + i)
  | xs, 0, h, hl => by simp
  | [], i + 1, h, hl => by simp at hl
  | x :: xs, i + 1, h, hl => by
    have h1 : p x = false := h x (by simp)
    have h2 := idxF_skip p xs i (fun y hy => h y (by simp [hy])) (by simpa using hl)
    simp only [idxF, h1, List.drop_succ_cons]
    have := (idxF_ge p (xs.drop i)).1
    simp
    rw [h2]
    split
    · simp
    · rename_i hne
      rw [if_neg (by omega)]
      omega
theorem IndexFuncI_c (g : FuncId) (p : Int → Bool) (xs : List Int) (hl : xs.length ≤ 9223372036854775807) (hg : ∀ x ∈ xs, Con Try.prog g [.int x] (.bool (p x))) :
    Con Try.prog 191 [.sl xs.length (avs xs), .val (.func (.func g) #[] #[])] (.int (idxF p xs)) := by
  refine con_of_vc Try.mixed ⟨6, [], [], []⟩ Try.func191 (by decide) rfl (by simp) (by decide) rfl ?_
  rw [Try.ntmps191]
  simp [go_sem]
  refine loop_inv (5 :: List.range' 8 20) (fun i : Nat => [(8, .int i)]) (fun i => i ≤ xs.length ∧ ∀ x ∈ xs.take i, p x = false) (fun i => xs.length - i) 0 (by simp) (by simp [go_sem]) (by simp [go_sem]) ?_
  rintro i ⟨hi, hf⟩
  simp [go_sem]
  have sk := idxF_skip p xs i hf hi
  refine ⟨fun h => ?_, fun h => ?_⟩ <;> simp at h
  · have hx : xs[i]?.getD 0 ∈ xs := by simp [h]
    have hd : xs.drop i = xs[i]?.getD 0 :: xs.drop (i + 1) := by rw [List.drop_eq_getElem_cons h]; simp [h]
    simp [go_sem, avs_drop h]
    refine ⟨⟨h, by rintro rfl; simp at h⟩, CallVC.of (hg _ hx) (by decide) ?_⟩
    simp [go_sem]
    refine ⟨fun h2 => ?_, fun h2 => ?_⟩ <;> simp [go_sem]
    · rw [sk, hd]; simp [idxF, h2]
    · refine ⟨by omega, i + 1, ⟨by omega, ?_⟩, by omega, Off_reset _ _ _ (by simp), by omega⟩
      intro x hx2
      rw [List.take_add_one, List.getElem?_eq_getElem h, Option.toList_some, List.mem_append, List.mem_singleton] at hx2
      rcases hx2 with hx2 | hx2
      · exact hf x hx2
      · rw [hx2]; simpa [h] using h2
  · simp [go_sem]
    rw [sk, List.drop_eq_nil_of_le h]; simp [idxF]
theorem ContainsFuncI_c (g : FuncId) (p : Int → Bool) (xs : List Int) (hl : xs.length ≤ 9223372036854775807) (hg : ∀ x ∈ xs, Con Try.prog g [.int x] (.bool (p x))) :
    Con Try.prog 164 [.sl xs.length (avs xs), .val (.func (.func g) #[] #[])] (.bool (xs.any p)) := by
  refine con_of_vc Try.mixed ⟨5, [], [], []⟩ Try.func164 (by decide) rfl (by simp) (by decide) rfl ?_
  rw [Try.ntmps164]
  simp [go_sem]
  refine CallVC.of (IndexFuncI_c g p xs hl hg) (by decide) ?_
  simp [go_sem, idxF_any]
theorem IsNumber_c (a : Int) : Con Try.prog 94 [.int a] (.bool (decide (0 ≤ a ∧ a ≤ 10006))) := by
  refine con_of_vc Try.mixed ⟨3, [], [], []⟩ Try.func94 (by decide) rfl (by simp) (by decide) rfl ?_
  rw [Try.ntmps94]
  simp [go_sem]
  refine CallVC.of (inRange_c _ _ _) (by decide) ?_
  simp [go_sem]
theorem notNumber_c (a : Int) : Con Try.prog 165 [.int a] (.bool (!decide (0 ≤ a ∧ a ≤ 10006))) := by
  refine con_of_vc Try.mixed ⟨3, [], [], []⟩ Try.func165 (by decide) rfl (by simp) (by decide) rfl ?_
  rw [Try.ntmps165]
  simp [go_sem]
  refine CallVC.of (IsNumber_c _) (by decide) ?_
  simp [go_sem]
def numsB (xs : List Int) : Bool := xs.all fun a => decide (0 ≤ a ∧ a ≤ 10006)
theorem areNumbers_c (xs : List Int) (hl : xs.length ≤ 9223372036854775807) : Con Try.prog 104 [.sl xs.length (avs xs)] (.bool (numsB xs)) := by
  refine con_of_vc Try.mixed ⟨3, [], [], []⟩ Try.func104 (by decide) rfl (by simp) (by decide) rfl ?_
  rw [Try.ntmps104]
  simp [go_sem]
  refine CallVC.of (ContainsFuncI_c _ _ xs hl (fun x _ => notNumber_c x)) (by decide) ?_
  simp [go_sem, numsB, List.not_any_eq_all_not]
end Go.Proofs.Ytmojbncbbnjblaa


namespace Go.Proofs.Ytmojbncbbnjblaa
open Go.Abs
set_option linter.unusedVariables false
set_option linter.unusedSimpArgs false
set_option maxHeartbeats 1000000
def mat (xss : List (List Int)) : List AV := xss.map fun r => .sl r.length (avs r)
@[simp] theorem mat_len (xss : List (List Int)) : (mat xss).length = xss.length := by simp [mat]
theorem mat_drop {xss : List (List Int)} {k : Nat} (h : k < xss.length) : (mat xss).drop k = .sl (xss[k]?.getD []).length (avs (xss[k]?.getD [])) :: mat (xss.drop (k + 1)) := by
  rw [mat, ← List.map_drop, List.drop_eq_getElem_cons h, List.map_cons]; simp [h, mat]
@[simp] theorem mat_ne {xss : List (List Int)} : (mat xss = []) = (xss = []) := by cases xss <;> simp [mat]
theorem IndexFuncM_c (g : FuncId) (s : Int) (p : List Int → Bool) (xss : List (List Int)) (hl : xss.length ≤ 9223372036854775807) (hg : ∀ x ∈ xss, Con Try.prog g [.sl x.length (avs x), .fptr [.int s]] (.bool (p x))) :
    Con Try.prog 174 [.sl xss.length (mat xss), .fn g [.fptr [.int s]]] (.int (idxF p xss)) := by
  refine con_of_vc Try.mixed ⟨6, [], [], []⟩ Try.func174 (by decide) rfl (by simp) (by decide) rfl ?_
  rw [Try.ntmps174]
  simp [go_sem]
  refine loop_inv (5 :: List.range' 8 20) (fun i : Nat => [(8, .int i)]) (fun i => i ≤ xss.length ∧ ∀ x ∈ xss.take i, p x = false) (fun i => xss.length - i) 0 (by simp) (by simp [go_sem]) (by simp [go_sem]) ?_
  rintro i ⟨hi, hf⟩
  simp [go_sem]
  have sk := idxF_skip p xss i hf hi
  refine ⟨fun h => ?_, fun h => ?_⟩ <;> simp at h
  · have hx : xss[i]?.getD [] ∈ xss := by simp [h]
    have hd : xss.drop i = xss[i]?.getD [] :: xss.drop (i + 1) := by rw [List.drop_eq_getElem_cons h]; simp [h]
    simp [go_sem, mat_drop h]
    refine ⟨⟨h, by rintro rfl; simp at h⟩, CallVC.of (hg _ hx) (by decide) ?_⟩
    simp [go_sem]
    refine ⟨fun h2 => ?_, fun h2 => ?_⟩ <;> simp [go_sem]
    · rw [sk, hd]; simp [idxF, h2]
    · refine ⟨by omega, i + 1, ⟨by omega, ?_⟩, by omega, Off_reset _ _ _ (by simp), by omega⟩
      intro x hx2
      rw [List.take_add_one, List.getElem?_eq_getElem h, Option.toList_some, List.mem_append, List.mem_singleton] at hx2
      rcases hx2 with hx2 | hx2
      · exact hf x hx2
      · rw [hx2]; simpa [h] using h2
  · simp [go_sem]
    rw [sk, List.drop_eq_nil_of_le h]; simp [idxF]
theorem ContainsFuncM_c (g : FuncId) (s : Int) (p : List Int → Bool) (xss : List (List Int)) (hl : xss.length ≤ 9223372036854775807) (hg : ∀ x ∈ xss, Con Try.prog g [.sl x.length (avs x), .fptr [.int s]] (.bool (p x))) :
    Con Try.prog 113 [.sl xss.length (mat xss), .fn g [.fptr [.int s]]] (.bool (xss.any p)) := by
  refine con_of_vc Try.mixed ⟨5, [], [], []⟩ Try.func113 (by decide) rfl (by simp) (by decide) rfl ?_
  rw [Try.ntmps113]
  simp [go_sem]
  refine CallVC.of (IndexFuncM_c g s p xss hl hg) (by decide) ?_
  simp [go_sem, idxF_any]
theorem badRow_c (x : List Int) (s : Int) (hl : x.length ≤ 9223372036854775807) : Con Try.prog 135 [.sl x.length (avs x), .fptr [.int s]] (.bool (!(decide ((x.length : Int) = s) && numsB x))) := by
  refine con_of_vc Try.mixed ⟨4, [], [], []⟩ Try.func135 (by decide) rfl (by simp) (by decide) rfl ?_
  rw [Try.ntmps135]
  simp [go_sem]
  by_cases h : (x.length : Int) = s
  · simp [go_sem, h]
    refine CallVC.of (areNumbers_c x hl) (by decide) ?_
    simp [go_sem, h]
  · simp [go_sem, h]
theorem length_c (n : Nat) (cs : List AV) (hn : n ≤ 9223372036854775807) : Con Try.prog 134 [.sl n cs] (.int n) := by
  refine con_of_vc Try.mixed ⟨3, [], [], []⟩ Try.func134 (by decide) rfl (by simp) (by decide) rfl ?_
  rw [Try.ntmps134]
  simp [go_sem]
  try omega
theorem tab_c (a b : List AV) (n m : Nat) : Con Try.prog 137 [.agg [.sl n a, .sl m b]] (.int m) := by
  refine con_of_vc Try.mixed ⟨3, [], [], []⟩ Try.func137 (by decide) rfl (by simp) (by decide) rfl ?_
  rw [Try.ntmps137]
  simp [go_sem]
def tabB (A : List (List Int)) (B : List Int) : Bool := decide (1 ≤ B.length ∧ B.length ≤ 8 ∧ A.length = B.length) && numsB B && A.all fun r => decide (r.length = B.length) && numsB r
theorem IsTableau_c (A : List (List Int)) (B : List Int) (hA : A.length ≤ 9223372036854775807) (hB : B.length ≤ 9223372036854775807) (hr : ∀ r ∈ A, r.length ≤ 9223372036854775807) :
    Con Try.prog 72 [.agg [.sl A.length (mat A), .sl B.length (avs B)]] (.bool (tabB A B)) := by
  refine con_of_vc Try.mixed ⟨4, [], [], []⟩ Try.func72 (by decide) rfl (by simp) (by decide) rfl ?_
  rw [Try.ntmps72]
  simp [go_sem]
  refine CallVC.of (length_c _ _ hB) (by decide) ?_
  simp [go_sem]
  have cR := inRange_c B.length 1 8
  by_cases h1 : 1 ≤ B.length ∧ B.length ≤ 8
  · have e1 : (decide ((1 : Int) ≤ B.length) && decide ((B.length : Int) ≤ 8)) = true := by simp; omega
    rw [e1] at cR
    refine CallVC.of cR (by decide) ?_
    by_cases h2 : A.length = B.length
    · have h2' : (A.length : Int) = B.length := by omega
      simp [go_sem, h2, h2']
      refine CallVC.of (areNumbers_c B hB) (by decide) ?_
      by_cases h3 : numsB B = true
      · simp [go_sem, h3]
        have cM := ContainsFuncM_c 135 B.length (fun x => !(decide ((x.length : Int) = B.length) && numsB x)) A hA (fun x hx => badRow_c x B.length (hr x hx))
        rw [h2] at cM
        refine CallVC.of cM (by decide) ?_
        simp [go_sem, tabB, h1, h2, h3]
        rw [List.any_eq_not_all_not]
        congr 2
        funext r
        simp [show ((r.length : Int) = B.length) = (r.length = B.length) from propext ⟨fun e => by omega, fun e => by omega⟩]
      · simp at h3
        simp [go_sem, h3, tabB]
    · have h2' : ¬ (A.length : Int) = B.length := by omega
      simp [go_sem, h2, h2', tabB]
  · have e1 : (decide ((1 : Int) ≤ B.length) && decide ((B.length : Int) ≤ 8)) = false := by simp; omega
    rw [e1] at cR
    refine CallVC.of cR (by decide) ?_
    have e3 : tabB A B = false := by
      unfold tabB
      have : decide (1 ≤ B.length ∧ B.length ≤ 8 ∧ A.length = B.length) = false := by simp; omega
      rw [this]; simp
    rw [e3]
    simp [go_sem]
end Go.Proofs.Ytmojbncbbnjblaa


namespace Go.Proofs.Ytmojbncbbnjblaa
open Go.Abs
set_option linter.unusedVariables false
set_option linter.unusedSimpArgs false
set_option maxHeartbeats 1000000
end Go.Proofs.Ytmojbncbbnjblaa


namespace Go.Proofs.Ytmojbncbbnjblaa
open Go.Abs
set_option linter.unusedVariables false
set_option linter.unusedSimpArgs false
set_option maxHeartbeats 1000000
def omat (A : List (List Int)) : List AV := A.map fun r => .own 2 r.length (avs r)
@[simp] theorem omat_len (A : List (List Int)) : (omat A).length = A.length := by simp [omat]
@[simp] theorem omat_frz (A : List (List Int)) : frzL (omat A) = mat A := by
  induction A with
  | nil => rfl
  | cons r A ih => simp only [omat, mat, List.map_cons, frzL] at ih ⊢; rw [ih]; simp [frz]
@[simp] theorem omat_fresh (A : List (List Int)) : freshL (omat A) = true := by
  induction A with
  | nil => rfl
  | cons r A ih => simp only [omat, List.map_cons, freshL] at ih ⊢; rw [ih]; simp [freshOK]
end Go.Proofs.Ytmojbncbbnjblaa


namespace Go.Proofs.Ytmojbncbbnjblaa
open Go.Abs
set_option linter.unusedVariables false
set_option linter.unusedSimpArgs false
set_option maxHeartbeats 1000000
end Go.Proofs.Ytmojbncbbnjblaa


namespace Go.Proofs.Ytmojbncbbnjblaa
open Go.Abs
set_option linter.unusedVariables false
set_option linter.unusedSimpArgs false
set_option maxHeartbeats 1000000
def pw (a k : Int) : Int := a ^ k.toNat % 10007
theorem num_c (n : Int) (h0 : -9223372036854775808 ≤ n) (h1 : n ≤ 9223372036854775807) : Con Try.prog 66 [.int n] (.int (n % 10007)) := by
  have e := num_law n
  have b := num_low n
  refine con_of_vc Try.mixed ⟨3, [], [], []⟩ Try.func66 (by decide) rfl (by simp) (by decide) rfl ?_
  rw [Try.ntmps66]
  simp [go_sem, e]
  omega
theorem l01Mod_c (n : Int) (h0 : -9223372036854775808 ≤ n) (h1 : n ≤ 9223372036854775807) : Con Try.prog 159 [.int n] (.int (n % 10007)) := by
  have e := num_law n
  have b := num_low n
  refine con_of_vc Try.mixed ⟨3, [], [], []⟩ Try.func159 (by decide) rfl (by simp) (by decide) rfl ?_
  rw [Try.ntmps159]
  simp [go_sem, e]
  omega
def fits (n : Int) : Prop := -9223372036854775808 ≤ n ∧ n ≤ 9223372036854775807
theorem l01Mul_c (a b : Int) (h : fits (a * b)) : Con Try.prog 92 [.int a, .int b] (.int (a * b % 10007)) := by
  refine con_of_vc Try.mixed ⟨5, [], [], []⟩ Try.func92 (by decide) rfl (by simp) (by decide) rfl ?_
  rw [Try.ntmps92]
  simp [go_sem]
  refine ⟨h, CallVC.of (l01Mod_c _ h.1 h.2) (by decide) ?_⟩
  simp [go_sem]
theorem l01Sub_c (a b : Int) (h : fits (a - b)) : Con Try.prog 183 [.int a, .int b] (.int ((a - b) % 10007)) := by
  refine con_of_vc Try.mixed ⟨5, [], [], []⟩ Try.func183 (by decide) rfl (by simp) (by decide) rfl ?_
  rw [Try.ntmps183]
  simp [go_sem]
  refine ⟨h, CallVC.of (l01Mod_c _ h.1 h.2) (by decide) ?_⟩
  simp [go_sem]
theorem l01Add_c (a b : Int) (h : fits (a + b)) : Con Try.prog 157 [.int a, .int b] (.int ((a + b) % 10007)) := by
  refine con_of_vc Try.mixed ⟨5, [], [], []⟩ Try.func157 (by decide) rfl (by simp) (by decide) rfl ?_
  rw [Try.ntmps157]
  simp [go_sem]
  refine ⟨h, CallVC.of (l01Mod_c _ h.1 h.2) (by decide) ?_⟩
  simp [go_sem]
def isN (a : Int) : Prop := 0 ≤ a ∧ a < 10007
theorem isN_mod (n : Int) : isN (n % 10007) := ⟨Int.emod_nonneg _ (by omega), Int.emod_lt_of_pos _ (by omega)⟩
theorem mul_bound {a b : Int} (ha : isN a) (hb : isN b) : 0 ≤ a * b ∧ a * b ≤ 100120036 := by
  obtain ⟨a0, a1⟩ := ha
  obtain ⟨b0, b1⟩ := hb
  exact ⟨Int.mul_nonneg a0 b0, Int.le_trans (Int.mul_le_mul_of_nonneg_right (show a ≤ 10006 by omega) b0) (by omega)⟩
theorem mul_fits {a b : Int} (ha : isN a) (hb : isN b) : fits (a * b) := by
  have := mul_bound ha hb
  exact ⟨by omega, by omega⟩
theorem add_fits {a b : Int} (ha : isN a) (hb : isN b) : fits (a + b) := by
  obtain ⟨a0, a1⟩ := ha
  obtain ⟨b0, b1⟩ := hb
  exact ⟨by omega, by omega⟩
theorem sub_fits {a b : Int} (ha : isN a) (hb : isN b) : fits (a - b) := by
  obtain ⟨a0, a1⟩ := ha
  obtain ⟨b0, b1⟩ := hb
  exact ⟨by omega, by omega⟩
theorem pow_mod (a : Int) (k : Nat) : (a % 10007) ^ k % 10007 = a ^ k % 10007 := by
  induction k with
  | zero => simp
  | succ k ih => rw [Int.pow_succ, Int.pow_succ, Int.mul_emod, ih, Int.emod_emod, ← Int.mul_emod]
theorem sq_pow (a : Int) (q : Nat) : (a * a) ^ q = a ^ (2 * q) := by
  induction q with
  | zero => simp
  | succ q ih => rw [Int.pow_succ, ih, show 2 * (q + 1) = 2 * q + 1 + 1 by omega, Int.pow_succ, Int.pow_succ, Int.mul_assoc]
theorem mod_mul_r (o x : Int) : o * (x % 10007) % 10007 = o * x % 10007 := by
  rw [Int.mul_emod, Int.emod_emod, ← Int.mul_emod]
theorem mod_mul_l (o x : Int) : (x % 10007) * o % 10007 = x * o % 10007 := by
  rw [Int.mul_emod, Int.emod_emod, ← Int.mul_emod]
theorem pw_even (o a : Int) (q : Nat) : o * (a * a % 10007) ^ q % 10007 = o * a ^ (2 * q) % 10007 := by
  rw [← mod_mul_r, pow_mod, mod_mul_r, sq_pow]
theorem pw_odd (o a : Int) (q : Nat) : (o * a % 10007) * (a * a % 10007) ^ q % 10007 = o * a ^ (2 * q + 1) % 10007 := by
  rw [pw_even, mod_mul_l, Int.pow_succ, Int.mul_assoc, Int.mul_comm (a ^ (2 * q)) a]
theorem half_cast (j : Nat) : (j : Int).tdiv 2 = ((j / 2 : Nat) : Int) := by rw [tdiv_up (by omega)]; omega
theorem bit_cast (j : Nat) : (j : Int).tmod 2 = ((j % 2 : Nat) : Int) := by rw [tmod_up (by omega)]; omega
theorem pow_c (a k : Int) (ha : isN a) (hk : 0 ≤ k) (hk2 : k ≤ 9223372036854775807) : Con Try.prog 68 [.int a, .int k] (.int (pw a k)) := by
  refine con_of_vc Try.mixed ⟨6, [], [], []⟩ Try.func68 (by decide) rfl (by simp) (by decide) rfl ?_
  rw [Try.ntmps68]
  simp [go_sem]
  refine loop_inv (0 :: 1 :: List.range' 4 30) (fun x : Int × Nat × Int => [(0, .int x.1), (1, .int x.2.1), (5, .int x.2.2)])
    (fun x => isN x.1 ∧ (x.2.1 : Int) ≤ 9223372036854775807 ∧ isN x.2.2 ∧ x.2.2 * x.1 ^ x.2.1 % 10007 = a ^ k.toNat % 10007) (fun x => x.2.1) (a, k.toNat, 1) ⟨ha, by simp; omega, ⟨by simp, by simp⟩, by simp⟩ (by simp [go_sem]; omega) (by simp [go_sem]) ?_
  rintro ⟨b, j, o⟩ ⟨hb, hj, ho, he⟩
  simp only at hb hj ho he
  have f1 := mul_fits hb hb
  have f2 := mul_fits ho hb
  simp [go_sem]
  refine ⟨fun h => ?_, fun h => ?_⟩ <;> simp at h
  · simp [go_sem, half_cast, bit_cast]
    refine ⟨fun h2 => ?_, fun h2 => ?_⟩ <;> simp at h2 <;> simp [go_sem]
    · refine ⟨f2, CallVC.of (num_c _ f2.1 f2.2) (by decide) ?_⟩
      simp [go_sem]
      refine ⟨f1, CallVC.of (num_c _ f1.1 f1.2) (by decide) ?_⟩
      simp [go_sem, half_cast, bit_cast]
      refine ⟨by omega, b * b % 10007, j / 2, o * b % 10007, ⟨isN_mod _, by omega, isN_mod _, ?_⟩, by omega, Off_reset _ _ _ (by simp), rfl, by omega, rfl⟩
      rw [pw_odd, show 2 * (j / 2) + 1 = j by omega, he]
    · refine ⟨f1, CallVC.of (num_c _ f1.1 f1.2) (by decide) ?_⟩
      simp [go_sem, half_cast, bit_cast]
      refine ⟨by omega, b * b % 10007, j / 2, o, ⟨isN_mod _, by omega, ho, ?_⟩, by omega, Off_reset _ _ _ (by simp), rfl, by omega, rfl⟩
      rw [pw_even, show 2 * (j / 2) = j by omega, he]
  · simp [go_sem]
    subst h
    unfold pw
    rw [← he]
    simp
    rw [Int.emod_eq_of_lt ho.1 ho.2]
theorem l01Pow_c (a k : Int) (ha : isN a) (hk : 0 ≤ k) (hk2 : k ≤ 9223372036854775807) : Con Try.prog 158 [.int a, .int k] (.int (pw a k)) := by
  refine con_of_vc Try.mixed ⟨6, [], [], []⟩ Try.func158 (by decide) rfl (by simp) (by decide) rfl ?_
  rw [Try.ntmps158]
  simp [go_sem]
  refine loop_inv (0 :: 1 :: List.range' 4 30) (fun x : Int × Nat × Int => [(0, .int x.1), (1, .int x.2.1), (5, .int x.2.2)])
    (fun x => isN x.1 ∧ (x.2.1 : Int) ≤ 9223372036854775807 ∧ isN x.2.2 ∧ x.2.2 * x.1 ^ x.2.1 % 10007 = a ^ k.toNat % 10007) (fun x => x.2.1) (a, k.toNat, 1) ⟨ha, by simp; omega, ⟨by simp, by simp⟩, by simp⟩ (by simp [go_sem]; omega) (by simp [go_sem]) ?_
  rintro ⟨b, j, o⟩ ⟨hb, hj, ho, he⟩
  simp only at hb hj ho he
  have f1 := mul_fits hb hb
  have f2 := mul_fits ho hb
  simp [go_sem]
  refine ⟨fun h => ?_, fun h => ?_⟩ <;> simp at h
  · simp [go_sem, half_cast, bit_cast]
    refine ⟨fun h2 => ?_, fun h2 => ?_⟩ <;> simp at h2 <;> simp [go_sem]
    · refine CallVC.of (l01Mul_c _ _ f2) (by decide) ?_
      simp [go_sem]
      refine CallVC.of (l01Mul_c _ _ f1) (by decide) ?_
      simp [go_sem, half_cast, bit_cast]
      refine ⟨by omega, b * b % 10007, j / 2, o * b % 10007, ⟨isN_mod _, by omega, isN_mod _, ?_⟩, by omega, Off_reset _ _ _ (by simp), rfl, by omega, rfl⟩
      rw [pw_odd, show 2 * (j / 2) + 1 = j by omega, he]
    · refine CallVC.of (l01Mul_c _ _ f1) (by decide) ?_
      simp [go_sem, half_cast, bit_cast]
      refine ⟨by omega, b * b % 10007, j / 2, o, ⟨isN_mod _, by omega, ho, ?_⟩, by omega, Off_reset _ _ _ (by simp), rfl, by omega, rfl⟩
      rw [pw_even, show 2 * (j / 2) = j by omega, he]
  · simp [go_sem]
    subst h
    unfold pw
    rw [← he]
    simp
    rw [Int.emod_eq_of_lt ho.1 ho.2]
theorem inv_c (a : Int) (ha : isN a) : Con Try.prog 65 [.int a] (.int (pw a 10005)) := by
  refine con_of_vc Try.mixed ⟨3, [], [], []⟩ Try.func65 (by decide) rfl (by simp) (by decide) rfl ?_
  rw [Try.ntmps65]
  simp [go_sem]
  refine CallVC.of (pow_c _ _ ha (by omega) (by omega)) (by decide) ?_
  simp [go_sem]
theorem l01Inv_c (a : Int) (ha : isN a) : Con Try.prog 93 [.int a] (.int (pw a 10005)) := by
  refine con_of_vc Try.mixed ⟨3, [], [], []⟩ Try.func93 (by decide) rfl (by simp) (by decide) rfl ?_
  rw [Try.ntmps93]
  simp [go_sem]
  refine CallVC.of (l01Pow_c _ _ ha (by omega) (by omega)) (by decide) ?_
  simp [go_sem]
end Go.Proofs.Ytmojbncbbnjblaa


namespace Go.Proofs.Ytmojbncbbnjblaa
open Go.Abs
set_option linter.unusedVariables false
set_option linter.unusedSimpArgs false
set_option maxHeartbeats 1000000
end Go.Proofs.Ytmojbncbbnjblaa


namespace Go.Proofs.Ytmojbncbbnjblaa
open Go.Abs
set_option linter.unusedVariables false
set_option linter.unusedSimpArgs false
set_option maxHeartbeats 1000000
def dotI : List Int → List Int → Int
  | x :: xs, y :: ys => x * y + dotI xs ys
  | _, _ => 0
theorem dotI_take : ∀ {xs ys : List Int} {k : Nat}, k < xs.length → k < ys.length → dotI (xs.take (k + 1)) (ys.take (k + 1)) = dotI (xs.take k) (ys.take k) + xs[k]?.getD 0 * ys[k]?.getD 0
  | x :: xs, y :: ys, 0, _, _ => by simp [dotI]
  | x :: xs, y :: ys, k + 1, h, h2 => by
    have := dotI_take (xs := xs) (ys := ys) (k := k) (by simpa using h) (by simpa using h2)
    simp only [List.take_succ_cons, dotI, this, List.getElem?_cons_succ]; omega
theorem dotI_short : ∀ {xs ys : List Int}, xs.length ≤ ys.length → dotI xs (ys.take xs.length) = dotI xs ys
  | [], ys, _ => by simp [dotI]
  | x :: xs, [], h => by simp at h
  | x :: xs, y :: ys, h => by simp [dotI, dotI_short (xs := xs) (ys := ys) (by simpa using h)]
def Ns (xs : List Int) : Prop := ∀ x ∈ xs, isN x
theorem Ns.get {xs : List Int} (h : Ns xs) (k : Nat) : isN (xs[k]?.getD 0) := by
  rcases Nat.lt_or_ge k xs.length with hk | hk
  · simp [hk]; exact h _ (List.getElem_mem hk)
  · simp [hk]; exact ⟨by omega, by omega⟩
theorem Ns.take {xs : List Int} (h : Ns xs) (k : Nat) : Ns (xs.take k) := fun x hx => h x (List.mem_of_mem_take hx)
theorem Ns.snoc {xs : List Int} (h : Ns xs) {x : Int} (hx : isN x) : Ns (xs ++ [x]) := fun y hy => by
  rcases List.mem_append.1 hy with hy | hy
  · exact h y hy
  · simp at hy; subst hy; exact hx
theorem Ns.nil : Ns [] := by intro x hx; simp at hx
theorem dotI_bound : ∀ {xs ys : List Int}, Ns xs → Ns ys → 0 ≤ dotI xs ys ∧ dotI xs ys ≤ xs.length * 100120036
  | [], ys, _, _ => by simp [dotI]
  | x :: xs, [], _, _ => by simp [dotI]; omega
  | x :: xs, y :: ys, hx, hy => by
    have h1 := dotI_bound (xs := xs) (ys := ys) (fun z hz => hx z (by simp [hz])) (fun z hz => hy z (by simp [hz]))
    have h2 := mul_bound (hx x (by simp)) (hy y (by simp))
    simp only [dotI, List.length_cons]; omega
theorem dot_c (xs ys : List Int) (hl : xs.length ≤ ys.length) (h64 : xs.length ≤ 64) (hx : Ns xs) (hy : Ns ys) : Con Try.prog 108 [.sl xs.length (avs xs), .sl ys.length (avs ys)] (.int (dotI xs ys % 10007)) := by
  refine con_of_vc Try.mixed ⟨8, [], [], []⟩ Try.func108 (by decide) rfl (by simp) (by decide) (by simp [freshOK, freshL, go_sem]) ?_
  rw [Try.ntmps108]
  simp [go_sem]
  refine loop_inv (5 :: 6 :: 7 :: List.range' 10 14) (fun k : Nat => [(5, .int (dotI (xs.take k) (ys.take k))), (10, .int k)]) (fun k => k ≤ xs.length) (fun k => xs.length - k) 0 (by simp) (by simp [go_sem, dotI]) (by simp [go_sem]) ?_
  intro k hk
  have b1 := dotI_bound (hx.take k) (hy.take k)
  have b2 := mul_bound (hx.get k) (hy.get k)
  simp only [List.length_take] at b1
  simp [go_sem]
  refine ⟨fun h => ?_, fun h => ?_⟩ <;> simp at h
  · have h2 : k < ys.length := by omega
    simp [go_sem, avs_drop h, avs_drop h2]
    refine ⟨⟨h, by rintro rfl; simp at h⟩, ⟨h2, by rintro rfl; simp at h2⟩, by omega, by omega, by omega, k + 1, by omega, by omega, Off_reset _ _ _ (by simp), (dotI_take h h2).symm, by omega⟩
  · have e : k = xs.length := by omega
    subst e
    have := dotI_bound hx hy
    rw [List.take_length, dotI_short hl] at *
    simp [go_sem]
    refine CallVC.of (num_c _ (by omega) (by omega)) (by decide) ?_
    simp [go_sem]
theorem l01Dot_c (xs ys : List Int) (hl : xs.length ≤ ys.length) (h64 : xs.length ≤ 9223372036854775807) (hx : Ns xs) (hy : Ns ys) : Con Try.prog 140 [.sl xs.length (avs xs), .sl ys.length (avs ys)] (.int (dotI xs ys % 10007)) := by
  refine con_of_vc Try.mixed ⟨7, [], [], []⟩ Try.func140 (by decide) rfl (by simp) (by decide) (by simp [freshOK, freshL, go_sem]) ?_
  rw [Try.ntmps140]
  simp [go_sem]
  refine loop_inv (List.range' 5 25) (fun k : Nat => [(5, .int (dotI (xs.take k) (ys.take k) % 10007)), (6, .int k)]) (fun k => k ≤ xs.length) (fun k => xs.length - k) 0 (by simp) (by simp [go_sem, dotI]) (by simp [go_sem]) ?_
  intro k hk
  simp [go_sem]
  refine ⟨fun h => ?_, fun h => ?_⟩ <;> simp at h
  · have h2 : k < ys.length := by omega
    simp [go_sem, avs_drop h, avs_drop h2]
    refine ⟨by kernel_rfl, ⟨h, by rintro rfl; simp at h⟩, ⟨h2, by rintro rfl; simp at h2⟩, ?_⟩
    refine CallD.of (l01Mul_c _ _ (mul_fits (hx.get k) (hy.get k))) (by simp [roots, rootsL]) (by decide) ?_
    simp [go_sem]
    refine CallD.of (l01Add_c _ _ (add_fits (isN_mod _) (isN_mod _))) (by simp [roots, rootsL]) (by decide) ?_
    simp [go_sem]
    refine ⟨by kernel_rfl, ?_⟩
    simp [go_sem]
    refine ⟨by omega, k + 1, by omega, by omega, Off_reset _ _ _ (by simp), ?_, by omega⟩
    rw [dotI_take h h2]
  · have e : k = xs.length := by omega
    subst e
    rw [List.take_length, dotI_short hl]
    simp [go_sem]
def tim (A : List (List Int)) (v : List Int) : List Int := A.map fun r => dotI r v % 10007
@[simp] theorem tim_len (A : List (List Int)) (v : List Int) : (tim A v).length = A.length := by simp [tim]
theorem tim_take {A : List (List Int)} {v : List Int} {k : Nat} (h : k < A.length) : tim (A.take (k + 1)) v = tim (A.take k) v ++ [dotI (A[k]?.getD []) v % 10007] := by
  rw [tim, tim, List.take_add_one, List.getElem?_eq_getElem h]
  simp only [List.map_append, List.map_cons, List.map_nil, Option.toList_some, Option.getD_some]
theorem tim_N (A : List (List Int)) (v : List Int) : Ns (tim A v) := by
  intro x hx
  simp [tim] at hx
  obtain ⟨r, _, rfl⟩ := hx
  exact isN_mod _
def Mat (n : Nat) (A : List (List Int)) : Prop := ∀ r ∈ A, r.length = n ∧ Ns r
theorem Mat.get {n : Nat} {A : List (List Int)} (h : Mat n A) {k : Nat} (hk : k < A.length) : (A[k]?.getD []).length = n ∧ Ns (A[k]?.getD []) := by
  rw [List.getElem?_eq_getElem hk]; exact h _ (List.getElem_mem hk)
theorem applied_c (A : List (List Int)) (B v : List Int) (hA : Mat v.length A) (h64 : v.length ≤ 64) (hl : A.length ≤ 1048576) (hv : Ns v) :
    Con Try.prog 138 [.agg [.sl A.length (mat A), .sl B.length (avs B)], .sl v.length (avs v)] (.own 2 A.length (avs (tim A v))) := by
  refine con_of_vc Try.mixed ⟨8, [], [], []⟩ Try.func138 (by decide) rfl (by simp) (by decide) (by simp [freshOK, freshL, go_sem]) ?_
  rw [Try.ntmps138]
  simp [go_sem]
  refine loop_inv (5 :: 6 :: 7 :: List.range' 12 11) (fun k : Nat => [(5, .own 2 k (avs (tim (A.take k) v))), (12, .int k)]) (fun k => k ≤ A.length) (fun k => A.length - k) 0 (by simp) (by simp [go_sem, tim]) (by simp [go_sem]) ?_
  intro k hk
  simp [go_sem]
  refine ⟨fun h => ?_, fun h => ?_⟩ <;> simp at h
  · have g1 := (hA.get h).1
    have g2 := (hA.get h).2
    simp [go_sem, mat_drop h]
    refine ⟨⟨h, by rintro rfl; simp at h⟩, ?_⟩
    refine CallVC.of (dot_c _ v (by omega) (by omega) g2 hv) (by decide) ?_
    simp [go_sem]
    refine ⟨⟨by omega, by omega⟩, by omega, k + 1, by omega, by omega, Off_reset _ _ _ (by simp), ?_, by omega⟩
    simp [tim_take h, avs_snoc]
  · simp [go_sem]
    have e : k = A.length := by omega
    subst e; simp
theorem l09Times_c (A : List (List Int)) (v : List Int) (hA : Mat v.length A) (h64 : v.length ≤ 1048576) (hl : A.length ≤ 1048576) (hv : Ns v) :
    Con Try.prog 141 [.sl A.length (mat A), .sl v.length (avs v)] (.own 2 A.length (avs (tim A v))) := by
  refine con_of_vc Try.mixed ⟨7, [], [], []⟩ Try.func141 (by decide) rfl (by simp) (by decide) (by simp [freshOK, freshL, go_sem]) ?_
  rw [Try.ntmps141]
  simp [go_sem]
  refine loop_inv (List.range' 5 25) (fun k : Nat => [(5, .own 2 k (avs (tim (A.take k) v))), (6, .int k)]) (fun k => k ≤ A.length) (fun k => A.length - k) 0 (by simp) (by simp [go_sem, tim]) (by simp [go_sem]) ?_
  intro k hk
  simp [go_sem]
  refine ⟨fun h => ?_, fun h => ?_⟩ <;> simp at h
  · have g1 := (hA.get h).1
    have g2 := (hA.get h).2
    simp [go_sem, mat_drop h]
    refine ⟨⟨h, by rintro rfl; simp at h⟩, ?_⟩
    refine CallVC.of (l01Dot_c _ v (by omega) (by omega) g2 hv) (by decide) ?_
    simp [go_sem]
    refine ⟨⟨by omega, by omega⟩, by omega, k + 1, by omega, by omega, Off_reset _ _ _ (by simp), ?_, by omega⟩
    simp [tim_take h, avs_snoc]
  · simp [go_sem]
    have e : k = A.length := by omega
    subst e; simp
end Go.Proofs.Ytmojbncbbnjblaa


namespace Go.Proofs.Ytmojbncbbnjblaa
open Go.Abs
set_option linter.unusedVariables false
set_option linter.unusedSimpArgs false
set_option maxHeartbeats 1000000
abbrev u64 (n : Int) : AV := .val (.int .u64 n)
theorem and_low {x : Int} (h0 : 0 ≤ x) (h1 : x < 4294967296) : andI .u64 x 4294967295 = x := by
  obtain ⟨n, rfl⟩ := Int.eq_ofNat_of_zero_le h0
  have hn : n < 2 ^ 32 := by omega
  have e1 : (BitVec.ofInt 64 (n : Int)).toNat = n := by
    rw [BitVec.toNat_ofInt]; simp; omega
  have e2 : (BitVec.ofInt 64 4294967295).toNat = 2 ^ 32 - 1 := by decide
  show IntKind.wrap .u64 ((BitVec.ofInt 64 (n : Int) &&& BitVec.ofInt 64 4294967295).toNat : Int) = n
  rw [BitVec.toNat_and, e1, e2, Nat.and_two_pow_sub_one_eq_mod, Nat.mod_eq_of_lt hn]
  exact wrap_in (by
    have e1 : IntKind.min .u64 = 0 := by decide
    have e2 : IntKind.max .u64 = 18446744073709551615 := by decide
    unfold inK; rw [e1, e2]; omega)
theorem wrap_u64 {x : Int} (h0 : 0 ≤ x) (h1 : x < 18446744073709551616) : IntKind.wrap .u64 x = x := wrap_in (by
  have e1 : IntKind.min .u64 = 0 := by decide
  have e2 : IntKind.max .u64 = 18446744073709551615 := by decide
  unfold inK; rw [e1, e2]; omega)
theorem shr_low {x : Int} (h0 : 0 ≤ x) (h1 : x < 4294967296) : shrI .u64 x 32 = 0 := by
  show x.fdiv (2 ^ min (32 : Int).toNat 64) = 0
  rw [show ((2 : Int) ^ min (32 : Int).toNat 64) = 4294967296 from rfl, Int.fdiv_eq_ediv_of_nonneg _ (by omega)]; omega
set_option maxRecDepth 100000 in
theorem Mul64_c (x y : Int) (hx : 0 ≤ x) (hx1 : x < 4294967296) (hy : 0 ≤ y) (hy1 : y < 4294967296) (h0 : 0 ≤ x * y) (h : x * y < 4294967296) : Con Try.prog 202 [u64 x, u64 y] (.tup [u64 0, u64 (x * y)]) := by
  have a0 := and_low (Int.le_refl 0) (by omega)
  have a1 := and_low hx hx1
  have a2 := and_low hy hy1
  have s0 := shr_low (Int.le_refl 0) (by omega)
  have s1 := shr_low hx hx1
  have s2 := shr_low hy hy1
  have s3 := shr_low h0 h
  have w3 := wrap_u64 h0 (by omega)
  have w0 := wrap_u64 (Int.le_refl 0) (by omega)
  refine con_of_vc Try.mixed ⟨14, [], [], []⟩ Try.func202 (by decide) rfl (by simp) (by decide) (by simp [freshOK, freshL]) ?_
  rw [Try.ntmps202]
  simp [go_sem, a0, a1, a2, s0, s1, s2, s3, w3, w0]
theorem Mul_c (x y : Int) (hx : 0 ≤ x) (hx1 : x < 4294967296) (hy : 0 ≤ y) (hy1 : y < 4294967296) (h0 : 0 ≤ x * y) (h : x * y < 4294967296) : Con Try.prog 184 [u64 x, u64 y] (.tup [u64 0, u64 (x * y)]) := by
  refine con_of_vc Try.mixed ⟨10, [], [], []⟩ Try.func184 (by decide) rfl (by simp) (by decide) (by simp [freshOK, freshL, go_sem]) ?_
  rw [Try.ntmps184]
  simp [go_sem]
  refine CallVC.of (Mul64_c x y hx hx1 hy hy1 h0 h) (by decide) ?_
  simp [go_sem]
theorem rep_copy (x : Int) (s n : Nat) (h : n ≤ s) : setMany (avs (List.replicate n x ++ List.replicate (s - n) 0)) n ((avs (List.replicate n x ++ List.replicate (s - n) 0)).take (min n (s - n))) =
    avs (List.replicate (n + min n (s - n)) x ++ List.replicate (s - (n + min n (s - n))) 0) := by
  rw [setMany_eq _ _ _ (by simp; omega)]
  simp only [avs, ← List.map_take, ← List.map_drop, ← List.map_append]
  congr 1
  simp only [List.take_append_of_le_length (show min n (s - n) ≤ (List.replicate n x).length by simp; omega), List.take_append_of_le_length (show n ≤ (List.replicate n x).length by simp), List.take_replicate, Nat.min_self, Nat.min_eq_left (Nat.min_le_left n (s - n))]
  rw [List.drop_append]
  simp
  omega
theorem Repeat_c (x : Int) (s : Nat) (h1 : 1 ≤ s) (h2 : s ≤ 1000) : Con Try.prog 136 [.sl 1 [.int x], .int s] (.own 2 s (avs (List.replicate s x))) := by
  have w1 : IntKind.wrap .u64 1 = 1 := by decide
  have w2 : IntKind.wrap .u64 (s : Int) = s := wrap_u64 (by omega) (by omega)
  refine con_of_vc Try.mixed ⟨9, [], [], []⟩ Try.func136 (by decide) rfl (by simp) (by decide) (by simp [freshOK, freshL, go_sem]) ?_
  rw [Try.ntmps136]
  simp [go_sem]
  refine ⟨fun h => ?_, fun _ => ?_⟩
  · simp at h; omega
  simp [go_sem, w1, w2]
  refine CallVC.of (Mul_c 1 s (by omega) (by omega) (by omega) (by omega) (by omega) (by omega)) (by decide) ?_
  have e1 : (1 : Int) * s = s := by omega
  simp [go_sem, e1]
  refine ⟨fun h => ?_, fun _ => ?_⟩
  · simp at h; omega
  simp [go_sem]
  refine ⟨by omega, ⟨by omega, by omega⟩, ⟨by omega, by omega, by omega⟩, ?_⟩
  refine loop_inv (7 :: 8 :: List.range' 34 13) (fun n : Nat => [(7, .own 2 s (avs (List.replicate n x ++ List.replicate (s - n) 0))), (8, .int n)]) (fun n => 1 ≤ n ∧ n ≤ s) (fun n => s - n) 1 ⟨by omega, h1⟩ ?_ (by simp [go_sem]) ?_
  · simp [go_sem]
    obtain ⟨m, rfl⟩ : ∃ m, s = m + 1 := ⟨s - 1, by omega⟩
    simp [List.replicate_succ, avs_cons, setMany, avs_repl, go_sem]
  rintro n ⟨hn1, hn2⟩
  simp [go_sem]
  refine ⟨fun h => ?_, fun h => ?_⟩ <;> simp at h
  · have hz : ¬ n = 0 := by omega
    simp [go_sem, hz]
    refine ⟨by kernel_rfl, h, ⟨by omega, by omega⟩, ⟨by omega, by omega⟩, ⟨by omega, by omega⟩, ?_⟩
    refine ⟨by kernel_rfl, ?_⟩
    simp [go_sem]
    refine ⟨n + min n (s - n), ⟨by omega, by omega⟩, by omega, Off_reset _ _ _ (by simp), ?_, by omega⟩
    have hc := rep_copy x s n (by omega)
    simpa using hc
  · simp [go_sem]
    have e : n = s := by omega
    subst e; simp
end Go.Proofs.Ytmojbncbbnjblaa


namespace Go.Proofs.Ytmojbncbbnjblaa
open Go.Abs
set_option linter.unusedVariables false
set_option linter.unusedSimpArgs false
set_option maxHeartbeats 1000000
theorem specIsNumber_c (a : Int) : Con Try.prog 89 [.int a] (.bool (decide (0 ≤ a ∧ a ≤ 10006))) := by
  refine con_of_vc Try.mixed ⟨3, [], [], []⟩ Try.func89 (by decide) rfl (by simp) (by decide) (by simp [freshOK, freshL, go_sem]) ?_
  rw [Try.ntmps89]
  simp [go_sem]
  refine CallVC.of (l01In_c _ _ _) (by decide) ?_
  simp [go_sem]
theorem numsB_bad {xs : List Int} {i : Nat} (h : i < xs.length) (hb : ¬ (0 ≤ xs[i]?.getD 0 ∧ xs[i]?.getD 0 ≤ 10006)) : numsB xs = false := by
  rw [List.getElem?_eq_getElem h] at hb
  simp only [Option.getD_some] at hb
  unfold numsB
  rw [List.all_eq_false]
  exact ⟨xs[i], List.getElem_mem h, by simpa using hb⟩
theorem numsB_ok {xs : List Int} (h : ∀ x ∈ xs, 0 ≤ x ∧ x ≤ 10006) : numsB xs = true := by
  unfold numsB
  rw [List.all_eq_true]
  intro x hx
  simpa using h x hx
theorem numsB_N {xs : List Int} : numsB xs = true ↔ Ns xs := by
  unfold numsB Ns isN
  rw [List.all_eq_true]
  constructor
  · intro h x hx
    have := h x hx
    simp at this; omega
  · intro h x hx
    have := h x hx
    simp; omega
theorem take_all {α : Type} {p : α → Prop} {xs : List α} {i : Nat} (h : i < xs.length) (h1 : ∀ x ∈ xs.take i, p x) (h2 : p xs[i]) : ∀ x ∈ xs.take (i + 1), p x := by
  intro x hx
  rw [List.take_add_one, List.getElem?_eq_getElem h, Option.toList_some, List.mem_append, List.mem_singleton] at hx
  rcases hx with hx | rfl
  · exact h1 x hx
  · exact h2
theorem l01Numbers_c (xs : List Int) (hl : xs.length ≤ 9223372036854775807) : Con Try.prog 97 [.sl xs.length (avs xs)] (.bool (numsB xs)) := by
  refine con_of_vc Try.mixed ⟨4, [], [], []⟩ Try.func97 (by decide) rfl (by simp) (by decide) (by simp [freshOK, freshL, go_sem]) ?_
  rw [Try.ntmps97]
  simp [go_sem]
  refine loop_inv (List.range' 2 14) (fun i : Nat => [(3, .int i)]) (fun i => i ≤ xs.length ∧ ∀ x ∈ xs.take i, 0 ≤ x ∧ x ≤ 10006) (fun i => xs.length - i) 0 (by simp) (by simp [go_sem]) (by simp [go_sem]) ?_
  rintro i ⟨hi, hp⟩
  simp [go_sem]
  refine ⟨fun h => ?_, fun h => ?_⟩ <;> simp at h
  · simp [go_sem, avs_drop h]
    refine ⟨⟨h, by rintro rfl; simp at h⟩, ?_⟩
    refine CallVC.of (specIsNumber_c _) (by decide) ?_
    by_cases hb : 0 ≤ xs[i]?.getD 0 ∧ xs[i]?.getD 0 ≤ 10006
    · simp [go_sem, hb]
      refine ⟨by omega, i + 1, ⟨by omega, ?_⟩, by omega, Off_reset _ _ _ (by simp), by omega⟩
      rw [List.getElem?_eq_getElem h, Option.getD_some] at hb
      exact take_all h hp hb
    · have e : decide (0 ≤ xs[i]?.getD 0 ∧ xs[i]?.getD 0 ≤ 10006) = false := by simpa using hb
      rw [e]
      simp [go_sem]
      exact numsB_bad h hb
  · simp [go_sem]
    have e : i = xs.length := by omega
    subst e
    rw [List.take_length] at hp
    exact numsB_ok hp
theorem l09Is_c (A : List (List Int)) (B : List Int) (hA : A.length ≤ 9223372036854775807) (hB : B.length ≤ 9223372036854775807) (hr : ∀ r ∈ A, r.length ≤ 9223372036854775807) :
    Con Try.prog 75 [.agg [.sl A.length (mat A), .sl B.length (avs B)]] (.bool (tabB A B)) := by
  have bad : ¬ (1 ≤ B.length ∧ B.length ≤ 8 ∧ A.length = B.length) → tabB A B = false := fun h => by
    unfold tabB
    rw [decide_eq_false h]; rfl
  refine con_of_vc Try.mixed ⟨5, [], [], []⟩ Try.func75 (by decide) rfl (by simp) (by decide) (by simp [freshOK, freshL, go_sem]) ?_
  rw [Try.ntmps75]
  simp [go_sem]
  by_cases h1 : 1 ≤ B.length
  · by_cases h2 : B.length ≤ 8
    · by_cases h3 : A.length = B.length
      · have i1 : ¬ (B.length : Int) < 1 := by omega
        have i2 : ¬ 8 < (B.length : Int) := by omega
        have i3 : (A.length : Int) = B.length := by omega
        simp [go_sem, i1, i2, i3]
        refine CallVC.of (l01Numbers_c B hB) (by decide) ?_
        cases hB2 : numsB B with
        | false =>
          simp [go_sem]
          unfold tabB; rw [hB2]; simp
        | true =>
          simp [go_sem]
          refine loop_inv (2 :: 4 :: List.range' 27 22) (fun i : Nat => [(4, .int i)]) (fun i => i ≤ B.length ∧ ∀ r ∈ A.take i, r.length = B.length ∧ numsB r = true) (fun i => B.length - i) 0 (by simp) (by simp [go_sem]) (by simp [go_sem]) ?_
          rintro i ⟨hi, hp⟩
          have fine : tabB A B = A.all (fun r => decide (r.length = B.length) && numsB r) := by
            unfold tabB; rw [hB2, decide_eq_true ⟨h1, h2, h3⟩]; simp
          simp [go_sem]
          refine ⟨fun h => ?_, fun h => ?_⟩ <;> simp at h
          · have hA2 : i < A.length := by omega
            have wrong : ¬ ((A[i]?.getD []).length = B.length ∧ numsB (A[i]?.getD []) = true) → tabB A B = false := fun hb => by
              rw [List.getElem?_eq_getElem hA2, Option.getD_some] at hb
              rw [fine, List.all_eq_false]
              exact ⟨A[i], List.getElem_mem hA2, by simpa using hb⟩
            simp [go_sem, mat_drop hA2]
            refine ⟨⟨hA2, by rintro rfl; simp at hA2⟩, ?_⟩
            by_cases g1 : (A[i]?.getD []).length = B.length
            · have g1' : ((A[i]?.getD []).length : Int) = B.length := by omega
              simp [go_sem, g1', mat_drop hA2]
              refine ⟨⟨hA2, by rintro rfl; simp at hA2⟩, ?_⟩
              refine CallVC.of (l01Numbers_c _ (by omega)) (by decide) ?_
              cases g2 : numsB (A[i]?.getD []) with
              | false =>
                simp [go_sem]
                exact wrong (by rw [g2]; simp)
              | true =>
                simp [go_sem]
                refine ⟨by omega, i + 1, ⟨by omega, ?_⟩, by omega, Off_reset _ _ _ (by simp), by omega⟩
                rw [List.getElem?_eq_getElem hA2, Option.getD_some] at g1 g2
                exact take_all hA2 hp ⟨g1, g2⟩
            · have g1' : ¬ ((A[i]?.getD []).length : Int) = B.length := by omega
              simp [go_sem, g1']
              exact wrong (fun h => g1 h.1)
          · simp [go_sem]
            have e : i = A.length := by omega
            subst e
            rw [List.take_length] at hp
            rw [fine, List.all_eq_true]
            intro r hr
            simpa using hp r hr
      · have i1 : ¬ (B.length : Int) < 1 := by omega
        have i2 : ¬ 8 < (B.length : Int) := by omega
        have i3 : ¬ (A.length : Int) = B.length := by omega
        simp [go_sem, i1, i2, i3, bad (fun h => h3 h.2.2)]
    · have i1 : ¬ (B.length : Int) < 1 := by omega
      have i2 : 8 < (B.length : Int) := by omega
      simp [go_sem, i1, i2, bad (fun h => h2 h.2.1)]
  · have i1 : (B.length : Int) < 1 := by omega
    simp [go_sem, i1, bad (fun h => h1 h.1)]
theorem l09Ones_c (n : Nat) (hn : n ≤ 1000000) : Con Try.prog 139 [.int n] (.own 2 n (avs (List.replicate n 1))) := by
  refine con_of_vc Try.mixed ⟨4, [], [], []⟩ Try.func139 (by decide) rfl (by simp) (by decide) (by simp [freshOK, freshL, go_sem]) ?_
  rw [Try.ntmps139]
  simp [go_sem]
  refine loop_inv (0 :: List.range' 3 9) (fun i : Nat => [(0, .int (n - i : Nat)), (3, .own 2 i (avs (List.replicate i 1)))]) (fun i => i ≤ n) (fun i => n - i) 0 (by simp) (by simp [go_sem]) (by simp [go_sem]) ?_
  intro i hi
  simp [go_sem]
  refine ⟨fun h => ?_, fun h => ?_⟩ <;> simp at h
  · simp [go_sem]
    refine ⟨⟨by omega, by omega⟩, by omega, i + 1, by omega, by omega, Off_reset _ _ _ (by simp), by omega, ?_⟩
    simp [List.replicate_succ', avs_snoc]
  · simp [go_sem]
    have e : i = n := by omega
    subst e; simp
def wts (A : List (List Int)) (s : Nat) : Nat → List Int
  | 0 => List.replicate s 1
  | k + 1 => tim A (wts A s k)
def serL (A : List (List Int)) (B : List Int) (k : Nat) : List Int := 1 :: (List.range k).map fun i => dotI B (wts A B.length i) % 10007
@[simp] theorem serL_len (A : List (List Int)) (B : List Int) (k : Nat) : (serL A B k).length = k + 1 := by simp [serL]
theorem serL_succ (A : List (List Int)) (B : List Int) (k : Nat) : serL A B (k + 1) = serL A B k ++ [dotI B (wts A B.length k) % 10007] := by simp [serL, List.range_succ]
theorem wts_len {A : List (List Int)} {s : Nat} (h : A.length = s) : ∀ k, (wts A s k).length = s
  | 0 => by simp [wts]
  | k + 1 => by simp [wts, h]
theorem wts_N (A : List (List Int)) (s : Nat) : ∀ k, Ns (wts A s k)
  | 0 => by
    intro x hx
    simp [wts, List.mem_replicate] at hx
    rw [hx.2]; exact ⟨by omega, by omega⟩
  | k + 1 => tim_N _ _
structure Tab (A : List (List Int)) (B : List Int) : Prop where
  pos : 1 ≤ B.length
  le : B.length ≤ 8
  len : A.length = B.length
  b : Ns B
  a : Mat B.length A
theorem tabB_iff {A : List (List Int)} {B : List Int} : tabB A B = true ↔ Tab A B := by
  unfold tabB
  simp only [Bool.and_eq_true, decide_eq_true_eq, List.all_eq_true, numsB_N]
  constructor
  · rintro ⟨⟨⟨h1, h2, h3⟩, h4⟩, h5⟩
    exact ⟨h1, h2, h3, h4, fun r hr => h5 r hr⟩
  · rintro ⟨h1, h2, h3, h4, h5⟩
    exact ⟨⟨⟨h1, h2, h3⟩, h4⟩, fun r hr => h5 r hr⟩
theorem stabilitySeries_c (A : List (List Int)) (B : List Int) (n : Nat) (hT : Tab A B) (hn : n ≤ 15) :
    Con Try.prog 74 [.agg [.sl A.length (mat A), .sl B.length (avs B)], .int n] (.own 2 (n + 1) (avs (serL A B n))) := by
  have hp := hT.pos
  have hl := hT.le
  refine con_of_vc Try.mixed ⟨7, [], [], []⟩ Try.func74 (by decide) rfl (by simp) (by decide) (by simp [freshOK, freshL, go_sem]) ?_
  rw [Try.ntmps74]
  simp [go_sem]
  refine CallVC.of (tab_c _ _ _ _) (by decide) ?_
  simp [go_sem]
  refine CallVC.of (Repeat_c 1 B.length (by omega) (by omega)) (by decide) ?_
  simp [go_sem]
  refine loop_inv (5 :: 6 :: List.range' 13 13) (fun i : Nat => [(5, .own 2 (i + 1) (avs (serL A B i))), (6, .own 2 B.length (avs (wts A B.length i))), (13, .int i)]) (fun i => i ≤ n) (fun i => n - i) 0 (by simp) (by simp [go_sem, serL, wts, avs_cons]) (by simp [go_sem]) ?_
  intro i hi
  have w1 := wts_len (s := B.length) hT.len i
  have w2 := wts_N A B.length i
  have cd := dot_c B (wts A B.length i) (by omega) (by omega) hT.b w2
  have ca := applied_c A B (wts A B.length i) (by rw [w1]; exact hT.a) (by omega) (by rw [hT.len]; omega) w2
  rw [w1] at cd ca
  simp [go_sem]
  refine ⟨fun h => ?_, fun h => ?_⟩ <;> simp at h
  · simp [go_sem]
    refine CallVC.of (cd) (by decide) ?_
    simp [go_sem]
    refine ⟨⟨by omega, by omega⟩, ?_⟩
    refine CallVC.of (ca) (by decide) ?_
    simp [go_sem]
    refine ⟨by omega, i + 1, by omega, by omega, Off_reset _ _ _ (by simp), ?_, ?_, by omega⟩
    · simp [serL_succ, avs_snoc]
    · simp [wts, hT.len]
  · simp [go_sem]
    have e : i = n := by omega
    subst e; simp
theorem l19Weights_c (A : List (List Int)) (B : List Int) (n : Nat) (hT : Tab A B) (hn : n ≤ 15) :
    Con Try.prog 77 [.agg [.sl A.length (mat A), .sl B.length (avs B)], .int n] (.own 2 (n + 1) (avs (serL A B n))) := by
  have hp := hT.pos
  have hl := hT.le
  refine con_of_vc Try.mixed ⟨7, [], [], []⟩ Try.func77 (by decide) rfl (by simp) (by decide) (by simp [freshOK, freshL, go_sem]) ?_
  rw [Try.ntmps77]
  simp [go_sem]
  refine CallVC.of (l09Ones_c _ (by omega)) (by decide) ?_
  simp [go_sem]
  refine loop_inv (5 :: 6 :: List.range' 12 15) (fun i : Nat => [(5, .own 2 (i + 1) (avs (serL A B i))), (6, .own 2 B.length (avs (wts A B.length i)))]) (fun i => i ≤ n) (fun i => n - i) 0 (by simp) (by simp [go_sem, serL, wts, avs_cons]) (by simp [go_sem]) ?_
  intro i hi
  have w1 := wts_len (s := B.length) hT.len i
  have w2 := wts_N A B.length i
  have cd := l01Dot_c B (wts A B.length i) (by omega) (by omega) hT.b w2
  have ca := l09Times_c A (wts A B.length i) (by rw [w1]; exact hT.a) (by omega) (by rw [hT.len]; omega) w2
  rw [w1] at cd ca
  simp [go_sem]
  refine ⟨fun h => ?_, fun h => ?_⟩ <;> simp at h
  · simp [go_sem]
    refine CallVC.of (cd) (by decide) ?_
    simp [go_sem]
    refine ⟨⟨by omega, by omega⟩, ?_⟩
    refine CallVC.of (ca) (by decide) ?_
    simp [go_sem]
    refine ⟨i + 1, by omega, by omega, Off_reset _ _ _ (by simp), ?_, ?_⟩
    · simp [serL_succ, avs_snoc]
    · simp [wts, hT.len]
  · simp [go_sem]
    have e : i = n := by omega
    subst e; simp
end Go.Proofs.Ytmojbncbbnjblaa


namespace Go.Proofs.Ytmojbncbbnjblaa
open Go.Abs
set_option linter.unusedVariables false
set_option linter.unusedSimpArgs false
set_option maxHeartbeats 1000000
def tb (f : Nat → Int) (k : Nat) : List Int := (List.range k).map f
@[simp] theorem tb_len (f : Nat → Int) (k : Nat) : (tb f k).length = k := by simp [tb]
@[simp] theorem tb_zero (f : Nat → Int) : tb f 0 = [] := rfl
theorem tb_succ (f : Nat → Int) (k : Nat) : tb f (k + 1) = tb f k ++ [f k] := by simp [tb, List.range_succ]
theorem tb_get (f : Nat → Int) {k i : Nat} (h : i < k) : (tb f k)[i]?.getD 0 = f i := by simp [tb, h]
theorem tb_N {f : Nat → Int} {k : Nat} (h : ∀ i, i < k → isN (f i)) : Ns (tb f k) := by
  intro x hx
  simp [tb] at hx
  obtain ⟨i, hi, rfl⟩ := hx
  exact h i hi
theorem avs_at {xs : List Int} {k : Nat} (h : k < xs.length) : (avs xs)[k]? = some (AV.val (.int .i64 (xs[k]?.getD 0))) := by simp [avs, h]
theorem l02Times_c (a : List Int) (k : Int) (ha : Ns a) (hk : isN k) (hl : a.length ≤ 1048576) :
    Con Try.prog 98 [.sl a.length (avs a), .int k] (.own 2 a.length (avs (tb (fun i => a[i]?.getD 0 * k % 10007) a.length))) := by
  refine con_of_vc Try.mixed ⟨7, [], [], []⟩ Try.func98 (by decide) rfl (by simp) (by decide) (by simp [freshOK, freshL, go_sem]) ?_
  rw [Try.ntmps98]
  simp [go_sem]
  refine loop_inv (5 :: 6 :: List.range' 8 15) (fun i : Nat => [(5, .own 2 i (avs (tb (fun i => a[i]?.getD 0 * k % 10007) i))), (6, .int i)]) (fun i => i ≤ a.length) (fun i => a.length - i) 0 (by simp) (by simp [go_sem]) (by simp [go_sem]) ?_
  intro i hi
  simp [go_sem]
  refine ⟨fun h => ?_, fun h => ?_⟩ <;> simp at h
  · simp [go_sem, avs_drop h]
    refine ⟨⟨h, by rintro rfl; simp at h⟩, ?_⟩
    refine CallVC.of (l01Mul_c _ _ (mul_fits (ha.get i) hk)) (by decide) ?_
    simp [go_sem]
    refine ⟨⟨by omega, by omega⟩, by omega, i + 1, by omega, by omega, Off_reset _ _ _ (by simp), ?_, by omega⟩
    simp [tb_succ, avs_snoc]
  · have e : i = a.length := by omega
    subst e
    simp [go_sem]
theorem l02Add_c (a b : List Int) (ha : Ns a) (hb : Ns b) (hl : a.length ≤ 1048576) (hab : a.length ≤ b.length) :
    Con Try.prog 126 [.sl a.length (avs a), .sl b.length (avs b)] (.own 2 a.length (avs (tb (fun i => (a[i]?.getD 0 + b[i]?.getD 0) % 10007) a.length))) := by
  refine con_of_vc Try.mixed ⟨7, [], [], []⟩ Try.func126 (by decide) rfl (by simp) (by decide) (by simp [freshOK, freshL, go_sem]) ?_
  rw [Try.ntmps126]
  simp [go_sem]
  refine loop_inv (5 :: 6 :: List.range' 8 18) (fun i : Nat => [(5, .own 2 i (avs (tb (fun i => (a[i]?.getD 0 + b[i]?.getD 0) % 10007) i))), (6, .int i)]) (fun i => i ≤ a.length) (fun i => a.length - i) 0 (by simp) (by simp [go_sem]) (by simp [go_sem]) ?_
  intro i hi
  simp [go_sem]
  refine ⟨fun h => ?_, fun h => ?_⟩ <;> simp at h
  · have h2 : i < b.length := by omega
    simp [go_sem, avs_drop h, avs_drop h2]
    refine ⟨by kernel_rfl, ⟨h, by rintro rfl; simp at h⟩, ⟨h2, by rintro rfl; simp at h2⟩, ?_⟩
    refine CallD.of (l01Add_c _ _ (add_fits (ha.get i) (hb.get i))) (by simp [roots, rootsL]) (by decide) ?_
    simp [go_sem]
    refine ⟨by omega, ?_⟩
    refine ⟨by kernel_rfl, ?_⟩
    simp [go_sem]
    refine ⟨by omega, i + 1, by omega, by omega, Off_reset _ _ _ (by simp), ?_, by omega⟩
    simp [tb_succ, avs_snoc]
  · have e : i = a.length := by omega
    subst e
    simp [go_sem]
def cv (a b : List Int) (n : Nat) : Nat → Int
  | 0 => 0
  | m + 1 => cv a b n m + a[m]?.getD 0 * b[n - m]?.getD 0
def mulS (a b : List Int) : List Int := tb (fun n => cv a b n (n + 1) % 10007) a.length
@[simp] theorem mulS_len (a b : List Int) : (mulS a b).length = a.length := by simp [mulS]
theorem mulS_N (a b : List Int) : Ns (mulS a b) := tb_N fun i _ => isN_mod _
theorem l02Mul_c (a b : List Int) (ha : Ns a) (hb : Ns b) (hl : a.length ≤ 1048576) (hab : a.length ≤ b.length) :
    Con Try.prog 147 [.sl a.length (avs a), .sl b.length (avs b)] (.own 2 a.length (avs (mulS a b))) := by
  refine con_of_vc Try.mixed ⟨9, [], [], []⟩ Try.func147 (by decide) rfl (by simp) (by decide) (by simp [freshOK, freshL, go_sem]) ?_
  rw [Try.ntmps147]
  simp [go_sem]
  refine loop_inv (5 :: 6 :: 7 :: 8 :: List.range' 10 28) (fun i : Nat => [(5, .own 2 i (avs (tb (fun n => cv a b n (n + 1) % 10007) i))), (6, .int i)]) (fun i => i ≤ a.length) (fun i => a.length - i) 0 (by simp) (by simp [go_sem]) (by simp [go_sem]) ?_
  intro i hi
  simp [go_sem]
  refine ⟨fun h => ?_, fun h => ?_⟩ <;> simp at h
  · simp [go_sem]
    refine loop_inv (7 :: 8 :: List.range' 16 18) (fun k : Nat => [(7, .int (cv a b i k % 10007)), (8, .int k)]) (fun k => k ≤ i + 1) (fun k => i + 1 - k) 0 (by simp) (by simp [go_sem, cv]) (by simp [go_sem]) ?_
    intro k hk
    simp [go_sem]
    refine ⟨fun h => ?_, fun h => ?_⟩ <;> simp at h
    · have k1 : k < a.length := by omega
      have k2 : i - k < b.length := by omega
      have k3 : ((i : Int) - k) = ((i - k : Nat) : Int) := by omega
      simp [go_sem, avs_drop k1, avs_drop k2, k3]
      refine ⟨by kernel_rfl, ⟨k1, by rintro rfl; simp at k1⟩, by omega, ⟨k2, by rintro rfl; simp at k2⟩, ?_⟩
      refine CallD.of (l01Mul_c _ _ (mul_fits (ha.get k) (hb.get (i - k)))) (by simp [roots, rootsL]) (by decide) ?_
      simp [go_sem]
      refine CallD.of (l01Add_c _ _ (add_fits (isN_mod _) (isN_mod _))) (by simp [roots, rootsL]) (by decide) ?_
      simp [go_sem]
      refine ⟨by kernel_rfl, ?_⟩
      simp [go_sem]
      refine ⟨by omega, k + 1, by omega, by omega, Off_reset _ _ _ (by simp), ?_, by omega⟩
      simp [cv]
    · have e : k = i + 1 := by omega
      subst e
      simp [go_sem]
      refine ⟨by omega, by omega, i + 1, by omega, by omega, (Off.reset (by intro x hx; simp at hx ⊢; omega) (by simp) (by simp [go_sem, Off_reset])), ⟨rfl, ?_⟩, by omega⟩
      simp [tb_succ, avs_snoc]
  · have e : i = a.length := by omega
    subst e
    simp [go_sem]
    rfl
theorem l02Unit_c (n j : Nat) (hn : n ≤ 1048576) (hj : j ≤ 1048576) : Con Try.prog 85 [.int n, .int j] (.own 2 n (avs (tb (fun i => if i = j then 1 else 0) n))) := by
  refine con_of_vc Try.mixed ⟨6, [], [], []⟩ Try.func85 (by decide) rfl (by simp) (by decide) (by simp [freshOK, freshL, go_sem]) ?_
  rw [Try.ntmps85]
  simp [go_sem]
  refine ⟨⟨by omega, by omega⟩, ?_⟩
  refine ⟨fun h => ?_, fun h => ?_⟩ <;> simp at h
  · simp [go_sem]
    refine ⟨h, List.ext_getElem (by simp) fun k h1 h2 => ?_⟩
    simp [avs, tb, List.getElem_set]
    by_cases e : j = k
    · simp [e]
    · have e2 : ¬ k = j := fun h => e h.symm
      simp [e, e2]
  · simp [go_sem]
    refine List.ext_getElem (by simp) fun k h1 h2 => ?_
    simp at h1
    have e2 : ¬ k = j := by omega
    simp [avs, tb, e2]
def es (b o : List Int) (n : Nat) : Nat → Int
  | 0 => 0
  | m + 1 => es b o n m + (m + 1) * (b[m + 1]?.getD 0 * o[n - (m + 1)]?.getD 0 % 10007)
def expTo (b : List Int) : Nat → List Int
  | 0 => [1]
  | n + 1 => expTo b n ++ [es b (expTo b n) (n + 1) (n + 1) % 10007 * pw (n + 1) 10005 % 10007]
@[simp] theorem expTo_len (b : List Int) : ∀ n, (expTo b n).length = n + 1
  | 0 => rfl
  | n + 1 => by simp [expTo, expTo_len b n]
theorem expTo_N (b : List Int) : ∀ n, Ns (expTo b n)
  | 0 => by intro x hx; simp [expTo] at hx; subst hx; exact ⟨by omega, by omega⟩
  | n + 1 => (expTo_N b n).snoc (isN_mod _)
theorem es_step {r : Int} (h : isN r) {k : Nat} (hk : k < 1000) : 0 ≤ ((k : Int) + 1) * r ∧ ((k : Int) + 1) * r ≤ 10006000 :=
  ⟨Int.mul_nonneg (by omega) h.1, Int.le_trans (Int.mul_le_mul (by omega : (k : Int) + 1 ≤ 1000) (by have := h.2; omega : r ≤ 10006) h.1 (by omega)) (by omega)⟩
theorem es_bound (b o : List Int) (n : Nat) : ∀ m, m ≤ 1000 → 0 ≤ es b o n m ∧ es b o n m ≤ m * 10006000
  | 0, _ => by simp [es]
  | m + 1, h => by
    have := es_bound b o n m (by omega)
    have h2 := isN_mod (b[m + 1]?.getD 0 * o[n - (m + 1)]?.getD 0)
    have h3 : 0 ≤ ((m : Int) + 1) * (b[m + 1]?.getD 0 * o[n - (m + 1)]?.getD 0 % 10007) := Int.mul_nonneg (by omega) h2.1
    have h4 : ((m : Int) + 1) * (b[m + 1]?.getD 0 * o[n - (m + 1)]?.getD 0 % 10007) ≤ 1000 * 10006 := Int.mul_le_mul (by omega) (by have := h2.2; omega) h2.1 (by omega)
    simp only [es]; omega
theorem expSeries_c (b : List Int) (hb : Ns b) (h1 : 1 ≤ b.length) (hl : b.length ≤ 1000) : Con Try.prog 146 [.sl b.length (avs b)] (.own 2 b.length (avs (expTo b (b.length - 1)))) := by
  refine con_of_vc Try.mixed ⟨7, [], [], []⟩ Try.func146 (by decide) rfl (by simp) (by decide) (by simp [freshOK, freshL, go_sem]) ?_
  rw [Try.ntmps146]
  simp [go_sem]
  refine ⟨⟨by omega, by omega⟩, by omega, ?_⟩
  have i0 : (List.replicate b.length (AV.val (Value.int IntKind.i64 0))).set 0 (AV.val (Value.int IntKind.i64 1)) = avs (expTo b 0 ++ List.replicate (b.length - 1) 0) := by
    obtain ⟨m, hm⟩ : ∃ m, b.length = m + 1 := ⟨b.length - 1, by omega⟩
    rw [hm]; simp [List.replicate_succ, expTo, avs]
  refine loop_inv (3 :: 4 :: 5 :: 6 :: List.range' 12 36) (fun i : Nat => [(3, .own 2 b.length (avs (expTo b i ++ List.replicate (b.length - 1 - i) 0))), (4, .int (i + 1 : Nat))]) (fun i => i + 1 ≤ b.length) (fun i => b.length - i) 0 (by simp; omega) (by simp [go_sem]; exact i0) (by simp [go_sem]) ?_
  intro i hi
  simp [go_sem]
  refine ⟨fun h => ?_, fun h => ?_⟩ <;> simp at h
  · simp [go_sem]
    refine loop_inv (5 :: 6 :: List.range' 18 21) (fun k : Nat => [(5, .int (es b (expTo b i) (i + 1) k)), (6, .int (k + 1 : Nat))]) (fun k => k ≤ i + 1) (fun k => i + 1 - k) 0 (by simp) (by simp [go_sem, es]) (by simp [go_sem]) ?_
    intro k hk
    have bd := es_bound b (expTo b i) (i + 1) k (by omega)
    simp [go_sem]
    refine ⟨fun h => ?_, fun h => ?_⟩ <;> simp at h
    · have k1 : k + 1 < b.length := by omega
      have k2 : i - k < (expTo b i ++ List.replicate (b.length - 1 - i) 0).length := by simp; omega
      have k3 : ((i : Int) + 1 - (k + 1)) = ((i - k : Nat) : Int) := by omega
      have k4 : (expTo b i ++ List.replicate (b.length - 1 - i) 0)[i - k]?.getD 0 = (expTo b i)[i - k]?.getD 0 := by rw [List.getElem?_append_left (by simp; omega)]
      simp [go_sem, avs_drop k1, avs_at k2, k3, k4]
      refine ⟨by kernel_rfl, ⟨by omega, by omega, by rintro rfl; simp at h1⟩, by omega, by omega, mul_fits (hb.get _) ((expTo_N b i).get _), ?_⟩
      have m1 := isN_mod (b[k + 1]?.getD 0 * (expTo b i)[i - k]?.getD 0)
      refine CallD.of (num_c _ (mul_fits (hb.get _) ((expTo_N b i).get _)).1 (mul_fits (hb.get _) ((expTo_N b i).get _)).2) (by simp [roots, rootsL]) (by decide) ?_
      simp [go_sem]
      have m2 := es_step m1 (by omega : k < 1000)
      refine ⟨⟨by omega, by omega⟩, by omega, ?_⟩
      refine ⟨by kernel_rfl, ?_⟩
      simp [go_sem]
      refine ⟨by omega, k + 1, by omega, by omega, Off_reset _ _ _ (by simp), by simp [es], by omega⟩
    · have e : k = i + 1 := by omega
      subst e
      simp [go_sem]
      refine CallVC.of (num_c _ (by omega) (by omega)) (by decide) ?_
      simp [go_sem]
      refine CallVC.of (inv_c _ ⟨by omega, by omega⟩) (by decide) ?_
      simp [go_sem]
      have m1 : fits (es b (expTo b i) (i + 1) (i + 1) % 10007 * pw ((i : Int) + 1) 10005) := mul_fits (isN_mod _) (isN_mod _)
      refine ⟨m1, ?_⟩
      refine CallVC.of (num_c _ m1.1 m1.2) (by decide) ?_
      simp [go_sem]
      refine ⟨⟨by omega, by omega⟩, by omega, by omega, i + 1, by omega, by omega, (Off.reset (by intro x hx; simp at hx ⊢; omega) (by simp) (by simp [go_sem, Off_reset])), ?_, by omega⟩
      obtain ⟨m, hm⟩ : ∃ m, b.length - 1 - i = m + 1 := ⟨b.length - 1 - i - 1, by omega⟩
      have hm2 : b.length - 1 - (i + 1) = m := by omega
      rw [avs_set, hm, hm2, List.replicate_succ, List.set_append_right _ _ (by simp)]
      simp [expTo]
  · have e : i = b.length - 1 := by omega
    subst e
    simp [go_sem]
def xpow (b : List Int) : Nat → List Int
  | 0 => tb (fun i => if i = 0 then 1 else 0) b.length
  | n + 1 => tb (fun i => (mulS (xpow b n) b)[i]?.getD 0 * pw ((n + 1 : Nat) : Int) 10005 % 10007) b.length
def xsum (b : List Int) : Nat → List Int
  | 0 => List.replicate b.length 0
  | n + 1 => tb (fun i => ((xsum b n)[i]?.getD 0 + (xpow b n)[i]?.getD 0) % 10007) b.length
@[simp] theorem xpow_len (b : List Int) : ∀ n, (xpow b n).length = b.length
  | 0 => by simp [xpow]
  | n + 1 => by simp [xpow]
@[simp] theorem xsum_len (b : List Int) : ∀ n, (xsum b n).length = b.length
  | 0 => by simp [xsum]
  | n + 1 => by simp [xsum]
theorem xpow_N (b : List Int) : ∀ n, Ns (xpow b n)
  | 0 => tb_N fun i _ => by split <;> exact ⟨by omega, by omega⟩
  | n + 1 => tb_N fun i _ => isN_mod _
theorem xsum_N (b : List Int) : ∀ n, Ns (xsum b n)
  | 0 => by intro x hx; simp [xsum, List.mem_replicate] at hx; rw [hx.2]; exact ⟨by omega, by omega⟩
  | n + 1 => tb_N fun i _ => isN_mod _
theorem l02Exp_c (b : List Int) (hb : Ns b) (hl : b.length ≤ 1000) : Con Try.prog 84 [.sl b.length (avs b)] (.own 2 b.length (avs (xsum b b.length))) := by
  refine con_of_vc Try.mixed ⟨6, [], [], []⟩ Try.func84 (by decide) rfl (by simp) (by decide) (by simp [freshOK, freshL, go_sem]) ?_
  rw [Try.ntmps84]
  simp [go_sem]
  refine ⟨by kernel_rfl, ?_⟩
  refine CallD.of (l02Unit_c b.length 0 (by omega) (by omega)) (by simp [roots, rootsL]) (by decide) ?_
  simp [go_sem]
  refine ⟨⟨by omega, by omega⟩, ?_⟩
  refine ⟨by kernel_rfl, ?_⟩
  simp [go_sem]
  refine loop_inv (3 :: 4 :: 5 :: List.range' 12 15) (fun i : Nat => [(3, .own 2 b.length (avs (xpow b i))), (4, .own 2 b.length (avs (xsum b i))), (5, .int (i + 1 : Nat))]) (fun i => i ≤ b.length) (fun i => b.length - i) 0 (by simp) (by simp [go_sem, xpow, xsum, avs_repl]) (by simp [go_sem]) ?_
  intro i hi
  have ca := l02Add_c (xsum b i) (xpow b i) (xsum_N b i) (xpow_N b i) (by simp; omega) (by simp)
  have cm := l02Mul_c (xpow b i) b (xpow_N b i) hb (by simp; omega) (by simp)
  have ct := l02Times_c (mulS (xpow b i) b) (pw ((i + 1 : Nat) : Int) 10005) (mulS_N _ _) (isN_mod _) (by simp; omega)
  simp only [xsum_len, xpow_len, mulS_len] at ca cm ct
  simp [go_sem]
  refine ⟨fun h => ?_, fun h => ?_⟩ <;> simp at h
  · simp [go_sem]
    refine CallVC.of (ca) (by decide) ?_
    simp [go_sem]
    refine CallVC.of (cm) (by decide) ?_
    simp [go_sem]
    refine CallVC.of (l01Inv_c _ ⟨by omega, by omega⟩) (by decide) ?_
    simp [go_sem]
    refine CallVC.of (ct) (by decide) ?_
    simp [go_sem]
    refine ⟨⟨by omega, by omega⟩, i + 1, by omega, by omega, Off_reset _ _ _ (by simp), ?_, ?_, by omega⟩
    · simp [xpow]
    · simp [xsum]
  · have e : i = b.length := by omega
    subst e
    simp [go_sem]
def uni : List Int := tb (fun i => if i = 1 then 1 else 0) 16
@[simp] theorem uni_len : uni.length = 16 := rfl
theorem uni_N : Ns uni := tb_N fun i _ => by split <;> exact ⟨by omega, by omega⟩
def expU : List Int := expTo uni 15
@[simp] theorem expU_len : expU.length = 16 := rfl
theorem ExponentialTo_c : Con Try.prog 83 [.int 15] (.tup [.own 2 16 (avs expU), .int 0]) := by
  have ce : Con Try.prog 146 [.sl 16 (avs uni)] (.own 2 16 (avs expU)) := expSeries_c uni uni_N (by decide) (by decide)
  refine con_of_vc Try.mixed ⟨5, [], [], []⟩ Try.func83 (by decide) rfl (by simp) (by decide) (by simp [freshOK, freshL, go_sem]) ?_
  rw [Try.ntmps83]
  simp [go_sem]
  refine CallVC.of (inRange_c 15 0 15) (by decide) ?_
  simp [go_sem]
  refine CallVC.of (ce) (by decide) ?_
  simp [go_sem]
theorem expU_eq : xsum uni 16 = expU := by decide +kernel
theorem specExpU_c : Con Try.prog 84 [.sl 16 (avs uni)] (.own 2 16 (avs expU)) := by
  rw [← expU_eq]
  exact l02Exp_c uni uni_N (by decide)
theorem specUni_c : Con Try.prog 85 [.int 16, .int 1] (.own 2 16 (avs uni)) := l02Unit_c 16 1 (by omega) (by omega)
end Go.Proofs.Ytmojbncbbnjblaa


namespace Go.Proofs.Ytmojbncbbnjblaa
open Go.Abs
set_option linter.unusedVariables false
set_option linter.unusedSimpArgs false
set_option maxHeartbeats 1000000
def bys (c : List Int) : List AV := c.map fun x => .val (.int .u8 x)
@[simp] theorem bys_len (c : List Int) : (bys c).length = c.length := by simp [bys]
theorem bys_drop {c : List Int} {k : Nat} (h : k < c.length) : (bys c).drop k = .val (.int .u8 (c[k]?.getD 0)) :: bys (c.drop (k + 1)) := by
  rw [bys, ← List.map_drop, List.drop_eq_getElem_cons h, List.map_cons]; simp [h, bys]
def Byt (c : List Int) : Prop := c.length ≤ 4096 ∧ ∀ x ∈ c, 0 ≤ x ∧ x ≤ 255
theorem Byt.get {c : List Int} (h : Byt c) (k : Nat) : 0 ≤ c[k]?.getD 0 ∧ c[k]?.getD 0 ≤ 255 := by
  rcases Nat.lt_or_ge k c.length with hk | hk
  · simp [hk]; exact h.2 _ (List.getElem_mem hk)
  · simp [hk]
abbrev Src := Nat × Int
def srcA (c : List Int) (σ : Src) : AV := .box 128 [.sl c.length (bys c), .int σ.1, .val (.int .u64 σ.2)]
theorem srcA_eq (c : List Int) (σ : Src) : srcA c σ = .box 128 [.sl c.length (bys c), .int σ.1, .val (.int .u64 σ.2)] := rfl
def nxH (h : Int) : Int := IntKind.u64.wrap (IntKind.u64.wrap (h * 6364136223846793005) + 1442695040888963407)
def nxX (h : Int) : Int := andI IntKind.u64 (shrI IntKind.u64 (nxH h) 33) 16777215
def byV (c : List Int) (k : Nat) : Int := if k < c.length then c[k]?.getD 0 else 0
def nx1 (c : List Int) (σ : Src) (n : Int) : Int := if n < 1 then 0 else (nxX σ.2 + byV c σ.1).tmod n
def nx2 (c : List Int) (σ : Src) (n : Int) : Src := if n < 1 then σ else (if σ.1 < c.length then σ.1 + 1 else σ.1, nxH σ.2)
def SOk (σ : Src) : Prop := σ.1 ≤ 4096
theorem nx2_ok {c : List Int} (hc : Byt c) {σ : Src} (h : SOk σ) (n : Int) : SOk (nx2 c σ n) := by
  unfold SOk nx2 at *
  have := hc.1
  split
  · exact h
  · simp only; split <;> omega
theorem nxX_b (h : Int) : 0 ≤ nxX h ∧ nxX h ≤ 16777215 := by
  unfold nxX andI
  generalize shrI IntKind.u64 (nxH h) 33 = y
  have h1 : (BitVec.ofInt IntKind.u64.bits y &&& BitVec.ofInt IntKind.u64.bits 16777215).toNat ≤ 16777215 := by
    rw [BitVec.toNat_and]
    exact Nat.le_trans Nat.and_le_right (by decide)
  generalize (BitVec.ofInt IntKind.u64.bits y &&& BitVec.ofInt IntKind.u64.bits 16777215).toNat = m at *
  simp [IntKind.wrap, IntKind.signed, IntKind.bits]
  omega
theorem byV_b {c : List Int} (hc : Byt c) (k : Nat) : 0 ≤ byV c k ∧ byV c k ≤ 255 := by
  unfold byV
  split
  · exact hc.get k
  · omega
theorem nx1_b {c : List Int} (hc : Byt c) (σ : Src) {n : Int} (hn : 1 ≤ n) : 0 ≤ nx1 c σ n ∧ nx1 c σ n < n := by
  have h1 := nxX_b σ.2
  have h2 := byV_b hc σ.1
  unfold nx1
  rw [if_neg (by omega), Int.tmod_eq_emod_of_nonneg (by omega)]
  exact ⟨Int.emod_nonneg _ (by omega), Int.emod_lt_of_pos _ (by omega)⟩
set_option maxRecDepth 100000 in
theorem l01Next_c (c : List Int) (σ : Src) (n : Int) (hc : Byt c) (hs : SOk σ) : GCon Try.prog 111 [srcA c σ, .int n] (.int (nx1 c σ n)) [srcA c (nx2 c σ n), .any] := by
  have hx := nxX_b σ.2
  have hy := byV_b hc σ.1
  have hcl := hc.1
  unfold SOk at hs
  unfold nx1 nx2
  by_cases h0 : n < 1
  · rw [if_pos h0, if_pos h0]
    unfold srcA
    refine gcon_of_vc Try.mixed ⟨6, [], [], []⟩ [4] [0] Try.func111 (by decide) rfl rfl (by simp) (by simp) (by decide) ?_
    rw [Try.ntmps111]
    simp [go_sem]
    simp [go_sem, h0]
  · rw [if_neg h0, if_neg h0]
    unfold srcA
    have e1 : nxH σ.2 = IntKind.u64.wrap (IntKind.u64.wrap (σ.2 * 6364136223846793005) + 1442695040888963407) := rfl
    have e2 : nxX σ.2 = andI IntKind.u64 (shrI IntKind.u64 (nxH σ.2) 33) 16777215 := rfl
    generalize nxX σ.2 = x at *
    generalize nxH σ.2 = h' at *
    have n0 : ¬ n = 0 := by omega
    by_cases hk : σ.1 < c.length
    · have hb : byV c σ.1 = c[σ.1]?.getD 0 := by unfold byV; rw [if_pos hk]
      have hne : ¬ c = [] := by rintro rfl; simp at hk
      rw [if_pos hk]
      rw [hb] at hy ⊢
      refine gcon_of_vc Try.mixed ⟨6, [], [], []⟩ [4] [0] Try.func111 (by decide) rfl rfl (by simp) (by simp) (by decide) ?_
      rw [Try.ntmps111]
      simp [go_sem]
      simp [go_sem, h0, ← e1, ← e2]
      refine ⟨⟨by omega, by omega⟩, by kernel_rfl, ?_⟩
      refine ⟨by kernel_rfl, ?_⟩
      simp [go_sem]
      have hD := bys_drop hk
      generalize c[σ.1]?.getD 0 = b at *
      simp [go_sem, hk, hD]
      refine ⟨by kernel_rfl, by intro e; exact hne (by simpa [bys] using e), ⟨by omega, by omega⟩, ⟨by omega, by omega⟩, ?_⟩
      refine ⟨by kernel_rfl, ?_⟩
      simp [go_sem]
      exact ⟨⟨by omega, by omega⟩, n0⟩
    · have hb : byV c σ.1 = 0 := by unfold byV; rw [if_neg hk]
      rw [if_neg hk]
      rw [hb] at hy ⊢
      refine gcon_of_vc Try.mixed ⟨6, [], [], []⟩ [4] [0] Try.func111 (by decide) rfl rfl (by simp) (by simp) (by decide) ?_
      rw [Try.ntmps111]
      simp [go_sem]
      simp [go_sem, h0, ← e1, ← e2]
      refine ⟨⟨by omega, by omega⟩, by kernel_rfl, ?_⟩
      refine ⟨by kernel_rfl, ?_⟩
      simp [go_sem]
      simp [go_sem, hk]
      exact n0
theorem getI {xs : List Int} {v : Int} (h0 : 0 ≤ v) (h1 : v < xs.length) : ∃ k : Nat, v = k ∧ k < xs.length ∧ v.toNat = k := ⟨v.toNat, by omega, by omega, rfl⟩
def pk (c : List Int) (σ : Src) (xs : List Int) : Int := xs[(nx1 c σ xs.length).toNat]?.getD 0
theorem pk_mem (c : List Int) (hc : Byt c) (σ : Src) {xs : List Int} (hx : 0 < xs.length) : pk c σ xs ∈ xs := by
  have h := nx1_b hc σ (n := xs.length) (by omega)
  unfold pk
  have hk : (nx1 c σ xs.length).toNat < xs.length := by omega
  simp [hk]
set_option maxRecDepth 100000 in
theorem l01Pick_c (c : List Int) (σ : Src) (xs : List Int) (hc : Byt c) (hs : SOk σ) (hx : 0 < xs.length) (hxl : xs.length ≤ 1000) :
    GCon Try.prog 112 [srcA c σ, .own 2 xs.length (avs xs)] (.int (pk c σ xs)) [srcA c (nx2 c σ xs.length), .any] := by
  have cN := l01Next_c c σ xs.length hc hs
  have hb := nx1_b hc σ (n := xs.length) (by omega)
  unfold pk
  obtain ⟨k, hk, hkl, hkt⟩ := getI hb.1 hb.2
  rw [hkt]
  rw [hk] at cN
  unfold srcA at *
  refine gcon_of_vc Try.mixed ⟨5, [], [1000000 + 111], []⟩ [4] [0] Try.func112 (by decide) rfl rfl (by simp) (by simp) (by decide) ?_
  rw [Try.ntmps112]
  simp [go_sem]
  refine ⟨_, _, cN, ?_⟩
  simp [go_sem]
  have hA := avs_at hkl
  simp [go_sem, hA]
  exact hkl
theorem l01Frac_c (p q : Int) (hp : fits p) (hq : fits q) : Con Try.prog 195 [.int p, .int q] (.int (p % 10007 * pw (q % 10007) 10005 % 10007)) := by
  have hf : fits (p % 10007 * pw (q % 10007) 10005) := mul_fits (isN_mod _) (isN_mod _)
  refine con_of_vc Try.mixed ⟨5, [], [], []⟩ Try.func195 (by decide) rfl (by simp) (by decide) (by simp [freshOK, freshL, go_sem]) ?_
  rw [Try.ntmps195]
  simp [go_sem]
  refine CallVC.of (l01Mod_c p hp.1 hp.2) (by decide) ?_
  simp [go_sem]
  refine CallVC.of (l01Mod_c q hq.1 hq.2) (by decide) ?_
  simp [go_sem]
  refine CallVC.of (l01Inv_c _ (isN_mod q)) (by decide) ?_
  simp [go_sem]
  refine CallVC.of (l01Mul_c _ _ hf) (by decide) ?_
  simp [go_sem]
def nbV (c : List Int) (σ : Src) : Int × Src :=
  if nx1 c σ 5 = 0 then (nx1 c (nx2 c σ 5) 10007, nx2 c (nx2 c σ 5) 10007)
  else if nx1 c σ 5 = 1 then (pk c (nx2 c σ 5) [0, 1, 0, 1, 10006, 2], nx2 c (nx2 c σ 5) 6)
  else ((nx1 c (nx2 c σ 5) 15 - 7) % 10007 * pw ((1 + nx1 c (nx2 c (nx2 c σ 5) 15) 12) % 10007) 10005 % 10007, nx2 c (nx2 c (nx2 c σ 5) 15) 12)
theorem nbV_ok {c : List Int} (hc : Byt c) {σ : Src} (hs : SOk σ) : isN (nbV c σ).1 ∧ SOk (nbV c σ).2 := by
  have s1 := nx2_ok hc hs 5
  unfold nbV
  split
  · exact ⟨nx1_b hc (nx2 c σ 5) (n := 10007) (by omega), nx2_ok hc s1 _⟩
  · split
    · refine ⟨?_, nx2_ok hc s1 _⟩
      have := pk_mem c hc (nx2 c σ 5) (xs := [0, 1, 0, 1, 10006, 2]) (by simp)
      simp at this
      simp only
      constructor <;> omega
    · exact ⟨isN_mod _, nx2_ok hc (nx2_ok hc s1 _) _⟩
set_option maxRecDepth 100000 in
theorem l01Number_c (c : List Int) (σ : Src) (hc : Byt c) (hs : SOk σ) : GCon Try.prog 173 [srcA c σ] (.int (nbV c σ).1) [srcA c (nbV c σ).2] := by
  have s1 := nx2_ok hc hs 5
  have s2 := nx2_ok hc s1 15
  have c1 := l01Next_c c σ 5 hc hs
  have c2 := l01Next_c c (nx2 c σ 5) 10007 hc s1
  have c3 := l01Pick_c c (nx2 c σ 5) [0, 1, 0, 1, 10006, 2] hc s1 (by simp) (by simp)
  have c4 := l01Next_c c (nx2 c σ 5) 15 hc s1
  have c5 := l01Next_c c (nx2 c (nx2 c σ 5) 15) 12 hc s2
  have b4 := nx1_b hc (nx2 c σ 5) (n := 15) (by omega)
  have b5 := nx1_b hc (nx2 c (nx2 c σ 5) 15) (n := 12) (by omega)
  have c6 := l01Frac_c (nx1 c (nx2 c σ 5) 15 - 7) (1 + nx1 c (nx2 c (nx2 c σ 5) 15) 12) ⟨by omega, by omega⟩ ⟨by omega, by omega⟩
  unfold nbV
  have e3 : (([0, 1, 0, 1, 10006, 2] : List Int).length : Int) = 6 := rfl
  rw [e3] at c3
  generalize pk c (nx2 c σ 5) [0, 1, 0, 1, 10006, 2] = pv at *
  generalize nx1 c (nx2 c (nx2 c σ 5) 15) 12 = v5 at *
  generalize nx2 c (nx2 c (nx2 c σ 5) 15) 12 = t5 at *
  generalize nx1 c (nx2 c σ 5) 15 = v4 at *
  generalize nx2 c (nx2 c σ 5) 15 = t4 at *
  generalize nx2 c (nx2 c σ 5) 6 = t3 at *
  generalize nx1 c (nx2 c σ 5) 10007 = v2 at *
  generalize nx2 c (nx2 c σ 5) 10007 = t2 at *
  generalize nx1 c σ 5 = v1 at *
  generalize nx2 c σ 5 = t1 at *
  unfold srcA at *
  by_cases h0 : v1 = 0
  · rw [if_pos h0]
    refine gcon_of_vc Try.mixed ⟨3, [], [1000000 + 111, 1000000 + 112], []⟩ [2] [0] Try.func173 (by decide) rfl rfl (by simp) (by simp) (by decide) ?_
    rw [Try.ntmps173]
    simp [go_sem]
    refine ⟨_, _, c1, ?_⟩
    simp [go_sem]
    simp [go_sem, h0]
    refine ⟨_, _, c2, ?_⟩
    simp [go_sem]
  · rw [if_neg h0]
    by_cases h1 : v1 = 1
    · rw [if_pos h1]
      refine gcon_of_vc Try.mixed ⟨3, [], [1000000 + 111, 1000000 + 112], []⟩ [2] [0] Try.func173 (by decide) rfl rfl (by simp) (by simp) (by decide) ?_
      rw [Try.ntmps173]
      simp [go_sem]
      refine ⟨_, _, c1, ?_⟩
      simp [go_sem]
      simp [go_sem, h0, h1]
      refine ⟨_, _, c3, ?_⟩
      simp [go_sem]
    · rw [if_neg h1]
      refine gcon_of_vc Try.mixed ⟨3, [], [1000000 + 111, 1000000 + 112], []⟩ [2] [0] Try.func173 (by decide) rfl rfl (by simp) (by simp) (by decide) ?_
      rw [Try.ntmps173]
      simp [go_sem]
      refine ⟨_, _, c1, ?_⟩
      simp [go_sem]
      simp [go_sem, h0, h1]
      refine ⟨_, _, c4, ?_⟩
      simp [go_sem]
      refine ⟨⟨by omega, by omega⟩, ?_⟩
      refine ⟨_, _, c5, ?_⟩
      simp [go_sem]
      refine ⟨⟨by omega, by omega⟩, ?_⟩
      refine CallVC.of (c6) (by decide) ?_
      simp [go_sem]
def lsV (f : Src → Int × Src) : Nat → Src → List Int × Src
  | 0, σ => ([], σ)
  | n + 1, σ => ((f σ).1 :: (lsV f n (f σ).2).1, (lsV f n (f σ).2).2)
theorem lsV_ok {f : Src → Int × Src} (hf : ∀ σ, SOk σ → isN (f σ).1 ∧ SOk (f σ).2) : ∀ (n : Nat) (σ : Src), SOk σ → (lsV f n σ).1.length = n ∧ Ns (lsV f n σ).1 ∧ SOk (lsV f n σ).2
  | 0, σ, h => ⟨rfl, by simp [lsV, Ns], h⟩
  | n + 1, σ, h => by
    have h1 := hf σ h
    have h2 := lsV_ok hf n _ h1.2
    refine ⟨by simp [lsV, h2.1], fun x hx => ?_, h2.2.2⟩
    rcases List.mem_cons.1 hx with rfl | hx
    · exact h1.1
    · exact h2.2.1 x hx
set_option maxRecDepth 100000 in
theorem l01List_c (c : List Int) (σ : Src) (n : Nat) (hc : Byt c) (hs : SOk σ) (hn : n ≤ 100000) :
    GCon Try.prog 110 [srcA c σ, .int n] (.own 2 n (avs (lsV (nbV c) n σ).1)) [srcA c (lsV (nbV c) n σ).2, .any] := by
  unfold srcA
  refine gcon_of_vc Try.mixed ⟨6, [], [1000000 + 173], []⟩ [4] [0] Try.func110 (by decide) rfl rfl (by simp) (by simp) (by decide) ?_
  rw [Try.ntmps110]
  simp [go_sem]
  refine loop_inv (0 :: 1 :: 5 :: List.range' 7 9) (fun x : List Int × Src × Nat => [(0, .box 128 [.sl c.length (bys c), .int x.2.1.1, .val (.int .u64 x.2.1.2)]), (1, .int x.2.2), (5, .own 2 x.1.length (avs x.1))]) (fun x => SOk x.2.1 ∧ x.1.length + x.2.2 = n ∧ x.1 ++ (lsV (nbV c) x.2.2 x.2.1).1 = (lsV (nbV c) n σ).1 ∧ (lsV (nbV c) x.2.2 x.2.1).2 = (lsV (nbV c) n σ).2) (fun x => x.2.2) ([], σ, n) ⟨hs, by simp, rfl, rfl⟩ (by simp [go_sem, avs]) (by simp [go_sem]) ?_
  rintro ⟨acc, τ, k⟩ ⟨h1, h2, h3, h4⟩
  simp only at h1 h2 h3 h4
  simp [go_sem]
  refine ⟨fun h => ?_, fun h => ?_⟩ <;> simp at h
  · obtain ⟨j, rfl⟩ : ∃ j, k = j + 1 := ⟨k - 1, by omega⟩
    have cN := l01Number_c c τ hc h1
    have hok := nbV_ok hc h1
    unfold srcA at cN
    simp only [lsV] at h3 h4
    generalize nbV c τ = r at *
    simp [go_sem]
    refine ⟨_, _, cN, ?_⟩
    simp [go_sem]
    refine ⟨⟨by omega, by omega⟩, by omega, acc ++ [r.1], r.2.1, r.2.2, j, ⟨hok.2, by simp; omega, by simpa using h3, h4⟩, by omega, Off_reset _ _ _ (by simp), ?_⟩
    simp [avs]
  · have e : k = 0 := by omega
    subst e
    simp only [lsV, List.append_nil] at h3 h4
    simp [go_sem]
    rw [← h3, ← h4]
    simp at h2
    simp [h2]
set_option maxRecDepth 100000 in
theorem l01From_r (c : List Int) (hc : Byt c) : RCon Try.prog 48 [.sl c.length (bys c)] (fun r o => o = [.any] ∧ ∃ h, r = srcA c (0, h)) := by
  have hcl := hc.1
  unfold srcA
  refine rcon_of_vcH Try.mixed ⟨5, [], [], []⟩ [] Try.func48 (by decide) rfl (by simp) (by simp) (by decide) ?_
  rw [Try.ntmps48]
  simp [go_sem]
  refine loop_inv (3 :: 4 :: List.range' 12 25) (fun x : Nat × Int => [(3, .box 128 [.sl c.length (bys c), .int 0, .val (.int .u64 x.2)]), (4, .int x.1)]) (fun x => x.1 ≤ c.length) (fun x => c.length - x.1) (0, IntKind.u64.wrap (5381 + IntKind.u64.wrap c.length)) (by simp) (by simp [go_sem]) (by simp [go_sem]) ?_
  rintro ⟨i, h⟩ hi
  simp only at hi
  by_cases hic : i < c.length
  · have h4 : (i : Int) < 4096 := by omega
    have hne : ¬ c = [] := by rintro rfl; simp at hic
    have hD := bys_drop hic
    have hb := hc.get i
    generalize c[i]?.getD 0 = b at *
    simp [go_sem, hic, h4, hD]
    refine ⟨by kernel_rfl, by intro e; exact hne (by simpa [bys] using e), ?_⟩
    refine ⟨by kernel_rfl, ?_⟩
    simp [go_sem]
    exact ⟨⟨by omega, by omega⟩, i + 1, by omega, by omega, Off_reset _ _ _ (by simp), by omega⟩
  · simp [go_sem, hic]
end Go.Proofs.Ytmojbncbbnjblaa


namespace Go.Proofs.Ytmojbncbbnjblaa
set_option linter.unusedVariables false
set_option linter.unusedSimpArgs false
abbrev Key3 := Int × Int × Int
def r4 : List Int := [0, 1, 2, 3]
def box : List Key3 := r4.flatMap fun i => r4.flatMap fun j => r4.map fun k => (i, j, k)
theorem mem_box {k : Key3} : k ∈ box ↔ 0 ≤ k.1 ∧ k.1 ≤ 3 ∧ 0 ≤ k.2.1 ∧ k.2.1 ≤ 3 ∧ 0 ≤ k.2.2 ∧ k.2.2 ≤ 3 := by
  obtain ⟨a, b, c⟩ := k
  have h4 : ∀ x : Int, x ∈ r4 ↔ 0 ≤ x ∧ x ≤ 3 := fun x => by simp [r4]; omega
  simp only [box, List.mem_flatMap, List.mem_map, Prod.mk.injEq]
  constructor
  · rintro ⟨i, hi, j, hj, k, hk, rfl, rfl, rfl⟩
    have := (h4 i).1 hi; have := (h4 j).1 hj; have := (h4 k).1 hk
    omega
  · rintro ⟨h1, h2, h3, h5, h6, h7⟩
    exact ⟨a, (h4 a).2 ⟨h1, h2⟩, b, (h4 b).2 ⟨h3, h5⟩, c, (h4 c).2 ⟨h6, h7⟩, rfl, rfl, rfl⟩
end Go.Proofs.Ytmojbncbbnjblaa


namespace Go.Proofs.Ytmojbncbbnjblaa
open Go.Abs
set_option linter.unusedVariables false
set_option linter.unusedSimpArgs false
set_option maxHeartbeats 1000000
abbrev Mon := Int × List Int
def sumC {α : Type} (c : α → Nat) : List α → Nat
  | [] => 0
  | a :: l => c a + sumC c l
structure SzOk {α : Type} (g : Int → α → Int) (c : α → Nat) : Prop where
  lo : ∀ l a, -1 ≤ g l a
  hi : ∀ l a, 0 ≤ l → g l a ≤ l
  ok : ∀ l a, 0 ≤ l → 0 ≤ g l a → (c a : Int) ≤ l - g l a
def cM (m : Mon) : Nat := m.2.length
def cP (p : List Mon) : Nat := p.length + sumC cM p
def cF (f : List (List Mon)) : Nat := f.length + sumC cP f
end Go.Proofs.Ytmojbncbbnjblaa


namespace Go.Proofs.Ytmojbncbbnjblaa
open Go.Abs
set_option linter.unusedVariables false
set_option linter.unusedSimpArgs false
set_option maxHeartbeats 1000000
end Go.Proofs.Ytmojbncbbnjblaa


namespace Go.Proofs.Ytmojbncbbnjblaa
open Go.Abs
set_option linter.unusedVariables false
set_option linter.unusedSimpArgs false
set_option maxHeartbeats 1000000
def ltL : List Int → List Int → Bool
  | _, [] => false
  | [], _ :: _ => true
  | x :: xs, y :: ys => if x = y then ltL xs ys else decide (x < y)
def degL : List Int → Int → Int
  | [], s => s
  | x :: xs, s => if x < 0 ∨ 100 < x then 1000 else degL xs (s + x)
def monB (z : Int) (m : Mon) : Bool := decide (1 ≤ m.1 ∧ m.1 ≤ 10006) && decide ((m.2.length : Int) = z) && decide (degL m.2 0 ≤ 3)
def atB (z : Int) (p : List Mon) (j : Nat) : Bool := monB z (p[j]?.getD (0, [])) && (decide (j = 0) || ltL (p[j - 1]?.getD (0, [])).2 (p[j]?.getD (0, [])).2)
def partB (z : Int) (p : List Mon) : Bool := (List.range p.length).all (atB z p)
end Go.Proofs.Ytmojbncbbnjblaa


namespace Go.Proofs.Ytmojbncbbnjblaa
open Go.Abs
set_option linter.unusedVariables false
set_option linter.unusedSimpArgs false
set_option maxHeartbeats 1000000
structure MonOk (z : Int) (m : Mon) : Prop where
  lo : 1 ≤ m.1
  hi : m.1 ≤ 10006
  len : (m.2.length : Int) = z
  pw : ∀ x ∈ m.2, 0 ≤ x ∧ x ≤ 3
  deg : m.2.sum ≤ 3
theorem MonOk.get {z : Int} {m : Mon} (h : MonOk z m) (k : Nat) : 0 ≤ m.2[k]?.getD 0 ∧ m.2[k]?.getD 0 ≤ 3 := by
  rcases Nat.lt_or_ge k m.2.length with hk | hk
  · simp [hk]; exact h.pw _ (List.getElem_mem hk)
  · simp [hk]
structure FieldOk (z : Int) (f : List (List Mon)) : Prop where
  lo : 1 ≤ z
  hi : z ≤ 3
  len : (f.length : Int) = z
  part : ∀ p ∈ f, partB z p = true
end Go.Proofs.Ytmojbncbbnjblaa


namespace Go.Proofs.Ytmojbncbbnjblaa
open Go.Abs
set_option linter.unusedVariables false
set_option linter.unusedSimpArgs false
set_option maxHeartbeats 1000000
end Go.Proofs.Ytmojbncbbnjblaa


namespace Go.Proofs.Ytmojbncbbnjblaa
open Go.Abs
set_option linter.unusedVariables false
set_option linter.unusedSimpArgs false
set_option maxHeartbeats 1000000
end Go.Proofs.Ytmojbncbbnjblaa


namespace Go.Proofs.Ytmojbncbbnjblaa
open Go.Abs
set_option linter.unusedVariables false
set_option linter.unusedSimpArgs false
set_option maxHeartbeats 1000000
end Go.Proofs.Ytmojbncbbnjblaa


namespace Go.Proofs.Ytmojbncbbnjblaa
open Go.Abs
set_option linter.unusedVariables false
set_option linter.unusedSimpArgs false
set_option maxHeartbeats 1000000
end Go.Proofs.Ytmojbncbbnjblaa


namespace Go.Proofs.Ytmojbncbbnjblaa
open Go.Abs
set_option linter.unusedVariables false
set_option linter.unusedSimpArgs false
set_option maxHeartbeats 1000000
structure VOk (n : Nat) (m : Mon) : Prop where
  num : isN m.1
  len : m.2.length = n
  pw : ∀ x ∈ m.2, 0 ≤ x ∧ x ≤ 3
end Go.Proofs.Ytmojbncbbnjblaa


namespace Go.Proofs.Ytmojbncbbnjblaa
open Go.Abs
set_option linter.unusedVariables false
set_option linter.unusedSimpArgs false
set_option maxHeartbeats 1000000
end Go.Proofs.Ytmojbncbbnjblaa


namespace Go.Proofs.Ytmojbncbbnjblaa
open Go.Abs
set_option linter.unusedVariables false
set_option linter.unusedSimpArgs false
set_option maxHeartbeats 1000000
end Go.Proofs.Ytmojbncbbnjblaa


namespace Go.Proofs.Ytmojbncbbnjblaa
open Go.Abs
set_option linter.unusedVariables false
set_option linter.unusedSimpArgs false
set_option maxHeartbeats 1000000
theorem VOk.low {n i : Nat} {m : Mon} (h : VOk n m) (hi : i < n) (hp : 0 < m.2[i]?.getD 0) : VOk n (m.1 * m.2[i]?.getD 0 % 10007, m.2.set i (m.2[i]?.getD 0 - 1)) := by
  have hl := h.len
  refine ⟨isN_mod _, by simpa using hl, fun x hx => ?_⟩
  rcases List.mem_or_eq_of_mem_set hx with hx | rfl
  · exact h.pw x hx
  · have hm : m.2[i]?.getD 0 ∈ m.2 := by
      rw [List.getElem?_eq_getElem (by omega), Option.getD_some]; exact List.getElem_mem _
    have := h.pw _ hm
    omega
end Go.Proofs.Ytmojbncbbnjblaa


namespace Go.Proofs.Ytmojbncbbnjblaa
open Go.Abs
set_option linter.unusedVariables false
set_option linter.unusedSimpArgs false
set_option maxHeartbeats 1000000
def NN (k : Key) : Prop := 0 ≤ k.1 ∧ 0 ≤ k.2.1 ∧ 0 ≤ k.2.2
def Eqv (C D : Key → Int) : Prop := ∀ k, NN k → C k % 10007 = D k % 10007
theorem NN.box {k : Key} (h : k ∈ box) : NN k := by have := mem_box.1 h; exact ⟨by omega, by omega, by omega⟩
theorem Eqv.refl (C : Key → Int) : Eqv C C := fun _ _ => rfl
theorem Eqv.symm {C D : Key → Int} (h : Eqv C D) : Eqv D C := fun k hk => (h k hk).symm
theorem Eqv.trans {C D E : Key → Int} (h : Eqv C D) (h2 : Eqv D E) : Eqv C E := fun k hk => (h k hk).trans (h2 k hk)
end Go.Proofs.Ytmojbncbbnjblaa


namespace Go.Proofs.Ytmojbncbbnjblaa
open Go.Abs
set_option linter.unusedVariables false
set_option linter.unusedSimpArgs false
set_option maxHeartbeats 1000000
end Go.Proofs.Ytmojbncbbnjblaa


namespace Go.Proofs.Ytmojbncbbnjblaa
open Go.Abs
set_option linter.unusedVariables false
set_option linter.unusedSimpArgs false
set_option maxHeartbeats 1000000
end Go.Proofs.Ytmojbncbbnjblaa


namespace Go.Proofs.Ytmojbncbbnjblaa
set_option linter.unusedVariables false
set_option linter.unusedSimpArgs false
class CR (α : Type) extends Add α, Mul α where
  ofI : Int → α
  addC : ∀ a b : α, a + b = b + a
  addA : ∀ a b c : α, a + b + c = a + (b + c)
  add0 : ∀ a : α, a + ofI 0 = a
  mulC : ∀ a b : α, a * b = b * a
  mulA : ∀ a b c : α, a * b * c = a * (b * c)
  mul1 : ∀ a : α, a * ofI 1 = a
  mulD : ∀ a b c : α, a * (b + c) = a * b + a * c
  mul0 : ∀ a : α, a * ofI 0 = ofI 0
  ofAdd : ∀ a b : Int, ofI (a + b) = ofI a + ofI b
  ofMul : ∀ a b : Int, ofI (a * b) = ofI a * ofI b
namespace CR
section
variable {α : Type} [CR α]
instance : Std.Associative (α := α) (· + ·) := ⟨addA⟩
instance : Std.Commutative (α := α) (· + ·) := ⟨addC⟩
instance : Std.Associative (α := α) (· * ·) := ⟨mulA⟩
instance : Std.Commutative (α := α) (· * ·) := ⟨mulC⟩
theorem zadd (a : α) : ofI 0 + a = a := by rw [addC, add0]
theorem omul (a : α) : ofI 1 * a = a := by rw [mulC, mul1]
theorem zmul (a : α) : ofI 0 * a = ofI 0 := by rw [mulC, mul0]
theorem Dmul (a b c : α) : (a + b) * c = a * c + b * c := by rw [mulC, mulD, mulC c, mulC c]
end
end CR
open CR
instance : CR Int where
  ofI := id
  addC := Int.add_comm
  addA := Int.add_assoc
  add0 := Int.add_zero
  mulC := Int.mul_comm
  mulA := Int.mul_assoc
  mul1 := Int.mul_one
  mulD := Int.mul_add
  mul0 := Int.mul_zero
  ofAdd := fun _ _ => rfl
  ofMul := fun _ _ => rfl
abbrev Ser (α : Type) := Nat → α
def sh {α : Type} (a : Ser α) : Ser α := fun n => a (n + 1)
def cmul {α : Type} [CR α] : Nat → Ser α → Ser α → α
  | 0, a, b => a 0 * b 0
  | n + 1, a, b => a 0 * b (n + 1) + cmul n (sh a) b
section
variable {α : Type} [CR α]
theorem cmul_add (n : Nat) : ∀ (a b c : Ser α), cmul n a (fun i => b i + c i) = cmul n a b + cmul n a c := by
  induction n with
  | zero => intro a b c; exact mulD _ _ _
  | succ n ih => intro a b c; simp only [cmul, ih, mulD]; ac_rfl
theorem cmul_last (n : Nat) : ∀ (a b : Ser α), cmul (n + 1) a b = cmul n a (sh b) + a (n + 1) * b 0 := by
  induction n with
  | zero => intro a b; rfl
  | succ n ih =>
    intro a b
    rw [cmul, ih, cmul]
    show a 0 * b (n + 1 + 1) + (cmul n (sh a) (sh b) + a (n + 1 + 1) * b 0) = a 0 * b (n + 1 + 1) + cmul n (sh a) (sh b) + a (n + 1 + 1) * b 0
    ac_rfl
theorem cmul_comm (n : Nat) : ∀ (a b : Ser α), cmul n a b = cmul n b a := by
  induction n with
  | zero => intro a b; exact mulC _ _
  | succ n ih => intro a b; rw [cmul, cmul_last, ih, mulC, addC]
theorem cmul_smul (c : α) (n : Nat) : ∀ (a b : Ser α), cmul n (fun i => c * a i) b = c * cmul n a b := by
  induction n with
  | zero => intro a b; exact mulA _ _ _
  | succ n ih =>
    intro a b
    have := ih (sh a) b
    simp only [cmul, mulD]
    rw [← this, mulA]; rfl
theorem cmul_addl (n : Nat) (a b c : Ser α) : cmul n (fun i => a i + b i) c = cmul n a c + cmul n b c := by
  rw [cmul_comm n (fun i => a i + b i) c, cmul_add, cmul_comm n c a, cmul_comm n c b]
theorem cmul_assoc (n : Nat) : ∀ (a b c : Ser α), cmul n (fun i => cmul i a b) c = cmul n a (fun i => cmul i b c) := by
  induction n with
  | zero => intro a b c; exact mulA _ _ _
  | succ n ih =>
    intro a b c
    have e : sh (fun i => cmul i a b) = fun i => a 0 * sh b i + cmul i (sh a) b := rfl
    simp only [cmul]
    rw [e, cmul_addl, cmul_smul, ih, mulD]
    show a 0 * b 0 * c (n + 1) + _ = _
    rw [mulA]; ac_rfl
def sOf (k : Int) : Ser α := fun n => if n = 0 then ofI k else ofI 0
theorem cmul_of (k : Int) : ∀ (n : Nat) (a : Ser α), cmul n a (sOf k) = a n * ofI k := by
  intro n
  induction n with
  | zero => intro a; rfl
  | succ n ih =>
    intro a
    rw [cmul, ih]
    show a 0 * ofI 0 + a (n + 1) * ofI k = _
    rw [mul0, zadd]
instance : CR (Ser α) where
  add := fun a b n => a n + b n
  mul := fun a b n => cmul n a b
  ofI := sOf
  addC := fun a b => funext fun n => addC _ _
  addA := fun a b c => funext fun n => addA _ _ _
  add0 := fun a => funext fun n => by show a n + (if n = 0 then ofI 0 else ofI 0) = a n; rw [ite_self, add0]
  mulC := fun a b => funext fun n => cmul_comm n a b
  mulA := fun a b c => funext fun n => cmul_assoc n a b c
  mul1 := fun a => funext fun n => by show cmul n a (sOf 1) = a n; rw [cmul_of, mul1]
  mulD := fun a b c => funext fun n => cmul_add n a b c
  mul0 := fun a => funext fun n => by show cmul n a (sOf 0) = if n = 0 then ofI 0 else ofI 0; rw [cmul_of, mul0, ite_self]
  ofAdd := fun a b => funext fun n => by
    show (if n = 0 then (ofI (a + b) : α) else ofI 0) = (if n = 0 then ofI a else ofI 0) + (if n = 0 then ofI b else ofI 0)
    split
    · exact ofAdd _ _
    · rw [add0]
  ofMul := fun a b => funext fun n => by
    show (if n = 0 then (ofI (a * b) : α) else ofI 0) = cmul n (sOf a) (sOf b)
    rw [cmul_of]
    show (if n = 0 then (ofI (a * b) : α) else ofI 0) = (if n = 0 then ofI a else ofI 0) * ofI b
    split
    · exact ofMul _ _
    · rw [zmul]
theorem ser_add (a b : Ser α) (n : Nat) : (a + b) n = a n + b n := rfl
end
structure Cg (α : Type) [CR α] where
  r : α → α → Prop
  refl : ∀ a, r a a
  symm : ∀ {a b}, r a b → r b a
  trans : ∀ {a b c}, r a b → r b c → r a c
  add : ∀ {a b c d}, r a b → r c d → r (a + c) (b + d)
  mul : ∀ {a b c d}, r a b → r c d → r (a * c) (b * d)
  of : ∀ {a b : Int}, a % 10007 = b % 10007 → r (ofI a) (ofI b)
section
variable {α : Type} [CR α]
end
end Go.Proofs.Ytmojbncbbnjblaa


namespace Go.Proofs.Ytmojbncbbnjblaa
open CR
set_option linter.unusedVariables false
set_option linter.unusedSimpArgs false
set_option maxHeartbeats 1000000
structure WOk (n : Nat) (B : Int) (m : Mon) : Prop where
  num : isN m.1
  len : m.2.length = n
  pw : ∀ x ∈ m.2, 0 ≤ x ∧ x ≤ B
theorem WOk.le {n : Nat} {B C : Int} {m : Mon} (h : WOk n B m) (hBC : B ≤ C) : WOk n C m := ⟨h.num, h.len, fun x hx => ⟨(h.pw x hx).1, Int.le_trans (h.pw x hx).2 hBC⟩⟩
theorem WOk.get {n : Nat} {B : Int} {m : Mon} (h : WOk n B m) (hB : 0 ≤ B) (k : Nat) : 0 ≤ m.2[k]?.getD 0 ∧ m.2[k]?.getD 0 ≤ B := by
  rcases Nat.lt_or_ge k m.2.length with hk | hk
  · simp [hk]; exact h.pw _ (List.getElem_mem hk)
  · simp [hk]; exact hB
section
variable {α : Type} [CR α]
theorem Cg.eq (c : Cg α) {a b : α} (h : a = b) : c.r a b := by rw [h]; exact c.refl _
def LOk (n : Nat) (L : List Mon) : Prop := ∀ m ∈ L, m.2.length = n ∧ ∀ x ∈ m.2, 0 ≤ x
theorem LOk.tl {n : Nat} {m : Mon} {L : List Mon} (h : LOk n (m :: L)) : LOk n L := fun a ha => h a (by simp [ha])
theorem LOk.hd {n : Nat} {m : Mon} {L : List Mon} (h : LOk n (m :: L)) : m.2.length = n ∧ ∀ x ∈ m.2, 0 ≤ x := h m (by simp)
end
end Go.Proofs.Ytmojbncbbnjblaa


namespace Go.Proofs.Ytmojbncbbnjblaa
open Go.Abs
set_option linter.unusedVariables false
set_option linter.unusedSimpArgs false
set_option maxHeartbeats 1000000
theorem WOk.low {n i : Nat} {B : Int} {m : Mon} (h : WOk n B m) (hi : i < n) (hp : 0 < m.2[i]?.getD 0) : WOk n B (m.1 * m.2[i]?.getD 0 % 10007, m.2.set i (m.2[i]?.getD 0 - 1)) := by
  have hl := h.len
  refine ⟨isN_mod _, by simpa using hl, fun x hx => ?_⟩
  rcases List.mem_or_eq_of_mem_set hx with hx | rfl
  · exact h.pw x hx
  · have hm : m.2[i]?.getD 0 ∈ m.2 := by
      rw [List.getElem?_eq_getElem (by omega), Option.getD_some]; exact List.getElem_mem _
    have := h.pw _ hm
    omega
end Go.Proofs.Ytmojbncbbnjblaa


namespace Go.Proofs.Ytmojbncbbnjblaa
open Go.Abs
set_option linter.unusedVariables false
set_option linter.unusedSimpArgs false
set_option maxHeartbeats 1000000
theorem omat_app (A C : List (List Int)) : omat (A ++ C) = omat A ++ omat C := by simp [omat]
theorem omat_one (r : List Int) : omat [r] = [.own 2 r.length (avs r)] := rfl
theorem omat_nil : omat [] = [] := rfl
end Go.Proofs.Ytmojbncbbnjblaa


namespace Go.Proofs.Ytmojbncbbnjblaa
open Go.Abs
set_option linter.unusedVariables false
set_option linter.unusedSimpArgs false
set_option maxHeartbeats 1000000
end Go.Proofs.Ytmojbncbbnjblaa


namespace Go.Proofs.Ytmojbncbbnjblaa
open Go.Abs
set_option linter.unusedVariables false
set_option linter.unusedSimpArgs false
set_option maxHeartbeats 4000000
def plusS (a b : List Int) (k : Int) : List Int := tb (fun i => (a[i]?.getD 0 + k % 10007 * b[i]?.getD 0) % 10007) a.length
@[simp] theorem plusS_len (a b : List Int) (k : Int) : (plusS a b k).length = a.length := by simp [plusS]
theorem plusS_N (a b : List Int) (k : Int) : Ns (plusS a b k) := tb_N fun i _ => isN_mod _
def scalS (a : List Int) (k : Int) : List Int := tb (fun i => a[i]?.getD 0 * (k % 10007) % 10007) a.length
@[simp] theorem scalS_len (a : List Int) (k : Int) : (scalS a k).length = a.length := by simp [scalS]
theorem scalS_N (a : List Int) (k : Int) : Ns (scalS a k) := tb_N fun i _ => isN_mod _
theorem plus_c (a b : List Int) (k : Int) (ha : Ns a) (hb : Ns b) (hk : fits k) (hl : a.length ≤ 1048576) (hab : a.length ≤ b.length) :
    Con Try.prog 69 [.sl a.length (avs a), .sl b.length (avs b), .int k] (.own 2 a.length (avs (plusS a b k))) := by
  refine con_of_vc Try.mixed ⟨10, [], [], []⟩ Try.func69 (by decide) rfl (by simp) (by decide) (by simp [freshOK, freshL, go_sem]) ?_
  rw [Try.ntmps69]
  simp [go_sem]
  refine loop_inv (7 :: 8 :: 9 :: List.range' 13 19) (fun i : Nat => [(7, .own 2 i (avs (tb (fun i => (a[i]?.getD 0 + k % 10007 * b[i]?.getD 0) % 10007) i))), (13, .int i)]) (fun i => i ≤ a.length) (fun i => a.length - i) 0 (by simp) (by simp [go_sem]) (by simp [go_sem]) ?_
  intro i hi
  simp [go_sem]
  refine ⟨fun h => ?_, fun h => ?_⟩ <;> simp at h
  · have h2 : i < b.length := by omega
    have m1 := mul_bound (isN_mod k) (hb.get i)
    have m2 := ha.get i
    have f1 : fits (k % 10007 * b[i]?.getD 0) := ⟨by omega, by omega⟩
    have f2 : fits (a[i]?.getD 0 + k % 10007 * b[i]?.getD 0) := by obtain ⟨x0, x1⟩ := m2; exact ⟨by omega, by omega⟩
    simp [go_sem, avs_drop h, avs_drop h2]
    refine ⟨⟨h, by rintro rfl; simp at h⟩, by kernel_rfl, ?_⟩
    refine CallD.of (num_c _ hk.1 hk.2) (by simp [roots, rootsL]) (by decide) ?_
    simp [go_sem]
    simp [go_sem, avs_drop h, avs_drop h2]
    refine ⟨⟨h2, by rintro rfl; simp at h2⟩, f1, f2, ?_⟩
    refine CallD.of (num_c _ f2.1 f2.2) (by simp [roots, rootsL]) (by decide) ?_
    simp [go_sem]
    refine ⟨by omega, ?_⟩
    refine ⟨by kernel_rfl, ?_⟩
    simp [go_sem]
    exact ⟨by omega, i + 1, by omega, by omega, Off_reset _ _ _ (by simp), by simp [tb_succ, avs_snoc], by omega⟩
  · have e : i = a.length := by omega
    subst e
    simp [go_sem]
    rfl
theorem scaled_c (a : List Int) (k : Int) (ha : Ns a) (hk : fits k) (hl : a.length ≤ 1048576) :
    Con Try.prog 64 [.sl a.length (avs a), .int k] (.own 2 a.length (avs (scalS a k))) := by
  refine con_of_vc Try.mixed ⟨8, [], [], []⟩ Try.func64 (by decide) rfl (by simp) (by decide) (by simp [freshOK, freshL, go_sem]) ?_
  rw [Try.ntmps64]
  simp [go_sem]
  refine loop_inv (5 :: 7 :: List.range' 11 13) (fun i : Nat => [(5, .own 2 i (avs (tb (fun i => a[i]?.getD 0 * (k % 10007) % 10007) i))), (11, .int i)]) (fun i => i ≤ a.length) (fun i => a.length - i) 0 (by simp) (by simp [go_sem]) (by simp [go_sem]) ?_
  intro i hi
  simp [go_sem]
  refine ⟨fun h => ?_, fun h => ?_⟩ <;> simp at h
  · have f1 := mul_fits (ha.get i) (isN_mod k)
    simp [go_sem, avs_drop h]
    refine ⟨⟨h, by rintro rfl; simp at h⟩, ?_⟩
    refine CallVC.of (num_c _ hk.1 hk.2) (by decide) ?_
    simp [go_sem]
    refine ⟨f1, ?_⟩
    refine CallVC.of (num_c _ f1.1 f1.2) (by decide) ?_
    simp [go_sem]
    exact ⟨by omega, by omega, i + 1, by omega, by omega, Off_reset _ _ _ (by simp), by simp [tb_succ, avs_snoc], by omega⟩
  · have e : i = a.length := by omega
    subst e
    simp [go_sem]
    rfl
theorem Clone_c (xs : List Int) (hl : xs.length ≤ 1048576) : Con Try.prog 169 [.sl xs.length (avs xs)] (.own 2 xs.length (avs xs)) := by
  refine con_of_vcN Try.mixed ⟨3, [], [], []⟩ Try.func169 (by decide) rfl (by simp) (by decide) (by simp [freshOK, freshL, go_sem]) ?_
  rw [Try.ntmps169]
  simp [go_sem]
  exact ⟨by omega, by omega⟩
end Go.Proofs.Ytmojbncbbnjblaa


namespace Go.Proofs.Ytmojbncbbnjblaa
open Go.Abs
set_option linter.unusedVariables false
set_option linter.unusedSimpArgs false
set_option maxHeartbeats 1000000
@[go_sem] theorem klW_bor (W : List Nat) (s : Nat) (p : List Nat) : kl W (.bor s p) = if W.contains s then .any else .bor s p := by rw [kl]
@[go_sem] theorem klW_ptr (W : List Nat) (s : Nat) (p : List Nat) (o : Nat) : kl W (.ptr s p o) = if W.contains s then .any else .ptr s p o := by rw [kl]
theorem omat_get {A : List (List Int)} {k : Nat} (h : k < A.length) : (omat A)[k]? = some (.own 2 (A[k]?.getD []).length (avs (A[k]?.getD []))) := by simp [omat, h]
end Go.Proofs.Ytmojbncbbnjblaa


namespace Go.Proofs.Ytmojbncbbnjblaa
open Go.Abs
set_option linter.unusedVariables false
set_option linter.unusedSimpArgs false
set_option maxHeartbeats 1000000
end Go.Proofs.Ytmojbncbbnjblaa


namespace Go.Proofs.Ytmojbncbbnjblaa
open Go.Abs
set_option linter.unusedVariables false
set_option linter.unusedSimpArgs false
set_option maxHeartbeats 1000000
end Go.Proofs.Ytmojbncbbnjblaa


namespace Go.Proofs.Ytmojbncbbnjblaa
open Go.Abs
set_option linter.unusedVariables false
set_option linter.unusedSimpArgs false
set_option maxHeartbeats 1000000
end Go.Proofs.Ytmojbncbbnjblaa


namespace Go.Proofs.Ytmojbncbbnjblaa
open Go.Abs
set_option linter.unusedVariables false
set_option linter.unusedSimpArgs false
set_option maxHeartbeats 1000000
end Go.Proofs.Ytmojbncbbnjblaa


namespace Go.Proofs.Ytmojbncbbnjblaa
open Go.Abs
set_option linter.unusedVariables false
set_option linter.unusedSimpArgs false
set_option maxHeartbeats 1000000
@[simp] theorem mat_frz (A : List (List Int)) : frzL (mat A) = mat A := by
  induction A with
  | nil => rfl
  | cons r A ih => simp only [mat, List.map_cons, frzL] at ih ⊢; rw [ih]; rfl
end Go.Proofs.Ytmojbncbbnjblaa


namespace Go.Proofs.Ytmojbncbbnjblaa
open Go.Abs
set_option linter.unusedVariables false
set_option linter.unusedSimpArgs false
set_option maxHeartbeats 4000000
end Go.Proofs.Ytmojbncbbnjblaa


namespace Go.Proofs.Ytmojbncbbnjblaa
set_option linter.unusedVariables false
set_option linter.unusedSimpArgs false
def okB (t : List Int) (j : Nat) : Bool := decide (1 ≤ t[j]?.getD 0) && decide (t[j]?.getD 0 ≤ t[j - 1]?.getD 0 + 1)
def lv0 (t : List Int) : Bool := decide (0 < t.length) && decide (t[0]?.getD 0 = 0) && (List.range t.length).all (fun j => decide (j = 0) || okB t j)
def lvB (t : List Int) : Bool := lv0 t && decide (t.length ≤ 8)
def brStep (out : List (List Int)) (x : Int) : List (List Int) :=
  let o := if x = 1 then out ++ [[]] else out
  o.set (o.length - 1) (o[o.length - 1]?.getD [] ++ [x - 1])
def brGo (out : List (List Int)) : List Int → List (List Int)
  | [] => out
  | x :: l => brGo (brStep out x) l
def brs (t : List Int) : List (List Int) := brGo [] (t.drop 1)
theorem brGo_app (out : List (List Int)) (l r : List Int) : brGo out (l ++ r) = brGo (brGo out l) r := by
  induction l generalizing out with
  | nil => rfl
  | cons x l ih => exact ih _
theorem brs_take {t : List Int} {i : Nat} (h1 : 1 ≤ i) (h : i < t.length) : brs (t.take (i + 1)) = brStep (brs (t.take i)) (t[i]?.getD 0) := by
  unfold brs
  have e : (t.take (i + 1)).drop 1 = (t.take i).drop 1 ++ [t[i]?.getD 0] := by
    rw [List.take_add_one, List.getElem?_eq_getElem h, Option.toList_some, List.drop_append_of_le_length (by simp; omega)]; rfl
  rw [e, brGo_app]; rfl
def Lv (t : List Int) : Prop := 0 < t.length ∧ t[0]?.getD 0 = 0 ∧ ∀ j, 0 < j → j < t.length → 1 ≤ t[j]?.getD 0 ∧ t[j]?.getD 0 ≤ t[j - 1]?.getD 0 + 1
theorem Lv.le {t : List Int} (h : Lv t) : ∀ j, j < t.length → 0 ≤ t[j]?.getD 0 ∧ t[j]?.getD 0 ≤ j
  | 0, _ => by rw [h.2.1]; omega
  | j + 1, hj => by
    have h1 := h.le j (by omega)
    have h2 := h.2.2 (j + 1) (by omega) hj
    rw [Nat.add_sub_cancel] at h2
    omega
theorem Lv.snoc {t : List Int} {x : Int} (h : Lv t) (h1 : 1 ≤ x) (h2 : x ≤ t[t.length - 1]?.getD 0 + 1) : Lv (t ++ [x]) := by
  obtain ⟨k1, k2, k3⟩ := h
  refine ⟨by simp, by rw [List.getElem?_append_left k1]; exact k2, fun j hj hl => ?_⟩
  simp at hl
  by_cases e : j = t.length
  · subst e
    rw [List.getElem?_append_right (by omega), List.getElem?_append_left (by omega)]
    simp; exact ⟨h1, h2⟩
  · rw [List.getElem?_append_left (by omega), List.getElem?_append_left (by omega)]
    exact k3 j hj (by omega)
theorem Lv_zero : Lv [0] := ⟨by simp, rfl, fun j h1 h2 => by simp at h2; omega⟩
def sumN : List (List Int) → Nat
  | [] => 0
  | b :: l => b.length + sumN l
theorem sumN_app (a b : List (List Int)) : sumN (a ++ b) = sumN a + sumN b := by
  induction a with
  | nil => simp [sumN]
  | cons x a ih => simp [sumN, ih]; omega
theorem sumN_mem {l : List (List Int)} {b : List Int} (h : b ∈ l) : b.length ≤ sumN l := by
  induction l with
  | nil => simp at h
  | cons x l ih =>
    rw [sumN]
    rcases List.mem_cons.1 h with rfl | h
    · omega
    · have := ih h; omega
theorem len_sumN {l : List (List Int)} (h : ∀ b ∈ l, 0 < b.length) : l.length ≤ sumN l := by
  induction l with
  | nil => simp
  | cons x l ih =>
    have h1 := h x (by simp)
    have h2 := ih (fun b hb => h b (by simp [hb]))
    rw [sumN]; simp; omega
def BrI (out : List (List Int)) (p : Int) (n : Nat) : Prop :=
  (∀ b ∈ out, Lv b) ∧ sumN out = n ∧ ((out = [] ∧ p = 0) ∨ ∃ i l, out = i ++ [l] ∧ l[l.length - 1]?.getD 0 = p - 1)
theorem brStep_i {out : List (List Int)} {p x : Int} {n : Nat} (h : BrI out p n) (h1 : 1 ≤ x) (h2 : x ≤ p + 1) : BrI (brStep out x) x (n + 1) ∧ (x ≠ 1 → out ≠ []) := by
  obtain ⟨k1, k2, k3⟩ := h
  by_cases hx : x = 1
  · subst hx
    have e : brStep out 1 = out ++ [[0]] := by
      unfold brStep
      simp only [if_true]
      rw [List.set_append_right _ _ (by simp), List.getElem?_append_right (by simp)]
      simp
    rw [e]
    refine ⟨⟨fun b hb => ?_, by rw [sumN_app, k2]; rfl, .inr ⟨out, [0], rfl, rfl⟩⟩, by simp⟩
    rcases List.mem_append.1 hb with hb | hb
    · exact k1 b hb
    · simp at hb; subst hb; exact Lv_zero
  · rcases k3 with ⟨rfl, rfl⟩ | ⟨i, l, rfl, hl⟩
    · omega
    · have e : brStep (i ++ [l]) x = i ++ [l ++ [x - 1]] := by
        unfold brStep
        simp only [if_neg hx]
        rw [List.set_append_right _ _ (by simp), List.getElem?_append_right (by simp)]
        simp
      rw [e]
      have hLl := k1 l (by simp)
      refine ⟨⟨fun b hb => ?_, ?_, .inr ⟨i, _, rfl, by simp⟩⟩, by simp⟩
      · rcases List.mem_append.1 hb with hb | hb
        · exact k1 b (by simp [hb])
        · simp at hb; subst hb
          exact hLl.snoc (by omega) (by rw [hl]; omega)
      · rw [sumN_app] at k2 ⊢
        simp [sumN] at k2 ⊢; omega
theorem brs_i {t : List Int} (h : Lv t) : ∀ i, 1 ≤ i → i ≤ t.length → BrI (brs (t.take i)) (t[i - 1]?.getD 0) (i - 1)
  | 1, _, _ => by
    have e : brs (t.take 1) = [] := by
      unfold brs
      cases t with
      | nil => rfl
      | cons a t => rfl
    rw [e]
    refine ⟨by simp, rfl, .inl ⟨rfl, ?_⟩⟩
    simpa using h.2.1
  | i + 2, _, hl => by
    have ih := brs_i h (i + 1) (by omega) (by omega)
    have hb := h.2.2 (i + 1) (by omega) (by omega)
    rw [brs_take (by omega) (by omega)]
    exact (brStep_i ih hb.1 hb.2).1
theorem brs_ne {t : List Int} (h : Lv t) {i : Nat} (h1 : 1 ≤ i) (hl : i < t.length) (hx : t[i]?.getD 0 ≠ 1) : brs (t.take i) ≠ [] := by
  have ih := brs_i h i h1 (by omega)
  have hb := h.2.2 i (by omega) hl
  exact (brStep_i ih hb.1 hb.2).2 hx
theorem brs_ok {t : List Int} (h : Lv t) {b : List Int} (hb : b ∈ brs t) : Lv b ∧ b.length < t.length := by
  have hl := h.1
  have := brs_i h t.length (by omega) (by omega)
  rw [List.take_length] at this
  obtain ⟨k1, k2, _⟩ := this
  have := sumN_mem hb
  exact ⟨k1 b hb, by omega⟩
theorem brs_many {t : List Int} (h : Lv t) {i : Nat} (h1 : 1 ≤ i) (hl : i ≤ t.length) : (brs (t.take i)).length < i := by
  obtain ⟨k1, k2, _⟩ := brs_i h i h1 hl
  have := len_sumN (fun b hb => (k1 b hb).1)
  omega
end Go.Proofs.Ytmojbncbbnjblaa


namespace Go.Proofs.Ytmojbncbbnjblaa
open Go.Abs
set_option linter.unusedVariables false
set_option linter.unusedSimpArgs false
set_option maxHeartbeats 4000000
end Go.Proofs.Ytmojbncbbnjblaa


namespace Go.Proofs.Ytmojbncbbnjblaa
open Go.Abs
set_option linter.unusedVariables false
set_option linter.unusedSimpArgs false
set_option maxHeartbeats 4000000
theorem omat_set (A : List (List Int)) (k : Nat) (l : List Int) : (omat A).set k (.own 2 l.length (avs l)) = omat (A.set k l) := by
  simp [omat, List.map_set]
theorem omat_last {A : List (List Int)} (h : A ≠ []) : (omat A)[A.length - 1]? = some (.own 2 (A[A.length - 1]?.getD []).length (avs (A[A.length - 1]?.getD []))) := by
  have hl : A.length - 1 < A.length := by have := List.length_pos_iff.2 h; omega
  simp [omat, hl]
theorem brStep_one (A : List (List Int)) : brStep A 1 = A ++ [[0]] := by
  unfold brStep
  simp only [if_true]
  rw [List.set_append_right _ _ (by simp), List.getElem?_append_right (by simp)]
  simp
theorem brStep_more {A : List (List Int)} {x : Int} (h : x ≠ 1) : brStep A x = A.set (A.length - 1) (A[A.length - 1]?.getD [] ++ [x - 1]) := by
  unfold brStep; simp only [if_neg h]
set_option maxRecDepth 100000 in
theorem branchesOf_c (t : List Int) (hl : t.length ≤ 1048576) (ht : Lv t) : Con Try.prog 186 [.sl t.length (avs t)] (.own 27 (brs t).length (omat (brs t))) := by
  have ht1 := ht.1
  have ed : List.take (t.length - 1) (List.drop 1 (avs t)) = avs (t.drop 1) := by
    rw [List.take_of_length_le (by simp)]; simp [avs]
  refine con_of_vc Try.mixed ⟨6, [], [], []⟩ Try.func186 (by decide) rfl (by simp) (by decide) (by simp [freshOK, freshL, go_sem]) ?_
  rw [Try.ntmps186]
  simp [go_sem]
  refine ⟨by omega, ?_⟩
  refine loop_inv (3 :: 5 :: List.range' 10 25) (fun i : Nat => [(3, .own 27 (brs (t.take (i + 1))).length (omat (brs (t.take (i + 1))))), (10, .int i)]) (fun i => i + 1 ≤ t.length) (fun i => t.length - i) 0 (by omega) (by simp [go_sem]; cases t <;> simp [brs, brGo, omat_nil]) (by simp [go_sem]) ?_
  rintro i hi
  simp [go_sem]
  refine ⟨fun h => ?_, fun h => ?_⟩ <;> simp at h
  · have hif : i + 1 < t.length := by omega
    have hda : List.drop i (List.take (t.length - 1) (avs t).tail) = .val (.int .i64 (t[i + 1]?.getD 0)) :: avs (t.drop (i + 2)) := by
      rw [List.take_of_length_le (by simp), ← List.drop_one, List.drop_drop, Nat.add_comm 1 i, avs_drop hif]; simp
    have hnn : ¬ (avs t).tail = [] := fun e => by have := congrArg List.length e; simp at this; omega
    have hn1 : ¬ t.length - 1 = 0 := by omega
    have hn2 : i < t.length - 1 := by omega
    have hb := brs_take (i := i + 1) (by omega) hif
    have hm := brs_many ht (i := i + 1) (by omega) (by omega)
    have hi2 := brs_i ht (i + 1) (by omega) (by omega)
    have hok := ht.2.2 (i + 1) (by omega) hif
    have hle := ht.le (i + 1) hif
    by_cases hx : t[i + 1]?.getD 0 = 1
    · rw [hx, brStep_one] at hb
      have e1 : (brs (t.take (i + 1))).length + 1 = (brs (t.take (i + 1 + 1))).length := by rw [hb]; simp
      have e2 : omat (brs (t.take (i + 1))) ++ [AV.own 2 1 [AV.val (Value.int IntKind.i64 0)]] = omat (brs (t.take (i + 1 + 1))) := by rw [hb, omat_app, omat_one]; rfl
      simp [go_sem, hda, hnn, hn1, hn2, hx]
      exact ⟨⟨by omega, by omega⟩, by omega, by omega, by omega, i + 1, by omega, by omega, Off_reset _ _ _ (by simp), ⟨e1, e2⟩, by omega⟩
    · have hne := brs_ne ht (i := i + 1) (by omega) hif hx
      have hla := omat_last hne
      rw [brStep_more hx] at hb
      generalize hO : brs (t.take (i + 1)) = O at *
      have hOl : 1 ≤ O.length := List.length_pos_iff.2 hne
      have hlen : (O[O.length - 1]?.getD []).length ≤ 1048576 := by
        have := sumN_mem (l := O) (b := O[O.length - 1]?.getD []) (by simp [show O.length - 1 < O.length by omega])
        have := hi2.2.1
        omega
      have hsn := omat_set O (O.length - 1) (O[O.length - 1]?.getD [] ++ [t[i + 1]?.getD 0 - 1])
      rw [← hb] at hsn
      generalize O[O.length - 1]?.getD [] = l at *
      have e1 : O.length = (brs (t.take (i + 1 + 1))).length := by rw [hb]; simp
      rw [avs_snoc, List.length_append, List.length_singleton] at hsn
      simp [go_sem, hda, hnn, hn1, hn2, hx, hla]
      repeat' apply And.intro
      all_goals first
        | omega
        | exact ⟨i + 1, by omega, by omega, Off_reset _ _ _ (by simp), ⟨e1, hsn⟩, by omega⟩
  · simp [go_sem]
    have e : t.take (i + 1) = t := List.take_of_length_le (by omega)
    rw [e]
    simp
end Go.Proofs.Ytmojbncbbnjblaa


namespace Go.Proofs.Ytmojbncbbnjblaa
open Go.Abs
set_option linter.unusedVariables false
set_option linter.unusedSimpArgs false
set_option maxHeartbeats 4000000
theorem brs_cnt {t : List Int} (h : Lv t) : (brs t).length < t.length := by
  have h1 := h.1
  have := brs_many h (i := t.length) (by omega) (by omega)
  rwa [List.take_length] at this
end Go.Proofs.Ytmojbncbbnjblaa


namespace Go.Proofs.Ytmojbncbbnjblaa
open Go.Abs
set_option linter.unusedVariables false
set_option linter.unusedSimpArgs false
set_option maxHeartbeats 1000000
theorem omat_range_succ (g : Nat → List Int) (i : Nat) : omat ((List.range (i + 1)).map g) = omat ((List.range i).map g) ++ [.own 2 (g i).length (avs (g i))] := by
  rw [List.range_succ, List.map_append, omat_app]; rfl
end Go.Proofs.Ytmojbncbbnjblaa


namespace Go.Proofs.Ytmojbncbbnjblaa
open Go.Abs
set_option linter.unusedVariables false
set_option linter.unusedSimpArgs false
set_option maxHeartbeats 1000000
def frI (p q : Int) : Int := p % 10007 * pw (q % 10007) 10005 % 10007
theorem frI_N (p q : Int) : isN (frI p q) := isN_mod _
def sqL (s : Nat) (q : Int) (l : List Int) : List (List Int) := (List.range s).map fun i => tb (fun k => frI (l[i * s + k]?.getD 0) q) s
def rwL (q : Int) (l : List Int) : List Int := tb (fun i => frI (l[i]?.getD 0) q) l.length
theorem sq_lt {i k s : Nat} (hi : i < s) (hk : k < s) : i * s + k < s * s := by
  have h : (i + 1) * s ≤ s * s := Nat.mul_le_mul_right s (by omega)
  rw [Nat.succ_mul] at h
  omega
theorem fits_get {l : List Int} (h : ∀ x ∈ l, fits x) (k : Nat) : fits (l[k]?.getD 0) := by
  rcases Nat.lt_or_ge k l.length with hk | hk
  · exact h _ (by simp [hk])
  · rw [List.getElem?_eq_none hk]; exact ⟨by simp, by simp⟩
set_option maxRecDepth 100000 in
theorem l09Square_c (s : Nat) (q : Int) (l : List Int) (hs : s ≤ 8) (hl : l.length = s * s) (hq : fits q) (hN : ∀ x ∈ l, fits x) :
    Con Try.prog 198 [.int s, .int q, .sl l.length (avs l)] (.own 27 s (omat (sqL s q l))) := by
  have hd : sqL s q l = (List.range s).map fun i => tb (fun k => frI (l[i * s + k]?.getD 0) q) s := rfl
  have h64 : s * s ≤ 64 := by
    have := Nat.mul_le_mul hs hs
    omega
  rw [hd]
  refine con_of_vc Try.mixed ⟨11, [], [], []⟩ Try.func198 (by decide) rfl (by simp) (by decide) (by simp [freshOK, freshL, go_sem]) ?_
  rw [Try.ntmps198]
  simp [go_sem]
  refine loop_inv ([7, 8, 9, 10] ++ List.range' 12 28) (fun i : Nat => [(7, .own 27 i (omat ((List.range i).map fun i => tb (fun k => frI (l[i * s + k]?.getD 0) q) s))), (8, .int i)]) (fun i => i ≤ s) (fun i => s - i) 0 (by simp) (by simp [go_sem, omat]) (by simp [go_sem]) ?_
  intro i hi
  by_cases his : i < s
  · have hii : (i : Int) < s := by omega
    have os := omat_range_succ (fun i => tb (fun k => frI (l[i * s + k]?.getD 0) q) s) i
    rw [tb_len] at os
    simp [go_sem, hii]
    refine loop_inv ([9, 10] ++ List.range' 18 18) (fun k : Nat => [(9, .own 2 k (avs (tb (fun k => frI (l[i * s + k]?.getD 0) q) k))), (10, .int k)]) (fun k => k ≤ s) (fun k => s - k) 0 (by simp) (by simp [go_sem]) (by simp [go_sem]) ?_
    intro k hk
    by_cases hks : k < s
    · have hki : (k : Int) < s := by omega
      have hx : i * s + k < l.length := by rw [hl]; exact sq_lt his hks
      have ec : (i : Int) * (s : Int) = ((i * s : Nat) : Int) := by simp
      have hm : i * s ≤ 64 := by omega
      have ts := tb_succ (fun k => frI (l[i * s + k]?.getD 0) q) k
      have fx := fits_get hN (i * s + k)
      have cF := l01Frac_c (l[i * s + k]?.getD 0) q fx hq
      have fe : frI (l[i * s + k]?.getD 0) q = l[i * s + k]?.getD 0 % 10007 * pw (q % 10007) 10005 % 10007 := rfl
      rw [← fe] at cF
      have dr := avs_drop hx
      have ne : ¬ l = [] := by rintro rfl; simp at hx
      generalize hz : i * s = z at *
      rw [List.getD_eq_getElem?_getD] at dr
      generalize l[z + k]?.getD 0 = x at *
      have et : ((z : Int) + (k : Int)).toNat = z + k := by omega
      simp [go_sem, hki, ec, et, dr]
      refine ⟨by omega, ⟨by omega, by omega⟩, ⟨by omega, by omega, ne⟩, ?_⟩
      refine CallVC.of (cF) (by decide) ?_
      simp [go_sem]
      exact ⟨by omega, by omega, k + 1, by omega, by omega, Off_reset _ _ _ (by simp), by rw [ts, avs_snoc]; exact ⟨rfl, rfl⟩, by omega⟩
    · have e : k = s := by omega
      subst e
      simp [go_sem]
      exact ⟨⟨by omega, by omega⟩, by omega, i + 1, by omega, by omega, (Off.reset (by intro x hx; simp at hx ⊢; omega) (by simp) (by simp [go_sem, Off_reset])), by rw [os]; exact ⟨rfl, rfl⟩, by omega⟩
  · have e : i = s := by omega
    subst e
    simp [go_sem]
set_option maxRecDepth 100000 in
theorem l09Row_c (q : Int) (l : List Int) (hl : l.length ≤ 64) (hq : fits q) (hN : ∀ x ∈ l, fits x) :
    Con Try.prog 199 [.int q, .sl l.length (avs l)] (.own 2 l.length (avs (rwL q l))) := by
  have hd : rwL q l = tb (fun i => frI (l[i]?.getD 0) q) l.length := rfl
  rw [hd]
  refine con_of_vc Try.mixed ⟨7, [], [], []⟩ Try.func199 (by decide) rfl (by simp) (by decide) (by simp [freshOK, freshL, go_sem]) ?_
  rw [Try.ntmps199]
  simp [go_sem]
  refine loop_inv ([5, 6] ++ List.range' 8 15) (fun i : Nat => [(5, .own 2 i (avs (tb (fun i => frI (l[i]?.getD 0) q) i))), (6, .int i)]) (fun i => i ≤ l.length) (fun i => l.length - i) 0 (by simp) (by simp [go_sem]) (by simp [go_sem]) ?_
  intro i hi
  by_cases hil : i < l.length
  · have hii : (i : Int) < l.length := by omega
    have ts := tb_succ (fun i => frI (l[i]?.getD 0) q) i
    have fx := fits_get hN i
    have cF := l01Frac_c (l[i]?.getD 0) q fx hq
    have fe : frI (l[i]?.getD 0) q = l[i]?.getD 0 % 10007 * pw (q % 10007) 10005 % 10007 := rfl
    rw [← fe] at cF
    have dr := avs_drop hil
    have ne : ¬ l = [] := by rintro rfl; simp at hil
    rw [List.getD_eq_getElem?_getD] at dr
    generalize l[i]?.getD 0 = x at *
    simp [go_sem, hii, dr]
    refine ⟨ne, ?_⟩
    refine CallVC.of (cF) (by decide) ?_
    simp [go_sem]
    exact ⟨by omega, by omega, i + 1, by omega, by omega, Off_reset _ _ _ (by simp), by rw [ts, avs_snoc]; exact ⟨rfl, rfl⟩, by omega⟩
  · have e : i = l.length := by omega
    simp [go_sem, e]
set_option maxRecDepth 100000 in
theorem l01Root_r (a k : Int) (hk : 0 ≤ k) (hk2 : k ≤ 9223372036854775807) : RCon Try.prog 200 [.int a, .int k] (fun r o => o = [.any, .any] ∧ ∃ x : Int, -1 ≤ x ∧ x ≤ 10006 ∧ r = .int x) := by
  refine rcon_of_vcH Try.mixed ⟨6, [], [], []⟩ [] Try.func200 (by decide) rfl (by simp) (by simp) (by decide) ?_
  rw [Try.ntmps200]
  simp [go_sem]
  refine loop_inv (List.range' 4 12) (fun i : Nat => [(5, .int i)]) (fun i => i ≤ 10007) (fun i => 10007 - i) 0 (by simp) (by simp [go_sem]) (by simp [go_sem]) ?_
  intro i hi
  by_cases h : i < 10007
  · have hii : (i : Int) < 10007 := by omega
    have cP := l01Pow_c i k ⟨by omega, by omega⟩ hk hk2
    simp [go_sem, hii]
    refine CallVC.of (cP) (by decide) ?_
    simp [go_sem]
    refine ⟨fun h => ?_, fun h => ?_⟩ <;> simp at h
    · simp [go_sem]
      omega
    · simp [go_sem]
      exact ⟨⟨by omega, by omega⟩, i + 1, by omega, by omega, Off_reset _ _ _ (by simp), by omega⟩
  · have hii : ¬ (i : Int) < 10007 := by omega
    simp [go_sem, hii]
end Go.Proofs.Ytmojbncbbnjblaa


namespace Go.Proofs.Ytmojbncbbnjblaa
open Go.Abs
set_option linter.unusedVariables false
set_option linter.unusedSimpArgs false
set_option maxHeartbeats 1000000
end Go.Proofs.Ytmojbncbbnjblaa


namespace Go.Proofs.Ytmojbncbbnjblaa
open Go.Abs
set_option linter.unusedVariables false
set_option linter.unusedSimpArgs false
set_option maxHeartbeats 4000000
theorem sqL_tab {s : Nat} (q p : Int) (l b : List Int) (h1 : 1 ≤ s) (h8 : s ≤ 8) (hb : b.length = s) : Tab (sqL s q l) (rwL p b) := by
  have bl : (rwL p b).length = s := by simp [rwL, hb]
  refine ⟨by omega, by omega, by rw [bl]; simp [sqL], tb_N fun k _ => frI_N _ _, fun r hr => ?_⟩
  obtain ⟨i, _, rfl⟩ := List.mem_map.1 hr
  exact ⟨by rw [bl]; simp, tb_N fun k _ => frI_N _ _⟩
theorem sqL_len (s : Nat) (q : Int) (l : List Int) : (sqL s q l).length = s := by simp [sqL]
theorem rwL_len (p : Int) (b : List Int) : (rwL p b).length = b.length := by simp [rwL]
def Tb8 (A : List (List Int)) (B : List Int) : Prop := Tab A B
theorem named_fin (s : Nat) (q p : Int) (l b : List Int) (h1 : 1 ≤ s) (h8 : s ≤ 8) (hb : b.length = s) :
    ∃ (A : List (List Int)) (B : List Int), Tb8 A B ∧ (s = A.length ∧ omat (sqL s q l) = omat A) ∧ s = B.length ∧ rwL p b = B :=
  ⟨sqL s q l, rwL p b, sqL_tab q p l b h1 h8 hb, ⟨(sqL_len s q l).symm, rfl⟩, by rw [rwL_len]; exact hb.symm, rfl⟩
set_option maxRecDepth 100000 in
theorem l09Named_r (nm : ByteArray) : RCon Try.prog 182 [.val (.string nm)] (fun r o => o = [.any] ∧ ∃ (A : List (List Int)) (B : List Int), Tb8 A B ∧ r = .agg [.own 27 A.length (omat A), .own 2 B.length (avs B)]) := by
  have sq := fun (s : Nat) (q : Int) (l : List Int) (h1 : s ≤ 8) (h2 : l.length = s * s) (h3 : fits q) (h4 : ∀ x ∈ l, fits x) => l09Square_c s q l h1 h2 h3 h4
  have rw_ := fun (q : Int) (l : List Int) (h1 : l.length ≤ 64) (h3 : fits q) (h4 : ∀ x ∈ l, fits x) => l09Row_c q l h1 h3 h4
  have f1 : fits 1 := ⟨by omega, by omega⟩
  have ff : ∀ n : Int, -100 ≤ n → n ≤ 100 → fits n := fun n h1 h2 => ⟨by omega, by omega⟩
  refine rcon_of_vcH Try.mixed ⟨5, [], [2000000 + 200], []⟩ [] Try.func182 (by decide) rfl (by simp) (by simp) (by decide) ?_
  rw [Try.ntmps182]
  simp [go_sem]
  refine ⟨fun h => ?_, fun h => ?_⟩
  · simp [go_sem]
    refine CallVC.of (sq 1 1 [0] (by omega) rfl (ff _ (by omega) (by omega)) (by simp [fits])) (by decide) ?_
    simp [go_sem]
    refine CallVC.of (rw_ 1 [1] (by simp) (ff _ (by omega) (by omega)) (by simp [fits])) (by decide) ?_
    simp [go_sem]
    exact named_fin 1 1 1 [0] [1] (by omega) (by omega) rfl
  simp [go_sem]
  refine ⟨fun h => ?_, fun h => ?_⟩
  · simp [go_sem]
    refine ⟨_, l01Root_r 3 2 (by omega) (by omega), ?_⟩
    rintro _ _ ⟨rfl, x, hx1, hx2, rfl⟩
    have n6 := frI_N 1 6
    have n4 := frI_N 1 4
    have c6 := l01Frac_c 1 6 f1 (ff _ (by omega) (by omega))
    have c4 := l01Frac_c 1 4 f1 (ff _ (by omega) (by omega))
    have e6 : frI 1 6 = 1 % 10007 * pw (6 % 10007) 10005 % 10007 := rfl
    have e4 : frI 1 4 = 1 % 10007 * pw (4 % 10007) 10005 % 10007 := rfl
    rw [← e6] at c6
    rw [← e4] at c4
    generalize frI 1 6 = y at *
    generalize frI 1 4 = z at *
    have fm : fits (x * y) := by
      have h1 : x * y ≤ 10006 * y := Int.mul_le_mul_of_nonneg_right hx2 n6.1
      have h2 : -1 * y ≤ x * y := Int.mul_le_mul_of_nonneg_right hx1 n6.1
      have := n6.1
      have := n6.2
      exact ⟨by omega, by omega⟩
    have cm := l01Mul_c x y fm
    have nm' : isN (x * y % 10007) := isN_mod _
    generalize x * y % 10007 = u at *
    have fs : fits (z - u) := sub_fits n4 nm'
    have fa : fits (z + u) := add_fits n4 nm'
    have cs := l01Sub_c z u fs
    have ca := l01Add_c z u fa
    have ns : isN ((z - u) % 10007) := isN_mod _
    have na : isN ((z + u) % 10007) := isN_mod _
    generalize (z - u) % 10007 = v at *
    generalize (z + u) % 10007 = w at *
    simp [go_sem]
    refine CallVC.of (c6) (by decide) ?_
    simp [go_sem]
    refine CallVC.of (cm) (by decide) ?_
    simp [go_sem]
    refine CallVC.of (c4) (by decide) ?_
    simp [go_sem]
    refine CallVC.of (cs) (by decide) ?_
    simp [go_sem]
    refine CallVC.of (ca) (by decide) ?_
    simp [go_sem]
    refine CallVC.of (rw_ 2 [1, 1] (by simp) (ff _ (by omega) (by omega)) (by simp [fits])) (by decide) ?_
    simp [go_sem]
    have hT : Tab [[z, v], [w, z]] (rwL 2 [1, 1]) := by
      refine ⟨by simp [rwL], by simp [rwL], by simp [rwL], tb_N fun k _ => frI_N _ _, fun r hr => ?_⟩
      simp at hr
      rcases hr with rfl | rfl
      · refine ⟨by simp [rwL], fun x hx => ?_⟩
        simp at hx
        rcases hx with rfl | rfl <;> assumption
      · refine ⟨by simp [rwL], fun x hx => ?_⟩
        simp at hx
        rcases hx with rfl | rfl <;> assumption
    exact ⟨[[z, v], [w, z]], rwL 2 [1, 1], hT, by simp [omat, avs], by simp [rwL]⟩
  simp [go_sem]
  refine ⟨fun h => ?_, fun h => ?_⟩
  · simp [go_sem]
    refine CallVC.of (sq 2 1 [0, 0, 1, 0] (by omega) rfl (ff _ (by omega) (by omega)) (by simp [fits])) (by decide) ?_
    simp [go_sem]
    refine CallVC.of (rw_ 2 [1, 1] (by simp) (ff _ (by omega) (by omega)) (by simp [fits])) (by decide) ?_
    simp [go_sem]
    exact named_fin 2 1 2 [0, 0, 1, 0] [1, 1] (by omega) (by omega) rfl
  simp [go_sem]
  refine ⟨fun h => ?_, fun h => ?_⟩
  · simp [go_sem]
    refine CallVC.of (sq 1 1 [1] (by omega) rfl (ff _ (by omega) (by omega)) (by simp [fits])) (by decide) ?_
    simp [go_sem]
    refine CallVC.of (rw_ 1 [1] (by simp) (ff _ (by omega) (by omega)) (by simp [fits])) (by decide) ?_
    simp [go_sem]
    exact named_fin 1 1 1 [1] [1] (by omega) (by omega) rfl
  simp [go_sem]
  refine ⟨fun h => ?_, fun h => ?_⟩
  · simp [go_sem]
    refine CallVC.of (sq 3 2 [0, 0, 0, 1, 0, 0, -2, 4, 0] (by omega) rfl (ff _ (by omega) (by omega)) (by simp [fits])) (by decide) ?_
    simp [go_sem]
    refine CallVC.of (rw_ 6 [1, 4, 1] (by simp) (ff _ (by omega) (by omega)) (by simp [fits])) (by decide) ?_
    simp [go_sem]
    exact named_fin 3 2 6 [0, 0, 0, 1, 0, 0, -2, 4, 0] [1, 4, 1] (by omega) (by omega) rfl
  simp [go_sem]
  refine ⟨fun h => ?_, fun h => ?_⟩
  · simp [go_sem]
    refine CallVC.of (sq 3 24 [0, 0, 0, 5, 8, -1, 4, 16, 4] (by omega) rfl (ff _ (by omega) (by omega)) (by simp [fits])) (by decide) ?_
    simp [go_sem]
    refine CallVC.of (rw_ 6 [1, 4, 1] (by simp) (ff _ (by omega) (by omega)) (by simp [fits])) (by decide) ?_
    simp [go_sem]
    exact named_fin 3 24 6 [0, 0, 0, 5, 8, -1, 4, 16, 4] [1, 4, 1] (by omega) (by omega) rfl
  simp [go_sem]
  refine ⟨fun h => ?_, fun h => ?_⟩
  · simp [go_sem]
    refine CallVC.of (sq 1 2 [1] (by omega) rfl (ff _ (by omega) (by omega)) (by simp [fits])) (by decide) ?_
    simp [go_sem]
    refine CallVC.of (rw_ 1 [1] (by simp) (ff _ (by omega) (by omega)) (by simp [fits])) (by decide) ?_
    simp [go_sem]
    exact named_fin 1 2 1 [1] [1] (by omega) (by omega) rfl
  simp [go_sem]
  refine ⟨fun h => ?_, fun h => ?_⟩
  · simp [go_sem]
    refine CallVC.of (sq 2 2 [0, 0, 1, 0] (by omega) rfl (ff _ (by omega) (by omega)) (by simp [fits])) (by decide) ?_
    simp [go_sem]
    refine CallVC.of (rw_ 1 [0, 1] (by simp) (ff _ (by omega) (by omega)) (by simp [fits])) (by decide) ?_
    simp [go_sem]
    exact named_fin 2 2 1 [0, 0, 1, 0] [0, 1] (by omega) (by omega) rfl
  simp [go_sem]
  refine ⟨fun h => ?_, fun h => ?_⟩
  · simp [go_sem]
    refine CallVC.of (sq 2 12 [5, -1, 9, 3] (by omega) rfl (ff _ (by omega) (by omega)) (by simp [fits])) (by decide) ?_
    simp [go_sem]
    refine CallVC.of (rw_ 4 [3, 1] (by simp) (ff _ (by omega) (by omega)) (by simp [fits])) (by decide) ?_
    simp [go_sem]
    exact named_fin 2 12 4 [5, -1, 9, 3] [3, 1] (by omega) (by omega) rfl
  simp [go_sem]
  refine ⟨fun h => ?_, fun h => ?_⟩
  · simp [go_sem]
    refine CallVC.of (sq 2 3 [0, 0, 2, 0] (by omega) rfl (ff _ (by omega) (by omega)) (by simp [fits])) (by decide) ?_
    simp [go_sem]
    refine CallVC.of (rw_ 4 [1, 3] (by simp) (ff _ (by omega) (by omega)) (by simp [fits])) (by decide) ?_
    simp [go_sem]
    exact named_fin 2 3 4 [0, 0, 2, 0] [1, 3] (by omega) (by omega) rfl
  simp [go_sem]
  refine ⟨fun h => ?_, fun h => ?_⟩
  · simp [go_sem]
    refine CallVC.of (sq 4 2 [0, 0, 0, 0, 1, 0, 0, 0, 0, 1, 0, 0, 0, 0, 2, 0] (by omega) rfl (ff _ (by omega) (by omega)) (by simp [fits])) (by decide) ?_
    simp [go_sem]
    refine CallVC.of (rw_ 6 [1, 2, 2, 1] (by simp) (ff _ (by omega) (by omega)) (by simp [fits])) (by decide) ?_
    simp [go_sem]
    exact named_fin 4 2 6 [0, 0, 0, 0, 1, 0, 0, 0, 0, 1, 0, 0, 0, 0, 2, 0] [1, 2, 2, 1] (by omega) (by omega) rfl
  simp [go_sem]
  refine CallVC.of (sq 2 2 [0, 0, 1, 1] (by omega) rfl (ff _ (by omega) (by omega)) (by simp [fits])) (by decide) ?_
  simp [go_sem]
  refine CallVC.of (rw_ 2 [1, 1] (by simp) (ff _ (by omega) (by omega)) (by simp [fits])) (by decide) ?_
  simp [go_sem]
  exact named_fin 2 2 2 [0, 0, 1, 1] [1, 1] (by omega) (by omega) rfl
end Go.Proofs.Ytmojbncbbnjblaa


namespace Go.Proofs.Ytmojbncbbnjblaa
open Go.Abs
set_option linter.unusedVariables false
set_option linter.unusedSimpArgs false
set_option maxHeartbeats 1000000
end Go.Proofs.Ytmojbncbbnjblaa


namespace Go.Proofs.Ytmojbncbbnjblaa
open Go.Abs
set_option linter.unusedVariables false
set_option linter.unusedSimpArgs false
set_option maxHeartbeats 1000000
end Go.Proofs.Ytmojbncbbnjblaa


namespace Go.Proofs.Ytmojbncbbnjblaa
open Go.Abs
set_option linter.unusedVariables false
set_option linter.unusedSimpArgs false
set_option maxHeartbeats 1000000
end Go.Proofs.Ytmojbncbbnjblaa


namespace Go.Proofs.Ytmojbncbbnjblaa
open Go.Abs Go.Shelf Go.Sort
set_option linter.unusedVariables false
set_option linter.unusedSimpArgs false
set_option maxHeartbeats 1000000
end Go.Proofs.Ytmojbncbbnjblaa


namespace Go.Proofs.Ytmojbncbbnjblaa
open Go.Abs
set_option linter.unusedVariables false
set_option linter.unusedSimpArgs false
set_option maxHeartbeats 1000000
end Go.Proofs.Ytmojbncbbnjblaa


namespace Go.Proofs.Ytmojbncbbnjblaa
open Go.Abs
set_option linter.unusedVariables false
set_option linter.unusedSimpArgs false
set_option maxHeartbeats 1000000
def DrP (n : Nat) (p : List Mon) : Prop := p.length ≤ 3 ∧ ∀ m ∈ p, WOk n 3 m
def DrS (z : Int) (f : List (List Mon)) : Prop := -1 ≤ z ∧ z ≤ 4 ∧ f.length ≤ 4 ∧ ∀ p ∈ f, p.length ≤ 4 ∧ ∀ m ∈ p, m.2.length ≤ 3
theorem DrS.of {n : Nat} {f : List (List Mon)} (hn : n ≤ 3) (hl : f.length ≤ 3) (h : ∀ p ∈ f, DrP n p) {z : Int} (h1 : -1 ≤ z) (h2 : z ≤ 4) : DrS z f :=
  ⟨h1, h2, by omega, fun p hp => ⟨by have := (h p hp).1; omega, fun m hm => by have := ((h p hp).2 m hm).len; omega⟩⟩
end Go.Proofs.Ytmojbncbbnjblaa


namespace Go.Proofs.Ytmojbncbbnjblaa
open Go.Abs
set_option linter.unusedVariables false
set_option linter.unusedSimpArgs false
set_option maxHeartbeats 1000000
theorem RCon.fz {P : Program} {f : FuncId} {args : List AV} {R : AV → List AV → Prop} (h : RCon P f args R) : RCon P f args (fun r o => ∃ r0, R r0 o ∧ r = frz r0) := by
  refine ⟨h.1, fun w vs os F0 hl hn ho hF hr => (h.2 w vs os F0 hl hn ho hF hr).mono ?_⟩
  rintro e w' ⟨r, o, hR, v, orr, oo, F', k1, k2, k3, k4, k5, k6, k7, k8, k9⟩
  refine ⟨frz r, o, ⟨r, hR, rfl⟩, v, [], oo, fun b => F' b ∨ b ∈ orr, k1, k2, fun b hb => .inl (k3 b hb), fun b hb => hb.elim (k4 b) (fun hb => .inr ⟨(k9 b (.inl hb)).1, (k9 b (.inl hb)).2.1⟩), fun tm oss => (k5 tm oss).frz (fun b h => .inl h) (fun b h => .inr h), fun tm oss => ?_, k7, ?_, fun b hb => ?_⟩
  · have := RepTL.kl (w' := w') (F' := fun b => F' b ∨ b ∈ orr) (tm' := tm) (oss' := oss) [] (fun b hb => .inl hb) (fun _ _ _ _ h => h) (k6 tm oss) (fun _ _ => rfl)
    rwa [klL_nil] at this
  · simpa using (List.nodup_append.1 k8).2.1
  · rcases hb with hb | hb
    · simp at hb
    · obtain ⟨j1, j2, j3⟩ := k9 b (.inr hb)
      exact ⟨j1, j2, fun hf => hf.elim j3 (fun hf => (List.nodup_append.1 k8).2.2 b hf b hb rfl)⟩
end Go.Proofs.Ytmojbncbbnjblaa


namespace Go.Proofs.Ytmojbncbbnjblaa
open Go.Abs
set_option linter.unusedVariables false
set_option linter.unusedSimpArgs false
set_option maxHeartbeats 4000000
theorem str_all (cs : List ByteArray) (h : cs.length = 12) : ∀ k, k < 12 → ∃ b, (cs.map fun b => AV.val (.string b))[k]? = some (.val (.string b)) := fun k hk => ⟨cs[k]?.getD default, by simp [h, hk]⟩
set_option maxRecDepth 100000 in
theorem TableauNames_r : RCon Try.prog 181 [] (fun r o => o = [] ∧ ∃ L : List AV, (∀ k, k < 12 → ∃ b, L[k]? = some (.val (.string b))) ∧ r = .own 9 12 L) := by
  refine RCon.mono (R := fun r o => o = [] ∧ ∃ cs : List ByteArray, cs.length = 12 ∧ r = .own 9 12 (cs.map fun b => .val (.string b))) ?_ (fun r o h => ?_)
  · refine rcon_of_vcH Try.mixed ⟨1, [], [], []⟩ [] Try.func181 (by decide) rfl (by simp) (by simp) (by decide) ?_
    rw [Try.ntmps181]
    simp [go_sem]
    exact ⟨[_, _, _, _, _, _, _, _, _, _, _, _], rfl, rfl⟩
  · obtain ⟨h1, cs, h2, h3⟩ := h
    exact ⟨h1, _, str_all cs h2, h3⟩
def ptM : List (List Int) → AV
  | [] => .val (.slice none 0 0)
  | r :: A => .own 27 (A.length + 1) (omat (r :: A))
theorem ptM_nil : ptM [] = .val (.slice none 0 0) := rfl
theorem ptM_cons (r : List Int) (A : List (List Int)) : ptM (r :: A) = .own 27 (A.length + 1) (omat (r :: A)) := rfl
theorem ptM_pos {A : List (List Int)} (h : 1 ≤ A.length) : ptM A = .own 27 A.length (omat A) := by
  cases A with
  | nil => simp at h
  | cons r A => rfl
theorem Ns.set {l : List Int} (h : Ns l) (k : Nat) {x : Int} (hx : isN x) : Ns (l.set k x) := fun y hy => by
  rcases List.mem_or_eq_of_mem_set hy with hy | rfl
  · exact h y hy
  · exact hx
set_option maxRecDepth 100000 in
theorem l09Draw_r (c : List Int) (σ : Src) (m : Int) (hc : Byt c) (hs : SOk σ) (hm : 1 ≤ m) (hm8 : m ≤ 8) :
    RCon Try.prog 133 [srcA c σ, .int m] (fun r o => ∃ (τ : Src) (A : List (List Int)) (B : List Int), SOk τ ∧ o = [srcA c τ, .any] ∧ Tb8 A B ∧ r = .agg [.own 27 A.length (omat A), .own 2 B.length (avs B)]) := by
  have c1 := l01Next_c c σ 2 hc hs
  have s1 := nx2_ok hc hs 2
  simp only [srcA_eq] at *
  by_cases h4 : 4 ≤ m
  · refine rcon_of_vcH Try.mixed ⟨14, [], [1000000 + 111, 1000000 + 110, 2000000 + 181, 2000000 + 182], []⟩ [0] Try.func133 (by decide) rfl (by simp) (by simp) (by decide) ?_
    rw [Try.ntmps133]
    simp [go_sem]
    simp [go_sem, h4]
    refine ⟨_, _, c1, ?_⟩
    simp [go_sem]
    generalize nx1 c σ 2 = v at *
    generalize nx2 c σ 2 = τ0 at *
    by_cases v0 : v = 0
    · simp [go_sem, v0]
      refine ⟨_, TableauNames_r, ?_⟩
      rintro _ _ ⟨rfl, L, hL, rfl⟩
      have c9 := l01Next_c c τ0 12 hc s1
      have s9 := nx2_ok hc s1 12
      have b9 := nx1_b hc τ0 (n := 12) (by omega)
      obtain ⟨k, hk⟩ : ∃ k : Nat, nx1 c τ0 12 = k := ⟨(nx1 c τ0 12).toNat, by omega⟩
      rw [hk] at c9 b9
      generalize nx2 c τ0 12 = κ at *
      simp only [srcA_eq] at c9
      obtain ⟨b, hA⟩ := hL k (by omega)
      simp [go_sem]
      refine ⟨_, _, c9, ?_⟩
      simp [go_sem]
      simp [go_sem, hA]
      refine ⟨by omega, ?_⟩
      refine ⟨_, l09Named_r _, ?_⟩
      rintro _ _ ⟨rfl, A, B, hT, rfl⟩
      simp [go_sem]
      exact ⟨κ.1, κ.2, s9, ⟨rfl, rfl⟩, A, B, hT, ⟨rfl, rfl⟩, rfl, rfl⟩
    · simp [go_sem, v0]
      have h0 := s1
      have c4 := l01Next_c c τ0 m hc h0
      have s4 := nx2_ok hc h0 m
      have b4 := nx1_b hc τ0 (n := m) (by omega)
      obtain ⟨N, hN⟩ : ∃ N : Nat, 1 + nx1 c τ0 m = N := ⟨(1 + nx1 c τ0 m).toNat, by omega⟩
      generalize nx1 c τ0 m = v4 at *
      generalize nx2 c τ0 m = τ1 at *
      have N1 : 1 ≤ N := by omega
      have N8 : N ≤ 8 := by omega
      have c5 := l01Next_c c τ1 3 hc s4
      have s5 := nx2_ok hc s4 3
      generalize nx1 c τ1 3 = u at *
      generalize nx2 c τ1 3 = τ2 at *
      have c6 := l01List_c c τ2 N hc s5 (by omega)
      have L6 := lsV_ok (f := nbV c) (fun σ h => nbV_ok hc h) N τ2 s5
      generalize lsV (nbV c) N τ2 = r6 at *
      obtain ⟨B0, τ3⟩ := r6
      simp only at L6 c6
      obtain ⟨lB, nB, s6⟩ := L6
      simp only [srcA_eq] at c4 c5 c6
      refine ⟨_, _, c4, ?_⟩
      simp [go_sem]
      refine ⟨⟨by omega, by omega⟩, ?_⟩
      rw [hN]
      refine ⟨_, _, c5, ?_⟩
      simp [go_sem]
      refine ⟨_, _, c6, ?_⟩
      simp [go_sem]
      refine loop_inv (0 :: 8 :: List.range' 9 3 ++ List.range' 40 38) (fun x : Src × List (List Int) => [(0, .box 128 [.sl c.length (bys c), .int x.1.1, .val (.int .u64 x.1.2)]), (8, .box 45 [ptM x.2, .own 2 N (avs B0)]), (9, .int x.2.length)]) (fun x => SOk x.1 ∧ x.2.length ≤ N ∧ ∀ r ∈ x.2, r.length = N ∧ Ns r) (fun x => N - x.2.length) (τ3, []) ⟨s6, by simp, by simp⟩ (by simp [go_sem, ptM_nil]) (by simp [go_sem]) ?_
      rintro ⟨ρ, A⟩ ⟨h1, h2, h3⟩
      simp only at h1 h2 h3
      by_cases hA : A.length < N
      · have hAi : (A.length : Int) < N := by omega
        have c7 := l01List_c c ρ N hc h1 (by omega)
        have L7 := lsV_ok (f := nbV c) (fun σ h => nbV_ok hc h) N ρ h1
        generalize lsV (nbV c) N ρ = r7 at *
        obtain ⟨row0, κ⟩ := r7
        simp only at L7 c7
        obtain ⟨l7, n7, s7⟩ := L7
        simp only [srcA_eq] at c7
        simp [go_sem, hAi]
        refine ⟨_, _, c7, ?_⟩
        simp [go_sem]
        refine loop_inv (10 :: 11 :: List.range' 48 24) (fun x : List Int × Nat => [(10, .own 2 N (avs x.1)), (11, .int x.2)]) (fun x => x.1.length = N ∧ Ns x.1 ∧ x.2 ≤ N) (fun x => N - x.2) (row0, 0) ⟨l7, n7, by omega⟩ (by simp [go_sem]) (by simp [go_sem]) ?_
        rintro ⟨row, k⟩ ⟨g1, g2, g3⟩
        simp only at g1 g2 g3
        by_cases hk : k < N
        · have hki : (k : Int) < N := by omega
          have hkr : k < row.length := by omega
          have hS := avs_set row k 0
          by_cases u0 : u = 0
          · by_cases u1 : (A.length : Int) ≤ k
            · simp -implicitDefEqProofs [go_sem, hki, u0, u1, hS]
              refine ⟨hkr, ⟨by omega, by omega⟩, row.set k 0, k + 1, ⟨by simpa using g1, Ns.set g2 k ⟨by omega, by omega⟩, by omega⟩, by omega, Off_reset _ _ _ (by simp), rfl, by omega⟩
            · simp -implicitDefEqProofs [go_sem, hki, u0, u1]
              refine ⟨⟨by omega, by omega⟩, row, k + 1, ⟨g1, g2, by omega⟩, by omega, Off_reset _ _ _ (by simp), rfl, by omega⟩
          · by_cases u1 : u = 1
            · by_cases u2 : (A.length : Int) < k
              · simp -implicitDefEqProofs [go_sem, hki, u0, u1, u2, hS]
                refine ⟨hkr, ⟨by omega, by omega⟩, row.set k 0, k + 1, ⟨by simpa using g1, Ns.set g2 k ⟨by omega, by omega⟩, by omega⟩, by omega, Off_reset _ _ _ (by simp), rfl, by omega⟩
              · simp -implicitDefEqProofs [go_sem, hki, u0, u1, u2]
                refine ⟨⟨by omega, by omega⟩, row, k + 1, ⟨g1, g2, by omega⟩, by omega, Off_reset _ _ _ (by simp), rfl, by omega⟩
            · simp -implicitDefEqProofs [go_sem, hki, u0, u1]
              refine ⟨⟨by omega, by omega⟩, row, k + 1, ⟨g1, g2, by omega⟩, by omega, Off_reset _ _ _ (by simp), rfl, by omega⟩
        · have e : k = N := by omega
          subst e
          simp [go_sem]
          have h3' : ∀ r ∈ A ++ [row], r.length = k ∧ Ns r := fun r hr => by
            rcases List.mem_append.1 hr with hr | hr
            · exact h3 r hr
            · simp at hr; subst hr; exact ⟨g1, g2⟩
          have os : omat (A ++ [row]) = omat A ++ [.own 2 k (avs row)] := by rw [omat_app, omat_one, g1]
          rcases A with _ | ⟨r0, A⟩
          · simp [go_sem, ptM_nil]
            refine ⟨κ.1, κ.2, [row], ⟨s7, by simp; omega, by simpa using h3'⟩, by simp; omega, (by repeat (first | exact Off_reset _ _ _ (by simp) | (refine Off.reset (by intro x hx; simp at hx ⊢; omega) (by simp) ?_; simp -failIfUnchanged [go_sem, Off_reset]))), ⟨⟨rfl, rfl⟩, by simp [ptM_cons, omat_one, g1], by simp⟩⟩
          · simp only [List.length_cons] at hA h2 hAi
            have e5 : ptM (r0 :: A ++ [row]) = .own 27 (A.length + 1 + 1) (omat (r0 :: A) ++ [.own 2 k (avs row)]) := by
              show AV.own _ ((A ++ [row]).length + 1) (omat (r0 :: A ++ [row])) = _
              rw [os, List.length_append]; rfl
            simp [go_sem, ptM_cons]
            refine ⟨⟨by omega, by omega⟩, ⟨by omega, by omega⟩, κ.1, κ.2, r0 :: A ++ [row], ⟨s7, by simp; omega, h3'⟩, by simp; omega, (by repeat (first | exact Off_reset _ _ _ (by simp) | (refine Off.reset (by intro x hx; simp at hx ⊢; omega) (by simp) ?_; simp -failIfUnchanged [go_sem, Off_reset]))), ⟨⟨rfl, rfl⟩, e5.symm, by simp⟩⟩
      · have e : A.length = N := by omega
        have hpt := ptM_pos (A := A) (by omega)
        rw [hpt, e]
        have c8 := l01Next_c c ρ 2 hc h1
        have s8 := nx2_ok hc h1 2
        generalize nx1 c ρ 2 = v8 at *
        generalize nx2 c ρ 2 = κ at *
        simp only [srcA_eq] at c8
        have fin : ∀ B : List Int, B.length = N → Ns B → ∃ a b, SOk (a, b) ∧ ((κ.1 : Int) = a ∧ κ.2 = b) ∧ ∃ A' B', Tb8 A' B' ∧ (N = A'.length ∧ omat A = omat A') ∧ N = B'.length ∧ B = B' := fun B hB nB => by
          refine ⟨κ.1, κ.2, s8, ⟨rfl, rfl⟩, A, B, ⟨by omega, by omega, by omega, nB, fun r hr => ?_⟩, ⟨e.symm, rfl⟩, hB.symm, rfl⟩
          rw [hB]; exact h3 r hr
        simp [go_sem, e]
        refine ⟨_, _, c8, ?_⟩
        simp [go_sem]
        by_cases v80 : v8 = 0
        · simp [go_sem, v80]
          refine loop_inv (12 :: 13 :: List.range' 81 12) (fun x : Int × Nat => [(12, .int x.1), (13, .int x.2)]) (fun x => isN x.1 ∧ 1 ≤ x.2 ∧ x.2 ≤ N) (fun x => N - x.2) (0, 1) ⟨⟨by simp, by simp⟩, by simp, by simp; omega⟩ (by simp [go_sem]) (by simp [go_sem]) ?_
          rintro ⟨q, i⟩ ⟨g1, g2, g3⟩
          simp only at g1 g2 g3
          by_cases hi : i < N
          · have hii : (i : Int) < N := by omega
            have hib : i < B0.length := by omega
            have hb := nB.get i
            have fa := add_fits g1 hb
            have cA := l01Add_c q (B0[i]?.getD 0) fa
            have hat := avs_at hib
            generalize B0[i]?.getD 0 = b at *
            simp [go_sem, hii, hat]
            refine CallVC.of (cA) (by decide) ?_
            simp [go_sem]
            exact ⟨⟨by omega, by omega⟩, (q + b) % 10007, i + 1, ⟨isN_mod _, by omega, by omega⟩, by omega, Off_reset _ _ _ (by simp), rfl, by omega⟩
          · have hii : ¬ (i : Int) < N := by omega
            have cS := l01Sub_c 1 q (sub_fits ⟨by omega, by omega⟩ g1)
            have nS : isN ((1 - q) % 10007) := isN_mod _
            generalize (1 - q) % 10007 = x at *
            have hset := avs_set B0 0 x
            simp [go_sem, hii]
            refine ⟨by kernel_rfl, ?_⟩
            refine CallD.of (cS) (by simp [roots, rootsL]) (by decide) ?_
            simp [go_sem]
            refine ⟨by omega, by omega, ?_⟩
            refine ⟨by kernel_rfl, ?_⟩
            simp [go_sem]
            simp only [hset]
            obtain ⟨a, b, k1, k2, A', B', k3, k4, k5, k6⟩ := fin (B0.set 0 x) (by simpa using lB) (Ns.set nB 0 nS)
            exact ⟨a, b, k1, k2, A', B', k3, k4, k5, by rw [k6]⟩
        · simp [go_sem, v80]
          exact fin B0 lB nB
  · refine rcon_of_vcH Try.mixed ⟨14, [], [1000000 + 111, 1000000 + 110, 2000000 + 181, 2000000 + 182], []⟩ [0] Try.func133 (by decide) rfl (by simp) (by simp) (by decide) ?_
    rw [Try.ntmps133]
    simp [go_sem]
    simp [go_sem, h4]
    have τ0h : ∃ τ0 : Src, τ0 = σ := ⟨σ, rfl⟩
    obtain ⟨τ0, rfl⟩ := τ0h
    have h0 := hs
    clear c1 s1 hs
    have c4 := l01Next_c c τ0 m hc h0
    have s4 := nx2_ok hc h0 m
    have b4 := nx1_b hc τ0 (n := m) (by omega)
    obtain ⟨N, hN⟩ : ∃ N : Nat, 1 + nx1 c τ0 m = N := ⟨(1 + nx1 c τ0 m).toNat, by omega⟩
    generalize nx1 c τ0 m = v4 at *
    generalize nx2 c τ0 m = τ1 at *
    have N1 : 1 ≤ N := by omega
    have N8 : N ≤ 8 := by omega
    have c5 := l01Next_c c τ1 3 hc s4
    have s5 := nx2_ok hc s4 3
    generalize nx1 c τ1 3 = u at *
    generalize nx2 c τ1 3 = τ2 at *
    have c6 := l01List_c c τ2 N hc s5 (by omega)
    have L6 := lsV_ok (f := nbV c) (fun σ h => nbV_ok hc h) N τ2 s5
    generalize lsV (nbV c) N τ2 = r6 at *
    obtain ⟨B0, τ3⟩ := r6
    simp only at L6 c6
    obtain ⟨lB, nB, s6⟩ := L6
    simp only [srcA_eq] at c4 c5 c6
    refine ⟨_, _, c4, ?_⟩
    simp [go_sem]
    refine ⟨⟨by omega, by omega⟩, ?_⟩
    rw [hN]
    refine ⟨_, _, c5, ?_⟩
    simp [go_sem]
    refine ⟨_, _, c6, ?_⟩
    simp [go_sem]
    refine loop_inv (0 :: 8 :: List.range' 9 3 ++ List.range' 40 38) (fun x : Src × List (List Int) => [(0, .box 128 [.sl c.length (bys c), .int x.1.1, .val (.int .u64 x.1.2)]), (8, .box 45 [ptM x.2, .own 2 N (avs B0)]), (9, .int x.2.length)]) (fun x => SOk x.1 ∧ x.2.length ≤ N ∧ ∀ r ∈ x.2, r.length = N ∧ Ns r) (fun x => N - x.2.length) (τ3, []) ⟨s6, by simp, by simp⟩ (by simp [go_sem, ptM_nil]) (by simp [go_sem]) ?_
    rintro ⟨ρ, A⟩ ⟨h1, h2, h3⟩
    simp only at h1 h2 h3
    by_cases hA : A.length < N
    · have hAi : (A.length : Int) < N := by omega
      have c7 := l01List_c c ρ N hc h1 (by omega)
      have L7 := lsV_ok (f := nbV c) (fun σ h => nbV_ok hc h) N ρ h1
      generalize lsV (nbV c) N ρ = r7 at *
      obtain ⟨row0, κ⟩ := r7
      simp only at L7 c7
      obtain ⟨l7, n7, s7⟩ := L7
      simp only [srcA_eq] at c7
      simp [go_sem, hAi]
      refine ⟨_, _, c7, ?_⟩
      simp [go_sem]
      refine loop_inv (10 :: 11 :: List.range' 48 24) (fun x : List Int × Nat => [(10, .own 2 N (avs x.1)), (11, .int x.2)]) (fun x => x.1.length = N ∧ Ns x.1 ∧ x.2 ≤ N) (fun x => N - x.2) (row0, 0) ⟨l7, n7, by omega⟩ (by simp [go_sem]) (by simp [go_sem]) ?_
      rintro ⟨row, k⟩ ⟨g1, g2, g3⟩
      simp only at g1 g2 g3
      by_cases hk : k < N
      · have hki : (k : Int) < N := by omega
        have hkr : k < row.length := by omega
        have hS := avs_set row k 0
        by_cases u0 : u = 0
        · by_cases u1 : (A.length : Int) ≤ k
          · simp -implicitDefEqProofs [go_sem, hki, u0, u1, hS]
            refine ⟨hkr, ⟨by omega, by omega⟩, row.set k 0, k + 1, ⟨by simpa using g1, Ns.set g2 k ⟨by omega, by omega⟩, by omega⟩, by omega, Off_reset _ _ _ (by simp), rfl, by omega⟩
          · simp -implicitDefEqProofs [go_sem, hki, u0, u1]
            refine ⟨⟨by omega, by omega⟩, row, k + 1, ⟨g1, g2, by omega⟩, by omega, Off_reset _ _ _ (by simp), rfl, by omega⟩
        · by_cases u1 : u = 1
          · by_cases u2 : (A.length : Int) < k
            · simp -implicitDefEqProofs [go_sem, hki, u0, u1, u2, hS]
              refine ⟨hkr, ⟨by omega, by omega⟩, row.set k 0, k + 1, ⟨by simpa using g1, Ns.set g2 k ⟨by omega, by omega⟩, by omega⟩, by omega, Off_reset _ _ _ (by simp), rfl, by omega⟩
            · simp -implicitDefEqProofs [go_sem, hki, u0, u1, u2]
              refine ⟨⟨by omega, by omega⟩, row, k + 1, ⟨g1, g2, by omega⟩, by omega, Off_reset _ _ _ (by simp), rfl, by omega⟩
          · simp -implicitDefEqProofs [go_sem, hki, u0, u1]
            refine ⟨⟨by omega, by omega⟩, row, k + 1, ⟨g1, g2, by omega⟩, by omega, Off_reset _ _ _ (by simp), rfl, by omega⟩
      · have e : k = N := by omega
        subst e
        simp [go_sem]
        have h3' : ∀ r ∈ A ++ [row], r.length = k ∧ Ns r := fun r hr => by
          rcases List.mem_append.1 hr with hr | hr
          · exact h3 r hr
          · simp at hr; subst hr; exact ⟨g1, g2⟩
        have os : omat (A ++ [row]) = omat A ++ [.own 2 k (avs row)] := by rw [omat_app, omat_one, g1]
        rcases A with _ | ⟨r0, A⟩
        · simp [go_sem, ptM_nil]
          refine ⟨κ.1, κ.2, [row], ⟨s7, by simp; omega, by simpa using h3'⟩, by simp; omega, (by repeat (first | exact Off_reset _ _ _ (by simp) | (refine Off.reset (by intro x hx; simp at hx ⊢; omega) (by simp) ?_; simp -failIfUnchanged [go_sem, Off_reset]))), ⟨⟨rfl, rfl⟩, by simp [ptM_cons, omat_one, g1], by simp⟩⟩
        · simp only [List.length_cons] at hA h2 hAi
          have e5 : ptM (r0 :: A ++ [row]) = .own 27 (A.length + 1 + 1) (omat (r0 :: A) ++ [.own 2 k (avs row)]) := by
            show AV.own _ ((A ++ [row]).length + 1) (omat (r0 :: A ++ [row])) = _
            rw [os, List.length_append]; rfl
          simp [go_sem, ptM_cons]
          refine ⟨⟨by omega, by omega⟩, ⟨by omega, by omega⟩, κ.1, κ.2, r0 :: A ++ [row], ⟨s7, by simp; omega, h3'⟩, by simp; omega, (by repeat (first | exact Off_reset _ _ _ (by simp) | (refine Off.reset (by intro x hx; simp at hx ⊢; omega) (by simp) ?_; simp -failIfUnchanged [go_sem, Off_reset]))), ⟨⟨rfl, rfl⟩, e5.symm, by simp⟩⟩
    · have e : A.length = N := by omega
      have hpt := ptM_pos (A := A) (by omega)
      rw [hpt, e]
      have c8 := l01Next_c c ρ 2 hc h1
      have s8 := nx2_ok hc h1 2
      generalize nx1 c ρ 2 = v8 at *
      generalize nx2 c ρ 2 = κ at *
      simp only [srcA_eq] at c8
      have fin : ∀ B : List Int, B.length = N → Ns B → ∃ a b, SOk (a, b) ∧ ((κ.1 : Int) = a ∧ κ.2 = b) ∧ ∃ A' B', Tb8 A' B' ∧ (N = A'.length ∧ omat A = omat A') ∧ N = B'.length ∧ B = B' := fun B hB nB => by
        refine ⟨κ.1, κ.2, s8, ⟨rfl, rfl⟩, A, B, ⟨by omega, by omega, by omega, nB, fun r hr => ?_⟩, ⟨e.symm, rfl⟩, hB.symm, rfl⟩
        rw [hB]; exact h3 r hr
      simp [go_sem, e]
      refine ⟨_, _, c8, ?_⟩
      simp [go_sem]
      by_cases v80 : v8 = 0
      · simp [go_sem, v80]
        refine loop_inv (12 :: 13 :: List.range' 81 12) (fun x : Int × Nat => [(12, .int x.1), (13, .int x.2)]) (fun x => isN x.1 ∧ 1 ≤ x.2 ∧ x.2 ≤ N) (fun x => N - x.2) (0, 1) ⟨⟨by simp, by simp⟩, by simp, by simp; omega⟩ (by simp [go_sem]) (by simp [go_sem]) ?_
        rintro ⟨q, i⟩ ⟨g1, g2, g3⟩
        simp only at g1 g2 g3
        by_cases hi : i < N
        · have hii : (i : Int) < N := by omega
          have hib : i < B0.length := by omega
          have hb := nB.get i
          have fa := add_fits g1 hb
          have cA := l01Add_c q (B0[i]?.getD 0) fa
          have hat := avs_at hib
          generalize B0[i]?.getD 0 = b at *
          simp [go_sem, hii, hat]
          refine CallVC.of (cA) (by decide) ?_
          simp [go_sem]
          exact ⟨⟨by omega, by omega⟩, (q + b) % 10007, i + 1, ⟨isN_mod _, by omega, by omega⟩, by omega, Off_reset _ _ _ (by simp), rfl, by omega⟩
        · have hii : ¬ (i : Int) < N := by omega
          have cS := l01Sub_c 1 q (sub_fits ⟨by omega, by omega⟩ g1)
          have nS : isN ((1 - q) % 10007) := isN_mod _
          generalize (1 - q) % 10007 = x at *
          have hset := avs_set B0 0 x
          simp [go_sem, hii]
          refine ⟨by kernel_rfl, ?_⟩
          refine CallD.of (cS) (by simp [roots, rootsL]) (by decide) ?_
          simp [go_sem]
          refine ⟨by omega, by omega, ?_⟩
          refine ⟨by kernel_rfl, ?_⟩
          simp [go_sem]
          simp only [hset]
          obtain ⟨a, b, k1, k2, A', B', k3, k4, k5, k6⟩ := fin (B0.set 0 x) (by simpa using lB) (Ns.set nB 0 nS)
          exact ⟨a, b, k1, k2, A', B', k3, k4, k5, by rw [k6]⟩
      · simp [go_sem, v80]
        exact fin B0 lB nB
end Go.Proofs.Ytmojbncbbnjblaa


namespace Go.Proofs.Ytmojbncbbnjblaa
open Go.Abs
set_option linter.unusedVariables false
set_option linter.unusedSimpArgs false
set_option maxHeartbeats 4000000
theorem RCon.rep {P : Program} {f : FuncId} {args : List AV} {R R' : AV → List AV → Prop} (h : RCon P f args R)
    (hR : ∀ r o, R r o → ∃ r', R' r' o ∧ ∀ (w : World) (F : Nat → Prop) (tm : Nat → Value) (oss : Nat → List Nat) (v : Value) (os : List Nat), RepT P w F tm oss r v os → RepT P w F tm oss r' v os) : RCon P f args R' := by
  refine ⟨h.1, fun w vs os F0 hl hn ho hF hr => (h.2 w vs os F0 hl hn ho hF hr).mono ?_⟩
  rintro e w' ⟨r, o, hr0, v, orr, oo, F', k1, k2, k3, k4, k5, k6⟩
  obtain ⟨r', h1, h2⟩ := hR r o hr0
  exact ⟨r', o, h1, v, orr, oo, F', k1, k2, k3, k4, fun tm oss => h2 _ _ _ _ _ _ (k5 tm oss), k6⟩
theorem rep_nils {P : Program} {w : World} {F : Nat → Prop} {tm : Nat → Value} {oss : Nat → List Nat} {v : Value} {os : List Nat}
    (h : RepT P w F tm oss (.agg [.val (.slice none 0 0), .val (.slice none 0 0)]) v os) : RepT P w F tm oss (.agg [.sl 0 [], .sl 0 []]) v os := by
  cases h with
  | cell c v os h => cases h
  | agg cs vs os hl h =>
    refine .agg _ vs os (by simpa using hl) ?_
    cases h with
    | cons c v o cs vs os' h t =>
      cases t with
      | cons c2 v2 o2 cs2 vs2 os2 h2 t2 =>
        refine .cons _ _ _ _ _ _ ?_ (.cons _ _ _ _ _ _ ?_ t2)
        · cases h with
          | cell _ _ _ h => cases h with | val _ _ => exact .cell _ _ _ (.sl0 none 0)
        · cases h2 with
          | cell _ _ _ h => cases h with | val _ _ => exact .cell _ _ _ (.sl0 none 0)
def Sz (A : List (List Int)) (B : List Int) : Prop := A.length ≤ 9 ∧ B.length ≤ 9 ∧ ∀ r ∈ A, r.length ≤ 9
theorem Tab.sz {A : List (List Int)} {B : List Int} (h : Tab A B) : Sz A B := by
  have h1 := h.le
  have h2 := h.len
  refine ⟨by omega, by omega, fun r hr => ?_⟩
  have := (h.a r hr).1
  omega
theorem omat_cons (r : List Int) (A : List (List Int)) : omat (r :: A) = .own 2 r.length (avs r) :: omat A := rfl
def FrT (r : AV) (A : List (List Int)) (B : List Int) : Prop := frz r = .agg [.sl A.length (mat A), .sl B.length (avs B)]
set_option maxRecDepth 100000 in
theorem l09Spoil_r (c : List Int) (σ : Src) (m : Int) (hc : Byt c) (hs : SOk σ) (hm : 1 ≤ m) (hm8 : m ≤ 8) :
    RCon Try.prog 70 [srcA c σ, .int m] (fun r o => ∃ (τ : Src), SOk τ ∧ o = [srcA c τ, .any] ∧ (r = .agg [.val (.slice none 0 0), .val (.slice none 0 0)] ∨ ∃ (A : List (List Int)) (B : List Int), Sz A B ∧ FrT r A B)) := by
  have cD := l09Draw_r c σ m hc hs hm hm8
  simp only [srcA_eq] at *
  refine rcon_of_vcH Try.mixed ⟨6, [46], [1000000 + 111, 1000000 + 112, 2000000 + 133], [2000607000110]⟩ [0] Try.func70 (by decide) rfl (by simp) (by simp) (by decide) ?_
  rw [Try.ntmps70]
  simp [go_sem]
  refine ⟨_, cD, ?_⟩
  rintro _ _ ⟨τ, A, B, h1, rfl, hT, rfl⟩
  have c4 := l01Next_c c τ 40 hc h1
  have s4 := nx2_ok hc h1 40
  generalize nx1 c τ 40 = v at *
  generalize nx2 c τ 40 = τ1 at *
  have hz := Tab.sz hT
  have hp := Tab.pos hT
  have hl := Tab.len hT
  have hle := Tab.le hT
  simp only [srcA_eq] at c4
  simp [go_sem]
  refine ⟨_, _, c4, ?_⟩
  simp [go_sem]
  by_cases v0 : v = 0
  · have ef := avs_frz (B ++ [1])
    rw [avs_snoc] at ef
    simp [go_sem, v0]
    exact ⟨⟨by omega, by omega⟩, τ1.1, τ1.2, s4, ⟨rfl, rfl⟩, A, B ++ [1], ⟨hz.1, by simp; omega, hz.2.2⟩, by simp [FrT, frz, frzL, avs_snoc, ef]⟩
  · by_cases v1 : v = 1
    · rcases A with _ | ⟨r0, A⟩
      · simp at hl; omega
      · have hr0 := hz.2.2 r0 (by simp)
        have fin : ∃ a b, SOk (a, b) ∧ ((τ1.1 : Int) = a ∧ τ1.2 = b) ∧ ∃ A_1 B_1, Sz A_1 B_1 ∧ FrT (.agg [.own 27 (A.length + 1) (.own 2 (r0.length + 1) (avs r0 ++ [.int 1]) :: omat A), .own 2 B.length (avs B)]) A_1 B_1 := by
          refine ⟨τ1.1, τ1.2, s4, ⟨rfl, rfl⟩, (r0 ++ [1]) :: A, B, ⟨hz.1, hz.2.1, fun r hr => ?_⟩, ?_⟩
          · rcases List.mem_cons.1 hr with rfl | hr
            · have := hT.le; have := (hT.a r0 (by simp)).1; simp; omega
            · exact hz.2.2 r (by simp [hr])
          · have e : omat ((r0 ++ [1]) :: A) = .own 2 (r0.length + 1) (avs r0 ++ [.int 1]) :: omat A := by rw [omat_cons, avs_snoc, List.length_append]; rfl
            unfold FrT
            rw [← e]
            simp [frz, frzL]
        simp [go_sem, v0, v1]
        rw [DrawVC4_app]
        refine ⟨fun i => [], by kernel_rfl, ?_, ?_, ?_⟩
        · simp [go_sem, omat_cons]
          refine ⟨⟨by omega, by omega⟩, by kernel_rfl, ?_⟩
          exact fin
        · simp [go_sem, omat_cons]
          refine ⟨⟨by omega, by omega⟩, by kernel_rfl, ?_⟩
          exact fin
        · simp [go_sem, omat_cons]
          refine ⟨⟨by omega, by omega⟩, by kernel_rfl, ?_⟩
          exact fin
    · by_cases v2 : v = 2
      · have c5 := l01Pick_c c τ1 [-1, 10007] hc s4 (by simp) (by simp)
        have s5 := nx2_ok hc s4 2
        have e4 : (([-1, 10007] : List Int).length : Int) = 2 := rfl
        rw [e4] at c5
        simp only [srcA_eq] at c5
        generalize pk c τ1 [-1, 10007] = x at *
        generalize nx2 c τ1 2 = τ2 at *
        rcases A with _ | ⟨r0, A⟩
        · simp at hl; omega
        · simp [go_sem, v0, v1, v2, omat_cons]
          refine ⟨by kernel_rfl, ?_⟩
          refine ⟨_, _, c5, ?_⟩
          simp [go_sem]
          have hr0 : r0.length = B.length := (hT.a r0 (by simp)).1
          have hset := avs_set r0 0 x
          refine ⟨by omega, ?_⟩
          refine ⟨by kernel_rfl, ?_⟩
          simp [go_sem]
          simp only [hset]
          refine ⟨τ2.1, τ2.2, s5, ⟨rfl, rfl⟩, (r0.set 0 x) :: A, B, ⟨hz.1, hz.2.1, fun r hr => ?_⟩, ?_⟩
          · rcases List.mem_cons.1 hr with rfl | hr
            · simp; omega
            · exact hz.2.2 r (by simp [hr])
          · have e : omat ((r0.set 0 x) :: A) = .own 2 r0.length (avs (r0.set 0 x)) :: omat A := by rw [omat_cons, List.length_set]
            unfold FrT
            rw [← e]
            simp [frz, frzL]
      · by_cases v3 : v = 3
        · simp [go_sem, v0, v1, v2, v3]
          exact ⟨τ1.1, s4, rfl⟩
        · by_cases v4 : v = 4
          · simp [go_sem, v0, v1, v2, v3, v4]
            refine ⟨by omega, τ1.1, τ1.2, s4, ⟨rfl, rfl⟩, A.tail, B, ⟨by simp; omega, hz.2.1, fun r hr => hz.2.2 r (List.mem_of_mem_tail hr)⟩, ?_⟩
            have e : List.take (A.length - 1) (mat A).tail = mat A.tail := by rw [List.take_of_length_le (by simp)]; simp [mat]
            unfold FrT
            rw [e]
            simp [frz, frzL]
          · simp [go_sem, v0, v1, v2, v3, v4]
            exact ⟨τ1.1, τ1.2, s4, ⟨rfl, rfl⟩, A, B, hz, by simp [FrT, frz, frzL]⟩
theorem l09Spoil_f (c : List Int) (σ : Src) (m : Int) (hc : Byt c) (hs : SOk σ) (hm : 1 ≤ m) (hm8 : m ≤ 8) :
    RCon Try.prog 70 [srcA c σ, .int m] (fun r o => ∃ (τ : Src) (A : List (List Int)) (B : List Int), SOk τ ∧ o = [srcA c τ, .any] ∧ Sz A B ∧ r = .agg [.sl A.length (mat A), .sl B.length (avs B)]) := by
  refine RCon.rep (RCon.fz (l09Spoil_r c σ m hc hs hm hm8)) (fun r o h => ?_)
  obtain ⟨r0, ⟨τ, h1, h2, h3⟩, rfl⟩ := h
  rcases h3 with rfl | ⟨A, B, hz, hf⟩
  · exact ⟨_, ⟨τ, [], [], h1, h2, ⟨by simp, by simp, by simp⟩, rfl⟩, fun w F tm oss v os h => rep_nils h⟩
  · unfold FrT at hf
    exact ⟨_, ⟨τ, A, B, h1, h2, hz, hf⟩, fun w F tm oss v os h => h⟩
end Go.Proofs.Ytmojbncbbnjblaa


namespace Go.Proofs.Ytmojbncbbnjblaa
open Go.Abs
set_option linter.unusedVariables false
set_option linter.unusedSimpArgs false
set_option maxHeartbeats 1000000
end Go.Proofs.Ytmojbncbbnjblaa


namespace Go.Proofs.Ytmojbncbbnjblaa
open Go.Abs
set_option linter.unusedVariables false
set_option linter.unusedSimpArgs false
set_option maxHeartbeats 4000000
end Go.Proofs.Ytmojbncbbnjblaa


namespace Go.Proofs.Ytmojbncbbnjblaa
set_option linter.unusedVariables false
set_option linter.unusedSimpArgs false
set_option maxHeartbeats 1000000
abbrev Mx := Nat → Nat → Int
def sgd (i : Nat) : Int := if i % 2 = 0 then 1 else -1
theorem sgd_succ (i : Nat) : sgd (i + 1) = - sgd i := by
  unfold sgd
  by_cases h : i % 2 = 0
  · rw [if_pos h, if_neg (by omega)]
  · rw [if_neg h, if_pos (by omega)]; rfl
def dsum (f : Nat → Int) : Nat → Int
  | 0 => 0
  | n + 1 => dsum f n + f n
theorem dsum_congr {f g : Nat → Int} : ∀ {n : Nat}, (∀ i, i < n → f i = g i) → dsum f n = dsum g n
  | 0, _ => rfl
  | n + 1, h => by rw [dsum, dsum, dsum_congr (fun i hi => h i (by omega)), h n (by omega)]
theorem dsum_lin (f g : Nat → Int) (k : Int) : ∀ n : Nat, dsum (fun i => f i + k * g i) n = dsum f n + k * dsum g n
  | 0 => by simp [dsum]
  | n + 1 => by rw [dsum, dsum, dsum, dsum_lin f g k n, Int.mul_add]; omega
theorem dsum_zero {f : Nat → Int} : ∀ {n : Nat}, (∀ i, i < n → f i = 0) → dsum f n = 0
  | 0, _ => rfl
  | n + 1, h => by rw [dsum, dsum_zero (fun i hi => h i (by omega)), h n (by omega)]; rfl
theorem dsum_one {f : Nat → Int} {k : Nat} : ∀ {n : Nat}, k < n → (∀ i, i < n → i ≠ k → f i = 0) → dsum f n = f k
  | 0, h, _ => by omega
  | n + 1, h, hz => by
    rw [dsum]
    by_cases e : k = n
    · subst e
      rw [dsum_zero (fun i hi => hz i (by omega) (by omega)), Int.zero_add]
    · rw [dsum_one (n := n) (by omega) (fun i hi hne => hz i (by omega) hne), hz n (by omega) (by omega), Int.add_zero]
def mnr (M : Mx) (i : Nat) : Mx := fun r c => M (if r < i then r else r + 1) (c + 1)
def det : Nat → Mx → Int
  | 0, _ => 1
  | n + 1, M => dsum (fun i => sgd i * M i 0 * det n (mnr M i)) (n + 1)
def updR (M : Mx) (i : Nat) (w : Nat → Int) : Mx := fun r => if r = i then w else M r
theorem updR_self (M : Mx) (i : Nat) : updR M i (M i) = M := funext fun r => by
  unfold updR; split
  · rename_i h; rw [h]
  · rfl
theorem updR_at (M : Mx) (i : Nat) (w : Nat → Int) : updR M i w i = w := by simp [updR]
theorem updR_ne (M : Mx) {i r : Nat} (w : Nat → Int) (h : r ≠ i) : updR M i w r = M r := by simp [updR, h]
theorem mnr_self (M : Mx) (i : Nat) (w : Nat → Int) : mnr (updR M i w) i = mnr M i := funext fun r => funext fun c => by
  unfold mnr updR
  rw [if_neg (by split <;> omega)]
theorem mnr_ne (M : Mx) {i j : Nat} (w : Nat → Int) (h : j ≠ i) : mnr (updR M i w) j = updR (mnr M j) (if i < j then i else i - 1) (fun c => w (c + 1)) := funext fun r => funext fun c => by
  unfold mnr updR
  by_cases h1 : (if r < j then r else r + 1) = i
  · have h2 : r = if i < j then i else i - 1 := by
      split at h1 <;> split <;> omega
    rw [if_pos h1, if_pos h2]
  · have h2 : ¬ r = if i < j then i else i - 1 := by
      split at h1 <;> split <;> omega
    rw [if_neg h1, if_neg h2]
theorem det_cong {p : Int} : ∀ {n : Nat} {M N : Mx}, (∀ r c, r < n → c < n → M r c % p = N r c % p) → det n M % p = det n N % p
  | 0, _, _, _ => rfl
  | n + 1, M, N, h => by
    rw [det, det]
    have gen : ∀ m : Nat, m ≤ n + 1 → dsum (fun i => sgd i * M i 0 * det n (mnr M i)) m % p = dsum (fun i => sgd i * N i 0 * det n (mnr N i)) m % p := by
      intro m
      induction m with
      | zero => intro _; rfl
      | succ m ih =>
        intro hm
        rw [dsum, dsum, Int.add_emod, ih (by omega), Int.add_emod (dsum (fun i => sgd i * N i 0 * det n (mnr N i)) m)]
        have e1 := h m 0 (by omega) (by omega)
        have e2 := det_cong (p := p) (n := n) (M := mnr M m) (N := mnr N m) (fun r c hr hc => h _ _ (by split <;> omega) (by omega))
        have e3 : (sgd m * M m 0 * det n (mnr M m)) % p = (sgd m * N m 0 * det n (mnr N m)) % p := by
          rw [Int.mul_emod, Int.mul_emod (sgd m), e1, e2, ← Int.mul_emod (sgd m), ← Int.mul_emod]
        rw [e3]
    exact gen _ (Nat.le_refl _)
theorem det_lin : ∀ {n : Nat} (M : Mx) {i : Nat} (u v : Nat → Int) (k : Int), i < n → det n (updR M i (fun c => u c + k * v c)) = det n (updR M i u) + k * det n (updR M i v)
  | 0, _, _, _, _, _, h => by omega
  | n + 1, M, i, u, v, k, h => by
    rw [det, det, det, ← dsum_lin]
    refine dsum_congr fun j hj => ?_
    by_cases e : j = i
    · subst e
      simp only [mnr_self, updR_at]
      generalize det n (mnr M j) = d
      rw [Int.mul_add, Int.add_mul]
      congr 1
      ac_rfl
    · simp only [mnr_ne M _ e, updR_ne M _ e]
      rw [det_lin (n := n) (mnr M j) (fun c => u (c + 1)) (fun c => v (c + 1)) k (by split <;> omega), Int.mul_add]
      congr 1
      ac_rfl
theorem det_nil {n : Nat} (M : Mx) {i : Nat} (hi : i < n) (hz : ∀ c, M i c = 0) : det n M = 0 := by
  have := det_lin M (M i) (M i) 1 hi
  have e : (fun c => M i c + 1 * M i c) = M i := funext fun c => by rw [hz c]; rfl
  rw [e, updR_self] at this
  omega
def idM : Mx := fun r c => if r = c then 1 else 0
theorem mnr_id : mnr idM 0 = idM := funext fun r => funext fun c => by simp [mnr, idM]
theorem det_one : ∀ n : Nat, det n idM = 1
  | 0 => rfl
  | n + 1 => by
    rw [det, dsum_one (k := 0) (by omega) (fun i hi hne => by simp [idM, hne]), mnr_id, det_one n]
    simp [sgd, idM]
def updC (M : Mx) (k : Nat) (b : Nat → Int) : Mx := fun r c => if c = k then b r else M r c
theorem det_col : ∀ {n k : Nat} (b : Nat → Int), k < n → det n (updC idM k b) = b k
  | 0, _, _, h => by omega
  | n + 1, 0, b, _ => by
    rw [det, dsum_one (k := 0) (by omega)]
    · have e : mnr (updC idM 0 b) 0 = idM := funext fun r => funext fun c => by simp [mnr, updC, idM]
      rw [e, det_one]
      simp [sgd, updC]
    · intro i hi hne
      rw [det_nil (mnr (updC idM 0 b) i) (i := 0) (by omega) (fun c => by
        have : (0 : Nat) < i := by omega
        simp [mnr, updC, idM, this]), Int.mul_zero]
  | n + 1, k + 1, b, h => by
    rw [det, dsum_one (k := 0) (by omega)]
    · have e : mnr (updC idM (k + 1) b) 0 = updC idM k (fun r => b (r + 1)) := funext fun r => funext fun c => by simp [mnr, updC, idM]
      rw [e, det_col _ (by omega)]
      simp [sgd, updC, idM]
    · intro i hi hne
      have : updC idM (k + 1) b i 0 = 0 := by simp [updC, idM, hne]
      rw [this]; simp
end Go.Proofs.Ytmojbncbbnjblaa


namespace Go.Proofs.Ytmojbncbbnjblaa
set_option linter.unusedVariables false
set_option linter.unusedSimpArgs false
set_option maxHeartbeats 1000000
theorem dsum_shift (f : Nat → Int) : ∀ n, dsum f (n + 1) = f 0 + dsum (fun i => f (i + 1)) n
  | 0 => by simp [dsum]
  | n + 1 => by rw [dsum, dsum_shift f n, dsum]; omega
theorem dsum_mul (k : Int) (f : Nat → Int) : ∀ n, k * dsum f n = dsum (fun i => k * f i) n
  | 0 => by simp [dsum]
  | n + 1 => by rw [dsum, dsum, Int.mul_add, dsum_mul k f n]
theorem dsum_plus (f g : Nat → Int) : ∀ n, dsum (fun i => f i + g i) n = dsum f n + dsum g n
  | 0 => by simp [dsum]
  | n + 1 => by rw [dsum, dsum, dsum, dsum_plus f g n]; omega
theorem dsum_swap (F : Nat → Nat → Int) (m : Nat) : ∀ n, dsum (fun i => dsum (fun k => F i k) m) n = dsum (fun k => dsum (fun i => F i k) n) m
  | 0 => (dsum_zero (f := fun k => dsum (fun i => F i k) 0) (fun i hi => rfl)).symm
  | n + 1 => by
    rw [dsum, dsum_swap F m n, ← dsum_plus]
    exact dsum_congr fun k hk => rfl
end Go.Proofs.Ytmojbncbbnjblaa


namespace Go.Proofs.Ytmojbncbbnjblaa
set_option linter.unusedVariables false
set_option linter.unusedSimpArgs false
set_option maxHeartbeats 1000000
def sel (W : Mx) (g : Nat → Nat) : Mx := fun r c => W r (g c)
def RowEq (n w : Nat) (W W' : Mx) : Prop := ∃ s t : Int, s * t % 10007 = 1 ∧ ∀ g : Nat → Nat, (∀ c, c < n → g c < w) → det n (sel W g) * s % 10007 = det n (sel W' g) % 10007
theorem RowEq.refl (n w : Nat) (W : Mx) : RowEq n w W W := ⟨1, 1, rfl, fun g hg => by rw [Int.mul_one]⟩
theorem mul_mod_l (a b : Int) : a % 10007 * b % 10007 = a * b % 10007 := by rw [Int.mul_emod, Int.emod_emod_of_dvd _ (Int.dvd_refl _), ← Int.mul_emod]
theorem RowEq.trans {n w : Nat} {W X Y : Mx} (h : RowEq n w W X) (k : RowEq n w X Y) : RowEq n w W Y := by
  obtain ⟨s, t, h1, h2⟩ := h
  obtain ⟨s', t', k1, k2⟩ := k
  refine ⟨s * s', t * t', ?_, fun g hg => ?_⟩
  · have e : s * s' * (t * t') = (s * t) * (s' * t') := by ac_rfl
    rw [e, Int.mul_emod, h1, k1]; rfl
  · rw [← k2 g hg, ← Int.mul_assoc, ← mul_mod_l, h2 g hg, mul_mod_l]
theorem RowEq.full {n : Nat} {W W' : Mx} (h : RowEq n (n + 1) W W') (hid : ∀ r c, r < n → c < n → W' r c % 10007 = idM r c % 10007) :
    ∃ s : Int, det n W * s % 10007 = 1 ∧ ∀ k, k < n → W' k n % 10007 = det n (updC W k (fun r => W r n)) * s % 10007 := by
  obtain ⟨s, t, h1, h2⟩ := h
  refine ⟨s, ?_, fun k hk => ?_⟩
  · have := h2 id (fun c hc => by show c < n + 1; omega)
    have e : ∀ X : Mx, sel X id = X := fun X => rfl
    rw [e, e, det_cong (p := 10007) (N := idM) hid, det_one] at this
    exact this
  · have := h2 (fun c => if c = k then n else c) (fun c hc => by show (if c = k then n else c) < n + 1; split <;> omega)
    have e : sel W (fun c => if c = k then n else c) = updC W k (fun r => W r n) := funext fun r => funext fun c => by
      by_cases hc : c = k
      · simp [sel, updC, hc]
      · simp [sel, updC, hc]
    rw [e] at this
    rw [this, det_cong (p := 10007) (N := updC idM k (fun r => W' r n)), det_col _ hk]
    intro r c hr hc
    by_cases hck : c = k
    · simp [sel, updC, hck]
    · simp [sel, updC, hck]; exact hid r c hr hc
end Go.Proofs.Ytmojbncbbnjblaa


namespace Go.Proofs.Ytmojbncbbnjblaa
open Go.Abs
set_option linter.unusedVariables false
set_option linter.unusedSimpArgs false
set_option maxHeartbeats 1000000
def mx (m : List (List Int)) : Mx := fun r c => (m[r]?.getD [])[c]?.getD 0
def Rws (w : Nat) (m : List (List Int)) : Prop := ∀ r ∈ m, r.length = w ∧ Ns r
theorem Rws.at {w : Nat} {m : List (List Int)} (h : Rws w m) {i : Nat} (hi : i < m.length) : (m[i]?.getD []).length = w ∧ Ns (m[i]?.getD []) := h _ (by simp [hi])
theorem Rws.set {w : Nat} {m : List (List Int)} (h : Rws w m) {i : Nat} {r : List Int} (hr : r.length = w ∧ Ns r) : Rws w (m.set i r) := fun x hx => by
  rcases List.mem_or_eq_of_mem_set hx with hx | rfl
  · exact h x hx
  · exact hr
end Go.Proofs.Ytmojbncbbnjblaa


namespace Go.Proofs.Ytmojbncbbnjblaa
open Go.Abs
set_option linter.unusedVariables false
set_option linter.unusedSimpArgs false
set_option maxHeartbeats 1000000
def sg (odd : Bool) (k : Nat) : Int := if odd = true ∧ k % 2 = 1 then -1 else 1
end Go.Proofs.Ytmojbncbbnjblaa


namespace Go.Proofs.Ytmojbncbbnjblaa
set_option linter.unusedVariables false
set_option maxRecDepth 100000
def fp : Nat → Nat → Nat → Nat
  | 0, _, _ => 1
  | f + 1, a, n => Nat.rec (1 % 10007) (fun _ _ => Nat.rec (fp f (Nat.mod (Nat.mul a a) 10007) (Nat.div n 2)) (fun _ _ => Nat.mod (Nat.mul a (fp f (Nat.mod (Nat.mul a a) 10007) (Nat.div n 2))) 10007) (Nat.mod n 2)) n
theorem fp_eq : ∀ (f a n : Nat), n < 2 ^ f → fp f a n = a ^ n % 10007
  | 0, a, n, h => by
    have : n = 0 := by simp at h; exact h
    subst this; rfl
  | f + 1, a, 0, _ => by show 1 % 10007 = a ^ 0 % 10007; rw [Nat.pow_zero]
  | f + 1, a, n + 1, h => by
    have hh : (n + 1) / 2 < 2 ^ f := by rw [Nat.pow_succ] at h; omega
    have ih := fp_eq f (a * a % 10007) ((n + 1) / 2) hh
    have sq : (a * a % 10007) ^ ((n + 1) / 2) % 10007 = a ^ (2 * ((n + 1) / 2)) % 10007 := by
      rw [← Nat.pow_mod, Nat.pow_mul, Nat.pow_two]
    rw [sq] at ih
    have e0 : fp (f + 1) a (n + 1) = Nat.rec (fp f (a * a % 10007) ((n + 1) / 2)) (fun _ _ => a * fp f (a * a % 10007) ((n + 1) / 2) % 10007) ((n + 1) % 2) := rfl
    rw [e0, ih]
    rcases Nat.mod_two_eq_zero_or_one (n + 1) with h2 | h2
    · rw [h2]
      show a ^ (2 * ((n + 1) / 2)) % 10007 = a ^ (n + 1) % 10007
      rw [show 2 * ((n + 1) / 2) = n + 1 by omega]
    · rw [h2]
      show a * (a ^ (2 * ((n + 1) / 2)) % 10007) % 10007 = a ^ (n + 1) % 10007
      rw [show n + 1 = 2 * ((n + 1) / 2) + 1 by omega, Nat.pow_succ, Nat.mul_mod, Nat.mod_mod, ← Nat.mul_mod, Nat.mul_comm]
      rw [show (2 * ((n + 1) / 2) + 1) / 2 = (n + 1) / 2 by omega]
theorem fp_pow (n e : Nat) (he : e < 2 ^ 15) : ((fp 15 n e : Nat) : Int) = pw (n : Int) (e : Int) := by
  rw [fp_eq 15 n e he]
  unfold pw
  rw [Int.toNat_natCast, Int.natCast_emod, Int.natCast_pow]; rfl
theorem fp_pw (n : Nat) : ((fp 15 n 10005 : Nat) : Int) = pw (n : Int) 10005 := fp_pow n 10005 (by decide)
end Go.Proofs.Ytmojbncbbnjblaa


namespace Go.Proofs.Ytmojbncbbnjblaa
open Go.Abs
set_option linter.unusedVariables false
set_option linter.unusedSimpArgs false
set_option maxHeartbeats 1000000
structure GI (n w : Nat) (W0 : Mx) (m : List (List Int)) (done k : Nat) : Prop where
  len : m.length = n
  rws : Rws w m
  eqv : RowEq n w W0 (mx m)
  dle : done ≤ n
  piv : ∃ piv : Nat → Nat, (∀ j, j < done → piv j < k ∧ ∀ r, r < n → mx m r (piv j) = if r = j then 1 else 0) ∧ (∀ j, j + 1 < done → piv j < piv (j + 1)) ∧ (∀ j, j < done → ∀ c, c < piv j → mx m j c = 0)
  low : ∀ r, done ≤ r → r < n → ∀ c, c < k → mx m r c = 0
theorem GI.skip {n w : Nat} {W0 : Mx} {m : List (List Int)} {done k : Nat} (h : GI n w W0 m done k) (hz : ∀ r, done ≤ r → r < n → mx m r k = 0) : GI n w W0 m done (k + 1) := by
  obtain ⟨h1, h2, h3, h4, ⟨p, p1, p2, p3⟩, h6⟩ := h
  refine ⟨h1, h2, h3, h4, ⟨p, fun j hj => ⟨by have := (p1 j hj).1; omega, (p1 j hj).2⟩, p2, p3⟩, fun r hr hn c hc => ?_⟩
  by_cases e : c = k
  · subst e; exact hz r hr hn
  · exact h6 r hr hn c (by omega)
end Go.Proofs.Ytmojbncbbnjblaa


namespace Go.Proofs.Ytmojbncbbnjblaa
open Go.Abs
set_option linter.unusedVariables false
set_option linter.unusedSimpArgs false
set_option maxHeartbeats 1000000
def ldF (r : List Int) : Nat → Nat → Nat
  | 0, i => i
  | f + 1, i => if r[i]?.getD 0 = 0 then ldF r f (i + 1) else i
theorem ldF_le (r : List Int) : ∀ f i, i ≤ ldF r f i ∧ ldF r f i ≤ i + f
  | 0, i => by simp [ldF]
  | f + 1, i => by
    rw [ldF]
    split
    · have := ldF_le r f (i + 1); omega
    · omega
theorem ldF_zero (r : List Int) : ∀ f i j, i ≤ j → j < ldF r f i → r[j]?.getD 0 = 0
  | 0, i, j, h1, h2 => by rw [ldF] at h2; omega
  | f + 1, i, j, h1, h2 => by
    rw [ldF] at h2
    split at h2
    · rename_i h
      by_cases e : j = i
      · subst e; exact h
      · exact ldF_zero r f (i + 1) j (by omega) h2
    · omega
theorem ldF_ne (r : List Int) : ∀ f i, ldF r f i < i + f → r[ldF r f i]?.getD 0 ≠ 0
  | 0, i, h => by rw [ldF] at h; omega
  | f + 1, i, h => by
    rw [ldF] at h ⊢
    split
    · rename_i hz
      rw [if_pos hz] at h
      exact ldF_ne r f (i + 1) (by omega)
    · rename_i hz; exact hz
def leadL (r : List Int) : Nat := ldF r r.length 0
def oneB (n : Nat) (m : List (List Int)) (done : Nat) : Bool := decide (done = n) && decide (leadL (m[n - 1]?.getD []) = n - 1)
theorem piv_ge {p : Nat → Nat} {n : Nat} (h : ∀ j, j + 1 < n → p j < p (j + 1)) : ∀ j, j < n → j ≤ p j
  | 0, _ => by omega
  | j + 1, hj => by have := piv_ge h j (by omega); have := h j hj; omega
theorem piv_le {p : Nat → Nat} {n : Nat} (h : ∀ j, j + 1 < n → p j < p (j + 1)) : ∀ t j, j + t + 1 = n → p j + t ≤ p (n - 1)
  | 0, j, hj => by rw [show n - 1 = j by omega]; omega
  | t + 1, j, hj => by have := piv_le h t (j + 1) (by omega); have := h j (by omega); omega
theorem GI.one {n : Nat} {W0 : Mx} {m : List (List Int)} {done k : Nat} (h : GI n (n + 1) W0 m done k) (hn : 0 < n) (hk : k ≤ n + 1) (ho : oneB n m done = true) : ∀ r c, r < n → c < n → mx m r c = idM r c := by
  unfold oneB at ho
  simp only [Bool.and_eq_true, decide_eq_true_eq] at ho
  obtain ⟨hd, hl⟩ := ho
  subst hd
  obtain ⟨p, p1, p2, p3⟩ := h.piv
  have rl := (h.rws.at (i := done - 1) (by rw [h.len]; omega)).1
  have hne := ldF_ne (m[done - 1]?.getD []) (m[done - 1]?.getD []).length 0 (by
    have : ldF (m[done - 1]?.getD []) (m[done - 1]?.getD []).length 0 = done - 1 := hl
    omega)
  have hl2 : ldF (m[done - 1]?.getD []) (m[done - 1]?.getD []).length 0 = done - 1 := hl
  rw [hl2] at hne
  have hp : p (done - 1) ≤ done - 1 := by
    rcases Nat.lt_or_ge (done - 1) (p (done - 1)) with hlt | hge
    · exact (hne (p3 (done - 1) (by omega) (done - 1) hlt)).elim
    · exact hge
  intro r c hr hc
  have g1 := piv_ge p2 c hc
  have g2 := piv_le p2 (done - 1 - c) c (by omega)
  have e : p c = c := by omega
  have := (p1 c hc).2 r hr
  rw [e] at this
  exact this
theorem GI.none {n : Nat} {W0 : Mx} {m : List (List Int)} {done k : Nat} (h : GI n (n + 1) W0 m done k) (hn : 0 < n) (hk : k ≤ n + 1) (hf : k = n + 1 ∨ done = n) (ho : oneB n m done = false) : ∃ i, i < n ∧ ∀ c, c < n → mx m i c = 0 := by
  refine ⟨n - 1, by omega, fun c hc => ?_⟩
  have hdl := h.dle
  by_cases hd : done = n
  · subst hd
    obtain ⟨p, p1, p2, p3⟩ := h.piv
    have rl := (h.rws.at (i := done - 1) (by rw [h.len]; omega)).1
    have g1 := piv_ge p2 (done - 1) (by omega)
    have q := p1 (done - 1) (by omega)
    by_cases e : p (done - 1) = done - 1
    · have e1 : mx m (done - 1) (done - 1) = 1 := by
        have := q.2 (done - 1) (by omega)
        rw [e, if_pos rfl] at this
        exact this
      have l1 := ldF_le (m[done - 1]?.getD []) (m[done - 1]?.getD []).length 0
      have hl : leadL (m[done - 1]?.getD []) = done - 1 := by
        unfold leadL
        rcases Nat.lt_trichotomy (ldF (m[done - 1]?.getD []) (m[done - 1]?.getD []).length 0) (done - 1) with hlt | heq | hgt
        · have := ldF_ne (m[done - 1]?.getD []) (m[done - 1]?.getD []).length 0 (by omega)
          exact (this (p3 (done - 1) (by omega) _ (by omega))).elim
        · exact heq
        · have := ldF_zero (m[done - 1]?.getD []) (m[done - 1]?.getD []).length 0 (done - 1) (by omega) hgt
          have e2 : mx m (done - 1) (done - 1) = 0 := this
          rw [e1] at e2; omega
      unfold oneB at ho
      rw [hl] at ho
      simp at ho
    · exact p3 (done - 1) (by omega) c (by omega)
  · exact h.low (n - 1) (by omega) (by omega) c (by omega)
end Go.Proofs.Ytmojbncbbnjblaa


namespace Go.Proofs.Ytmojbncbbnjblaa
open Go.Abs
set_option linter.unusedVariables false
set_option linter.unusedSimpArgs false
set_option maxHeartbeats 1000000
end Go.Proofs.Ytmojbncbbnjblaa


namespace Go.Proofs.Ytmojbncbbnjblaa
open Go.Abs
set_option linter.unusedVariables false
set_option linter.unusedSimpArgs false
set_option maxHeartbeats 1000000
end Go.Proofs.Ytmojbncbbnjblaa


namespace Go.Proofs.Ytmojbncbbnjblaa
open Go.Abs
set_option linter.unusedVariables false
set_option linter.unusedSimpArgs false
set_option maxHeartbeats 1000000
end Go.Proofs.Ytmojbncbbnjblaa


namespace Go.Proofs.Ytmojbncbbnjblaa
open Go.Abs CR
set_option linter.unusedVariables false
set_option linter.unusedSimpArgs false
set_option maxHeartbeats 1000000
section
variable {α : Type}
def mnR (M : Nat → Nat → α) (i : Nat) : Nat → Nat → α := fun r c => M (if r < i then r else r + 1) (c + 1)
def upR (M : Nat → Nat → α) (i : Nat) (w : Nat → α) : Nat → Nat → α := fun r => if r = i then w else M r
theorem upR_self (M : Nat → Nat → α) (i : Nat) : upR M i (M i) = M := funext fun r => by
  unfold upR; split
  · rename_i h; rw [h]
  · rfl
theorem upR_at (M : Nat → Nat → α) (i : Nat) (w : Nat → α) : upR M i w i = w := by simp [upR]
theorem upR_ne (M : Nat → Nat → α) {i r : Nat} (w : Nat → α) (h : r ≠ i) : upR M i w r = M r := by simp [upR, h]
theorem upR_comm (M : Nat → Nat → α) {i j : Nat} (h : i ≠ j) (v w : Nat → α) : upR (upR M i v) j w = upR (upR M j w) i v := funext fun r => by
  unfold upR
  by_cases h1 : r = i
  · subst h1; rw [if_neg h, if_pos rfl, if_pos rfl]
  · rw [if_neg h1, if_neg h1]
theorem mnR_self (M : Nat → Nat → α) (i : Nat) (w : Nat → α) : mnR (upR M i w) i = mnR M i := funext fun r => funext fun c => by
  unfold mnR upR
  rw [if_neg (by split <;> omega)]
theorem mnR_ne (M : Nat → Nat → α) {i j : Nat} (w : Nat → α) (h : j ≠ i) : mnR (upR M i w) j = upR (mnR M j) (if i < j then i else i - 1) (fun c => w (c + 1)) := funext fun r => funext fun c => by
  unfold mnR upR
  by_cases h1 : (if r < j then r else r + 1) = i
  · have h2 : r = if i < j then i else i - 1 := by
      split at h1 <;> split <;> omega
    rw [if_pos h1, if_pos h2]
  · have h2 : ¬ r = if i < j then i else i - 1 := by
      split at h1 <;> split <;> omega
    rw [if_neg h1, if_neg h2]
end
section
variable {α : Type} [CR α]
def dR (f : Nat → α) : Nat → α
  | 0 => ofI 0
  | n + 1 => dR f n + f n
theorem dR_congr {f g : Nat → α} : ∀ {n : Nat}, (∀ i, i < n → f i = g i) → dR f n = dR g n
  | 0, _ => rfl
  | n + 1, h => by rw [dR, dR, dR_congr (fun i hi => h i (by omega)), h n (by omega)]
theorem dR_lin (f g : Nat → α) (k : α) : ∀ n : Nat, dR (fun i => f i + k * g i) n = dR f n + k * dR g n
  | 0 => by simp only [dR]; rw [mul0, add0]
  | n + 1 => by simp only [dR]; rw [dR_lin f g k n, mulD]; ac_rfl
theorem dR_zero {f : Nat → α} : ∀ {n : Nat}, (∀ i, i < n → f i = ofI 0) → dR f n = ofI 0
  | 0, _ => rfl
  | n + 1, h => by rw [dR, dR_zero (fun i hi => h i (by omega)), h n (by omega), add0]
theorem dR_one {f : Nat → α} {k : Nat} : ∀ {n : Nat}, k < n → (∀ i, i < n → i ≠ k → f i = ofI 0) → dR f n = f k
  | 0, h, _ => by omega
  | n + 1, h, hz => by
    rw [dR]
    by_cases e : k = n
    · subst e
      rw [dR_zero (fun i hi => hz i (by omega) (by omega)), zadd]
    · rw [dR_one (n := n) (by omega) (fun i hi hne => hz i (by omega) hne), hz n (by omega) (by omega), add0]
theorem dR_two {f : Nat → α} {k : Nat} : ∀ {n : Nat}, k + 1 < n → (∀ i, i < n → i ≠ k → i ≠ k + 1 → f i = ofI 0) → dR f n = f k + f (k + 1)
  | 0, h, _ => by omega
  | n + 1, h, hz => by
    rw [dR]
    by_cases e : k + 1 = n
    · subst e
      rw [dR_one (k := k) (by omega) (fun i hi hne => hz i (by omega) hne (by omega))]
    · rw [dR_two (n := n) (by omega) (fun i hi h1 h2 => hz i (by omega) h1 h2), hz n (by omega) (by omega) (by omega), add0]
def dtR : Nat → (Nat → Nat → α) → α
  | 0, _ => ofI 1
  | n + 1, M => dR (fun i => ofI (sgd i) * M i 0 * dtR n (mnR M i)) (n + 1)
theorem dtR_congr : ∀ {n : Nat} {M N : Nat → Nat → α}, (∀ r c, r < n → c < n → M r c = N r c) → dtR n M = dtR n N
  | 0, _, _, _ => rfl
  | n + 1, M, N, h => by
    rw [dtR, dtR]
    refine dR_congr fun i hi => ?_
    rw [h i 0 hi (by omega)]
    rw [dtR_congr (n := n) (M := mnR M i) (N := mnR N i) (fun r c hr hc => h _ _ (by split <;> omega) (by omega))]
theorem dtR_lin : ∀ {n : Nat} (M : Nat → Nat → α) {i : Nat} (u v : Nat → α) (k : α), i < n → dtR n (upR M i (fun c => u c + k * v c)) = dtR n (upR M i u) + k * dtR n (upR M i v)
  | 0, _, _, _, _, _, h => by omega
  | n + 1, M, i, u, v, k, h => by
    rw [dtR, dtR, dtR, ← dR_lin]
    refine dR_congr fun j hj => ?_
    by_cases e : j = i
    · subst e
      simp only [mnR_self, upR_at]
      generalize dtR n (mnR M j) = d
      rw [mulD, Dmul]
      congr 1
      ac_rfl
    · simp only [mnR_ne M _ e, upR_ne M _ e]
      rw [dtR_lin (n := n) (mnR M j) (fun c => u (c + 1)) (fun c => v (c + 1)) k (by split <;> omega), mulD]
      congr 1
      ac_rfl
theorem dtR_adj : ∀ {n : Nat} (M : Nat → Nat → α) {i : Nat}, i + 1 < n → M i = M (i + 1) → dtR n M = ofI 0
  | 0, _, _, h, _ => by omega
  | n + 1, M, i, h, he => by
    rw [dtR, dR_two (k := i) h]
    · have hm : mnR M (i + 1) = mnR M i := funext fun r => funext fun c => by
        unfold mnR
        by_cases h1 : r < i
        · rw [if_pos (by omega), if_pos h1]
        · by_cases h2 : r = i
          · subst h2; rw [if_pos (by omega), if_neg (by omega), he]
          · rw [if_neg (by omega), if_neg (by omega)]
      rw [hm, ← he, mulA, mulA, ← Dmul, ← ofAdd, sgd_succ, show sgd i + - sgd i = 0 by omega, zmul]
    · intro j hj h1 h2
      have hz : dtR n (mnR M j) = ofI 0 := by
        by_cases hlt : i < j
        · refine dtR_adj (mnR M j) (i := i) (by omega) (funext fun c => ?_)
          unfold mnR
          rw [if_pos hlt, if_pos (by omega), he]
        · obtain ⟨i', rfl⟩ : ∃ i', i = i' + 1 := ⟨i - 1, by omega⟩
          refine dtR_adj (mnR M j) (i := i') (by omega) (funext fun c => ?_)
          unfold mnR
          rw [if_neg (by omega), if_neg (by omega), he]
      rw [hz, mul0]
end
end Go.Proofs.Ytmojbncbbnjblaa


namespace Go.Proofs.Ytmojbncbbnjblaa
open Go.Abs CR
set_option linter.unusedVariables false
set_option linter.unusedSimpArgs false
set_option maxHeartbeats 1000000
section
variable {α : Type} [CR α]
theorem dtR_nil {n : Nat} (M : Nat → Nat → α) {i : Nat} (hi : i < n) : dtR n (upR M i (fun _ => ofI 0)) = ofI 0 := by
  have := dtR_lin M (fun _ => ofI 0) (fun _ => ofI 0) (ofI (-1)) hi
  have e : (fun _ : Nat => (ofI 0 : α) + ofI (-1) * ofI 0) = fun _ => ofI 0 := funext fun _ => by rw [mul0, add0]
  rw [e] at this
  generalize dtR n (upR M i (fun _ => ofI 0)) = d at *
  have z : d + ofI (-1) * d = ofI 0 := by
    have h1 : d + ofI (-1) * d = ofI 1 * d + ofI (-1) * d := by rw [omul]
    rw [h1, ← Dmul, ← ofAdd]
    exact zmul d
  rw [this]; exact z
theorem neg_of {a b : α} (h : a + b = ofI 0) : a = ofI (-1) * b := by
  have e : b + ofI (-1) * b = ofI 0 := by
    have h1 : b + ofI (-1) * b = ofI 1 * b + ofI (-1) * b := by rw [omul]
    rw [h1, ← Dmul, ← ofAdd]
    exact zmul b
  have h2 : a = a + (b + ofI (-1) * b) := by rw [e, add0]
  rw [← addA, h, zadd] at h2
  exact h2
theorem dtR_swap1 {n : Nat} (M : Nat → Nat → α) {i : Nat} (h : i + 1 < n) (u v : Nat → α) : dtR n (upR (upR M i u) (i + 1) v) = ofI (-1) * dtR n (upR (upR M i v) (i + 1) u) := by
  have hne : i ≠ i + 1 := by omega
  have z := fun w : Nat → α => dtR_adj (n := n) (upR (upR M i w) (i + 1) w) h (by rw [upR_at, upR_ne _ _ hne, upR_at])
  have s := z (fun c => u c + ofI 1 * v c)
  rw [dtR_lin _ u v _ (show i + 1 < n from h), upR_comm _ hne, upR_comm _ hne, dtR_lin _ u v _ (by omega), dtR_lin _ u v _ (by omega)] at s
  have zu := z u
  have zv := z v
  rw [upR_comm _ hne] at zu zv
  rw [zu, zv, omul, omul, omul, zadd, add0] at s
  rw [upR_comm _ hne u v, upR_comm _ hne v u]
  refine neg_of ?_
  rw [addC]; exact s
theorem dtR_eq : ∀ {n : Nat} (k : Nat) (M : Nat → Nat → α) {i : Nat}, i + k + 1 < n → M i = M (i + k + 1) → dtR n M = ofI 0
  | n, 0, M, i, h, he => dtR_adj M h he
  | n, k + 1, M, i, h, he => by
    have hne : i + k + 1 ≠ i + (k + 1) + 1 := by omega
    have e0 : M = upR (upR M (i + k + 1) (M (i + k + 1))) (i + k + 1 + 1) (M (i + k + 1 + 1)) := by rw [upR_self, upR_self]
    rw [e0, dtR_swap1 M (i := i + k + 1) (by omega)]
    have := dtR_eq k (upR (upR M (i + k + 1) (M (i + k + 1 + 1))) (i + k + 1 + 1) (M (i + k + 1))) (i := i) (n := n) (by omega) (by
      rw [upR_ne _ _ (show i ≠ i + k + 1 + 1 by omega), upR_ne _ _ (show i ≠ i + k + 1 by omega), upR_ne _ _ (show i + k + 1 ≠ i + k + 1 + 1 by omega), upR_at]
      exact he)
    rw [this, mul0]
theorem dtR_same {n : Nat} (M : Nat → Nat → α) {i j : Nat} (hi : i < n) (hj : j < n) (hne : i ≠ j) (he : M i = M j) : dtR n M = ofI 0 := by
  by_cases h : i < j
  · have e : j = i + (j - i - 1) + 1 := by omega
    rw [e] at he
    exact dtR_eq (j - i - 1) M (by omega) he
  · have e : i = j + (i - j - 1) + 1 := by omega
    rw [e] at he
    exact dtR_eq (i - j - 1) M (by omega) he.symm
end
end Go.Proofs.Ytmojbncbbnjblaa


namespace Go.Proofs.Ytmojbncbbnjblaa
open Go.Abs CR
set_option linter.unusedVariables false
set_option linter.unusedSimpArgs false
set_option maxHeartbeats 1000000
section
variable {α : Type} [CR α]
end
end Go.Proofs.Ytmojbncbbnjblaa


namespace Go.Proofs.Ytmojbncbbnjblaa
open Go.Abs CR
set_option linter.unusedVariables false
set_option linter.unusedSimpArgs false
set_option maxHeartbeats 1000000
def ulS (M : Mx) : Nat → Nat → Ser Int := fun r c k => if k = 0 then idM r c else if k = 1 then - M r c else 0
def chS (n : Nat) (M : Mx) : Ser Int := dtR n (ulS M)
theorem cmul_nil (b : Ser Int) : ∀ (k : Nat) (a : Ser Int), (∀ i, a i = 0) → cmul k a b = 0
  | 0, a, h => by show a 0 * b 0 = 0; rw [h 0, Int.zero_mul]
  | k + 1, a, h => by
    show a 0 * b (k + 1) + cmul k (sh a) b = 0
    rw [h 0, cmul_nil b k (sh a) (fun i => h (i + 1)), Int.zero_mul]; rfl
theorem cmul_lin {a : Ser Int} (h : ∀ i, a (i + 2) = 0) (b : Ser Int) (k : Nat) : cmul (k + 1) a b = a 0 * b (k + 1) + a 1 * b k := by
  show a 0 * b (k + 1) + cmul k (sh a) b = _
  congr 1
  cases k with
  | zero => rfl
  | succ k =>
    show sh a 0 * b (k + 1) + cmul k (sh (sh a)) b = _
    rw [cmul_nil b k (sh (sh a)) (fun i => h i), Int.add_zero]; rfl
theorem dR_at (f : Nat → Ser Int) (k : Nat) : ∀ n, dR f n k = dsum (fun i => f i k) n
  | 0 => by show (ofI 0 : Ser Int) k = 0; cases k <;> rfl
  | n + 1 => by
    have : dR f (n + 1) k = dR f n k + f n k := rfl
    rw [this, dR_at f k n]; rfl
theorem ulS_lin (M : Mx) (r c : Nat) : ∀ i, ulS M r c (i + 2) = 0 := fun i => by unfold ulS; rw [if_neg (by omega), if_neg (by omega)]
theorem ul_mul (M : Mx) (r c : Nat) (b : Ser Int) (k : Nat) : (ulS M r c * b) (k + 1) = idM r c * b (k + 1) + - M r c * b k := cmul_lin (ulS_lin M r c) b k
theorem ul_mul0 (M : Mx) (r c : Nat) (b : Ser Int) : (ulS M r c * b) 0 = idM r c * b 0 := rfl
theorem dtR_at0 : ∀ (n : Nat) (A : Nat → Nat → Ser Int), dtR n A 0 = det n (fun r c => A r c 0)
  | 0, A => rfl
  | n + 1, A => by
    rw [dtR, dR_at, det]
    refine dsum_congr fun i hi => ?_
    have : (ofI (sgd i) * A i 0 * dtR n (mnR A i)) 0 = sgd i * A i 0 0 * dtR n (mnR A i) 0 := rfl
    rw [this, dtR_at0 n (mnR A i)]; rfl
theorem ch_0 (n : Nat) (M : Mx) : chS n M 0 = 1 := by
  unfold chS
  rw [dtR_at0]
  exact det_one n
def Ev (z : Int) (d : Nat) (f : Ser Int) (v : Int) : Prop := (∀ k, d < k → f k = 0) ∧ dsum (fun k => f k * z ^ k) (d + 1) = v
theorem Ev.zero (z : Int) (d : Nat) : Ev z d (ofI 0) 0 := by
  have h0 : ∀ k, (ofI 0 : Ser Int) k = 0 := fun k => by cases k <;> rfl
  exact ⟨fun k _ => h0 k, dsum_zero fun k _ => by rw [h0, Int.zero_mul]⟩
theorem Ev.add {z : Int} {d : Nat} {f g : Ser Int} {v w : Int} (h : Ev z d f v) (k : Ev z d g w) : Ev z d (f + g) (v + w) := by
  refine ⟨fun i hi => by rw [ser_add, h.1 i hi, k.1 i hi]; rfl, ?_⟩
  rw [← h.2, ← k.2, ← dsum_plus]
  exact dsum_congr fun i hi => by rw [ser_add, Int.add_mul]
theorem Ev.lin {z : Int} {d : Nat} {f g : Ser Int} {w : Int} (hf : ∀ i, f (i + 2) = 0) (k : Ev z d g w) : Ev z (d + 1) (f * g) ((f 0 + f 1 * z) * w) := by
  have at1 : ∀ i, (f * g) (i + 1) = f 0 * g (i + 1) + f 1 * g i := fun i => cmul_lin hf g i
  have at0 : (f * g) 0 = f 0 * g 0 := rfl
  refine ⟨fun i hi => ?_, ?_⟩
  · obtain ⟨j, rfl⟩ : ∃ j, i = j + 1 := ⟨i - 1, by omega⟩
    rw [at1, k.1 (j + 1) (by omega), k.1 j (by omega)]; omega
  · have e1 : dsum (fun i => (f * g) (i + 1) * z ^ (i + 1)) (d + 1) = dsum (fun i => f 0 * (g (i + 1) * z ^ (i + 1)) + (f 1 * z) * (g i * z ^ i)) (d + 1) :=
      dsum_congr fun i hi => by
        rw [at1, Int.add_mul, Int.pow_succ]
        congr 1
        · rw [Int.mul_assoc]
        · rw [Int.mul_assoc, Int.mul_assoc]
          congr 1
          rw [← Int.mul_assoc, Int.mul_comm]
    have e2 : dsum (fun i => g i * z ^ i) (d + 1 + 1) = w := by
      show dsum (fun i => g i * z ^ i) (d + 1) + g (d + 1) * z ^ (d + 1) = w
      rw [k.2, k.1 (d + 1) (by omega), Int.zero_mul, Int.add_zero]
    rw [dsum_shift] at e2
    rw [dsum_shift, e1, dsum_lin, at0, ← dsum_mul, k.2, Int.add_mul]
    have e3 : f 0 * w = f 0 * (g 0 * z ^ 0) + f 0 * dsum (fun i => g (i + 1) * z ^ (i + 1)) (d + 1) := by rw [← Int.mul_add, e2]
    rw [e3, Int.mul_assoc (f 0) (g 0), Int.add_assoc]
theorem Ev.dR {z : Int} {d : Nat} {f : Nat → Ser Int} {v : Nat → Int} : ∀ {n : Nat}, (∀ i, i < n → Ev z d (f i) (v i)) → Ev z d (dR f n) (dsum v n)
  | 0, _ => Ev.zero z d
  | n + 1, h => Ev.add (Ev.dR (n := n) (fun i hi => h i (by omega))) (h n (by omega))
theorem Ev.det {z : Int} : ∀ (n : Nat) (A : Nat → Nat → Ser Int), (∀ r c i, A r c (i + 2) = 0) → Ev z n (dtR n A) (det n (fun r c => A r c 0 + A r c 1 * z))
  | 0, A, _ => by
    refine ⟨fun k hk => ?_, ?_⟩
    · obtain ⟨j, rfl⟩ : ∃ j, k = j + 1 := ⟨k - 1, by omega⟩
      rfl
    · show (0 : Int) + 1 * z ^ 0 = 1
      rw [Int.pow_zero]; rfl
  | n + 1, A, h => by
    rw [dtR, Go.Proofs.Ytmojbncbbnjblaa.det]
    refine Ev.dR fun i hi => ?_
    have q := Ev.lin (f := ofI (sgd i) * A i 0) (fun t => by
      show cmul (t + 2) (sOf (sgd i)) (A i 0) = 0
      rw [cmul_comm, cmul_of, h, Int.zero_mul]) (Ev.det (z := z) n (mnR A i) (fun r c t => h _ _ _))
    have e : ∀ t, (ofI (sgd i) * A i 0) t = sgd i * A i 0 t := fun t => by
      show cmul t (sOf (sgd i)) (A i 0) = _
      rw [cmul_comm, cmul_of]; exact Int.mul_comm _ _
    rw [e, e, Int.mul_assoc, ← Int.mul_add] at q
    exact q
end Go.Proofs.Ytmojbncbbnjblaa


namespace Go.Proofs.Ytmojbncbbnjblaa
open Go.Abs
set_option linter.unusedVariables false
set_option linter.unusedSimpArgs false
set_option maxHeartbeats 1000000
end Go.Proofs.Ytmojbncbbnjblaa


namespace Go.Proofs.Ytmojbncbbnjblaa
open Go.Abs
set_option linter.unusedVariables false
set_option linter.unusedSimpArgs false
set_option maxHeartbeats 1000000
end Go.Proofs.Ytmojbncbbnjblaa


namespace Go.Proofs.Ytmojbncbbnjblaa
open Go.Abs
set_option linter.unusedVariables false
set_option linter.unusedSimpArgs false
set_option maxHeartbeats 1000000
theorem dotI_dsum : ∀ (xs ys : List Int) (n : Nat), xs.length = n → ys.length = n → dotI xs ys = dsum (fun c => xs[c]?.getD 0 * ys[c]?.getD 0) n
  | [], ys, n, h, h2 => by simp at h; subst h; rfl
  | x :: xs, [], n, h, h2 => by simp at h h2; omega
  | x :: xs, y :: ys, n, h, h2 => by
    obtain ⟨m, rfl⟩ : ∃ m, n = m + 1 := ⟨n - 1, by simp at h; omega⟩
    rw [dsum_shift, dotI, dotI_dsum xs ys m (by simpa using h) (by simpa using h2)]
    rfl
end Go.Proofs.Ytmojbncbbnjblaa


namespace Go.Proofs.Ytmojbncbbnjblaa
open Go.Abs
set_option linter.unusedVariables false
set_option linter.unusedSimpArgs false
set_option maxHeartbeats 4000000
end Go.Proofs.Ytmojbncbbnjblaa


namespace Go.Proofs.Ytmojbncbbnjblaa
open Go.Abs
set_option linter.unusedVariables false
set_option linter.unusedSimpArgs false
set_option maxHeartbeats 4000000
end Go.Proofs.Ytmojbncbbnjblaa


namespace Go.Proofs.Ytmojbncbbnjblaa
open Go.Abs
set_option linter.unusedVariables false
set_option linter.unusedSimpArgs false
set_option maxHeartbeats 4000000
end Go.Proofs.Ytmojbncbbnjblaa


namespace Go.Proofs.Ytmojbncbbnjblaa
open Go.Abs
set_option linter.unusedVariables false
set_option linter.unusedSimpArgs false
set_option maxHeartbeats 4000000
end Go.Proofs.Ytmojbncbbnjblaa


namespace Go.Proofs.Ytmojbncbbnjblaa
open Go.Abs
set_option linter.unusedVariables false
set_option linter.unusedSimpArgs false
set_option maxHeartbeats 4000000
end Go.Proofs.Ytmojbncbbnjblaa


namespace Go.Proofs.Ytmojbncbbnjblaa
open Go.Abs
set_option linter.unusedVariables false
set_option linter.unusedSimpArgs false
set_option maxHeartbeats 4000000
def lesM (A : List (List Int)) (B : List Int) : List (List Int) := (List.range A.length).map fun i => plusS (A[i]?.getD []) B (-1)
theorem Tab.rws {A : List (List Int)} {B : List Int} (h : Tab A B) : Rws B.length A := h.a
theorem lesM_ok {A : List (List Int)} {B : List Int} (h : Tab A B) : (lesM A B).length = B.length ∧ Rws B.length (lesM A B) := by
  refine ⟨by simp [lesM, h.len], fun x hx => ?_⟩
  obtain ⟨i, hi, rfl⟩ := List.mem_map.1 hx
  exact ⟨by rw [plusS_len]; exact (h.rws.at (show i < A.length by simpa using hi)).1, plusS_N _ _ _⟩
end Go.Proofs.Ytmojbncbbnjblaa


namespace Go.Proofs.Ytmojbncbbnjblaa
open Go.Abs
set_option linter.unusedVariables false
set_option linter.unusedSimpArgs false
set_option maxHeartbeats 1000000
def ordN (xs ys : List Int) : Nat → Nat → Nat
  | 0, p => p
  | f + 1, p => if xs[p + 1]?.getD 0 = ys[p + 1]?.getD 0 then ordN xs ys f (p + 1) else p
theorem ordN_of {xs ys : List Int} : ∀ (f p q : Nat), q ≤ p → p ≤ q + f → (∀ j, q < j → j ≤ p → xs[j]?.getD 0 = ys[j]?.getD 0) → (p = q + f ∨ xs[p + 1]?.getD 0 ≠ ys[p + 1]?.getD 0) → ordN xs ys f q = p
  | 0, p, q, h1, h2, _, _ => by simp [ordN]; omega
  | f + 1, p, q, h1, h2, h3, h4 => by
    rw [ordN]
    by_cases hp : q = p
    · subst hp
      rcases h4 with h4 | h4
      · omega
      · rw [if_neg h4]
    · rw [if_pos (h3 (q + 1) (by omega) (by omega))]
      exact ordN_of f p (q + 1) (by omega) (by omega) (fun j a b => h3 j (by omega) b) (by rcases h4 with h4 | h4; exact .inl (by omega); exact .inr h4)
def ordS (A : List (List Int)) (B : List Int) : Nat := ordN (serL A B 15) expU 15 0
def stabO (A : List (List Int)) (B : List Int) : AV := if tabB A B = true then .tup [.int (ordS A B), .int 0] else .tup [.int 0, .int 1]
theorem StabilityOrder_c (A : List (List Int)) (B : List Int) (hA : A.length ≤ 9223372036854775807) (hB : B.length ≤ 9223372036854775807) (hr : ∀ r ∈ A, r.length ≤ 9223372036854775807) :
    Con Try.prog 28 [.agg [.sl A.length (mat A), .sl B.length (avs B)]] (stabO A B) := by
  have cT := IsTableau_c A B hA hB hr
  unfold stabO
  refine con_of_vc Try.mixed ⟨8, [], [], []⟩ Try.func28 (by decide) rfl (by simp) (by decide) (by(split<;>rfl)) ?_
  rw [Try.ntmps28]
  simp [go_sem]
  refine CallVC.of (cT) (by decide) ?_
  cases hT : tabB A B with
  | false =>
    simp [go_sem]
  | true =>
    have hTT := tabB_iff.1 hT
    have cS := stabilitySeries_c A B 15 hTT (by omega)
    simp [go_sem]
    refine CallVC.of (ExponentialTo_c) (by decide) ?_
    simp [go_sem]
    refine CallVC.of (cS) (by decide) ?_
    simp [go_sem]
    refine loop_inv (2 :: 3 :: 6 :: 7 :: List.range' 18 14) (fun i : Nat => [(18, .int i)]) (fun i => i ≤ 16 ∧ ∀ j, j < i → (serL A B 15)[j]?.getD 0 = expU[j]?.getD 0) (fun i => 16 - i) 0 (by simp) (by simp [go_sem]) (by simp [go_sem]) ?_
    rintro i ⟨hi, hp⟩
    simp [go_sem]
    refine ⟨fun h => ?_, fun h => ?_⟩ <;> simp at h
    · have l1 : i < (serL A B 15).length := by simp; omega
      have l2 : i < expU.length := by simp; omega
      by_cases hd : (serL A B 15)[i]?.getD 0 = expU[i]?.getD 0
      · simp [go_sem, avs_drop l1, avs_drop l2, avs_at l1, avs_at l2, hd]
        refine ⟨by omega, ⟨by omega, by omega⟩, i + 1, ⟨by omega, fun j hj => ?_⟩, by omega, Off_reset _ _ _ (by simp), by omega⟩
        by_cases hj2 : j = i
        · rw [hj2]; exact hd
        · exact hp j (by omega)
      · have i0 : i ≠ 0 := by rintro rfl; exact hd rfl
        have ho : ordS A B = i - 1 := ordN_of 15 (i - 1) 0 (by omega) (by omega) (fun j a b => hp j (by omega)) (.inr (by rw [show i - 1 + 1 = i by omega]; exact hd))
        simp [go_sem, avs_drop l1, avs_drop l2, avs_at l1, avs_at l2, hd]
        refine ⟨by omega, ⟨by omega, by omega⟩, by omega⟩
    · have e : i = 16 := by omega
      subst e
      have ho : ordS A B = 15 := ordN_of 15 15 0 (by omega) (by omega) (fun j a b => hp j (by omega)) (.inl rfl)
      simp [go_sem, ho]
set_option maxRecDepth 100000 in
theorem specStabilityOrder_c (A : List (List Int)) (B : List Int) (hA : A.length ≤ 9223372036854775807) (hB : B.length ≤ 9223372036854775807) (hr : ∀ r ∈ A, r.length ≤ 9223372036854775807) :
    Con Try.prog 29 [.agg [.sl A.length (mat A), .sl B.length (avs B)]] (stabO A B) := by
  have cT := l09Is_c A B hA hB hr
  unfold stabO
  refine con_of_vc Try.mixed ⟨7, [], [], []⟩ Try.func29 (by decide) rfl (by simp) (by decide) (by(split<;>rfl)) ?_
  rw [Try.ntmps29]
  simp [go_sem]
  refine CallVC.of (cT) (by decide) ?_
  cases hT : tabB A B with
  | false =>
    simp [go_sem]
  | true =>
    have hTT := tabB_iff.1 hT
    have cS := l19Weights_c A B 15 hTT (by omega)
    simp [go_sem]
    refine CallVC.of (cS) (by decide) ?_
    simp [go_sem]
    refine CallVC.of (specUni_c) (by decide) ?_
    simp [go_sem]
    refine CallVC.of (specExpU_c) (by decide) ?_
    simp [go_sem]
    refine loop_inv (6 :: List.range' 14 18) (fun p : Nat => [(6, .int p)]) (fun p => p ≤ 15 ∧ ∀ j, j ≤ p → (serL A B 15)[j]?.getD 0 = expU[j]?.getD 0) (fun p => 16 - p) 0 ⟨by omega, fun j hj => by rw [show j = 0 by omega]; rfl⟩ (by simp [go_sem]) (by simp [go_sem]) ?_
    rintro p ⟨hi, hp⟩
    by_cases h15 : (p : Int) + 1 < 16
    · have l1 : p + 1 < (serL A B 15).length := by simp; omega
      have l2 : p + 1 < expU.length := by simp; omega
      by_cases hd : (serL A B 15)[p + 1]?.getD 0 = expU[p + 1]?.getD 0
      · simp [go_sem]
        refine ⟨by kernel_rfl, ⟨by omega, by omega⟩, ?_⟩
        simp [go_sem, avs_drop l1, avs_drop l2, avs_at l1, avs_at l2, hd, h15]
        refine ⟨⟨by omega, by omega⟩, by omega, ⟨by omega, by omega⟩, by omega, ?_⟩
        refine ⟨by kernel_rfl, ?_⟩
        simp [go_sem]
        refine ⟨⟨by omega, by omega⟩, p + 1, ⟨by omega, fun j hj => ?_⟩, by omega, Off_reset _ _ _ (by simp), by omega⟩
        by_cases hj2 : j = p + 1
        · rw [hj2]; exact hd
        · exact hp j (by omega)
      · simp [go_sem]
        refine ⟨by kernel_rfl, ⟨by omega, by omega⟩, ?_⟩
        simp [go_sem, avs_drop l1, avs_drop l2, avs_at l1, avs_at l2, hd, h15]
        refine ⟨⟨by omega, by omega⟩, by omega, ⟨by omega, by omega⟩, by omega, ?_⟩
        refine ⟨by kernel_rfl, ?_⟩
        simp [go_sem]
        rw [show ordS A B = p from ordN_of 15 p 0 (by omega) (by omega) (fun j a b => hp j (by omega)) (.inr hd)]
    · simp [go_sem]
      refine ⟨by kernel_rfl, ⟨by omega, by omega⟩, ?_⟩
      simp [go_sem, h15]
      refine ⟨by kernel_rfl, ?_⟩
      simp [go_sem]
      rw [show ordS A B = p from ordN_of 15 p 0 (by omega) (by omega) (fun j a b => hp j (by omega)) (.inl (by omega))]
end Go.Proofs.Ytmojbncbbnjblaa


namespace Go.Proofs.Ytmojbncbbnjblaa
open Go.Abs
set_option linter.unusedVariables false
set_option linter.unusedSimpArgs false
set_option maxHeartbeats 4000000
def hadS (s : Nat) (a v : List Int) : List Int := tb (fun j => a[j]?.getD 0 * v[j]?.getD 0 % 10007) s
@[simp] theorem hadS_len (s : Nat) (a v : List Int) : (hadS s a v).length = s := by simp [hadS]
theorem hadS_N (s : Nat) (a v : List Int) : Ns (hadS s a v) := tb_N fun j _ => isN_mod _
def hadL (s : Nat) (a : List Int) : List (List Int) → List Int
  | [] => a
  | v :: l => hadL s (hadS s a v) l
theorem hadL_app (s : Nat) (l r : List (List Int)) : ∀ a, hadL s a (l ++ r) = hadL s (hadL s a l) r := by
  induction l with
  | nil => intro a; rfl
  | cons v l ih => intro a; exact ih _
theorem hadL_take {s : Nat} {a : List Int} {l : List (List Int)} {i : Nat} (h : i < l.length) : hadL s a (l.take (i + 1)) = hadS s (hadL s a (l.take i)) (l[i]?.getD []) := by
  rw [List.take_add_one, List.getElem?_eq_getElem h, Option.toList_some, hadL_app]; rfl
theorem hadL_ok {s : Nat} {a : List Int} (h : a.length = s ∧ Ns a) (l : List (List Int)) : (hadL s a l).length = s ∧ Ns (hadL s a l) := by
  induction l generalizing a with
  | nil => exact h
  | cons v l ih => exact ih ⟨hadS_len _ _ _, hadS_N _ _ _⟩
def stwF (A : List (List Int)) (s : Nat) : Nat → List Int → List Int
  | 0, _ => List.replicate s 1
  | m + 1, t => hadL s (List.replicate s 1) ((brs t).map fun b => tim A (stwF A s m b))
theorem ones_ok (s : Nat) : (List.replicate s (1 : Int)).length = s ∧ Ns (List.replicate s (1 : Int)) := ⟨by simp, fun x hx => by
  rw [List.mem_replicate] at hx
  rw [hx.2]; exact ⟨by omega, by omega⟩⟩
theorem stwF_ok (A : List (List Int)) (s : Nat) : ∀ n t, (stwF A s n t).length = s ∧ Ns (stwF A s n t)
  | 0, t => ones_ok s
  | n + 1, t => hadL_ok (ones_ok s) _
def tlL (k : Nat) : List Int := tb (fun i => (i : Int)) k
@[simp] theorem tlL_len (k : Nat) : (tlL k).length = k := by simp [tlL]
theorem brs_tl : ∀ k, k < 7 → brs (tlL (k + 2)) = [tlL (k + 1)] := by decide
theorem stwF_tl (A : List (List Int)) {s : Nat} (hA : A.length = s) : ∀ (k n : Nat), k < 8 → k < n → stwF A s n (tlL (k + 1)) = wts A s k
  | 0, n, _, h => by
    obtain ⟨m, rfl⟩ : ∃ m, n = m + 1 := ⟨n - 1, by omega⟩
    rfl
  | k + 1, n, h8, h => by
    obtain ⟨m, rfl⟩ : ∃ m, n = m + 1 := ⟨n - 1, by omega⟩
    rw [stwF, brs_tl k (by omega), List.map_cons, List.map_nil, hadL, hadL, stwF_tl A hA k m (by omega) (by omega)]
    have e : wts A s (k + 1) = tim A (wts A s k) := rfl
    have hn : Ns (tim A (wts A s k)) := tim_N _ _
    have hl : (tim A (wts A s k)).length = s := by simp [hA]
    rw [e]
    generalize tim A (wts A s k) = v at *
    refine List.ext_getElem (by simp [hl]) fun j h1 h2 => ?_
    have hj : j < s := by omega
    have e1 : (hadS s (List.replicate s 1) v)[j]?.getD 0 = (List.replicate s (1 : Int))[j]?.getD 0 * v[j]?.getD 0 % 10007 := tb_get _ hj
    have e2 : (List.replicate s (1 : Int))[j]?.getD 0 = 1 := by simp [hj]
    have e3 := hn.get j
    rw [e2, Int.one_mul, Int.emod_eq_of_lt e3.1 (by have := e3.2; omega)] at e1
    rw [List.getElem?_eq_getElem h1, List.getElem?_eq_getElem h2] at e1
    exact e1
def ovL (new old : List Int) (s j : Nat) : List Int := tb (fun k => if k < j then new[k]?.getD 0 else old[k]?.getD 0) s
@[simp] theorem ovL_len (new old : List Int) (s j : Nat) : (ovL new old s j).length = s := by simp [ovL]
theorem ovL_get {new old : List Int} {s j : Nat} (h : j < s) : (ovL new old s j)[j]?.getD 0 = old[j]?.getD 0 := by
  unfold ovL; rw [tb_get _ h, if_neg (by omega)]
theorem ovL_zero {new old : List Int} {s : Nat} (h : old.length = s) : ovL new old s 0 = old := by
  refine List.ext_getElem (by simp [h]) fun k h1 h2 => ?_
  simp [ovL, tb, h2]
theorem ovL_all {new old : List Int} {s : Nat} (h : new.length = s) : ovL new old s s = new := by
  refine List.ext_getElem (by simp [h]) fun k h1 h2 => ?_
  have : k < s := by omega
  simp [ovL, tb, h2, this]
theorem ovL_set {new old : List Int} {s j : Nat} (h : j < s) : (ovL new old s j).set j (new[j]?.getD 0) = ovL new old s (j + 1) := by
  refine List.ext_getElem (by simp) fun k h1 h2 => ?_
  have hk : k < s := by simpa using h2
  rw [List.getElem_set]
  by_cases e : j = k
  · subst e
    rw [if_pos rfl]
    simp [ovL, tb]
  · rw [if_neg e]
    have : k < j + 1 ↔ k < j := by omega
    simp [ovL, tb, this]
set_option maxRecDepth 100000 in
theorem stageWeights_c (A : List (List Int)) (B : List Int) (hT : Tab A B) :
    ∀ (n : Nat) (t : List Int), Lv t → t.length ≤ n → t.length ≤ 1048576 → Con Try.prog 145 [.agg [.sl A.length (mat A), .sl B.length (avs B)], .sl t.length (avs t)] (.own 2 B.length (avs (stwF A B.length n t)))
  | 0, t, hL, hn, _ => by have := hL.1; omega
  | n + 1, t, hL, hn, hl => by
    have hp := hT.pos
    have hle := hT.le
    have hAB := hT.len
    have cB := branchesOf_c t hl hL
    have ih := fun b (hb : b ∈ brs t) => stageWeights_c A B hT n b (brs_ok hL hb).1 (by have := (brs_ok hL hb).2; omega) (by have := (brs_ok hL hb).2; omega)
    have hcnt : (brs t).length < t.length := by
      have h := brs_many hL (i := t.length) hL.1 (Nat.le_refl _)
      rwa [List.take_of_length_le (Nat.le_refl _)] at h
    have hd : stwF A B.length (n + 1) t = hadL B.length (List.replicate B.length 1) ((brs t).map fun b => tim A (stwF A B.length n b)) := rfl
    rw [hd]
    refine con_of_vc Try.mixed ⟨10, [], [], []⟩ Try.func145 (by decide) rfl (by simp) (by decide) (by simp [freshOK, freshL, go_sem]) ?_
    rw [Try.ntmps145]
    simp [go_sem]
    refine CallVC.of (tab_c _ _ _ _) (by decide) ?_
    simp [go_sem]
    refine CallVC.of (Repeat_c 1 B.length hp (by omega)) (by decide) ?_
    simp [go_sem]
    refine CallVC.of (cB) (by decide) ?_
    simp [go_sem]
    generalize brs t = L at *
    refine loop_inv ([5, 7, 8, 9, 15] ++ List.range' 17 27) (fun i : Nat => [(5, .own 2 B.length (avs (hadL B.length (List.replicate B.length 1) ((L.map fun b => tim A (stwF A B.length n b)).take i)))), (15, .own 27 L.length (omat L)), (17, .int i)]) (fun i => i ≤ L.length) (fun i => L.length - i) 0 (by simp) (by simp [go_sem, hadL]) (by simp [go_sem]) ?_
    intro i hi
    by_cases hiL : i < L.length
    · have hii : (i : Int) < L.length := by omega
      have hb : L[i]?.getD [] ∈ L := by simp [hiL]
      have cS := ih _ hb
      have ok := stwF_ok A B.length n (L[i]?.getD [])
      have cA := applied_c A B (stwF A B.length n (L[i]?.getD [])) (by rw [ok.1]; exact hT.a) (by omega) (by omega) ok.2
      rw [ok.1] at cA
      have hm : i < (L.map fun b => tim A (stwF A B.length n b)).length := by simpa using hiL
      have ht := hadL_take (s := B.length) (a := List.replicate B.length 1) hm
      have hg : (L.map fun b => tim A (stwF A B.length n b))[i]?.getD [] = tim A (stwF A B.length n (L[i]?.getD [])) := by simp [hiL]
      rw [hg] at ht
      have o1 := hadL_ok (ones_ok B.length) ((L.map fun b => tim A (stwF A B.length n b)).take i)
      have o2 : (tim A (stwF A B.length n (L[i]?.getD []))).length = B.length ∧ Ns (tim A (stwF A B.length n (L[i]?.getD []))) := ⟨by simp [hAB], tim_N _ _⟩
      have hgt := omat_get hiL
      generalize tim A (stwF A B.length n (L[i]?.getD [])) = w at *
      generalize stwF A B.length n (L[i]?.getD []) = u at *
      generalize hadL B.length (List.replicate B.length 1) ((L.map fun b => tim A (stwF A B.length n b)).take i) = old at *
      generalize hnw : hadL B.length (List.replicate B.length 1) ((L.map fun b => tim A (stwF A B.length n b)).take (i + 1)) = new at *
      have hw : w.length = A.length := by omega
      simp [go_sem, hii, hgt]
      refine ⟨by kernel_rfl, ?_⟩
      refine CallD.of (cS) (by simp [roots, rootsL]) (by decide) ?_
      simp [go_sem]
      refine CallD.of (cA) (by simp [roots, rootsL]) (by decide) ?_
      simp [go_sem]
      refine ⟨by kernel_rfl, ?_⟩
      simp [go_sem]
      refine loop_inv ([5, 8, 9] ++ List.range' 27 16) (fun j : Nat => [(5, .own 2 B.length (avs (ovL new old B.length j))), (27, .int j)]) (fun j => j ≤ B.length) (fun j => B.length - j) 0 (by simp) (by simp [go_sem, ovL_zero o1.1]) (by simp [go_sem]) ?_
      intro j hj
      by_cases hjs : j < B.length
      · have hji : (j : Int) < A.length := by omega
        have hjw : j < w.length := by omega
        have hjo : j < (ovL new old B.length j).length := by simpa using hjs
        have g1 := avs_at hjo
        have g2 := avs_at hjw
        rw [ovL_get hjs] at g1
        have n1 := o1.2.get j
        have n2 := o2.2.get j
        have hs := ovL_set (new := new) (old := old) hjs
        have hnew : new[j]?.getD 0 = old[j]?.getD 0 * w[j]?.getD 0 % 10007 := by rw [ht]; exact tb_get _ hjs
        have fm := mul_fits n1 n2
        have cN := num_c _ fm.1 fm.2
        rw [← hnew] at cN
        have hset := avs_set (ovL new old B.length j) j (new[j]?.getD 0)
        rw [hs] at hset
        generalize old[j]?.getD 0 = x at *
        generalize w[j]?.getD 0 = y at *
        generalize new[j]?.getD 0 = z at *
        generalize ovL new old B.length j = O at *
        simp [go_sem, hji, g1, g2]
        refine ⟨by omega, fm, ?_⟩
        refine CallVC.of (cN) (by decide) ?_
        simp [go_sem]
        exact ⟨by omega, by omega, ⟨by omega, by omega⟩, j + 1, by omega, by omega, Off_reset _ _ _ (by simp), hset, by omega⟩
      · have e : j = B.length := by omega
        have hji : ¬ (j : Int) < A.length := by omega
        have nl : new.length = B.length := by rw [ht]; simp
        rw [e] at hji
        rw [e, ovL_all nl]
        simp [go_sem, hji]
        exact ⟨⟨by omega, by omega⟩, i + 1, by omega, by omega, (Off.reset (by intro x hx; simp at hx ⊢; omega) (by simp) (by simp [go_sem, Off_reset])), hnw.symm, by omega⟩
    · have e : i = L.length := by omega
      have e2 : (L.map fun b => tim A (stwF A B.length n b)).take i = L.map fun b => tim A (stwF A B.length n b) := List.take_of_length_le (by simp; omega)
      rw [e2]
      simp [go_sem, e]
set_option maxRecDepth 100000 in
theorem weight_c (A : List (List Int)) (B : List Int) (hT : Tab A B) (n : Nat) (t : List Int) (hL : Lv t) (hn : t.length ≤ n) (hl : t.length ≤ 1048576) :
    Con Try.prog 82 [.agg [.sl A.length (mat A), .sl B.length (avs B)], .sl t.length (avs t)] (.int (dotI B (stwF A B.length n t) % 10007)) := by
  have cS := stageWeights_c A B hT n t hL hn hl
  have ok := stwF_ok A B.length n t
  have hle := hT.le
  have cD := dot_c B (stwF A B.length n t) (by omega) (by omega) hT.b ok.2
  rw [ok.1] at cD
  refine con_of_vc Try.mixed ⟨5, [], [], []⟩ Try.func82 (by decide) rfl (by simp) (by decide) (by simp [freshOK, freshL, go_sem]) ?_
  rw [Try.ntmps82]
  simp [go_sem]
  refine ⟨by kernel_rfl, ?_⟩
  refine CallD.of (cS) (by simp [roots, rootsL]) (by decide) ?_
  simp [go_sem]
  refine CallD.of (cD) (by simp [roots, rootsL]) (by decide) ?_
  simp [go_sem]
  refine ⟨by kernel_rfl, ?_⟩
  simp [go_sem]
theorem tl_weight {A : List (List Int)} {B : List Int} (hT : Tab A B) {k : Nat} (hk : k < 8) {n : Nat} (hn : k < n) : dotI B (stwF A B.length (tlL (k + 1)).length (tlL (k + 1))) % 10007 = (serL A B n)[k + 1]?.getD 0 := by
  rw [tlL_len, stwF_tl A hT.len k (k + 1) hk (by omega)]
  unfold serL
  simp [hn]
end Go.Proofs.Ytmojbncbbnjblaa


namespace Go.Proofs.Ytmojbncbbnjblaa
open Go.Abs CR
set_option linter.unusedVariables false
set_option linter.unusedSimpArgs false
set_option maxHeartbeats 1000000
section
variable {α : Type} [CR α]
theorem dtR_rel (R : α → α → Prop) (h0 : ∀ k, R (ofI k) (ofI k)) (ha : ∀ a b c d, R a b → R c d → R (a + c) (b + d)) (hm : ∀ a b c d, R a b → R c d → R (a * c) (b * d)) :
    ∀ {n : Nat} {M N : Nat → Nat → α}, (∀ r c, r < n → c < n → R (M r c) (N r c)) → R (dtR n M) (dtR n N)
  | 0, _, _, _ => h0 1
  | n + 1, M, N, h => by
    rw [dtR, dtR]
    have gen : ∀ m : Nat, m ≤ n + 1 → R (dR (fun i => ofI (sgd i) * M i 0 * dtR n (mnR M i)) m) (dR (fun i => ofI (sgd i) * N i 0 * dtR n (mnR N i)) m) := by
      intro m
      induction m with
      | zero => intro _; exact h0 0
      | succ m ih =>
        intro hm2
        refine ha _ _ _ _ (ih (by omega)) (hm _ _ _ _ (hm _ _ _ _ (h0 _) (h m 0 (by omega) (by omega))) ?_)
        exact dtR_rel R h0 ha hm (fun r c hr hc => h _ _ (by split <;> omega) (by omega))
    exact gen _ (Nat.le_refl _)
theorem dtR_comb {n : Nat} (M : Nat → Nat → α) {i : Nat} (hi : i < n) (w : Nat → α) : dtR n (upR M i (fun c => dR (fun r => w r * M r c) n)) = w i * dtR n M := by
  have gen : ∀ t : Nat, t ≤ n → dtR n (upR M i (fun c => dR (fun r => w r * M r c) t)) = if i < t then w i * dtR n M else ofI 0 := by
    intro t
    induction t with
    | zero => intro _; rw [if_neg (by omega)]; exact dtR_nil M hi
    | succ t ih =>
      intro ht
      have e : (fun c => dR (fun r => w r * M r c) (t + 1)) = fun c => dR (fun r => w r * M r c) t + w t * M t c := rfl
      rw [e, dtR_lin M _ (M t) _ hi, ih (by omega)]
      by_cases h : t = i
      · subst h
        rw [if_neg (by omega), if_pos (by omega), upR_self, zadd]
      · have z : dtR n (upR M i (M t)) = ofI 0 := dtR_same _ hi (show t < n by omega) (fun e => h e.symm) (by rw [upR_at, upR_ne _ _ h])
        rw [z, mul0, add0]
        by_cases h2 : i < t
        · rw [if_pos h2, if_pos (by omega)]
        · rw [if_neg h2, if_neg (by omega)]
  rw [gen n (Nat.le_refl _), if_pos hi]
theorem dtR_scale {n : Nat} (M : Nat → Nat → α) {i : Nat} (hi : i < n) (k : α) (v : Nat → α) : dtR n (upR M i (fun c => k * v c)) = k * dtR n (upR M i v) := by
  have h := dtR_lin M (fun _ => ofI 0) v k hi
  rw [dtR_nil M hi, zadd] at h
  rw [← h]
  congr 1
  congr 1
  exact funext fun c => (zadd _).symm
theorem dtR_spread {n : Nat} (M : Nat → Nat → α) {i : Nat} (hi : i < n) (k : α) (v : Nat → α) : dtR n (upR (fun r c => M r c + k * v c) i v) = dtR n (upR M i v) := by
  have gen : ∀ t : Nat, t ≤ n → dtR n (fun r => if r = i then v else if r < t then fun c => M r c + k * v c else M r) = dtR n (upR M i v) := by
    intro t
    induction t with
    | zero => intro _; rfl
    | succ t ih =>
      intro ht
      rw [← ih (by omega)]
      generalize hY : (fun r => if r = i then v else if r < t then fun c => M r c + k * v c else M r : Nat → Nat → α) = Y
      by_cases h : t = i
      · refine dtR_congr fun r c _ _ => ?_
        rw [← hY]
        by_cases hr : r = i
        · simp only [hr, if_true]
        · have : r < t + 1 ↔ r < t := by omega
          simp only [hr, if_false, this]
      · have hYt : Y t = M t := by rw [← hY]; simp only [h, if_false, Nat.lt_irrefl]
        have hYi : Y i = v := by rw [← hY]; simp only [if_true]
        have e : (fun r => if r = i then v else if r < t + 1 then fun c => M r c + k * v c else M r) = upR Y t (fun c => Y t c + k * Y i c) := funext fun r => by
          unfold upR
          by_cases hr : r = t
          · subst hr; simp only [h, if_false, if_true, Nat.lt_succ_self, hYt, hYi]
          · rw [if_neg hr, ← hY]
            by_cases hri : r = i
            · simp only [hri, if_true]
            · have : r < t + 1 ↔ r < t := by omega
              simp only [hri, if_false, this]
        rw [e, dtR_lin Y (Y t) (Y i) k (by omega), upR_self]
        have z : dtR n (upR Y t (Y i)) = ofI 0 := dtR_same _ (show t < n by omega) hi h (by rw [upR_at, upR_ne _ _ (fun e => h e.symm)])
        rw [z, mul0, add0]
  rw [← gen n (Nat.le_refl _)]
  refine dtR_congr fun r c hr _ => ?_
  unfold upR
  by_cases h : r = i
  · simp only [h, if_true]
  · simp only [h, if_false, hr, if_true]
theorem cmul_cong (n : Nat) : ∀ (a b c : Ser α), (∀ i, i ≤ n → b i = c i) → cmul n a b = cmul n a c := by
  induction n with
  | zero => intro a b c h; show a 0 * b 0 = a 0 * c 0; rw [h 0 (Nat.le_refl _)]
  | succ n ih => intro a b c h; rw [cmul, cmul, h (n + 1) (Nat.le_refl _), ih (sh a) b c (fun i hi => h i (by omega))]
end
theorem ser_cancel {a b c : Ser Int} (h0 : a 0 ≠ 0) (h : a * b = a * c) : b = c := by
  have gen : ∀ n, ∀ i, i ≤ n → b i = c i := by
    intro n
    induction n with
    | zero =>
      intro i hi
      have hi : i = 0 := by omega
      subst hi
      exact Int.eq_of_mul_eq_mul_left h0 (congrFun h 0)
    | succ n ih =>
      intro i hi
      by_cases e : i = n + 1
      · subst e
        have hn : a 0 * b (n + 1) + cmul n (sh a) b = a 0 * c (n + 1) + cmul n (sh a) c := congrFun h (n + 1)
        rw [cmul_cong n (sh a) b c ih] at hn
        exact Int.eq_of_mul_eq_mul_left h0 (by omega)
      · exact ih i (by omega)
  exact funext fun i => gen i i (Nat.le_refl _)
def zedS : Ser Int := fun k => if k = 1 then 1 else 0
theorem zed_mul0 (b : Ser Int) : (zedS * b) 0 = 0 := by show zedS 0 * b 0 = 0; simp [zedS]
theorem zed_mulS (b : Ser Int) (k : Nat) : (zedS * b) (k + 1) = b k := by
  have h : (zedS * b) (k + 1) = zedS 0 * b (k + 1) + zedS 1 * b k := cmul_lin (fun i => by simp [zedS]) b k
  rw [h]; simp [zedS]
def wvN (n : Nat) (A : Mx) (B : Nat → Int) : Nat → Nat → Int
  | 0 => B
  | k + 1 => fun c => dsum (fun r => wvN n A B k r * A r c) n
def wvS (n : Nat) (A : Mx) (B : Nat → Int) (r : Nat) : Ser Int := fun k => wvN n A B k r
def lessM (A : Mx) (B : Nat → Int) : Mx := fun r c => A r c - B c
theorem wv_row {n : Nat} (A : Mx) (B : Nat → Int) {c : Nat} (hc : c < n) : dR (fun r => wvS n A B r * ulS A r c) n = ofI (B c) := by
  refine funext fun k => ?_
  rw [dR_at]
  cases k with
  | zero =>
    have : dsum (fun r => (wvS n A B r * ulS A r c) 0) n = dsum (fun r => B r * idM r c) n := dsum_congr fun r _ => by rw [mulC, ul_mul0, Int.mul_comm]; rfl
    rw [this, dsum_one hc (fun r hr hne => by unfold idM; rw [if_neg hne, Int.mul_zero])]
    unfold idM; rw [if_pos rfl, Int.mul_one]; rfl
  | succ k =>
    have : dsum (fun r => (wvS n A B r * ulS A r c) (k + 1)) n = dsum (fun r => wvN n A B (k + 1) r * idM r c + (-1) * (wvN n A B k r * A r c)) n := dsum_congr fun r _ => by
      rw [mulC, ul_mul, Int.mul_comm (idM r c), Int.neg_mul, Int.neg_mul, Int.one_mul, Int.mul_comm (A r c)]; rfl
    rw [this, dsum_lin, dsum_one hc (fun r hr hne => by unfold idM; rw [if_neg hne, Int.mul_zero])]
    have e : idM c c = 1 := by unfold idM; rw [if_pos rfl]
    rw [e]
    show wvN n A B (k + 1) c * 1 + -1 * wvN n A B (k + 1) c = 0
    omega
theorem ul_less (A : Mx) (B : Nat → Int) (r c : Nat) : ulS (lessM A B) r c = ulS A r c + zedS * ofI (B c) := by
  refine funext fun k => ?_
  rw [ser_add]
  match k with
  | 0 => rw [zed_mul0]; show idM r c = idM r c + 0; omega
  | 1 =>
    rw [zed_mulS]
    show -(A r c - B c) = -(A r c) + B c
    omega
  | k + 2 => rw [zed_mulS, ulS_lin, ulS_lin]; rfl
def rsS (n : Nat) (A : Mx) (B : Nat → Int) : Ser Int := ofI 1 + zedS * dR (fun r => wvS n A B r) n
theorem rsS_0 (n : Nat) (A : Mx) (B : Nat → Int) : rsS n A B 0 = 1 := by
  unfold rsS; rw [ser_add, zed_mul0]; rfl
theorem rsS_S (n : Nat) (A : Mx) (B : Nat → Int) (k : Nat) : rsS n A B (k + 1) = dsum (fun r => wvN n A B k r) n := by
  unfold rsS; rw [ser_add, zed_mulS, dR_at]
  show (0 : Int) + _ = _
  rw [Int.zero_add]; rfl
theorem ch_less (n : Nat) (A : Mx) (B : Nat → Int) : chS n (lessM A B) = rsS n A B * chS n A := by
  by_cases hB : ∃ i, i < n ∧ B i ≠ 0
  · obtain ⟨i, hi, hb⟩ := hB
    refine ser_cancel (a := wvS n A B i) hb ?_
    have h1 : dtR n (upR (ulS (lessM A B)) i (fun c => dR (fun r => wvS n A B r * ulS (lessM A B) r c) n)) = wvS n A B i * chS n (lessM A B) := dtR_comb _ hi _
    have h2 : ∀ c, c < n → dR (fun r => wvS n A B r * ulS (lessM A B) r c) n = rsS n A B * ofI (B c) := fun c hc => by
      have e : dR (fun r => wvS n A B r * ulS (lessM A B) r c) n = dR (fun r => wvS n A B r * ulS A r c + (zedS * ofI (B c)) * wvS n A B r) n := dR_congr fun r _ => by
        rw [ul_less, mulD, mulC (wvS n A B r) (zedS * _)]
      rw [e, dR_lin, wv_row A B hc]
      unfold rsS
      rw [Dmul, omul]
      congr 1
      ac_rfl
    have h3 : dtR n (upR (ulS (lessM A B)) i (fun c => dR (fun r => wvS n A B r * ulS (lessM A B) r c) n)) = dtR n (upR (ulS (lessM A B)) i (fun c => rsS n A B * ofI (B c))) :=
      dtR_congr fun r c _ hc => by
        unfold upR
        by_cases h : r = i
        · rw [if_pos h, if_pos h, h2 c hc]
        · rw [if_neg h, if_neg h]
    have h4 : (ulS (lessM A B) : Nat → Nat → Ser Int) = fun r c => ulS A r c + zedS * ofI (B c) := funext fun r => funext fun c => ul_less A B r c
    have h5 : dtR n (upR (ulS (lessM A B)) i (fun c => ofI (B c))) = dtR n (upR (ulS A) i (fun c => ofI (B c))) := by
      rw [h4]; exact dtR_spread (ulS A) hi zedS (fun c => ofI (B c))
    have h6 : dtR n (upR (ulS A) i (fun c => ofI (B c))) = wvS n A B i * chS n A := by
      have e : dtR n (upR (ulS A) i (fun c => ofI (B c))) = dtR n (upR (ulS A) i (fun c => dR (fun r => wvS n A B r * ulS A r c) n)) := dtR_congr fun r c _ hc => by
        unfold upR
        by_cases h : r = i
        · rw [if_pos h, if_pos h, wv_row A B hc]
        · rw [if_neg h, if_neg h]
      rw [e]; exact dtR_comb _ hi _
    rw [← h1, h3, dtR_scale _ hi, h5, h6]
    ac_rfl
  · have hz : ∀ i, i < n → B i = 0 := fun i hi => Classical.byContradiction fun h => hB ⟨i, hi, h⟩
    have wz : ∀ k r, r < n → wvN n A B k r = 0 := by
      intro k
      induction k with
      | zero => intro r hr; exact hz r hr
      | succ k ih => intro r _; exact dsum_zero fun j hj => by rw [ih j hj, Int.zero_mul]
    have e1 : rsS n A B = ofI 1 := funext fun k => by
      cases k with
      | zero => rw [rsS_0]; rfl
      | succ k => rw [rsS_S, dsum_zero (fun r hr => wz k r hr)]; rfl
    rw [e1, omul]
    unfold chS
    refine dtR_congr fun r c _ hc => ?_
    rw [ul_less, hz c hc]
    have : (ofI 0 : Ser Int) = ofI 0 := rfl
    rw [mul0, add0]
def serEq (a b : Ser Int) : Prop := ∀ k, a k % 10007 = b k % 10007
theorem mod_mulc {a b c d : Int} (h : a % 10007 = b % 10007) (k : c % 10007 = d % 10007) : (a * c) % 10007 = (b * d) % 10007 := by
  rw [Int.mul_emod, h, k, ← Int.mul_emod]
theorem mod_addc {a b c d : Int} (h : a % 10007 = b % 10007) (k : c % 10007 = d % 10007) : (a + c) % 10007 = (b + d) % 10007 := by
  rw [Int.add_emod, h, k, ← Int.add_emod]
theorem cmul_mod (n : Nat) : ∀ {a b c d : Ser Int}, (∀ i, i ≤ n → a i % 10007 = b i % 10007) → (∀ i, i ≤ n → c i % 10007 = d i % 10007) → cmul n a c % 10007 = cmul n b d % 10007 := by
  induction n with
  | zero => intro a b c d h k; exact mod_mulc (h 0 (Nat.le_refl _)) (k 0 (Nat.le_refl _))
  | succ n ih =>
    intro a b c d h k
    rw [cmul, cmul]
    exact mod_addc (mod_mulc (h 0 (by omega)) (k (n + 1) (by omega))) (ih (fun i hi => h (i + 1) (by omega)) (fun i hi => k i (by omega)))
def evN (n : Nat) (A : Mx) : Nat → Nat → Int
  | 0 => fun _ => 1
  | k + 1 => fun r => dsum (fun c => A r c * evN n A k c) n
theorem wv_move (n : Nat) (A : Mx) (B : Nat → Int) (j m : Nat) : dsum (fun r => wvN n A B (j + 1) r * evN n A m r) n = dsum (fun r => wvN n A B j r * evN n A (m + 1) r) n := by
  have e1 : dsum (fun r => wvN n A B (j + 1) r * evN n A m r) n = dsum (fun r => dsum (fun q => wvN n A B j q * A q r * evN n A m r) n) n := dsum_congr fun r _ => by
    show dsum (fun q => wvN n A B j q * A q r) n * evN n A m r = _
    rw [Int.mul_comm, dsum_mul]
    exact dsum_congr fun q _ => by rw [Int.mul_comm]
  have e2 : dsum (fun r => wvN n A B j r * evN n A (m + 1) r) n = dsum (fun r => dsum (fun q => wvN n A B j r * A r q * evN n A m q) n) n := dsum_congr fun r _ => by
    show wvN n A B j r * dsum (fun c => A r c * evN n A m c) n = _
    rw [dsum_mul]
    exact dsum_congr fun q _ => by rw [Int.mul_assoc]
  rw [e1, e2, dsum_swap]
theorem wv_sum (n : Nat) (A : Mx) (B : Nat → Int) : ∀ (k j : Nat), dsum (fun r => wvN n A B (j + k) r * evN n A 0 r) n = dsum (fun r => wvN n A B j r * evN n A k r) n
  | 0, j => rfl
  | k + 1, j => by
    rw [show j + (k + 1) = (j + 1) + k by omega, wv_sum n A B k (j + 1)]
    exact wv_move n A B j k
theorem rs_dot (n : Nat) (A : Mx) (B : Nat → Int) (k : Nat) : rsS n A B (k + 1) = dsum (fun r => B r * evN n A k r) n := by
  rw [rsS_S]
  have h := wv_sum n A B k 0
  rw [Nat.zero_add] at h
  rw [← show dsum (fun r => wvN n A B k r * evN n A 0 r) n = dsum (fun r => wvN n A B k r) n from dsum_congr fun r _ => Int.mul_one _]
  exact h
end Go.Proofs.Ytmojbncbbnjblaa


namespace Go.Proofs.Ytmojbncbbnjblaa
open Go.Abs CR
set_option linter.unusedVariables false
set_option linter.unusedSimpArgs false
set_option maxHeartbeats 1000000
theorem cmul_dsum (n : Nat) : ∀ (a b : Ser Int), cmul n a b = dsum (fun i => a i * b (n - i)) (n + 1) := by
  induction n with
  | zero => intro a b; show a 0 * b 0 = 0 + a 0 * b (0 - 0); rw [Int.zero_add]
  | succ n ih =>
    intro a b
    rw [cmul, ih, dsum_shift _ (n + 1)]
    congr 1
    exact dsum_congr fun i hi => by rw [show n + 1 - (i + 1) = n - i by omega]; rfl
theorem dsum_mod {f g : Nat → Int} : ∀ {n : Nat}, (∀ i, i < n → f i % 10007 = g i % 10007) → dsum f n % 10007 = dsum g n % 10007
  | 0, _ => rfl
  | n + 1, h => mod_addc (dsum_mod (n := n) (fun i hi => h i (by omega))) (h n (by omega))
theorem wts_ev {A : List (List Int)} {s : Nat} (hl : A.length = s) (hr : Rws s A) : ∀ (k r : Nat), r < s → (wts A s k)[r]?.getD 0 % 10007 = evN s (mx A) k r % 10007 := by
  intro k
  induction k with
  | zero => intro r h; simp [wts, evN, h]
  | succ k ih =>
    intro r h
    have e : (wts A s (k + 1))[r]?.getD 0 = dotI (A[r]?.getD []) (wts A s k) % 10007 := by
      have h2 : r < A.length := by omega
      show (tim A (wts A s k))[r]?.getD 0 = _
      simp [tim, h2]
    rw [e, Int.emod_emod_of_dvd _ (Int.dvd_refl _), dotI_dsum _ _ s ((hr.at (by omega)).1) (wts_len hl k)]
    show _ = dsum (fun c => mx A r c * evN s (mx A) k c) s % 10007
    exact dsum_mod fun c hc => mod_mulc rfl (ih c hc)
theorem serL_get {A : List (List Int)} {B : List Int} (h : Tab A B) {n k : Nat} (hk : k ≤ n) : (serL A B n)[k]?.getD 0 = rsS B.length (mx A) (fun r => B[r]?.getD 0) k % 10007 := by
  cases k with
  | zero => rw [rsS_0]; rfl
  | succ k =>
    rw [rs_dot]
    have e : (serL A B n)[k + 1]?.getD 0 = dotI B (wts A B.length k) % 10007 := by
      unfold serL
      have : k < n := by omega
      simp [this]
    rw [e, dotI_dsum B (wts A B.length k) B.length rfl (wts_len h.len k)]
    exact dsum_mod fun r hr => mod_mulc rfl (wts_ev h.len h.rws k r hr)
end Go.Proofs.Ytmojbncbbnjblaa


namespace Go.Proofs.Ytmojbncbbnjblaa
open Go.Abs
set_option linter.unusedVariables false
set_option linter.unusedSimpArgs false
set_option maxHeartbeats 4000000
end Go.Proofs.Ytmojbncbbnjblaa


namespace Go.Proofs.Ytmojbncbbnjblaa
open Go.Abs
set_option linter.unusedVariables false
set_option linter.unusedSimpArgs false
set_option maxHeartbeats 4000000
end Go.Proofs.Ytmojbncbbnjblaa


namespace Go.Proofs.Ytmojbncbbnjblaa
open Go.Abs
set_option linter.unusedVariables false
set_option linter.unusedSimpArgs false
set_option maxHeartbeats 4000000
set_option maxRecDepth 100000 in
theorem allStages_c (A : List (List Int)) (B : List Int) (hl : B.length ≤ 1000) : Con Try.prog 150 [.agg [.sl A.length (mat A), .sl B.length (avs B)]] (.own 2 B.length (avs (tlL B.length))) := by
  have hd : tlL B.length = tb (fun i => (i : Int)) B.length := rfl
  rw [hd]
  refine con_of_vc Try.mixed ⟨5, [], [], []⟩ Try.func150 (by decide) rfl (by simp) (by decide) (by simp [freshOK, freshL, go_sem]) ?_
  rw [Try.ntmps150]
  simp [go_sem]
  refine loop_inv ([3, 4] ++ List.range' 9 8) (fun i : Nat => [(3, .own 2 i (avs (tb (fun i => (i : Int)) i))), (9, .int i)]) (fun i => i ≤ B.length) (fun i => B.length - i) 0 (by simp) (by simp [go_sem]) (by simp [go_sem]) ?_
  intro i hi
  by_cases hib : i < B.length
  · have hii : (i : Int) < B.length := by omega
    have ts := tb_succ (fun i => (i : Int)) i
    simp [go_sem, hii]
    exact ⟨⟨by omega, by omega⟩, ⟨by omega, by omega⟩, i + 1, by omega, by omega, Off_reset _ _ _ (by simp), by rw [ts, avs_snoc]; exact ⟨rfl, rfl⟩, by omega⟩
  · have e : i = B.length := by omega
    simp [go_sem, e]
def rvL (xs : List Int) (i : Nat) : List Int := tb (fun k => if k < i ∨ xs.length - i ≤ k then xs[xs.length - 1 - k]?.getD 0 else xs[k]?.getD 0) xs.length
@[simp] theorem rvL_len (xs : List Int) (i : Nat) : (rvL xs i).length = xs.length := by simp [rvL]
theorem rvL_get {xs : List Int} {i k : Nat} (h : k < xs.length) : (rvL xs i)[k]?.getD 0 = if k < i ∨ xs.length - i ≤ k then xs[xs.length - 1 - k]?.getD 0 else xs[k]?.getD 0 := tb_get _ h
theorem rvL_zero (xs : List Int) : rvL xs 0 = xs := by
  refine List.ext_getElem (by simp) fun k h1 h2 => ?_
  have := rvL_get (i := 0) h2
  rw [if_neg (by omega), List.getElem?_eq_getElem h1, List.getElem?_eq_getElem h2] at this
  exact this
theorem rvL_next {xs : List Int} {i : Nat} (h : 2 * i + 1 < xs.length) :
    ((rvL xs i).set i (xs[xs.length - 1 - i]?.getD 0)).set (xs.length - 1 - i) (xs[i]?.getD 0) = rvL xs (i + 1) := by
  refine List.ext_getElem (by simp) fun k h1 h2 => ?_
  have hk : k < xs.length := by simpa using h2
  have e1 := rvL_get (i := i) hk
  have e2 := rvL_get (i := i + 1) hk
  have l1 : k < (rvL xs i).length := by simpa using hk
  rw [List.getElem?_eq_getElem l1, Option.getD_some] at e1
  rw [List.getElem?_eq_getElem h2, Option.getD_some] at e2
  rw [List.getElem_set, List.getElem_set, e1, e2]
  by_cases a : xs.length - 1 - i = k
  · rw [if_pos a, if_pos (by omega)]
    congr 2; omega
  · rw [if_neg a]
    by_cases b : i = k
    · rw [if_pos b, if_pos (by omega)]; subst b; rfl
    · rw [if_neg b]
      by_cases d : k < i ∨ xs.length - i ≤ k
      · rw [if_pos d, if_pos (by omega)]
      · rw [if_neg d, if_neg (by omega)]
theorem rvL_all {xs : List Int} {i : Nat} (h : xs.length ≤ 2 * i + 1) : rvL xs i = xs.reverse := by
  refine List.ext_getElem (by simp) fun k h1 h2 => ?_
  have hk : k < xs.length := by simpa using h2
  have e1 := rvL_get (i := i) hk
  rw [List.getElem?_eq_getElem h1, Option.getD_some] at e1
  rw [e1, List.getElem_reverse]
  have hk2 : xs.length - 1 - k < xs.length := by omega
  by_cases d : k < i ∨ xs.length - i ≤ k
  · rw [if_pos d, List.getElem?_eq_getElem hk2]; rfl
  · rw [if_neg d, List.getElem?_eq_getElem hk]
    have : xs.length - 1 - k = k := by omega
    simp [this]
set_option maxRecDepth 100000 in
theorem Reverse_c (xs : List Int) (hl : xs.length ≤ 1000) : MCon Try.prog 151 [.own 2 xs.length (avs xs)] (.tup []) [.own 2 xs.length (avs xs.reverse)] := by
  refine mcon_of_vc Try.mixed ⟨4, [], [], [1000313990216]⟩ [] [0] Try.func151 (by decide) rfl rfl (by simp) (by simp) (by simp) (by decide) ?_
  rw [Try.ntmps151]
  simp [go_sem]
  refine ⟨⟨by omega, by omega⟩, ?_⟩
  refine loop_inv ([0, 2, 3] ++ List.range' 7 21) (fun i : Nat => [(0, .own 2 xs.length (avs (rvL xs i))), (2, .int i), (3, .int ((xs.length : Int) - 1 - i))]) (fun i => 2 * i ≤ xs.length) (fun i => xs.length - i) 0 (by simp) (by simp [go_sem, rvL_zero]) (by simp [go_sem]) ?_
  intro i hi
  by_cases hx : 2 * i + 1 < xs.length
  · have hii : (i : Int) < (xs.length : Int) - 1 - i := by omega
    have ek : (xs.length : Int) - 1 - (i : Int) = ((xs.length - 1 - i : Nat) : Int) := by omega
    have hn := rvL_next hx
    have l1 : i < (rvL xs i).length := by simp; omega
    have l2 : xs.length - 1 - i < (rvL xs i).length := by simp; omega
    have a1 := avs_at l1
    have a2 := avs_at l2
    rw [rvL_get (by omega), if_neg (by omega)] at a1
    rw [rvL_get (by omega), if_neg (by omega)] at a2
    have t1 := avs_set (rvL xs i) i (xs[xs.length - 1 - i]?.getD 0)
    have t2 := avs_set ((rvL xs i).set i (xs[xs.length - 1 - i]?.getD 0)) (xs.length - 1 - i) (xs[i]?.getD 0)
    rw [hn, ← t1] at t2
    have hj : xs.length - 1 - i < xs.length := by omega
    have hne : ¬ i = xs.length - 1 - i := by omega
    have rl := rvL_len xs i
    generalize xs[i]?.getD 0 = x at *
    generalize hjj : xs.length - 1 - i = j at *
    generalize xs[j]?.getD 0 = y at *
    generalize hO : rvL xs i = O at *
    rw [ek] at hii ⊢
    simp [go_sem, hii, a1, a2]
    refine ⟨by kernel_rfl, ?_, ?_⟩
    · refine ⟨by omega, by omega, by omega, by omega, by omega, by kernel_rfl, ?_⟩
      simp [go_sem, t2]
      exact ⟨⟨by omega, by omega⟩, ⟨by omega, by omega⟩, i + 1, by omega, by omega, Off_reset _ _ _ (by simp), rfl, by omega, by omega⟩
    · refine ⟨by omega, by omega, by omega, by omega, by omega, by kernel_rfl, ?_⟩
      simp [go_sem, t2]
      exact ⟨⟨by omega, by omega⟩, ⟨by omega, by omega⟩, i + 1, by omega, by omega, Off_reset _ _ _ (by simp), rfl, by omega, by omega⟩
  · have hii : ¬ (i : Int) < (xs.length : Int) - 1 - i := by omega
    have ha := rvL_all (xs := xs) (i := i) (by omega)
    rw [ha]
    simp [go_sem, hii]
set_option maxRecDepth 100000 in
theorem inverse_c (A : List (List Int)) (B : List Int) (h : Tab A B) : Con Try.prog 152 [.agg [.sl A.length (mat A), .sl B.length (avs B)]]
    (.agg [.own 27 B.length (omat (lesM A B)), .own 2 B.length (avs (scalS B (-1)))]) := by
  have b1 := h.pos
  have b8 := h.le
  have ab := h.len
  have rw1 := h.rws
  have hd : lesM A B = (List.range A.length).map fun i => plusS (A[i]?.getD []) B (-1) := rfl
  have bN := h.b
  have cT := scaled_c B (-1) bN ⟨by omega, by omega⟩ (by omega)
  generalize scalS B (-1) = Z at *
  refine con_of_vc Try.mixed ⟨6, [], [], []⟩ Try.func152 (by decide) rfl (by simp) (by decide) (by simp [freshOK, freshL, go_sem]) ?_
  rw [Try.ntmps152]
  simp [go_sem]
  refine CallVC.of (cT) (by decide) ?_
  simp [go_sem]
  refine loop_inv ([3, 5] ++ List.range' 13 14) (fun i : Nat => [(3, .box 45 [if i = 0 then .val (.slice none 0 0) else .own 27 i (omat ((List.range i).map fun i => plusS (A[i]?.getD []) B (-1))), .own 2 B.length (avs Z)]), (13, .int i)]) (fun i => i ≤ A.length) (fun i => A.length - i) 0 (by simp) (by simp [go_sem]) (by simp [go_sem]) ?_
  intro i hi
  by_cases hin : i < A.length
  · have hii : (i : Int) < A.length := by omega
    have ri := rw1.at hin
    have ane : ¬ A = [] := by rintro rfl; simp at hin
    have cP := plus_c (A[i]?.getD []) B (-1) ri.2 bN ⟨by omega, by omega⟩ (by omega) (by omega)
    have os := omat_range_succ (fun i => plusS (A[i]?.getD []) B (-1)) i
    rw [plusS_len] at os
    by_cases h0 : i = 0
    · have ox : omat ((List.range (i + 1)).map fun i => plusS (A[i]?.getD []) B (-1)) = [.own 2 (A[i]?.getD []).length (avs (plusS (A[i]?.getD []) B (-1)))] := by rw [os, h0]; simp [omat]
      rw [if_pos h0]
      simp [go_sem, hii, mat_drop hin]
      refine ⟨ane, by kernel_rfl, ?_⟩
      refine CallD.of (cP) (by simp [roots, rootsL]) (by decide) ?_
      simp [go_sem]
      refine ⟨by kernel_rfl, ?_⟩
      simp [go_sem]
      exact ⟨⟨by omega, by omega⟩, i + 1, by omega, by omega, Off_reset _ _ _ (by simp), by rw [if_neg (by omega), ox, h0], by omega⟩
    · rw [if_neg h0]
      simp [go_sem, hii, mat_drop hin]
      refine ⟨ane, by kernel_rfl, ?_⟩
      refine CallD.of (cP) (by simp [roots, rootsL]) (by decide) ?_
      simp [go_sem]
      refine ⟨⟨by omega, by omega⟩, ?_⟩
      refine ⟨by kernel_rfl, ?_⟩
      simp [go_sem]
      exact ⟨⟨by omega, by omega⟩, i + 1, by omega, by omega, Off_reset _ _ _ (by simp), by rw [if_neg (by omega), os], by omega⟩
  · have e : i = A.length := by omega
    subst e
    rw [← hd, if_neg (show ¬ A.length = 0 by omega)]
    simp [go_sem]
    exact ab
end Go.Proofs.Ytmojbncbbnjblaa

