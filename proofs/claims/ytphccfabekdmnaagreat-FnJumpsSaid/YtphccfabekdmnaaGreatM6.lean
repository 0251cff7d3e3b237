/- Texts of the own layer and contracts, part 6: C0 C1 C4 C5 C6 C7 C8 C2 C9 C10 C11 C12 F0 F1 F2 F3 F4 F5 F6 F7 P0 P1 P2 P3 P4 P5 P6 C13 Q0 G0 G1 Q1 Q2 L3 Q9 Q3 Q29 Q35 Q37 V0 Q4 Q5 P7 Q6 Q7 Q8 Q42 V14 Q10 Q11 Q12 Q13 Q14 W31 V13 W32 C14 W17 Q41 Q43 B0 B1 B10 B11 B12 B13 E8 B2 B3 C3 B4 B5 B6 B7 B8 B9 B14 B15 B16 R1 R2 R3 R7 R8 R9 E9 E11 N8 W44 E41 E42 N3 W45 W46 N9 W48. -/
import Derived.Lib.AppendZerosOnto
import Derived.Lib.Walk
import Derived.WalkKit
import Derived.Shelf.Abstract
import Derived.Shelf.RegionOpenPlain
import Derived.Lib.SliceRun
import Derived.Test.YtphccfabekdmnaaGreatM5
set_option linter.unusedSectionVars false
set_option linter.unusedVariables false
set_option linter.unusedSimpArgs false
set_option maxHeartbeats 4000000
set_option maxRecDepth 100000
namespace Go.Abs
def avs (xs : List Int) : List AV := xs.map AV.int
@[simp] theorem avs_len (xs : List Int) : (avs xs).length = xs.length := by simp [avs]
@[simp] theorem avs_nil : avs [] = [] := rfl
theorem avs_snoc (xs : List Int) (x : Int) : avs (xs ++ [x]) = avs xs ++ [.val (.int .i64 x)] := by simp [avs]
theorem avs_cons (xs : List Int) (x : Int) : avs (x :: xs) = .val (.int .i64 x) :: avs xs := by simp [avs]
theorem avs_app (xs ys : List Int) : avs (xs ++ ys) = avs xs ++ avs ys := by simp [avs]
theorem avs_drop {xs : List Int} {k : Nat} (h : k < xs.length) : (avs xs).drop k = .val (.int .i64 (xs.getD k 0)) :: avs (xs.drop (k + 1)) := by
 rw [avs, ← List.map_drop, List.drop_eq_getElem_cons h, List.map_cons]; simp [h, avs]
@[simp] theorem avs_inj {xs ys : List Int} : (avs xs = avs ys) = (xs = ys) := by
 apply propext
 constructor
 ·intro h
  induction xs generalizing ys with
  | nil => cases ys with
   | nil => rfl
   | cons y ys => simp [avs] at h
  | cons x xs ih => cases ys with
   | nil => simp [avs] at h
   | cons y ys =>
    rw [avs_cons, avs_cons] at h
    injection h with h1 h2
    injection h1 with h1
    injection h1 with _ h1
    rw [h1, ih h2]
 ·rintro rfl; rfl
theorem avs_set (xs : List Int) (k : Nat) (x : Int) : (avs xs).set k (.val (.int .i64 x)) = avs (xs.set k x) := by
 simp [avs, List.map_set]
theorem avs_repl (n : Nat) (x : Int) : List.replicate n (AV.val (.int .i64 x)) = avs (List.replicate n x) := by simp [avs]
@[simp] theorem avs_fresh (xs : List Int) : freshL (avs xs) = true := by
 induction xs with
 | nil => rfl
 | cons x xs ih => simp [avs_cons, freshL, ih, freshOK]
@[simp] theorem avs_frz (xs : List Int) : frzL (avs xs) = avs xs := by
 induction xs with
 | nil => rfl
 | cons x xs ih => simp [avs_cons, frzL, ih, frz]
@[simp] theorem avs_kl (W : List Nat) (xs : List Int) : klL W (avs xs) = avs xs := by
 induction xs with
 | nil => rfl
 | cons x xs ih => simp [avs_cons, klL, ih, kl]
@[simp] theorem avs_own (xs : List Int) : hasOwnL (avs xs) = false := by
 induction xs with
 | nil => rfl
 | cons x xs ih => simp [avs_cons, hasOwnL, ih, hasOwn]
@[simp] theorem avs_ne {xs : List Int} : (avs xs = []) = (xs = []) := by
 cases xs <;> simp [avs]
theorem tmod_up {n : Int} (h : 0 ≤ n) (m : Int) : n.tmod m = n % m := Int.tmod_eq_emod_of_nonneg h
theorem tdiv_up {n : Int} (h : 0 ≤ n) (m : Int) : n.tdiv m = n / m := Int.tdiv_eq_ediv_of_nonneg h
theorem num_law (n : Int) : (n.tmod 10007 + 10007).tmod 10007 = n % 10007 := by
 rw [Int.tmod_eq_emod, Int.tmod_eq_emod]; split <;> split <;> simp_all <;> omega
theorem num_low (n : Int) : -10007 < n.tmod 10007 ∧ n.tmod 10007 < 10007 := by
 constructor
 ·rw [Int.tmod_eq_emod]; split <;> simp_all <;> omega
 ·exact Int.tmod_lt_of_pos n (by omega)
end Go.Abs


namespace Go.Proofs.YtphccfabekdmnaaGreat
open Go.Abs
theorem inRange_c (n a b : Int) : Con Tryz.prog 120 [.int n, .int a, .int b] (.bool (decide (a ≤ n) && decide (n ≤ b))) := by
 refine con_of_vc Tryz.mixed ⟨4, [], [], []⟩ Tryz.func120 (by decide) rfl (by simp) (by decide) rfl ?_
 rw [Tryz.ntmps120]
 simp [go_sem]
 refine ⟨fun h => ?_, fun h => ?_⟩ <;> simp at h <;> simp [go_sem, h] <;> omega
theorem l01In_c (n a b : Int) : Con Tryz.prog 155 [.int n, .int a, .int b] (.bool (decide (a ≤ n) && decide (n ≤ b))) := by
 refine con_of_vc Tryz.mixed ⟨4, [], [], []⟩ Tryz.func155 (by decide) rfl (by simp) (by decide) rfl ?_
 rw [Tryz.ntmps155]
 simp [go_sem]
 refine ⟨fun h => ?_, fun h => ?_⟩ <;> simp at h <;> simp [go_sem, h] <;> omega
def upTo (k : Nat) : List Int := (List.range k).map fun (i : Nat) => (i : Int)
theorem upTo_succ (k : Nat) : upTo (k + 1) = upTo k ++ [(k : Int)] := by simp [upTo, List.range_succ]
@[simp] theorem upTo_len (k : Nat) : (upTo k).length = k := by simp [upTo]
def held (xs : List Int) (k : Int) : Int := if xs = (List.range xs.length).map (fun (i : Nat) => k + i) then k + xs.length else -1
end Go.Proofs.YtphccfabekdmnaaGreat


namespace Go.Proofs.YtphccfabekdmnaaGreat
open Go.Abs
def idxF {α : Type} (p : α → Bool) : List α → Int
 | [] => -1
 | x :: xs => if p x then 0 else if idxF p xs = -1 then -1 else idxF p xs + 1
theorem idxF_ge {α : Type} (p : α → Bool) : ∀ xs : List α, -1 ≤ idxF p xs ∧ idxF p xs < xs.length
 | [] => by simp [idxF]
 | x :: xs => by
  have := idxF_ge p xs
  simp only [idxF, List.length_cons]
  split
  ·omega
  ·split <;> omega
theorem idxF_any {α : Type} (p : α → Bool) (xs : List α) : decide (0 ≤ idxF p xs) = xs.any p := by
 induction xs with
 | nil => simp [idxF]
 | cons x xs ih =>
  have := idxF_ge p xs
  simp only [idxF, List.any_cons, ← ih]
  by_cases hp : p x = true
  ·simp [hp]
  ·simp only [hp]
   simp
   split
   ·rename_i e; simp [e]
   ·by_cases h : 0 ≤ idxF p xs <;> simp [h] <;> omega
theorem idxF_skip {α : Type} (p : α → Bool) : ∀ (xs : List α) (i : Nat), (∀ x ∈ xs.take i, p x = false) → i ≤ xs.length → (idxF p xs = if idxF p (xs.drop i) = -1 then -1 else idxF p (xs.drop i) + i)
 | xs, 0, h, hl => by simp
 | [], i + 1, h, hl => by simp at hl
 | x :: xs, i + 1, h, hl => by
  have h1 : p x = false := h x (by simp)
  have h2 := idxF_skip p xs i (fun y hy => h y (by simp [hy])) (by simpa using hl)
  simp only [idxF, h1, List.drop_succ_cons]
  have := (idxF_ge p (xs.drop i)).1
  simp
  rw [h2]
  split
  ·simp
  ·rename_i hne
   rw [if_neg (by omega)]
   omega
theorem IndexFuncI_c (g : FuncId) (p : Int → Bool) (xs : List Int) (hl : xs.length ≤ 9223372036854775807) (hg : ∀ x ∈ xs, Con Tryz.prog g [.int x] (.bool (p x))) :
  Con Tryz.prog 312 [.sl xs.length (avs xs), .val (.func (.func g) #[] #[])] (.int (idxF p xs)) := by
 refine con_of_vc Tryz.mixed ⟨6, [], [], []⟩ Tryz.func312 (by decide) rfl (by simp) (by decide) rfl ?_
 rw [Tryz.ntmps312]
 simp [go_sem]
 refine loop_inv (5 :: List.range' 8 20) (fun i : Nat => [(8, .int i)]) (fun i => i ≤ xs.length ∧ ∀ x ∈ xs.take i, p x = false) (fun i => xs.length - i) 0 (by simp) (by simp [go_sem]) (by simp [go_sem]) ?_
 rintro i ⟨hi, hf⟩
 simp [go_sem]
 have sk := idxF_skip p xs i hf hi
 refine ⟨fun h => ?_, fun h => ?_⟩ <;> simp at h
 ·have hx : xs[i]?.getD 0 ∈ xs := by simp [h]
  have hd : xs.drop i = xs[i]?.getD 0 :: xs.drop (i + 1) := by rw [List.drop_eq_getElem_cons h]; simp [h]
  simp [go_sem, avs_drop h]
  refine ⟨⟨h, by rintro rfl; simp at h⟩, CallVC.of (hg _ hx) (by decide) ?_⟩
  simp [go_sem]
  refine ⟨fun h2 => ?_, fun h2 => ?_⟩ <;> simp [go_sem]
  ·rw [sk, hd]; simp [idxF, h2]
  ·refine ⟨by omega, i + 1, ⟨by omega, ?_⟩, by omega, Off_reset _ _ _ (by simp), by omega⟩
   intro x hx2
   rw [List.take_add_one, List.getElem?_eq_getElem h, Option.toList_some, List.mem_append, List.mem_singleton] at hx2
   rcases hx2 with hx2 | hx2
   ·exact hf x hx2
   ·rw [hx2]; simpa [h] using h2
 ·simp [go_sem]
  rw [sk, List.drop_eq_nil_of_le h]; simp [idxF]
theorem ContainsFuncI_c (g : FuncId) (p : Int → Bool) (xs : List Int) (hl : xs.length ≤ 9223372036854775807) (hg : ∀ x ∈ xs, Con Tryz.prog g [.int x] (.bool (p x))) :
  Con Tryz.prog 267 [.sl xs.length (avs xs), .val (.func (.func g) #[] #[])] (.bool (xs.any p)) := by
 refine con_of_vc Tryz.mixed ⟨5, [], [], []⟩ Tryz.func267 (by decide) rfl (by simp) (by decide) rfl ?_
 rw [Tryz.ntmps267]
 simp [go_sem]
 refine CallVC.of (IndexFuncI_c g p xs hl hg) (by decide) ?_
 simp [go_sem, idxF_any]
theorem IsNumber_c (a : Int) : Con Tryz.prog 110 [.int a] (.bool (decide (0 ≤ a ∧ a ≤ 10006))) := by
 refine con_of_vc Tryz.mixed ⟨3, [], [], []⟩ Tryz.func110 (by decide) rfl (by simp) (by decide) rfl ?_
 rw [Tryz.ntmps110]
 simp [go_sem]
 refine CallVC.of (inRange_c _ _ _) (by decide) ?_
 simp [go_sem]
theorem notNumber_c (a : Int) : Con Tryz.prog 268 [.int a] (.bool (!decide (0 ≤ a ∧ a ≤ 10006))) := by
 refine con_of_vc Tryz.mixed ⟨3, [], [], []⟩ Tryz.func268 (by decide) rfl (by simp) (by decide) rfl ?_
 rw [Tryz.ntmps268]
 simp [go_sem]
 refine CallVC.of (IsNumber_c _) (by decide) ?_
 simp [go_sem]
def numsB (xs : List Int) : Bool := xs.all fun a => decide (0 ≤ a ∧ a ≤ 10006)
theorem areNumbers_c (xs : List Int) (hl : xs.length ≤ 9223372036854775807) : Con Tryz.prog 187 [.sl xs.length (avs xs)] (.bool (numsB xs)) := by
 refine con_of_vc Tryz.mixed ⟨3, [], [], []⟩ Tryz.func187 (by decide) rfl (by simp) (by decide) rfl ?_
 rw [Tryz.ntmps187]
 simp [go_sem]
 refine CallVC.of (ContainsFuncI_c _ _ xs hl (fun x _ => notNumber_c x)) (by decide) ?_
 simp [go_sem, numsB, List.not_any_eq_all_not]
end Go.Proofs.YtphccfabekdmnaaGreat


namespace Go.Proofs.YtphccfabekdmnaaGreat
open Go.Abs
def mat (xss : List (List Int)) : List AV := xss.map fun r => .sl r.length (avs r)
@[simp] theorem mat_len (xss : List (List Int)) : (mat xss).length = xss.length := by simp [mat]
theorem mat_drop {xss : List (List Int)} {k : Nat} (h : k < xss.length) : (mat xss).drop k = .sl (xss[k]?.getD []).length (avs (xss[k]?.getD [])) :: mat (xss.drop (k + 1)) := by
 rw [mat, ← List.map_drop, List.drop_eq_getElem_cons h, List.map_cons]; simp [h, mat]
@[simp] theorem mat_ne {xss : List (List Int)} : (mat xss = []) = (xss = []) := by cases xss <;> simp [mat]
theorem length_c (n : Nat) (cs : List AV) (hn : n ≤ 9223372036854775807) : Con Tryz.prog 186 [.sl n cs] (.int n) := by
 refine con_of_vc Tryz.mixed ⟨3, [], [], []⟩ Tryz.func186 (by decide) rfl (by simp) (by decide) rfl ?_
 rw [Tryz.ntmps186]
 simp [go_sem]
 try omega
end Go.Proofs.YtphccfabekdmnaaGreat


namespace Go.Proofs.YtphccfabekdmnaaGreat
open Go.Abs
end Go.Proofs.YtphccfabekdmnaaGreat


namespace Go.Proofs.YtphccfabekdmnaaGreat
open Go.Abs
def omat (A : List (List Int)) : List AV := A.map fun r => .own 2 r.length (avs r)
@[simp] theorem omat_len (A : List (List Int)) : (omat A).length = A.length := by simp [omat]
@[simp] theorem omat_frz (A : List (List Int)) : frzL (omat A) = mat A := by
 induction A with
 | nil => rfl
 | cons r A ih => simp only [omat, mat, List.map_cons, frzL] at ih ⊢; rw [ih]; simp [frz]
@[simp] theorem omat_fresh (A : List (List Int)) : freshL (omat A) = true := by
 induction A with
 | nil => rfl
 | cons r A ih => simp only [omat, List.map_cons, freshL] at ih ⊢; rw [ih]; simp [freshOK]
end Go.Proofs.YtphccfabekdmnaaGreat


namespace Go.Proofs.YtphccfabekdmnaaGreat
open Go.Abs
def sumL : List (List Int) → Nat
 | [] => 0
 | r :: rs => r.length + sumL rs
theorem sumL_app (A C : List (List Int)) : sumL (A ++ C) = sumL A + sumL C := by
 induction A with
 | nil => simp [sumL]
 | cons r A ih => simp [sumL, ih]; omega
theorem sumL_take {A : List (List Int)} {i : Nat} (h : i < A.length) : sumL (A.take (i + 1)) = sumL (A.take i) + (A[i]?.getD []).length := by
 rw [List.take_add_one, sumL_app]; simp [h, sumL]
theorem sumL_le (A : List (List Int)) (i : Nat) : sumL (A.take i) ≤ sumL A := by
 have := congrArg sumL (List.take_append_drop i A)
 rw [sumL_app] at this; omega
end Go.Proofs.YtphccfabekdmnaaGreat


namespace Go.Proofs.YtphccfabekdmnaaGreat
open Go.Abs
def pw (a k : Int) : Int := a ^ k.toNat % 10007
theorem num_c (n : Int) (h0 : -9223372036854775808 ≤ n) (h1 : n ≤ 9223372036854775807) : Con Tryz.prog 98 [.int n] (.int (n % 10007)) := by
 have e := num_law n
 have b := num_low n
 refine con_of_vc Tryz.mixed ⟨3, [], [], []⟩ Tryz.func98 (by decide) rfl (by simp) (by decide) rfl ?_
 rw [Tryz.ntmps98]
 simp [go_sem, e]
 omega
theorem l01Mod_c (n : Int) (h0 : -9223372036854775808 ≤ n) (h1 : n ≤ 9223372036854775807) : Con Tryz.prog 238 [.int n] (.int (n % 10007)) := by
 have e := num_law n
 have b := num_low n
 refine con_of_vc Tryz.mixed ⟨3, [], [], []⟩ Tryz.func238 (by decide) rfl (by simp) (by decide) rfl ?_
 rw [Tryz.ntmps238]
 simp [go_sem, e]
 omega
def fits (n : Int) : Prop := -9223372036854775808 ≤ n ∧ n ≤ 9223372036854775807
theorem l01Mul_c (a b : Int) (h : fits (a * b)) : Con Tryz.prog 158 [.int a, .int b] (.int (a * b % 10007)) := by
 refine con_of_vc Tryz.mixed ⟨5, [], [], []⟩ Tryz.func158 (by decide) rfl (by simp) (by decide) rfl ?_
 rw [Tryz.ntmps158]
 simp [go_sem]
 refine ⟨h, CallVC.of (l01Mod_c _ h.1 h.2) (by decide) ?_⟩
 simp [go_sem]
theorem l01Sub_c (a b : Int) (h : fits (a - b)) : Con Tryz.prog 159 [.int a, .int b] (.int ((a - b) % 10007)) := by
 refine con_of_vc Tryz.mixed ⟨5, [], [], []⟩ Tryz.func159 (by decide) rfl (by simp) (by decide) rfl ?_
 rw [Tryz.ntmps159]
 simp [go_sem]
 refine ⟨h, CallVC.of (l01Mod_c _ h.1 h.2) (by decide) ?_⟩
 simp [go_sem]
theorem l01Add_c (a b : Int) (h : fits (a + b)) : Con Tryz.prog 220 [.int a, .int b] (.int ((a + b) % 10007)) := by
 refine con_of_vc Tryz.mixed ⟨5, [], [], []⟩ Tryz.func220 (by decide) rfl (by simp) (by decide) rfl ?_
 rw [Tryz.ntmps220]
 simp [go_sem]
 refine ⟨h, CallVC.of (l01Mod_c _ h.1 h.2) (by decide) ?_⟩
 simp [go_sem]
def isN (a : Int) : Prop := 0 ≤ a ∧ a < 10007
theorem isN_mod (n : Int) : isN (n % 10007) := ⟨Int.emod_nonneg _ (by omega), Int.emod_lt_of_pos _ (by omega)⟩
theorem mul_bound {a b : Int} (ha : isN a) (hb : isN b) : 0 ≤ a * b ∧ a * b ≤ 100120036 := by
 obtain ⟨a0, a1⟩ := ha
 obtain ⟨b0, b1⟩ := hb
 exact ⟨Int.mul_nonneg a0 b0, Int.le_trans (Int.mul_le_mul_of_nonneg_right (show a ≤ 10006 by omega) b0) (by omega)⟩
theorem mul_fits {a b : Int} (ha : isN a) (hb : isN b) : fits (a * b) := by
 have := mul_bound ha hb
 exact ⟨by omega, by omega⟩
theorem pow_mod (a : Int) (k : Nat) : (a % 10007) ^ k % 10007 = a ^ k % 10007 := by
 induction k with
 | zero => simp
 | succ k ih => rw [Int.pow_succ, Int.pow_succ, Int.mul_emod, ih, Int.emod_emod, ← Int.mul_emod]
theorem sq_pow (a : Int) (q : Nat) : (a * a) ^ q = a ^ (2 * q) := by
 induction q with
 | zero => simp
 | succ q ih => rw [Int.pow_succ, ih, show 2 * (q + 1) = 2 * q + 1 + 1 by omega, Int.pow_succ, Int.pow_succ, Int.mul_assoc]
theorem mod_mul_r (o x : Int) : o * (x % 10007) % 10007 = o * x % 10007 := by
 rw [Int.mul_emod, Int.emod_emod, ← Int.mul_emod]
theorem mod_mul_l (o x : Int) : (x % 10007) * o % 10007 = x * o % 10007 := by
 rw [Int.mul_emod, Int.emod_emod, ← Int.mul_emod]
theorem pw_even (o a : Int) (q : Nat) : o * (a * a % 10007) ^ q % 10007 = o * a ^ (2 * q) % 10007 := by
 rw [← mod_mul_r, pow_mod, mod_mul_r, sq_pow]
theorem pw_odd (o a : Int) (q : Nat) : (o * a % 10007) * (a * a % 10007) ^ q % 10007 = o * a ^ (2 * q + 1) % 10007 := by
 rw [pw_even, mod_mul_l, Int.pow_succ, Int.mul_assoc, Int.mul_comm (a ^ (2 * q)) a]
theorem half_cast (j : Nat) : (j : Int).tdiv 2 = ((j / 2 : Nat) : Int) := by rw [tdiv_up (by omega)]; omega
theorem bit_cast (j : Nat) : (j : Int).tmod 2 = ((j % 2 : Nat) : Int) := by rw [tmod_up (by omega)]; omega
theorem pow_c (a k : Int) (ha : isN a) (hk : 0 ≤ k) (hk2 : k ≤ 9223372036854775807) : Con Tryz.prog 138 [.int a, .int k] (.int (pw a k)) := by
 refine con_of_vc Tryz.mixed ⟨6, [], [], []⟩ Tryz.func138 (by decide) rfl (by simp) (by decide) rfl ?_
 rw [Tryz.ntmps138]
 simp [go_sem]
 refine loop_inv (0 :: 1 :: List.range' 4 30) (fun x : Int × Nat × Int => [(0, .int x.1), (1, .int x.2.1), (5, .int x.2.2)])
  (fun x => isN x.1 ∧ (x.2.1 : Int) ≤ 9223372036854775807 ∧ isN x.2.2 ∧ x.2.2 * x.1 ^ x.2.1 % 10007 = a ^ k.toNat % 10007) (fun x => x.2.1) (a, k.toNat, 1) ⟨ha, by simp; omega, ⟨by simp, by simp⟩, by simp⟩ (by simp [go_sem]; omega) (by simp [go_sem]) ?_
 rintro ⟨b, j, o⟩ ⟨hb, hj, ho, he⟩
 simp only at hb hj ho he
 have f1 := mul_fits hb hb
 have f2 := mul_fits ho hb
 simp [go_sem]
 refine ⟨fun h => ?_, fun h => ?_⟩ <;> simp at h
 ·simp [go_sem, half_cast, bit_cast]
  refine ⟨fun h2 => ?_, fun h2 => ?_⟩ <;> simp at h2 <;> simp [go_sem]
  ·refine ⟨f2, CallVC.of (num_c _ f2.1 f2.2) (by decide) ?_⟩
   simp [go_sem]
   refine ⟨f1, CallVC.of (num_c _ f1.1 f1.2) (by decide) ?_⟩
   simp [go_sem, half_cast, bit_cast]
   refine ⟨by omega, b * b % 10007, j / 2, o * b % 10007, ⟨isN_mod _, by omega, isN_mod _, ?_⟩, by omega, Off_reset _ _ _ (by simp), rfl, by omega, rfl⟩
   rw [pw_odd, show 2 * (j / 2) + 1 = j by omega, he]
  ·refine ⟨f1, CallVC.of (num_c _ f1.1 f1.2) (by decide) ?_⟩
   simp [go_sem, half_cast, bit_cast]
   refine ⟨by omega, b * b % 10007, j / 2, o, ⟨isN_mod _, by omega, ho, ?_⟩, by omega, Off_reset _ _ _ (by simp), rfl, by omega, rfl⟩
   rw [pw_even, show 2 * (j / 2) = j by omega, he]
 ·simp [go_sem]
  subst h
  unfold pw
  rw [← he]
  simp
  rw [Int.emod_eq_of_lt ho.1 ho.2]
theorem l01Pow_c (a k : Int) (ha : isN a) (hk : 0 ≤ k) (hk2 : k ≤ 9223372036854775807) : Con Tryz.prog 156 [.int a, .int k] (.int (pw a k)) := by
 refine con_of_vc Tryz.mixed ⟨6, [], [], []⟩ Tryz.func156 (by decide) rfl (by simp) (by decide) rfl ?_
 rw [Tryz.ntmps156]
 simp [go_sem]
 refine loop_inv (0 :: 1 :: List.range' 4 30) (fun x : Int × Nat × Int => [(0, .int x.1), (1, .int x.2.1), (5, .int x.2.2)])
  (fun x => isN x.1 ∧ (x.2.1 : Int) ≤ 9223372036854775807 ∧ isN x.2.2 ∧ x.2.2 * x.1 ^ x.2.1 % 10007 = a ^ k.toNat % 10007) (fun x => x.2.1) (a, k.toNat, 1) ⟨ha, by simp; omega, ⟨by simp, by simp⟩, by simp⟩ (by simp [go_sem]; omega) (by simp [go_sem]) ?_
 rintro ⟨b, j, o⟩ ⟨hb, hj, ho, he⟩
 simp only at hb hj ho he
 have f1 := mul_fits hb hb
 have f2 := mul_fits ho hb
 simp [go_sem]
 refine ⟨fun h => ?_, fun h => ?_⟩ <;> simp at h
 ·simp [go_sem, half_cast, bit_cast]
  refine ⟨fun h2 => ?_, fun h2 => ?_⟩ <;> simp at h2 <;> simp [go_sem]
  ·refine CallVC.of (l01Mul_c _ _ f2) (by decide) ?_
   simp [go_sem]
   refine CallVC.of (l01Mul_c _ _ f1) (by decide) ?_
   simp [go_sem, half_cast, bit_cast]
   refine ⟨by omega, b * b % 10007, j / 2, o * b % 10007, ⟨isN_mod _, by omega, isN_mod _, ?_⟩, by omega, Off_reset _ _ _ (by simp), rfl, by omega, rfl⟩
   rw [pw_odd, show 2 * (j / 2) + 1 = j by omega, he]
  ·refine CallVC.of (l01Mul_c _ _ f1) (by decide) ?_
   simp [go_sem, half_cast, bit_cast]
   refine ⟨by omega, b * b % 10007, j / 2, o, ⟨isN_mod _, by omega, ho, ?_⟩, by omega, Off_reset _ _ _ (by simp), rfl, by omega, rfl⟩
   rw [pw_even, show 2 * (j / 2) = j by omega, he]
 ·simp [go_sem]
  subst h
  unfold pw
  rw [← he]
  simp
  rw [Int.emod_eq_of_lt ho.1 ho.2]
theorem inv_c (a : Int) (ha : isN a) : Con Tryz.prog 99 [.int a] (.int (pw a 10005)) := by
 refine con_of_vc Tryz.mixed ⟨3, [], [], []⟩ Tryz.func99 (by decide) rfl (by simp) (by decide) rfl ?_
 rw [Tryz.ntmps99]
 simp [go_sem]
 refine CallVC.of (pow_c _ _ ha (by omega) (by omega)) (by decide) ?_
 simp [go_sem]
theorem l01Inv_c (a : Int) (ha : isN a) : Con Tryz.prog 160 [.int a] (.int (pw a 10005)) := by
 refine con_of_vc Tryz.mixed ⟨3, [], [], []⟩ Tryz.func160 (by decide) rfl (by simp) (by decide) rfl ?_
 rw [Tryz.ntmps160]
 simp [go_sem]
 refine CallVC.of (l01Pow_c _ _ ha (by omega) (by omega)) (by decide) ?_
 simp [go_sem]
def fact : Nat → Int
 | 0 => 1
 | n + 1 => fact n * (n + 1)
theorem fact_pos : ∀ n, 1 ≤ fact n
 | 0 => by simp [fact]
 | n + 1 => by
  have := fact_pos n
  have : 1 * 1 ≤ fact n * (n + 1 : Int) := Int.mul_le_mul this (by omega) (by omega) (by omega)
  simp [fact]; omega
theorem fact_mono (n : Nat) : fact n ≤ fact (n + 1) := by
 have := fact_pos n
 have : fact n * 1 ≤ fact n * (n + 1 : Int) := Int.mul_le_mul_of_nonneg_left (by omega) (by omega)
 simp [fact]; omega
theorem fact_le {n m : Nat} (h : n ≤ m) : fact n ≤ fact m := by
 induction m with
 | zero => rw [show n = 0 by omega]; omega
 | succ m ih => rcases Nat.lt_or_ge n (m + 1) with hl | hl
                ·exact Int.le_trans (ih (by omega)) (fact_mono m)
                ·rw [show n = m + 1 by omega]; omega
theorem fact_20 {n : Nat} (h : n ≤ 20) : 1 ≤ fact n ∧ fact n ≤ 9223372036854775807 :=
 ⟨fact_pos n, Int.le_trans (fact_le h) (by decide)⟩
end Go.Proofs.YtphccfabekdmnaaGreat


namespace Go.Proofs.YtphccfabekdmnaaGreat
open Go.Abs
end Go.Proofs.YtphccfabekdmnaaGreat


namespace Go.Proofs.YtphccfabekdmnaaGreat
open Go.Abs
def Ns (xs : List Int) : Prop := ∀ x ∈ xs, isN x
theorem Ns.get {xs : List Int} (h : Ns xs) (k : Nat) : isN (xs[k]?.getD 0) := by
 rcases Nat.lt_or_ge k xs.length with hk | hk
 ·simp [hk]; exact h _ (List.getElem_mem hk)
 ·simp [hk]; exact ⟨by omega, by omega⟩
theorem Ns.take {xs : List Int} (h : Ns xs) (k : Nat) : Ns (xs.take k) := fun x hx => h x (List.mem_of_mem_take hx)
theorem Ns.snoc {xs : List Int} (h : Ns xs) {x : Int} (hx : isN x) : Ns (xs ++ [x]) := fun y hy => by
 rcases List.mem_append.1 hy with hy | hy
 ·exact h y hy
 ·simp at hy; subst hy; exact hx
theorem Ns.nil : Ns [] := by intro x hx; simp at hx
def Mat (n : Nat) (A : List (List Int)) : Prop := ∀ r ∈ A, r.length = n ∧ Ns r
theorem Mat.get {n : Nat} {A : List (List Int)} (h : Mat n A) {k : Nat} (hk : k < A.length) : (A[k]?.getD []).length = n ∧ Ns (A[k]?.getD []) := by
 rw [List.getElem?_eq_getElem hk]; exact h _ (List.getElem_mem hk)
end Go.Proofs.YtphccfabekdmnaaGreat


namespace Go.Proofs.YtphccfabekdmnaaGreat
open Go.Abs
abbrev u64 (n : Int) : AV := .val (.int .u64 n)
theorem and_low {x : Int} (h0 : 0 ≤ x) (h1 : x < 4294967296) : andI .u64 x 4294967295 = x := by
 obtain ⟨n, rfl⟩ := Int.eq_ofNat_of_zero_le h0
 have hn : n < 2 ^ 32 := by omega
 have e1 : (BitVec.ofInt 64 (n : Int)).toNat = n := by
  rw [BitVec.toNat_ofInt]; simp; omega
 have e2 : (BitVec.ofInt 64 4294967295).toNat = 2 ^ 32 - 1 := by decide
 show IntKind.wrap .u64 ((BitVec.ofInt 64 (n : Int) &&& BitVec.ofInt 64 4294967295).toNat : Int) = n
 rw [BitVec.toNat_and, e1, e2, Nat.and_two_pow_sub_one_eq_mod, Nat.mod_eq_of_lt hn]
 exact wrap_in (by
  have e1 : IntKind.min .u64 = 0 := by decide
  have e2 : IntKind.max .u64 = 18446744073709551615 := by decide
  unfold inK; rw [e1, e2]; omega)
theorem wrap_u64 {x : Int} (h0 : 0 ≤ x) (h1 : x < 18446744073709551616) : IntKind.wrap .u64 x = x := wrap_in (by
 have e1 : IntKind.min .u64 = 0 := by decide
 have e2 : IntKind.max .u64 = 18446744073709551615 := by decide
 unfold inK; rw [e1, e2]; omega)
theorem shr_low {x : Int} (h0 : 0 ≤ x) (h1 : x < 4294967296) : shrI .u64 x 32 = 0 := by
 show x.fdiv (2 ^ min (32 : Int).toNat 64) = 0
 rw [show ((2 : Int) ^ min (32 : Int).toNat 64) = 4294967296 from rfl, Int.fdiv_eq_ediv_of_nonneg _ (by omega)]; omega
theorem Mul64_c (x y : Int) (hx : 0 ≤ x) (hx1 : x < 4294967296) (hy : 0 ≤ y) (hy1 : y < 4294967296) (h0 : 0 ≤ x * y) (h : x * y < 4294967296) : Con Tryz.prog 344 [u64 x, u64 y] (.tup [u64 0, u64 (x * y)]) := by
 have a0 := and_low (Int.le_refl 0) (by omega)
 have a1 := and_low hx hx1
 have a2 := and_low hy hy1
 have s0 := shr_low (Int.le_refl 0) (by omega)
 have s1 := shr_low hx hx1
 have s2 := shr_low hy hy1
 have s3 := shr_low h0 h
 have w3 := wrap_u64 h0 (by omega)
 have w0 := wrap_u64 (Int.le_refl 0) (by omega)
 refine con_of_vc Tryz.mixed ⟨14, [], [], []⟩ Tryz.func344 (by decide) rfl (by simp) (by decide) (by simp [freshOK, freshL]) ?_
 rw [Tryz.ntmps344]
 simp [go_sem, a0, a1, a2, s0, s1, s2, s3, w3, w0]
theorem Mul_c (x y : Int) (hx : 0 ≤ x) (hx1 : x < 4294967296) (hy : 0 ≤ y) (hy1 : y < 4294967296) (h0 : 0 ≤ x * y) (h : x * y < 4294967296) : Con Tryz.prog 299 [u64 x, u64 y] (.tup [u64 0, u64 (x * y)]) := by
 refine con_of_vc Tryz.mixed ⟨10, [], [], []⟩ Tryz.func299 (by decide) rfl (by simp) (by decide) (by simp [freshOK, freshL, go_sem]) ?_
 rw [Tryz.ntmps299]
 simp [go_sem]
 refine CallVC.of (Mul64_c x y hx hx1 hy hy1 h0 h) (by decide) ?_
 simp [go_sem]
theorem rep_copy (x : Int) (s n : Nat) (h : n ≤ s) : setMany (avs (List.replicate n x ++ List.replicate (s - n) 0)) n ((avs (List.replicate n x ++ List.replicate (s - n) 0)).take (min n (s - n))) =
  avs (List.replicate (n + min n (s - n)) x ++ List.replicate (s - (n + min n (s - n))) 0) := by
 rw [setMany_eq _ _ _ (by simp; omega)]
 simp only [avs, ← List.map_take, ← List.map_drop, ← List.map_append]
 congr 1
 simp only [List.take_append_of_le_length (show min n (s - n) ≤ (List.replicate n x).length by simp; omega), List.take_append_of_le_length (show n ≤ (List.replicate n x).length by simp), List.take_replicate, Nat.min_self, Nat.min_eq_left (Nat.min_le_left n (s - n))]
 rw [List.drop_append]
 simp
 omega
theorem Repeat_c (x : Int) (s : Nat) (h1 : 1 ≤ s) (h2 : s ≤ 1000) : Con Tryz.prog 242 [.sl 1 [.int x], .int s] (.own 2 s (avs (List.replicate s x))) := by
 have w1 : IntKind.wrap .u64 1 = 1 := by decide
 have w2 : IntKind.wrap .u64 (s : Int) = s := wrap_u64 (by omega) (by omega)
 refine con_of_vc Tryz.mixed ⟨9, [], [], []⟩ Tryz.func242 (by decide) rfl (by simp) (by decide) (by simp [freshOK, freshL, go_sem]) ?_
 rw [Tryz.ntmps242]
 simp [go_sem]
 refine ⟨fun h => ?_, fun _ => ?_⟩
 ·simp at h; omega
 simp [go_sem, w1, w2]
 refine CallVC.of (Mul_c 1 s (by omega) (by omega) (by omega) (by omega) (by omega) (by omega)) (by decide) ?_
 have e1 : (1 : Int) * s = s := by omega
 simp [go_sem, e1]
 refine ⟨fun h => ?_, fun _ => ?_⟩
 ·simp at h; omega
 simp [go_sem]
 refine ⟨by omega, ⟨by omega, by omega⟩, ⟨by omega, by omega, by omega⟩, ?_⟩
 refine loop_inv (7 :: 8 :: List.range' 34 13) (fun n : Nat => [(7, .own 2 s (avs (List.replicate n x ++ List.replicate (s - n) 0))), (8, .int n)]) (fun n => 1 ≤ n ∧ n ≤ s) (fun n => s - n) 1 ⟨by omega, h1⟩ ?_ (by simp [go_sem]) ?_
 ·simp [go_sem]
  obtain ⟨m, rfl⟩ : ∃ m, s = m + 1 := ⟨s - 1, by omega⟩
  simp [List.replicate_succ, avs_cons, setMany, avs_repl, go_sem]
 rintro n ⟨hn1, hn2⟩
 simp [go_sem]
 refine ⟨fun h => ?_, fun h => ?_⟩ <;> simp at h
 ·have hz : ¬ n = 0 := by omega
  simp [go_sem, hz]
  refine ⟨by kernel_rfl, h, ⟨by omega, by omega⟩, ⟨by omega, by omega⟩, ⟨by omega, by omega⟩, ?_⟩
  refine ⟨by kernel_rfl, ?_⟩
  simp [go_sem]
  refine ⟨n + min n (s - n), ⟨by omega, by omega⟩, by omega, Off_reset _ _ _ (by simp), ?_, by omega⟩
  have hc := rep_copy x s n (by omega)
  simpa using hc
 ·simp [go_sem]
  have e : n = s := by omega
  subst e; simp
end Go.Proofs.YtphccfabekdmnaaGreat


namespace Go.Proofs.YtphccfabekdmnaaGreat
open Go.Abs
theorem specIsNumber_c (a : Int) : Con Tryz.prog 294 [.int a] (.bool (decide (0 ≤ a ∧ a ≤ 10006))) := by
 refine con_of_vc Tryz.mixed ⟨3, [], [], []⟩ Tryz.func294 (by decide) rfl (by simp) (by decide) (by simp [freshOK, freshL, go_sem]) ?_
 rw [Tryz.ntmps294]
 simp [go_sem]
 refine CallVC.of (l01In_c _ _ _) (by decide) ?_
 simp [go_sem]
theorem numsB_bad {xs : List Int} {i : Nat} (h : i < xs.length) (hb : ¬ (0 ≤ xs[i]?.getD 0 ∧ xs[i]?.getD 0 ≤ 10006)) : numsB xs = false := by
 rw [List.getElem?_eq_getElem h] at hb
 simp only [Option.getD_some] at hb
 unfold numsB
 rw [List.all_eq_false]
 exact ⟨xs[i], List.getElem_mem h, by simpa using hb⟩
theorem numsB_ok {xs : List Int} (h : ∀ x ∈ xs, 0 ≤ x ∧ x ≤ 10006) : numsB xs = true := by
 unfold numsB
 rw [List.all_eq_true]
 intro x hx
 simpa using h x hx
theorem numsB_N {xs : List Int} : numsB xs = true ↔ Ns xs := by
 unfold numsB Ns isN
 rw [List.all_eq_true]
 constructor
 ·intro h x hx
  have := h x hx
  simp at this; omega
 ·intro h x hx
  have := h x hx
  simp; omega
theorem take_all {α : Type} {p : α → Prop} {xs : List α} {i : Nat} (h : i < xs.length) (h1 : ∀ x ∈ xs.take i, p x) (h2 : p xs[i]) : ∀ x ∈ xs.take (i + 1), p x := by
 intro x hx
 rw [List.take_add_one, List.getElem?_eq_getElem h, Option.toList_some, List.mem_append, List.mem_singleton] at hx
 rcases hx with hx | rfl
 ·exact h1 x hx
 ·exact h2
theorem l01Numbers_c (xs : List Int) (hl : xs.length ≤ 9223372036854775807) : Con Tryz.prog 233 [.sl xs.length (avs xs)] (.bool (numsB xs)) := by
 refine con_of_vc Tryz.mixed ⟨4, [], [], []⟩ Tryz.func233 (by decide) rfl (by simp) (by decide) (by simp [freshOK, freshL, go_sem]) ?_
 rw [Tryz.ntmps233]
 simp [go_sem]
 refine loop_inv (List.range' 2 14) (fun i : Nat => [(3, .int i)]) (fun i => i ≤ xs.length ∧ ∀ x ∈ xs.take i, 0 ≤ x ∧ x ≤ 10006) (fun i => xs.length - i) 0 (by simp) (by simp [go_sem]) (by simp [go_sem]) ?_
 rintro i ⟨hi, hp⟩
 simp [go_sem]
 refine ⟨fun h => ?_, fun h => ?_⟩ <;> simp at h
 ·simp [go_sem, avs_drop h]
  refine ⟨⟨h, by rintro rfl; simp at h⟩, ?_⟩
  refine CallVC.of (specIsNumber_c _) (by decide) ?_
  by_cases hb : 0 ≤ xs[i]?.getD 0 ∧ xs[i]?.getD 0 ≤ 10006
  ·simp [go_sem, hb]
   refine ⟨by omega, i + 1, ⟨by omega, ?_⟩, by omega, Off_reset _ _ _ (by simp), by omega⟩
   rw [List.getElem?_eq_getElem h, Option.getD_some] at hb
   exact take_all h hp hb
  ·have e : decide (0 ≤ xs[i]?.getD 0 ∧ xs[i]?.getD 0 ≤ 10006) = false := by simpa using hb
   rw [e]
   simp [go_sem]
   exact numsB_bad h hb
 ·simp [go_sem]
  have e : i = xs.length := by omega
  subst e
  rw [List.take_length] at hp
  exact numsB_ok hp
structure Tab (A : List (List Int)) (B : List Int) : Prop where
 pos : 1 ≤ B.length
 le : B.length ≤ 8
 len : A.length = B.length
 b : Ns B
 a : Mat B.length A
end Go.Proofs.YtphccfabekdmnaaGreat


namespace Go.Proofs.YtphccfabekdmnaaGreat
open Go.Abs
abbrev Mon := Int × List Int
def sumC {α : Type} (c : α → Nat) : List α → Nat
 | [] => 0
 | a :: l => c a + sumC c l
structure SzOk {α : Type} (g : Int → α → Int) (c : α → Nat) : Prop where
 lo : ∀ l a, -1 ≤ g l a
 hi : ∀ l a, 0 ≤ l → g l a ≤ l
 ok : ∀ l a, 0 ≤ l → 0 ≤ g l a → (c a : Int) ≤ l - g l a
def cM (m : Mon) : Nat := m.2.length
def cP (p : List Mon) : Nat := p.length + sumC cM p
def cF (f : List (List Mon)) : Nat := f.length + sumC cP f
end Go.Proofs.YtphccfabekdmnaaGreat


namespace Go.Proofs.YtphccfabekdmnaaGreat
open Go.Abs
end Go.Proofs.YtphccfabekdmnaaGreat


namespace Go.Proofs.YtphccfabekdmnaaGreat
open Go.Abs
def ltL : List Int → List Int → Bool
 | _, [] => false
 | [], _ :: _ => true
 | x :: xs, y :: ys => if x = y then ltL xs ys else decide (x < y)
theorem ltL_at : ∀ {a b : List Int} {i : Nat}, i < a.length → i < b.length → a.take i = b.take i → a[i]?.getD 0 ≠ b[i]?.getD 0 → ltL a b = decide (a[i]?.getD 0 < b[i]?.getD 0)
 | x :: a, y :: b, 0, _, _, _, h => by
  simp at h
  simp [ltL, h]
 | x :: a, y :: b, i + 1, h1, h2, h3, h4 => by
  simp at h3
  simp only [ltL, if_pos h3.1]
  simpa using ltL_at (a := a) (b := b) (i := i) (by simpa using h1) (by simpa using h2) h3.2 (by simpa using h4)
theorem ltL_end : ∀ {a b : List Int} {i : Nat}, a.take i = b.take i → i ≤ a.length → i ≤ b.length → (a.length ≤ i ∨ b.length ≤ i) → ltL a b = decide (a.length < b.length)
 | _, [], i, _, _, _, _ => by simp [ltL]
 | [], _ :: _, i, _, _, _, _ => by simp [ltL]
 | x :: a, y :: b, 0, _, h1, h2, h3 => by simp at h3
 | x :: a, y :: b, i + 1, h, h1, h2, h3 => by
  simp at h
  simp only [ltL, if_pos h.1]
  have := ltL_end (a := a) (b := b) (i := i) h.2 (by simpa using h1) (by simpa using h2) (by simpa using h3)
  rw [this]; simp
theorem take_ext {a b : List Int} {i : Nat} (h1 : i < a.length) (h2 : i < b.length) (h : a.take i = b.take i) (e : a[i]?.getD 0 = b[i]?.getD 0) : a.take (i + 1) = b.take (i + 1) := by
 rw [List.getElem?_eq_getElem h1, List.getElem?_eq_getElem h2] at e
 simp at e
 rw [List.take_add_one, List.take_add_one, h, List.getElem?_eq_getElem h1, List.getElem?_eq_getElem h2, e]
theorem l01Less_c (a b : List Int) (ha : a.length ≤ 9223372036854775807) (hb : b.length ≤ 9223372036854775807) : Con Tryz.prog 261 [.sl a.length (avs a), .sl b.length (avs b)] (.bool (ltL a b)) := by
 refine con_of_vc Tryz.mixed ⟨6, [], [], []⟩ Tryz.func261 (by decide) rfl (by simp) (by decide) (by simp [freshOK, freshL, go_sem]) ?_
 rw [Tryz.ntmps261]
 simp [go_sem]
 refine loop_inv (4 :: 5 :: List.range' 6 30) (fun i : Nat => [(5, .int i)]) (fun i => i ≤ a.length ∧ i ≤ b.length ∧ a.take i = b.take i) (fun i => a.length - i) 0 (by simp) (by simp [go_sem]) (by simp [go_sem]) ?_
 rintro i ⟨hi, hj, he⟩
 by_cases h1 : i < a.length
 ·by_cases h2 : i < b.length
  ·have h1' : (i : Int) < a.length := by omega
   have h2' : (i : Int) < b.length := by omega
   by_cases hd : a[i]?.getD 0 = b[i]?.getD 0
   ·simp [go_sem, h1, h2, h1', h2', avs_drop h1, avs_drop h2, hd]
    refine ⟨by kernel_rfl, by rintro rfl; simp at h1, by rintro rfl; simp at h2, ?_⟩
    have hd2 : a[i] = b[i] := by simpa [h1, h2] using hd
    refine ⟨by kernel_rfl, ?_⟩
    simp [go_sem]
    simp [go_sem, hd2]
    refine ⟨by omega, i + 1, ⟨by omega, by omega, take_ext h1 h2 he hd⟩, by omega, Off_reset _ _ _ (by simp), by omega⟩
   ·simp [go_sem, h1, h2, h1', h2', avs_drop h1, avs_drop h2, hd]
    refine ⟨by kernel_rfl, by rintro rfl; simp at h1, by rintro rfl; simp at h2, ?_⟩
    have hd2 : ¬ a[i] = b[i] := by simpa [h1, h2] using hd
    refine ⟨by kernel_rfl, ?_⟩
    simp [go_sem]
    simp [go_sem, hd2, avs_drop h1, avs_drop h2]
    refine ⟨by kernel_rfl, ⟨h1, by rintro rfl; simp at h1⟩, ⟨h2, by rintro rfl; simp at h2⟩, ?_⟩
    refine ⟨by kernel_rfl, ?_⟩
    simp [go_sem]
    rw [ltL_at h1 h2 he hd]
  ·have h2' : ¬ (i : Int) < b.length := by omega
   simp [go_sem, h1, h2, h2']
   rw [ltL_end he hi hj (.inr (by omega))]
 ·simp [go_sem, h1]
  rw [ltL_end he hi hj (.inl (by omega))]
def degL : List Int → Int → Int
 | [], s => s
 | x :: xs, s => if x < 0 ∨ 100 < x then 1000 else degL xs (s + x)
def monB (z : Int) (m : Mon) : Bool := decide (1 ≤ m.1 ∧ m.1 ≤ 10006) && decide ((m.2.length : Int) = z) && decide (degL m.2 0 ≤ 3)
def atB (z : Int) (p : List Mon) (j : Nat) : Bool := monB z (p[j]?.getD (0, [])) && (decide (j = 0) || ltL (p[j - 1]?.getD (0, [])).2 (p[j]?.getD (0, [])).2)
def partB (z : Int) (p : List Mon) : Bool := (List.range p.length).all (atB z p)
end Go.Proofs.YtphccfabekdmnaaGreat


namespace Go.Proofs.YtphccfabekdmnaaGreat
open Go.Abs
structure MonOk (z : Int) (m : Mon) : Prop where
 lo : 1 ≤ m.1
 hi : m.1 ≤ 10006
 len : (m.2.length : Int) = z
 pw : ∀ x ∈ m.2, 0 ≤ x ∧ x ≤ 3
 deg : m.2.sum ≤ 3
theorem MonOk.get {z : Int} {m : Mon} (h : MonOk z m) (k : Nat) : 0 ≤ m.2[k]?.getD 0 ∧ m.2[k]?.getD 0 ≤ 3 := by
 rcases Nat.lt_or_ge k m.2.length with hk | hk
 ·simp [hk]; exact h.pw _ (List.getElem_mem hk)
 ·simp [hk]
structure FieldOk (z : Int) (f : List (List Mon)) : Prop where
 lo : 1 ≤ z
 hi : z ≤ 3
 len : (f.length : Int) = z
 part : ∀ p ∈ f, partB z p = true
end Go.Proofs.YtphccfabekdmnaaGreat


namespace Go.Proofs.YtphccfabekdmnaaGreat
open Go.Abs
def cmpI (x y : Int) : Int := if x < y then -1 else if y < x then 1 else 0
theorem isNaN_c [DrawK] (x : Int) : Con Tryz.prog 320 [.int x] (.bool false) := by
 refine con_of_vc Tryz.mixed ⟨3, [], [], []⟩ Tryz.func320 (by decide) rfl (by simp) (by decide) (by simp [freshOK, freshL, go_sem]) ?_
 rw [Tryz.ntmps320]
 simp [go_sem]
theorem Compare1_c [DrawK] (x y : Int) : Con Tryz.prog 274 [.int x, .int y] (.int (cmpI x y)) := by
 refine con_of_vc Tryz.mixed ⟨7, [], [], []⟩ Tryz.func274 (by decide) rfl (by simp) (by decide) (by simp [freshOK, freshL, go_sem]) ?_
 rw [Tryz.ntmps274]
 simp [go_sem]
 refine CallVC.of (isNaN_c _) (by decide) ?_
 simp [go_sem]
 refine CallVC.of (isNaN_c _) (by decide) ?_
 simp [go_sem]
 unfold cmpI
 by_cases h1 : x < y
 ·simp [go_sem, h1]
 ·by_cases h2 : y < x
  ·simp [go_sem, h1, h2]
  ·simp [go_sem, h1, h2]
def cmpL : List Int → List Int → Int
 | [], [] => 0
 | [], _ :: _ => -1
 | _ :: _, [] => 1
 | x :: xs, y :: ys => if x = y then cmpL xs ys else cmpI x y
theorem cmpI_ne {x y : Int} (h : x ≠ y) : cmpI x y ≠ 0 := by unfold cmpI; split; omega; split <;> omega
theorem cmpL_lt : ∀ a b : List Int, decide (0 ≤ cmpL a b) = !ltL a b
 | [], [] => by simp [cmpL, ltL]
 | [], _ :: _ => by simp [cmpL, ltL]
 | _ :: _, [] => by simp [cmpL, ltL]
 | x :: xs, y :: ys => by
  rw [cmpL, ltL]
  by_cases h : x = y
  ·rw [if_pos h, if_pos h]; exact cmpL_lt xs ys
  ·rw [if_neg h, if_neg h]
   unfold cmpI
   by_cases h1 : x < y
   ·simp [h1]
   ·have : y < x := by omega
    simp [h1, this]
theorem cmpL_at : ∀ {a b : List Int} {i : Nat}, i < a.length → i < b.length → a.take i = b.take i → a[i]?.getD 0 ≠ b[i]?.getD 0 → cmpL a b = cmpI (a[i]?.getD 0) (b[i]?.getD 0)
 | x :: a, y :: b, 0, _, _, _, h => by
  simp at h
  simp [cmpL, h]
 | x :: a, y :: b, i + 1, h1, h2, h3, h4 => by
  simp at h3
  simp only [cmpL, if_pos h3.1]
  simpa using cmpL_at (a := a) (b := b) (i := i) (by simpa using h1) (by simpa using h2) h3.2 (by simpa using h4)
theorem cmpL_more : ∀ {a b : List Int} {i : Nat}, i < a.length → b.length ≤ i → a.take b.length = b → cmpL a b = 1
 | x :: a, [], _, _, _, _ => by simp [cmpL]
 | x :: a, y :: b, 0, _, h, _ => by simp at h
 | x :: a, y :: b, i + 1, h1, h2, h3 => by
  simp at h3
  simp only [cmpL, if_pos h3.1]
  exact cmpL_more (a := a) (b := b) (i := i) (by simpa using h1) (by simpa using h2) h3.2
theorem cmpL_end : ∀ {a b : List Int}, a = b.take a.length → cmpL a b = if a.length < b.length then -1 else 0
 | [], [], _ => by simp [cmpL]
 | [], _ :: _, _ => by simp [cmpL]
 | x :: a, [], h => by simp at h
 | x :: a, y :: b, h => by
  simp at h
  simp only [cmpL, if_pos h.1]
  rw [cmpL_end h.2]; simp
theorem Compare_c [DrawK] (a b : List Int) (ha : a.length ≤ 9223372036854775807) (hb : b.length ≤ 9223372036854775807) : Con Tryz.prog 198 [.sl a.length (avs a), .sl b.length (avs b)] (.int (cmpL a b)) := by
 refine con_of_vc Tryz.mixed ⟨9, [], [], []⟩ Tryz.func198 (by decide) rfl (by simp) (by decide) (by simp [freshOK, freshL, go_sem]) ?_
 rw [Tryz.ntmps198]
 simp [go_sem]
 refine loop_inv (4 :: 5 :: 6 :: 7 :: 8 :: List.range' 11 20) (fun i : Nat => [(11, .int i)]) (fun i => i ≤ a.length ∧ i ≤ b.length ∧ a.take i = b.take i) (fun i => a.length - i) 0 (by simp) (by simp [go_sem]) (by simp [go_sem]) ?_
 rintro i ⟨hi, hj, he⟩
 simp [go_sem]
 refine ⟨fun h => ?_, fun h => ?_⟩ <;> simp at h
 ·have h1 := h
  simp [go_sem, avs_drop h1]
  refine ⟨⟨h1, by rintro rfl; simp at h1⟩, ?_⟩
  by_cases h2 : i < b.length
  ·have h2' : ¬ (b.length ≤ i) := by omega
   simp [go_sem, h2', avs_drop h2]
   refine ⟨⟨h2, by rintro rfl; simp at h2⟩, ?_⟩
   refine CallVC.of (Compare1_c _ _) (by decide) ?_
   simp [go_sem]
   by_cases hd : a[i]?.getD 0 = b[i]?.getD 0
   ·have hc : cmpI (a[i]?.getD 0) (b[i]?.getD 0) = 0 := by unfold cmpI; rw [if_neg (by omega), if_neg (by omega)]
    simp [go_sem, hc]
    refine ⟨by omega, i + 1, ⟨by omega, by omega, take_ext h1 h2 he hd⟩, by omega, Off_reset _ _ _ (by simp), by omega⟩
   ·have hc := cmpI_ne hd
    simp [go_sem, hc]
    rw [cmpL_at h1 h2 he hd]
  ·have h2' : b.length ≤ i := by omega
   have e : i = b.length := by omega
   simp [go_sem, h2']
   rw [cmpL_more h1 h2' (by rw [← e, he, e, List.take_length])]
 ·simp [go_sem]
  have e : i = a.length := by omega
  subst e
  rw [List.take_length] at he
  rw [cmpL_end he]
  by_cases h3 : a.length < b.length
  ·simp [go_sem, h3]
  ·simp [go_sem, h3]
end Go.Proofs.YtphccfabekdmnaaGreat


namespace Go.Proofs.YtphccfabekdmnaaGreat
open Go.Abs
end Go.Proofs.YtphccfabekdmnaaGreat


namespace Go.Proofs.YtphccfabekdmnaaGreat
open Go.Abs
theorem ltL_irr : ∀ a : List Int, ltL a a = false
 | [] => rfl
 | x :: a => by simp [ltL, ltL_irr a]
theorem ltL_trans : ∀ {a b c : List Int}, ltL a b = true → ltL b c = true → ltL a c = true
 | _, [], _, h, _ => by simp [ltL] at h
 | _, _ :: _, [], _, h => by simp [ltL] at h
 | [], _ :: _, _ :: _, _, _ => rfl
 | x :: a, y :: b, z :: c, h1, h2 => by
  simp only [ltL] at h1 h2 ⊢
  split at h1
  ·rename_i e; subst e
   split at h2
   ·rename_i e; subst e; rw [if_pos rfl]; exact ltL_trans h1 h2
   ·rename_i e; rw [if_neg e]; exact h2
  ·rename_i e1
   simp only [decide_eq_true_eq] at h1
   split at h2
   ·rename_i e; subst e; rw [if_neg e1]; simpa using h1
   ·rename_i e
    simp only [decide_eq_true_eq] at h2
    rw [if_neg (by omega)]; simp; omega
end Go.Proofs.YtphccfabekdmnaaGreat


namespace Go.Proofs.YtphccfabekdmnaaGreat
open Go.Abs
end Go.Proofs.YtphccfabekdmnaaGreat


namespace Go.Proofs.YtphccfabekdmnaaGreat
abbrev Key3 := Int × Int × Int
def r4 : List Int := [0, 1, 2, 3]
def box : List Key3 := r4.flatMap fun i => r4.flatMap fun j => r4.map fun k => (i, j, k)
theorem mem_box {k : Key3} : k ∈ box ↔ 0 ≤ k.1 ∧ k.1 ≤ 3 ∧ 0 ≤ k.2.1 ∧ k.2.1 ≤ 3 ∧ 0 ≤ k.2.2 ∧ k.2.2 ≤ 3 := by
 obtain ⟨a, b, c⟩ := k
 have h4 : ∀ x : Int, x ∈ r4 ↔ 0 ≤ x ∧ x ≤ 3 := fun x => by simp [r4]; omega
 simp only [box, List.mem_flatMap, List.mem_map, Prod.mk.injEq]
 constructor
 ·rintro ⟨i, hi, j, hj, k, hk, rfl, rfl, rfl⟩
  have := (h4 i).1 hi; have := (h4 j).1 hj; have := (h4 k).1 hk
  omega
 ·rintro ⟨h1, h2, h3, h5, h6, h7⟩
  exact ⟨a, (h4 a).2 ⟨h1, h2⟩, b, (h4 b).2 ⟨h3, h5⟩, c, (h4 c).2 ⟨h6, h7⟩, rfl, rfl, rfl⟩
def inc (i : Nat) (k : Key3) : Key3 := if i = 0 then (k.1 + 1, k.2.1, k.2.2) else if i = 1 then (k.1, k.2.1 + 1, k.2.2) else (k.1, k.2.1, k.2.2 + 1)
def at3 (i : Nat) (k : Key3) : Int := if i = 0 then k.1 else if i = 1 then k.2.1 else k.2.2
def der (i : Nat) (C : Key3 → Int) (k : Key3) : Int := (at3 i k + 1) * C (inc i k)
def alo (v : Nat → Int) (C : Key3 → Int) : Nat → Key3 → Int
 | 0, _ => 0
 | n + 1, k => alo v C n k + v n * der n C k
end Go.Proofs.YtphccfabekdmnaaGreat


namespace Go.Proofs.YtphccfabekdmnaaGreat
open Go.Abs
def yat (y : List Int) (i : Nat) : Int := y[i]?.getD 0
def gv (c : Key → Option Int) (k : Key) : Int := (c k).getD 0
end Go.Proofs.YtphccfabekdmnaaGreat


namespace Go.Proofs.YtphccfabekdmnaaGreat
open Go.Abs
structure VOk (n : Nat) (m : Mon) : Prop where
 num : isN m.1
 len : m.2.length = n
 pw : ∀ x ∈ m.2, 0 ≤ x ∧ x ≤ 3
end Go.Proofs.YtphccfabekdmnaaGreat


namespace Go.Proofs.YtphccfabekdmnaaGreat
open Go.Abs
end Go.Proofs.YtphccfabekdmnaaGreat


namespace Go.Proofs.YtphccfabekdmnaaGreat
open Go.Abs
end Go.Proofs.YtphccfabekdmnaaGreat


namespace Go.Proofs.YtphccfabekdmnaaGreat
open Go.Abs
theorem VOk.low {n i : Nat} {m : Mon} (h : VOk n m) (hi : i < n) (hp : 0 < m.2[i]?.getD 0) : VOk n (m.1 * m.2[i]?.getD 0 % 10007, m.2.set i (m.2[i]?.getD 0 - 1)) := by
 have hl := h.len
 refine ⟨isN_mod _, by simpa using hl, fun x hx => ?_⟩
 rcases List.mem_or_eq_of_mem_set hx with hx | rfl
 ·exact h.pw x hx
 ·have hm : m.2[i]?.getD 0 ∈ m.2 := by
   rw [List.getElem?_eq_getElem (by omega), Option.getD_some]; exact List.getElem_mem _
  have := h.pw _ hm
  omega
end Go.Proofs.YtphccfabekdmnaaGreat


namespace Go.Proofs.YtphccfabekdmnaaGreat
open Go.Abs
def NN (k : Key) : Prop := 0 ≤ k.1 ∧ 0 ≤ k.2.1 ∧ 0 ≤ k.2.2
def Eqv (C D : Key → Int) : Prop := ∀ k, NN k → C k % 10007 = D k % 10007
theorem NN.box {k : Key} (h : k ∈ box) : NN k := by have := mem_box.1 h; exact ⟨by omega, by omega, by omega⟩
theorem NN.at3 {k : Key} (h : NN k) (i : Nat) : 0 ≤ at3 i k := by
 obtain ⟨a, b, c⟩ := h
 unfold Go.Proofs.YtphccfabekdmnaaGreat.at3
 split
 ·omega
 ·split <;> omega
theorem NN.inc {k : Key} (h : NN k) (i : Nat) : NN (inc i k) := by
 obtain ⟨a, b, c⟩ := h
 unfold Go.Proofs.YtphccfabekdmnaaGreat.inc NN
 split
 ·exact ⟨by simp; omega, b, c⟩
 ·split
  ·exact ⟨a, by simp; omega, c⟩
  ·exact ⟨a, b, by simp; omega⟩
theorem Eqv.refl (C : Key → Int) : Eqv C C := fun _ _ => rfl
theorem Eqv.symm {C D : Key → Int} (h : Eqv C D) : Eqv D C := fun k hk => (h k hk).symm
theorem Eqv.trans {C D E : Key → Int} (h : Eqv C D) (h2 : Eqv D E) : Eqv C E := fun k hk => (h k hk).trans (h2 k hk)
def Dv (n : Nat) : List (List Int) → (Key → Int) → Key → Int
 | [], C => C
 | v :: vs, C => Dv n vs (alo (yat v) C n)
end Go.Proofs.YtphccfabekdmnaaGreat


namespace Go.Proofs.YtphccfabekdmnaaGreat
open Go.Abs
theorem avs_at {xs : List Int} {k : Nat} (h : k < xs.length) : (avs xs)[k]? = some (AV.val (.int .i64 (xs[k]?.getD 0))) := by simp [avs, h]
def cv (a b : List Int) (n : Nat) : Nat → Int
 | 0 => 0
 | m + 1 => cv a b n m + a[m]?.getD 0 * b[n - m]?.getD 0
def es (b o : List Int) (n : Nat) : Nat → Int
 | 0 => 0
 | m + 1 => es b o n m + (m + 1) * (b[m + 1]?.getD 0 * o[n - (m + 1)]?.getD 0 % 10007)
end Go.Proofs.YtphccfabekdmnaaGreat


namespace Go.Proofs.YtphccfabekdmnaaGreat
open Go.Abs
theorem l01Own_c (xs : List Int) (hl : xs.length ≤ 17592186044416) : Con Tryz.prog 185 [.sl xs.length (avs xs)] (.own 2 xs.length (avs xs)) := by
 refine con_of_vc Tryz.mixed ⟨3, [], [], []⟩ Tryz.func185 (by decide) rfl (by simp) (by decide) (by simp [freshOK, freshL, go_sem]) ?_
 rw [Tryz.ntmps185]
 simp [go_sem]
 try omega
theorem l01Same_c (a b : List Int) (ha : a.length ≤ 9223372036854775807) : Con Tryz.prog 149 [.sl a.length (avs a), .sl b.length (avs b)] (.bool (decide (a = b))) := by
 refine con_of_vc Tryz.mixed ⟨6, [], [], []⟩ Tryz.func149 (by decide) rfl (by simp) (by decide) (by simp [freshOK, freshL, go_sem]) ?_
 rw [Tryz.ntmps149]
 simp [go_sem]
 refine ⟨fun h => ?_, fun h => ?_⟩ <;> simp at h <;> simp [go_sem]
 ·rintro rfl; omega
 have hl : a.length = b.length := by omega
 refine loop_inv (4 :: 5 :: List.range' 11 16) (fun i : Nat => [(5, .int i)]) (fun i => i ≤ a.length ∧ a.take i = b.take i) (fun i => a.length - i) 0 (by simp) (by simp [go_sem]) (by simp [go_sem]) ?_
 intro i hi
 simp [go_sem]
 refine ⟨fun h => ?_, fun h => ?_⟩ <;> simp at h
 ·have h2 : i < b.length := by omega
  simp [go_sem, avs_drop h, avs_drop h2]
  refine ⟨by kernel_rfl, ⟨h, by rintro rfl; simp at h⟩, ⟨h2, by rintro rfl; simp at h2⟩, ?_⟩
  refine ⟨by kernel_rfl, ?_⟩
  simp [go_sem]
  refine ⟨fun h3 => ?_, fun h3 => ?_⟩ <;> simp at h3 <;> simp [go_sem]
  ·rintro rfl; exact h3 rfl
  ·refine ⟨by omega, i + 1, ⟨by omega, ?_⟩, by omega, Off_reset _ _ _ (by simp), by omega⟩
   rw [List.take_add_one, List.take_add_one, hi.2]
   rw [List.getElem?_eq_getElem h, List.getElem?_eq_getElem h2] at h3 ⊢
   simp only [Option.getD_some] at h3
   rw [h3]
 ·simp [go_sem]
  have e : i = a.length := by omega
  subst e
  have := hi.2
  rw [List.take_length, hl, List.take_length] at this
  exact this
end Go.Proofs.YtphccfabekdmnaaGreat


namespace Go.Proofs.YtphccfabekdmnaaGreat
class CR (α : Type) extends Add α, Mul α where
 ofI : Int → α
 addC : ∀ a b : α, a + b = b + a
 addA : ∀ a b c : α, a + b + c = a + (b + c)
 add0 : ∀ a : α, a + ofI 0 = a
 mulC : ∀ a b : α, a * b = b * a
 mulA : ∀ a b c : α, a * b * c = a * (b * c)
 mul1 : ∀ a : α, a * ofI 1 = a
 mulD : ∀ a b c : α, a * (b + c) = a * b + a * c
 mul0 : ∀ a : α, a * ofI 0 = ofI 0
 ofAdd : ∀ a b : Int, ofI (a + b) = ofI a + ofI b
 ofMul : ∀ a b : Int, ofI (a * b) = ofI a * ofI b
namespace CR
section
variable {α : Type} [CR α]
instance : Std.Associative (α := α) (· + ·) := ⟨addA⟩
instance : Std.Commutative (α := α) (· + ·) := ⟨addC⟩
instance : Std.Associative (α := α) (· * ·) := ⟨mulA⟩
instance : Std.Commutative (α := α) (· * ·) := ⟨mulC⟩
theorem zadd (a : α) : ofI 0 + a = a := by rw [addC, add0]
theorem zmul (a : α) : ofI 0 * a = ofI 0 := by rw [mulC, mul0]
end
end CR
open CR
instance : CR Int where
 ofI := id
 addC := Int.add_comm
 addA := Int.add_assoc
 add0 := Int.add_zero
 mulC := Int.mul_comm
 mulA := Int.mul_assoc
 mul1 := Int.mul_one
 mulD := Int.mul_add
 mul0 := Int.mul_zero
 ofAdd := fun _ _ => rfl
 ofMul := fun _ _ => rfl
abbrev Ser (α : Type) := Nat → α
def sh {α : Type} (a : Ser α) : Ser α := fun n => a (n + 1)
def cmul {α : Type} [CR α] : Nat → Ser α → Ser α → α
 | 0, a, b => a 0 * b 0
 | n + 1, a, b => a 0 * b (n + 1) + cmul n (sh a) b
section
variable {α : Type} [CR α]
theorem cmul_add (n : Nat) : ∀ (a b c : Ser α), cmul n a (fun i => b i + c i) = cmul n a b + cmul n a c := by
 induction n with
 | zero => intro a b c; exact mulD _ _ _
 | succ n ih => intro a b c; simp only [cmul, ih, mulD]; ac_rfl
theorem cmul_last (n : Nat) : ∀ (a b : Ser α), cmul (n + 1) a b = cmul n a (sh b) + a (n + 1) * b 0 := by
 induction n with
 | zero => intro a b; rfl
 | succ n ih =>
  intro a b
  rw [cmul, ih, cmul]
  show a 0 * b (n + 1 + 1) + (cmul n (sh a) (sh b) + a (n + 1 + 1) * b 0) = a 0 * b (n + 1 + 1) + cmul n (sh a) (sh b) + a (n + 1 + 1) * b 0
  ac_rfl
theorem cmul_comm (n : Nat) : ∀ (a b : Ser α), cmul n a b = cmul n b a := by
 induction n with
 | zero => intro a b; exact mulC _ _
 | succ n ih => intro a b; rw [cmul, cmul_last, ih, mulC, addC]
theorem cmul_smul (c : α) (n : Nat) : ∀ (a b : Ser α), cmul n (fun i => c * a i) b = c * cmul n a b := by
 induction n with
 | zero => intro a b; exact mulA _ _ _
 | succ n ih =>
  intro a b
  have := ih (sh a) b
  simp only [cmul, mulD]
  rw [← this, mulA]; rfl
theorem cmul_addl (n : Nat) (a b c : Ser α) : cmul n (fun i => a i + b i) c = cmul n a c + cmul n b c := by
 rw [cmul_comm n (fun i => a i + b i) c, cmul_add, cmul_comm n c a, cmul_comm n c b]
theorem cmul_assoc (n : Nat) : ∀ (a b c : Ser α), cmul n (fun i => cmul i a b) c = cmul n a (fun i => cmul i b c) := by
 induction n with
 | zero => intro a b c; exact mulA _ _ _
 | succ n ih =>
  intro a b c
  have e : sh (fun i => cmul i a b) = fun i => a 0 * sh b i + cmul i (sh a) b := rfl
  simp only [cmul]
  rw [e, cmul_addl, cmul_smul, ih, mulD]
  show a 0 * b 0 * c (n + 1) + _ = _
  rw [mulA]; ac_rfl
def sOf (k : Int) : Ser α := fun n => if n = 0 then ofI k else ofI 0
theorem cmul_of (k : Int) : ∀ (n : Nat) (a : Ser α), cmul n a (sOf k) = a n * ofI k := by
 intro n
 induction n with
 | zero => intro a; rfl
 | succ n ih =>
  intro a
  rw [cmul, ih]
  show a 0 * ofI 0 + a (n + 1) * ofI k = _
  rw [mul0, zadd]
instance : CR (Ser α) where
 add := fun a b n => a n + b n
 mul := fun a b n => cmul n a b
 ofI := sOf
 addC := fun a b => funext fun n => addC _ _
 addA := fun a b c => funext fun n => addA _ _ _
 add0 := fun a => funext fun n => by show a n + (if n = 0 then ofI 0 else ofI 0) = a n; rw [ite_self, add0]
 mulC := fun a b => funext fun n => cmul_comm n a b
 mulA := fun a b c => funext fun n => cmul_assoc n a b c
 mul1 := fun a => funext fun n => by show cmul n a (sOf 1) = a n; rw [cmul_of, mul1]
 mulD := fun a b c => funext fun n => cmul_add n a b c
 mul0 := fun a => funext fun n => by show cmul n a (sOf 0) = if n = 0 then ofI 0 else ofI 0; rw [cmul_of, mul0, ite_self]
 ofAdd := fun a b => funext fun n => by
  show (if n = 0 then (ofI (a + b) : α) else ofI 0) = (if n = 0 then ofI a else ofI 0) + (if n = 0 then ofI b else ofI 0)
  split
  ·exact ofAdd _ _
  ·rw [add0]
 ofMul := fun a b => funext fun n => by
  show (if n = 0 then (ofI (a * b) : α) else ofI 0) = cmul n (sOf a) (sOf b)
  rw [cmul_of]
  show (if n = 0 then (ofI (a * b) : α) else ofI 0) = (if n = 0 then ofI a else ofI 0) * ofI b
  split
  ·exact ofMul _ _
  ·rw [zmul]
theorem ser_add (a b : Ser α) (n : Nat) : (a + b) n = a n + b n := rfl
def pwr (a : α) : Nat → α
 | 0 => ofI 1
 | n + 1 => pwr a n * a
def sL {β : Type} (f : β → α) : List β → α
 | [] => ofI 0
 | b :: l => f b + sL f l
def mon (U : Nat → α) (e : Nat → Nat) : Nat → α
 | 0 => ofI 1
 | d + 1 => mon U e d * pwr (U d) (e d)
abbrev Trm := Int × (Nat → Nat)
def ev (d : Nat) (U : Nat → α) (L : List Trm) : α := sL (fun m => ofI m.1 * mon U m.2 d) L
end
structure Cg (α : Type) [CR α] where
 r : α → α → Prop
 refl : ∀ a, r a a
 symm : ∀ {a b}, r a b → r b a
 trans : ∀ {a b c}, r a b → r b c → r a c
 add : ∀ {a b c d}, r a b → r c d → r (a + c) (b + d)
 mul : ∀ {a b c d}, r a b → r c d → r (a * c) (b * d)
 of : ∀ {a b : Int}, a % 10007 = b % 10007 → r (ofI a) (ofI b)
def cgI : Cg Int where
 r := fun a b => a % 10007 = b % 10007
 refl := fun _ => rfl
 symm := fun h => h.symm
 trans := fun h k => h.trans k
 add := fun h k => by omega
 mul := fun {a b c d} h k => by rw [Int.mul_emod, h, k, ← Int.mul_emod]
 of := fun h => h
section
variable {α : Type} [CR α]
theorem cmul_cg (c : Cg α) {N : Nat} : ∀ {n : Nat} {a b a' b' : Ser α}, n < N → (∀ i, i < N → c.r (a i) (a' i)) → (∀ i, i < N → c.r (b i) (b' i)) → c.r (cmul n a b) (cmul n a' b')
 | n, a, b, a', b', hn, ha, hb => by
  have gen : ∀ (n : Nat) (a b a' b' : Ser α), (∀ i, i ≤ n → c.r (a i) (a' i)) → (∀ i, i ≤ n → c.r (b i) (b' i)) → c.r (cmul n a b) (cmul n a' b') := by
   intro n
   induction n with
   | zero => intro a b a' b' ha hb; exact c.mul (ha 0 (by omega)) (hb 0 (by omega))
   | succ n ih =>
    intro a b a' b' ha hb
    exact c.add (c.mul (ha 0 (by omega)) (hb (n + 1) (by omega))) (ih _ _ _ _ (fun i hi => ha (i + 1) (by omega)) (fun i hi => hb i (by omega)))
  exact gen n a b a' b' (fun i hi => ha i (by omega)) (fun i hi => hb i (by omega))
def cgS (c : Cg α) (N : Nat) : Cg (Ser α) where
 r := fun a b => ∀ n, n < N → c.r (a n) (b n)
 refl := fun a n _ => c.refl _
 symm := fun h n hn => c.symm (h n hn)
 trans := fun h k n hn => c.trans (h n hn) (k n hn)
 add := fun h k n hn => c.add (h n hn) (k n hn)
 mul := fun h k n hn => cmul_cg c hn h k
 of := fun {a b} h n hn => by
  show c.r (if n = 0 then ofI a else ofI 0) (if n = 0 then ofI b else ofI 0)
  split
  ·exact c.of h
  ·exact c.refl _
theorem Cg.sL (c : Cg α) {β : Type} {f g : β → α} : ∀ {l : List β}, (∀ b ∈ l, c.r (f b) (g b)) → c.r (sL f l) (sL g l)
 | [], _ => c.refl _
 | b :: l, h => c.add (h b (by simp)) (Cg.sL c (fun x hx => h x (by simp [hx])))
theorem Cg.pwr (c : Cg α) {a b : α} (h : c.r a b) : ∀ n, c.r (pwr a n) (pwr b n)
 | 0 => c.refl _
 | n + 1 => c.mul (Cg.pwr c h n) h
theorem Cg.mon (c : Cg α) {U V : Nat → α} (e : Nat → Nat) : ∀ {d : Nat}, (∀ k, k < d → c.r (U k) (V k)) → c.r (mon U e d) (mon V e d)
 | 0, _ => c.refl _
 | d + 1, h => c.mul (Cg.mon c e (fun k hk => h k (by omega))) (Cg.pwr c (h d (by omega)) _)
theorem Cg.ev (c : Cg α) {d : Nat} {U V : Nat → α} (h : ∀ k, k < d → c.r (U k) (V k)) (L : List Trm) : c.r (ev d U L) (ev d V L) :=
 c.sL (fun m _ => c.mul (c.refl _) (c.mon m.2 h))
end
end Go.Proofs.YtphccfabekdmnaaGreat


namespace Go.Proofs.YtphccfabekdmnaaGreat
open CR
def ex (e : List Int) : Nat → Nat := fun k => (e[k]?.getD 0).toNat
structure WOk (n : Nat) (B : Int) (m : Mon) : Prop where
 num : isN m.1
 len : m.2.length = n
 pw : ∀ x ∈ m.2, 0 ≤ x ∧ x ≤ B
theorem WOk.le {n : Nat} {B C : Int} {m : Mon} (h : WOk n B m) (hBC : B ≤ C) : WOk n C m := ⟨h.num, h.len, fun x hx => ⟨(h.pw x hx).1, Int.le_trans (h.pw x hx).2 hBC⟩⟩
theorem WOk.get {n : Nat} {B : Int} {m : Mon} (h : WOk n B m) (hB : 0 ≤ B) (k : Nat) : 0 ≤ m.2[k]?.getD 0 ∧ m.2[k]?.getD 0 ≤ B := by
 rcases Nat.lt_or_ge k m.2.length with hk | hk
 ·simp [hk]; exact h.pw _ (List.getElem_mem hk)
 ·simp [hk]; exact hB
section
variable {α : Type} [CR α]
def LOk (n : Nat) (L : List Mon) : Prop := ∀ m ∈ L, m.2.length = n ∧ ∀ x ∈ m.2, 0 ≤ x
theorem LOk.tl {n : Nat} {m : Mon} {L : List Mon} (h : LOk n (m :: L)) : LOk n L := fun a ha => h a (by simp [ha])
theorem LOk.hd {n : Nat} {m : Mon} {L : List Mon} (h : LOk n (m :: L)) : m.2.length = n ∧ ∀ x ∈ m.2, 0 ≤ x := h m (by simp)
end
end Go.Proofs.YtphccfabekdmnaaGreat


namespace Go.Proofs.YtphccfabekdmnaaGreat
open Go.Abs
theorem WOk.low {n i : Nat} {B : Int} {m : Mon} (h : WOk n B m) (hi : i < n) (hp : 0 < m.2[i]?.getD 0) : WOk n B (m.1 * m.2[i]?.getD 0 % 10007, m.2.set i (m.2[i]?.getD 0 - 1)) := by
 have hl := h.len
 refine ⟨isN_mod _, by simpa using hl, fun x hx => ?_⟩
 rcases List.mem_or_eq_of_mem_set hx with hx | rfl
 ·exact h.pw x hx
 ·have hm : m.2[i]?.getD 0 ∈ m.2 := by
   rw [List.getElem?_eq_getElem (by omega), Option.getD_some]; exact List.getElem_mem _
  have := h.pw _ hm
  omega
end Go.Proofs.YtphccfabekdmnaaGreat


namespace Go.Proofs.YtphccfabekdmnaaGreat
open Go.Abs
theorem omat_app (A C : List (List Int)) : omat (A ++ C) = omat A ++ omat C := by simp [omat]
theorem omat_one (r : List Int) : omat [r] = [.own 2 r.length (avs r)] := rfl
theorem omat_nil : omat [] = [] := rfl
end Go.Proofs.YtphccfabekdmnaaGreat


namespace Go.Proofs.YtphccfabekdmnaaGreat
open Go.Abs
end Go.Proofs.YtphccfabekdmnaaGreat


namespace Go.Proofs.YtphccfabekdmnaaGreat
open Go.Abs
theorem Clone_c (xs : List Int) (hl : xs.length ≤ 1048576) : Con Tryz.prog 275 [.sl xs.length (avs xs)] (.own 2 xs.length (avs xs)) := by
 refine con_of_vcN Tryz.mixed ⟨3, [], [], []⟩ Tryz.func275 (by decide) rfl (by simp) (by decide) (by simp [freshOK, freshL, go_sem]) ?_
 rw [Tryz.ntmps275]
 simp [go_sem]
 exact ⟨by omega, by omega⟩
end Go.Proofs.YtphccfabekdmnaaGreat


namespace Go.Proofs.YtphccfabekdmnaaGreat
open Go.Abs
end Go.Proofs.YtphccfabekdmnaaGreat


namespace Go.Proofs.YtphccfabekdmnaaGreat
open Go.Abs
theorem memD {α : Type} {l : List α} {i : Nat} (d : α) (h : i < l.length) : l[i]?.getD d ∈ l := by simp [h]
end Go.Proofs.YtphccfabekdmnaaGreat


namespace Go.Proofs.YtphccfabekdmnaaGreat
open Go.Abs
end Go.Proofs.YtphccfabekdmnaaGreat


namespace Go.Proofs.YtphccfabekdmnaaGreat
open Go.Abs
end Go.Proofs.YtphccfabekdmnaaGreat


namespace Go.Proofs.YtphccfabekdmnaaGreat
open Go.Abs Go.Shelf Go.Sort
theorem ltL_tot : ∀ {a b : List Int}, a ≠ b → ltL a b = false → ltL b a = true
 | [], [], h, _ => absurd rfl h
 | [], y :: b, _, h => by simp [ltL] at h
 | x :: a, [], _, _ => by simp [ltL]
 | x :: a, y :: b, h, h2 => by
  simp only [ltL] at h2 ⊢
  by_cases e : x = y
  ·subst e
   simp only [if_true] at h2 ⊢
   exact ltL_tot (fun e => h (by rw [e])) h2
  ·rw [if_neg e] at h2
   rw [if_neg (fun x => e x.symm)]
   simp at h2 ⊢
   omega
theorem cmpL_neg (a b : List Int) : decide (cmpL a b < 0) = ltL a b := by
 have h := cmpL_lt a b
 cases hl : ltL a b <;> rw [hl] at h <;> simp at h ⊢ <;> omega
end Go.Proofs.YtphccfabekdmnaaGreat


namespace Go.Proofs.YtphccfabekdmnaaGreat
open Go.Abs
def sum3 (k : Key) : Int := k.1 + k.2.1 + k.2.2
def DegLe (C : Key → Int) (D : Int) : Prop := ∀ k, NN k → D < sum3 k → C k = 0
theorem sum3_inc (i : Nat) (k : Key) : sum3 (inc i k) = sum3 k + 1 := by
 obtain ⟨a, b, c⟩ := k
 unfold inc sum3
 split
 ·simp; omega
 ·split <;> (simp; omega)
theorem DegLe.der {C : Key → Int} {D : Int} (h : DegLe C D) (i : Nat) : DegLe (der i C) (D - 1) := by
 intro k hk hd
 unfold Go.Proofs.YtphccfabekdmnaaGreat.der
 rw [h (inc i k) (hk.inc i) (by rw [sum3_inc]; omega), Int.mul_zero]
theorem DegLe.alo {C : Key → Int} {D : Int} (h : DegLe C D) (v : Nat → Int) : ∀ n, DegLe (alo v C n) (D - 1)
 | 0 => fun _ _ _ => rfl
 | n + 1 => fun k hk hd => by
  show Go.Proofs.YtphccfabekdmnaaGreat.alo v C n k + v n * Go.Proofs.YtphccfabekdmnaaGreat.der n C k = 0
  rw [DegLe.alo h v n k hk hd, h.der n k hk hd]; simp
theorem DegLe.dv {n : Nat} : ∀ (vs : List (List Int)) {C : Key → Int} {D : Int}, DegLe C D → DegLe (Dv n vs C) (D - vs.length)
 | [], C, D, h => by simpa [Dv] using h
 | v :: vs, C, D, h => by
  have := DegLe.dv (n := n) vs (h.alo (yat v) n)
  rw [Dv]
  intro k hk hd
  exact this k hk (by simp at hd; omega)
@[simp] theorem mat_frz (A : List (List Int)) : frzL (mat A) = mat A := by
 induction A with
 | nil => rfl
 | cons r A ih => simp only [mat, List.map_cons, frzL] at ih ⊢; rw [ih]; rfl
end Go.Proofs.YtphccfabekdmnaaGreat


namespace Go.Proofs.YtphccfabekdmnaaGreat
open Go.Abs
end Go.Proofs.YtphccfabekdmnaaGreat


namespace Go.Proofs.YtphccfabekdmnaaGreat
def okB (t : List Int) (j : Nat) : Bool := decide (1 ≤ t[j]?.getD 0) && decide (t[j]?.getD 0 ≤ t[j - 1]?.getD 0 + 1)
def lv0 (t : List Int) : Bool := decide (0 < t.length) && decide (t[0]?.getD 0 = 0) && (List.range t.length).all (fun j => decide (j = 0) || okB t j)
def lvB (t : List Int) : Bool := lv0 t && decide (t.length ≤ 8)
def brStep (out : List (List Int)) (x : Int) : List (List Int) :=
 let o := if x = 1 then out ++ [[]] else out
 o.set (o.length - 1) (o[o.length - 1]?.getD [] ++ [x - 1])
def brGo (out : List (List Int)) : List Int → List (List Int)
 | [] => out
 | x :: l => brGo (brStep out x) l
def brs (t : List Int) : List (List Int) := brGo [] (t.drop 1)
theorem brGo_app (out : List (List Int)) (l r : List Int) : brGo out (l ++ r) = brGo (brGo out l) r := by
 induction l generalizing out with
 | nil => rfl
 | cons x l ih => exact ih _
theorem brs_take {t : List Int} {i : Nat} (h1 : 1 ≤ i) (h : i < t.length) : brs (t.take (i + 1)) = brStep (brs (t.take i)) (t[i]?.getD 0) := by
 unfold brs
 have e : (t.take (i + 1)).drop 1 = (t.take i).drop 1 ++ [t[i]?.getD 0] := by
  rw [List.take_add_one, List.getElem?_eq_getElem h, Option.toList_some, List.drop_append_of_le_length (by simp; omega)]; rfl
 rw [e, brGo_app]; rfl
def Lv (t : List Int) : Prop := 0 < t.length ∧ t[0]?.getD 0 = 0 ∧ ∀ j, 0 < j → j < t.length → 1 ≤ t[j]?.getD 0 ∧ t[j]?.getD 0 ≤ t[j - 1]?.getD 0 + 1
theorem Lv.le {t : List Int} (h : Lv t) : ∀ j, j < t.length → 0 ≤ t[j]?.getD 0 ∧ t[j]?.getD 0 ≤ j
 | 0, _ => by rw [h.2.1]; omega
 | j + 1, hj => by
  have h1 := h.le j (by omega)
  have h2 := h.2.2 (j + 1) (by omega) hj
  rw [Nat.add_sub_cancel] at h2
  omega
theorem Lv.snoc {t : List Int} {x : Int} (h : Lv t) (h1 : 1 ≤ x) (h2 : x ≤ t[t.length - 1]?.getD 0 + 1) : Lv (t ++ [x]) := by
 obtain ⟨k1, k2, k3⟩ := h
 refine ⟨by simp, by rw [List.getElem?_append_left k1]; exact k2, fun j hj hl => ?_⟩
 simp at hl
 by_cases e : j = t.length
 ·subst e
  rw [List.getElem?_append_right (by omega), List.getElem?_append_left (by omega)]
  simp; exact ⟨h1, h2⟩
 ·rw [List.getElem?_append_left (by omega), List.getElem?_append_left (by omega)]
  exact k3 j hj (by omega)
theorem Lv_zero : Lv [0] := ⟨by simp, rfl, fun j h1 h2 => by simp at h2; omega⟩
def sumN : List (List Int) → Nat
 | [] => 0
 | b :: l => b.length + sumN l
theorem sumN_app (a b : List (List Int)) : sumN (a ++ b) = sumN a + sumN b := by
 induction a with
 | nil => simp [sumN]
 | cons x a ih => simp [sumN, ih]; omega
theorem sumN_mem {l : List (List Int)} {b : List Int} (h : b ∈ l) : b.length ≤ sumN l := by
 induction l with
 | nil => simp at h
 | cons x l ih =>
  rw [sumN]
  rcases List.mem_cons.1 h with rfl | h
  ·omega
  ·have := ih h; omega
theorem len_sumN {l : List (List Int)} (h : ∀ b ∈ l, 0 < b.length) : l.length ≤ sumN l := by
 induction l with
 | nil => simp
 | cons x l ih =>
  have h1 := h x (by simp)
  have h2 := ih (fun b hb => h b (by simp [hb]))
  rw [sumN]; simp; omega
def BrI (out : List (List Int)) (p : Int) (n : Nat) : Prop :=
 (∀ b ∈ out, Lv b) ∧ sumN out = n ∧ ((out = [] ∧ p = 0) ∨ ∃ i l, out = i ++ [l] ∧ l[l.length - 1]?.getD 0 = p - 1)
theorem brStep_i {out : List (List Int)} {p x : Int} {n : Nat} (h : BrI out p n) (h1 : 1 ≤ x) (h2 : x ≤ p + 1) : BrI (brStep out x) x (n + 1) ∧ (x ≠ 1 → out ≠ []) := by
 obtain ⟨k1, k2, k3⟩ := h
 by_cases hx : x = 1
 ·subst hx
  have e : brStep out 1 = out ++ [[0]] := by
   unfold brStep
   simp only [if_true]
   rw [List.set_append_right _ _ (by simp), List.getElem?_append_right (by simp)]
   simp
  rw [e]
  refine ⟨⟨fun b hb => ?_, by rw [sumN_app, k2]; rfl, .inr ⟨out, [0], rfl, rfl⟩⟩, by simp⟩
  rcases List.mem_append.1 hb with hb | hb
  ·exact k1 b hb
  ·simp at hb; subst hb; exact Lv_zero
 ·rcases k3 with ⟨rfl, rfl⟩ | ⟨i, l, rfl, hl⟩
  ·omega
  ·have e : brStep (i ++ [l]) x = i ++ [l ++ [x - 1]] := by
    unfold brStep
    simp only [if_neg hx]
    rw [List.set_append_right _ _ (by simp), List.getElem?_append_right (by simp)]
    simp
   rw [e]
   have hLl := k1 l (by simp)
   refine ⟨⟨fun b hb => ?_, ?_, .inr ⟨i, _, rfl, by simp⟩⟩, by simp⟩
   ·rcases List.mem_append.1 hb with hb | hb
    ·exact k1 b (by simp [hb])
    ·simp at hb; subst hb
     exact hLl.snoc (by omega) (by rw [hl]; omega)
   ·rw [sumN_app] at k2 ⊢
    simp [sumN] at k2 ⊢; omega
theorem brs_i {t : List Int} (h : Lv t) : ∀ i, 1 ≤ i → i ≤ t.length → BrI (brs (t.take i)) (t[i - 1]?.getD 0) (i - 1)
 | 1, _, _ => by
  have e : brs (t.take 1) = [] := by
   unfold brs
   cases t with
   | nil => rfl
   | cons a t => rfl
  rw [e]
  refine ⟨by simp, rfl, .inl ⟨rfl, ?_⟩⟩
  simpa using h.2.1
 | i + 2, _, hl => by
  have ih := brs_i h (i + 1) (by omega) (by omega)
  have hb := h.2.2 (i + 1) (by omega) (by omega)
  rw [brs_take (by omega) (by omega)]
  exact (brStep_i ih hb.1 hb.2).1
theorem brs_ne {t : List Int} (h : Lv t) {i : Nat} (h1 : 1 ≤ i) (hl : i < t.length) (hx : t[i]?.getD 0 ≠ 1) : brs (t.take i) ≠ [] := by
 have ih := brs_i h i h1 (by omega)
 have hb := h.2.2 i (by omega) hl
 exact (brStep_i ih hb.1 hb.2).2 hx
theorem brs_ok {t : List Int} (h : Lv t) {b : List Int} (hb : b ∈ brs t) : Lv b ∧ b.length < t.length := by
 have hl := h.1
 have := brs_i h t.length (by omega) (by omega)
 rw [List.take_length] at this
 obtain ⟨k1, k2, _⟩ := this
 have := sumN_mem hb
 exact ⟨k1 b hb, by omega⟩
theorem brs_many {t : List Int} (h : Lv t) {i : Nat} (h1 : 1 ≤ i) (hl : i ≤ t.length) : (brs (t.take i)).length < i := by
 obtain ⟨k1, k2, _⟩ := brs_i h i h1 hl
 have := len_sumN (fun b hb => (k1 b hb).1)
 omega
end Go.Proofs.YtphccfabekdmnaaGreat


namespace Go.Proofs.YtphccfabekdmnaaGreat
open Go.Abs
end Go.Proofs.YtphccfabekdmnaaGreat


namespace Go.Proofs.YtphccfabekdmnaaGreat
open Go.Abs
theorem omat_set (A : List (List Int)) (k : Nat) (l : List Int) : (omat A).set k (.own 2 l.length (avs l)) = omat (A.set k l) := by
 simp [omat, List.map_set]
theorem omat_last {A : List (List Int)} (h : A ≠ []) : (omat A)[A.length - 1]? = some (.own 2 (A[A.length - 1]?.getD []).length (avs (A[A.length - 1]?.getD []))) := by
 have hl : A.length - 1 < A.length := by have := List.length_pos_iff.2 h; omega
 simp [omat, hl]
theorem brStep_one (A : List (List Int)) : brStep A 1 = A ++ [[0]] := by
 unfold brStep
 simp only [if_true]
 rw [List.set_append_right _ _ (by simp), List.getElem?_append_right (by simp)]
 simp
theorem brStep_more {A : List (List Int)} {x : Int} (h : x ≠ 1) : brStep A x = A.set (A.length - 1) (A[A.length - 1]?.getD [] ++ [x - 1]) := by
 unfold brStep; simp only [if_neg h]
theorem l03Parts_c (t : List Int) (hl : t.length ≤ 1048576) (ht : Lv t) : Con Tryz.prog 301 [.sl t.length (avs t)] (.own 25 (brs t).length (omat (brs t))) := by
 refine con_of_vc Tryz.mixed ⟨6, [], [], [1000812990015]⟩ Tryz.func301 (by decide) rfl (by simp) (by decide) (by simp [freshOK, freshL, go_sem]) ?_
 rw [Tryz.ntmps301]
 simp [go_sem]
 refine loop_inv (List.range' 3 36) (fun i : Nat => [(3, .own 25 (brs (t.take i)).length (omat (brs (t.take i)))), (4, .int i)]) (fun i => 1 ≤ i ∧ i ≤ t.length) (fun i => t.length - i) 1 (by have := ht.1; omega) (by simp [go_sem]; cases t <;> simp [brs, brGo, omat_nil]) (by simp [go_sem]) ?_
 rintro i ⟨h1, hi⟩
 simp [go_sem]
 refine ⟨fun h => ?_, fun h => ?_⟩ <;> simp at h
 ·have hif := h
  have hb := brs_take h1 hif
  have hm := brs_many ht h1 hi
  have hi2 := brs_i ht i h1 hi
  have hok := ht.2.2 i h1 hif
  have hle := ht.le i (by omega)
  by_cases hx : t[i]?.getD 0 = 1
  ·rw [hx, brStep_one] at hb
   simp [go_sem, avs_drop hif, hx]
   have e1 : (brs (t.take i)).length + 1 = (brs (t.take (i + 1))).length := by rw [hb]; simp
   have e2 : omat (brs (t.take i)) ++ [AV.own 2 1 [AV.val (Value.int IntKind.i64 0)]] = omat (brs (t.take (i + 1))) := by rw [hb, omat_app, omat_one]; rfl
   repeat' apply And.intro
   all_goals first
    | omega
    | exact ⟨i + 1, ⟨by omega, by omega⟩, by omega, Off_reset _ _ _ (by simp), ⟨e1, e2⟩, by omega⟩
    | (intro e; rw [e] at hif; simp at hif; done)
    | kernel_rfl
  ·have hne := brs_ne ht h1 hif hx
   have hla := omat_last hne
   rw [brStep_more hx] at hb
   generalize brs (t.take i) = O at *
   have hOl : 1 ≤ O.length := List.length_pos_iff.2 hne
   have hlen : (O[O.length - 1]?.getD []).length ≤ 1048576 := by
    have := sumN_mem (l := O) (b := O[O.length - 1]?.getD []) (by simp [show O.length - 1 < O.length by omega])
    have := hi2.2.1
    omega
   have hsn := omat_set O (O.length - 1) (O[O.length - 1]?.getD [] ++ [t[i]?.getD 0 - 1])
   rw [← hb] at hsn
   generalize O[O.length - 1]?.getD [] = l at *
   simp [go_sem, avs_drop hif, hx, hla]
   have e1 : O.length = (brs (t.take (i + 1))).length := by rw [hb]; simp
   rw [avs_snoc, List.length_append, List.length_singleton] at hsn
   repeat' apply And.intro
   all_goals first
    | omega
    | exact ⟨i + 1, ⟨by omega, by omega⟩, by omega, Off_reset _ _ _ (by simp), ⟨e1, hsn⟩, by omega⟩
    | (intro e; rw [e] at hif; simp at hif; done)
    | kernel_rfl
 ·simp [go_sem]
  rw [List.take_of_length_le h]
  simp
theorem branchesOf_c (t : List Int) (hl : t.length ≤ 1048576) (ht : Lv t) : Con Tryz.prog 201 [.sl t.length (avs t)] (.own 25 (brs t).length (omat (brs t))) := by
 have ht1 := ht.1
 have ed : List.take (t.length - 1) (List.drop 1 (avs t)) = avs (t.drop 1) := by
  rw [List.take_of_length_le (by simp)]; simp [avs]
 refine con_of_vc Tryz.mixed ⟨6, [], [], []⟩ Tryz.func201 (by decide) rfl (by simp) (by decide) (by simp [freshOK, freshL, go_sem]) ?_
 rw [Tryz.ntmps201]
 simp [go_sem]
 refine ⟨by omega, ?_⟩
 refine loop_inv (3 :: 5 :: List.range' 10 25) (fun i : Nat => [(3, .own 25 (brs (t.take (i + 1))).length (omat (brs (t.take (i + 1))))), (10, .int i)]) (fun i => i + 1 ≤ t.length) (fun i => t.length - i) 0 (by omega) (by simp [go_sem]; cases t <;> simp [brs, brGo, omat_nil]) (by simp [go_sem]) ?_
 rintro i hi
 simp [go_sem]
 refine ⟨fun h => ?_, fun h => ?_⟩ <;> simp at h
 ·have hif : i + 1 < t.length := by omega
  have hda : List.drop i (List.take (t.length - 1) (avs t).tail) = .val (.int .i64 (t[i + 1]?.getD 0)) :: avs (t.drop (i + 2)) := by
   rw [List.take_of_length_le (by simp), ← List.drop_one, List.drop_drop, Nat.add_comm 1 i, avs_drop hif]; simp
  have hnn : ¬ (avs t).tail = [] := fun e => by have := congrArg List.length e; simp at this; omega
  have hn1 : ¬ t.length - 1 = 0 := by omega
  have hn2 : i < t.length - 1 := by omega
  have hb := brs_take (i := i + 1) (by omega) hif
  have hm := brs_many ht (i := i + 1) (by omega) (by omega)
  have hi2 := brs_i ht (i + 1) (by omega) (by omega)
  have hok := ht.2.2 (i + 1) (by omega) hif
  have hle := ht.le (i + 1) hif
  by_cases hx : t[i + 1]?.getD 0 = 1
  ·rw [hx, brStep_one] at hb
   have e1 : (brs (t.take (i + 1))).length + 1 = (brs (t.take (i + 1 + 1))).length := by rw [hb]; simp
   have e2 : omat (brs (t.take (i + 1))) ++ [AV.own 2 1 [AV.val (Value.int IntKind.i64 0)]] = omat (brs (t.take (i + 1 + 1))) := by rw [hb, omat_app, omat_one]; rfl
   simp [go_sem, hda, hnn, hn1, hn2, hx]
   exact ⟨⟨by omega, by omega⟩, by omega, by omega, by omega, i + 1, by omega, by omega, Off_reset _ _ _ (by simp), ⟨e1, e2⟩, by omega⟩
  ·have hne := brs_ne ht (i := i + 1) (by omega) hif hx
   have hla := omat_last hne
   rw [brStep_more hx] at hb
   generalize hO : brs (t.take (i + 1)) = O at *
   have hOl : 1 ≤ O.length := List.length_pos_iff.2 hne
   have hlen : (O[O.length - 1]?.getD []).length ≤ 1048576 := by
    have := sumN_mem (l := O) (b := O[O.length - 1]?.getD []) (by simp [show O.length - 1 < O.length by omega])
    have := hi2.2.1
    omega
   have hsn := omat_set O (O.length - 1) (O[O.length - 1]?.getD [] ++ [t[i + 1]?.getD 0 - 1])
   rw [← hb] at hsn
   generalize O[O.length - 1]?.getD [] = l at *
   have e1 : O.length = (brs (t.take (i + 1 + 1))).length := by rw [hb]; simp
   rw [avs_snoc, List.length_append, List.length_singleton] at hsn
   simp [go_sem, hda, hnn, hn1, hn2, hx, hla]
   repeat' apply And.intro
   all_goals first
    | omega
    | exact ⟨i + 1, by omega, by omega, Off_reset _ _ _ (by simp), ⟨e1, hsn⟩, by omega⟩
 ·simp [go_sem]
  have e : t.take (i + 1) = t := List.take_of_length_le (by omega)
  rw [e]
  simp
end Go.Proofs.YtphccfabekdmnaaGreat


namespace Go.Proofs.YtphccfabekdmnaaGreat
open Go.Abs
theorem brs_cnt {t : List Int} (h : Lv t) : (brs t).length < t.length := by
 have h1 := h.1
 have := brs_many h (i := t.length) (by omega) (by omega)
 rwa [List.take_length] at this
theorem omat_take (A : List (List Int)) (i : Nat) (h : i < A.length) : omat (A.take (i + 1)) = omat (A.take i) ++ [.own 2 (A[i]?.getD []).length (avs (A[i]?.getD []))] := by
 rw [List.take_add_one, omat_app]; simp [h, omat]
end Go.Proofs.YtphccfabekdmnaaGreat


namespace Go.Proofs.YtphccfabekdmnaaGreat
open Go.Abs
theorem rev_ind {α : Type} {P : List α → Prop} (h0 : P []) (h1 : ∀ l a, P l → P (l ++ [a])) (l : List α) : P l := by
 rw [← List.reverse_reverse l]
 induction l.reverse with
 | nil => exact h0
 | cons a l ih => rw [List.reverse_cons]; exact h1 _ _ ih
def atL (p : List Int) : List (List Int) → Nat
 | [] => 0
 | s :: S => if ltL s p = true then 0 else atL p S + 1
theorem atL_le (p : List Int) : ∀ S, atL p S ≤ S.length
 | [] => by simp [atL]
 | s :: S => by have := atL_le p S; rw [atL]; split <;> simp; omega
def insL (p : List Int) (S : List (List Int)) : List (List Int) := S.take (atL p S) ++ p :: S.drop (atL p S)
@[simp] theorem insL_len (p : List Int) (S : List (List Int)) : (insL p S).length = S.length + 1 := by have := atL_le p S; simp [insL]; omega
theorem insL_mem {p x : List Int} {S : List (List Int)} (h : x ∈ insL p S) : x = p ∨ x ∈ S := by
 rcases List.mem_append.1 h with h | h
 ·exact .inr (List.mem_of_mem_take h)
 ·rcases List.mem_cons.1 h with h | h
  ·exact .inl h
  ·exact .inr (List.mem_of_mem_drop h)
theorem sumL_ins (p : List Int) (S : List (List Int)) : sumL (insL p S) = sumL S + p.length := by
 have h := congrArg sumL (List.take_append_drop (atL p S) S)
 rw [sumL_app] at h
 rw [insL, sumL_app, sumL]
 omega
def rootL (S : List (List Int)) : List Int := 0 :: S.flatMap fun b => b.map (· + 1)
theorem rootL_len (S : List (List Int)) : (rootL S).length = sumL S + 1 := by
 have : ∀ S : List (List Int), (S.flatMap fun b => b.map (· + 1)).length = sumL S := by
  intro S
  induction S with
  | nil => rfl
  | cons b S ih => simp [sumL, ih]
 rw [rootL, List.length_cons, this]
def canF : Nat → List Int → List Int
 | 0, _ => []
 | n + 1, t => rootL ((brs t).foldl (fun S b => insL (canF n b) S) [])
def insA (n : Nat) (bs : List (List Int)) : List (List Int) := bs.foldl (fun S b => insL (canF n b) S) []
theorem insA_snoc (n : Nat) (bs : List (List Int)) (b : List Int) : insA n (bs ++ [b]) = insL (canF n b) (insA n bs) := by simp [insA]
theorem insA_mem {n : Nat} {bs : List (List Int)} : ∀ {x : List Int}, x ∈ insA n bs → ∃ b ∈ bs, x = canF n b := by
 refine rev_ind (P := fun bs => ∀ {x : List Int}, x ∈ insA n bs → ∃ b ∈ bs, x = canF n b) ?_ ?_ bs
 ·intro x hx; simp [insA] at hx
 ·intro l b ih x hx
  rw [insA_snoc] at hx
  rcases insL_mem hx with h | h
  ·exact ⟨b, by simp, h⟩
  ·obtain ⟨c, hc, e⟩ := ih h
   exact ⟨c, by simp [hc], e⟩
theorem insA_len_le (n : Nat) (bs : List (List Int)) (k : Nat) (h : bs.length ≤ k) : (insA n bs).length ≤ k := by
 have : ∀ bs : List (List Int), (insA n bs).length = bs.length := rev_ind rfl (fun l b ih => by rw [insA_snoc, insL_len, ih]; simp)
 rw [this]; exact h
theorem canF_val (n : Nat) : ∀ (t : List Int), ∀ x ∈ canF n t, 0 ≤ x ∧ x ≤ n := by
 induction n with
 | zero => intro t x hx; simp [canF] at hx
 | succ n ih =>
  intro t x hx
  rw [canF] at hx
  rcases List.mem_cons.1 hx with rfl | hx
  ·omega
  ·obtain ⟨b, hb, hx⟩ := List.mem_flatMap.1 hx
   obtain ⟨y, hy, rfl⟩ := List.mem_map.1 hx
   obtain ⟨c, hc, rfl⟩ := insA_mem (n := n) (bs := brs t) hb
   have := ih c y hy
   omega
theorem sumL_set {A : List (List Int)} {k : Nat} (h : k < A.length) (v : List Int) : sumL (A.set k v) + (A[k]?.getD []).length = sumL A + v.length := by
 induction A generalizing k with
 | nil => simp at h
 | cons r A ih =>
  cases k with
  | zero => simp [sumL]; omega
  | succ k => have := ih (k := k) (by simpa using h); simp [sumL] at this ⊢; omega
theorem brStep_sum {out : List (List Int)} {x : Int} (h : out ≠ [] ∨ x = 1) : sumL (brStep out x) = sumL out + 1 := by
 unfold brStep
 simp only
 have ho : (if x = 1 then out ++ [[]] else out) ≠ [] := by
  split
  ·simp
  ·rcases h with h | h
   ·exact h
   ·contradiction
 have hs : sumL (if x = 1 then out ++ [[]] else out) = sumL out := by
  split
  ·rw [sumL_app]; simp [sumL]
  ·rfl
 generalize (if x = 1 then out ++ [[]] else out) = o at *
 have hl : o.length - 1 < o.length := by have := List.length_pos_iff.2 ho; omega
 have := sumL_set hl (o[o.length - 1]?.getD [] ++ [x - 1])
 simp at this
 omega
theorem brs_sum {t : List Int} (h : Lv t) : ∀ i, 1 ≤ i → i ≤ t.length → sumL (brs (t.take i)) + 1 = i ∧ (2 ≤ i → brs (t.take i) ≠ [])
 | 0, h1, _ => by omega
 | 1, _, _ => by
  have : brs (t.take 1) = [] := by
   unfold brs
   rw [List.drop_eq_nil_of_le (by simp; omega)]; rfl
  rw [this]
  exact ⟨rfl, by omega⟩
 | i + 2, h1, h2 => by
  have ih := brs_sum h (i + 1) (by omega) (by omega)
  rw [brs_take (by omega) (by omega)]
  have hne : brs (t.take (i + 1)) ≠ [] ∨ t[i + 1]?.getD 0 = 1 := by
   by_cases e : i = 0
   ·subst e
    have h3 := h.2.2 1 (by omega) (by omega)
    rw [show 1 - 1 = 0 by omega, h.2.1] at h3
    exact .inr (by show t[1]?.getD 0 = 1; omega)
   ·exact .inl (ih.2 (by omega))
  rw [brStep_sum hne]
  refine ⟨by omega, fun _ e => ?_⟩
  have := brStep_sum hne
  rw [e] at this
  simp [sumL] at this
theorem brs_total {t : List Int} (h : Lv t) : sumL (brs t) + 1 = t.length := by
 have := (brs_sum h t.length h.1 (Nat.le_refl _)).1
 rwa [List.take_length] at this
theorem canF_len : ∀ (n : Nat) (t : List Int), Lv t → t.length ≤ n → (canF n t).length = t.length
 | 0, t, h, hl => by have := h.1; omega
 | n + 1, t, h, hl => by
  have gen : ∀ bs : List (List Int), (∀ b ∈ bs, (canF n b).length = b.length) → sumL (insA n bs) = sumL bs := by
   intro bs
   refine rev_ind (P := fun bs => (∀ b ∈ bs, (canF n b).length = b.length) → sumL (insA n bs) = sumL bs) (fun _ => rfl) ?_ bs
   intro l b ih hb
   rw [insA_snoc, sumL_ins, sumL_app, ih (fun c hc => hb c (by simp [hc])), hb b (by simp)]
   simp [sumL]
  have e : (brs t).foldl (fun S b => insL (canF n b) S) [] = insA n (brs t) := rfl
  rw [canF, rootL_len, e, gen (brs t) (fun b hb => by
   have := brs_ok h hb
   exact canF_len n b this.1 (by have := this.2; omega)), brs_total h]
theorem mat_app (A C : List (List Int)) : mat (A ++ C) = mat A ++ mat C := by simp [mat]
theorem mat_dropL (A : List (List Int)) (k : Nat) : (mat A).drop k = mat (A.drop k) := by simp [mat]
theorem mat_takeL (A : List (List Int)) (k : Nat) : (mat A).take k = mat (A.take k) := by simp [mat, List.map_take]
theorem mat_noown : ∀ A : List (List Int), hasOwnL (mat A) = false
 | [] => rfl
 | r :: A => by
  have := mat_noown A
  simp only [mat, List.map_cons] at this ⊢
  rw [hasOwnL, this]; rfl
theorem sumL_ge {A : List (List Int)} {b : List Int} (h : b ∈ A) : b.length ≤ sumL A := by
 induction A with
 | nil => simp at h
 | cons r A ih =>
  rcases List.mem_cons.1 h with rfl | h
  ·simp [sumL]
  ·have := ih h; simp only [sumL]; omega
theorem l03Canon_c : ∀ (n : Nat) (t : List Int), n ≤ 1000 → Lv t → t.length ≤ n → Con Tryz.prog 285 [.sl t.length (avs t)] (.own 2 t.length (avs (canF n t)))
 | 0, t, _, h, hl => by have := h.1; omega
 | n + 1, t, hn, h, hl => by
  have hcl := canF_len (n + 1) t h hl
  have cP := l03Parts_c t (by omega) h
  have bt := brs_total h
  have ih := fun b hb => l03Canon_c n b (by omega) (brs_ok h hb).1 (by have := (brs_ok h hb).2; omega)
  have hce : canF (n + 1) t = rootL (insA n (brs t)) := rfl
  rw [hce]
  have blen := fun b (hb : b ∈ brs t) => canF_len n b (brs_ok h hb).1 (by have := (brs_ok h hb).2; omega)
  have bvalid := fun b (hb : b ∈ brs t) => brs_ok h hb
  have bm := brs_many h h.1 (Nat.le_refl _)
  rw [List.take_length] at bm
  generalize brs t = bs at *
  refine con_of_vc Tryz.mixed ⟨12, [13, 25, 14, 53], [], []⟩ Tryz.func285 (by decide) rfl (by simp) (by decide) (by simp [freshOK, freshL, go_sem]) ?_
  rw [Tryz.ntmps285]
  simp [go_sem]
  refine CallVC.of (cP) (by decide) ?_
  simp [go_sem]
  refine loop_inv (4 :: 5 :: 6 :: 7 :: 8 :: List.range' 15 39) (fun i : Nat => [(4, .sl (insA n (bs.take i)).length (mat (insA n (bs.take i)))), (5, .int i)]) (fun i => i ≤ bs.length) (fun i => bs.length - i) 0 (by simp) (by simp [go_sem, insA, mat]) (by simp [go_sem]) ?_
  intro i hi
  simp [go_sem]
  refine ⟨fun h => ?_, fun h => ?_⟩ <;> simp at h
  ·have hif : i < bs.length := by omega
   have hb := memD [] hif
   have ht : insA n (bs.take (i + 1)) = insL (canF n (bs[i]?.getD [])) (insA n (bs.take i)) := by
    rw [List.take_add_one, List.getElem?_eq_getElem hif, Option.toList_some, insA_snoc]; rfl
   have c1 := ih _ hb
   have l1 := blen _ hb
   have s1 := sumL_ge hb
   have sl : ∀ s ∈ insA n (bs.take i), s.length ≤ 1000 := fun s hs => by
    obtain ⟨b, hb2, rfl⟩ := insA_mem hs
    have hb3 := List.mem_of_mem_take hb2
    have := sumL_ge hb3
    rw [blen b hb3]; omega
   have il : (insA n (bs.take i)).length ≤ i := insA_len_le n _ _ (by simp; omega)
   generalize hN : insA n (bs.take (i + 1)) = S2 at *
   generalize insA n (bs.take i) = S at *
   simp [go_sem, mat_drop hif]
   refine ⟨⟨hif, by rintro rfl; simp at hif⟩, ?_⟩
   refine CallVC.of (c1) (by decide) ?_
   simp [go_sem]
   rw [← l1]
   generalize canF n (bs[i]?.getD []) = p at *
   refine loop_inv (7 :: List.range' 26 15) (fun a : Nat => [(7, .int a)]) (fun a => a ≤ S.length ∧ atL p S = a + atL p (S.drop a)) (fun a => S.length - a) 0 (by simp) (by simp [go_sem]) (by simp [go_sem]) ?_
   rintro a ⟨ha, hat⟩
   by_cases has : a < S.length
   ·have has' : (a : Int) < S.length := by omega
    have hd : S.drop a = S[a]?.getD [] :: S.drop (a + 1) := by rw [List.drop_eq_getElem_cons has]; simp [has]
    rw [hd, atL] at hat
    have hg := mat_drop has
    have hsl := sl _ (memD [] has)
    have cL := l01Less_c (S[a]?.getD []) p (by omega) (by omega)
    by_cases hlt : ltL (S[a]?.getD []) p = true
    ·rw [if_pos hlt] at hat
     rw [hlt] at cL
     have hS2 : S2 = S.take a ++ p :: S.drop a := by rw [ht, insL, hat, Nat.add_zero]
     simp [go_sem, has', hg]
     refine ⟨by rintro rfl; simp at has, ?_⟩
     refine CallVC.of (cL) (by decide) ?_
     simp [go_sem]
     simp [go_sem, mat_dropL, mat_takeL, mat_noown]
     refine ⟨by omega, ⟨by omega, by omega⟩, by omega, ⟨by omega, by omega, by omega⟩, ⟨by omega, by omega, by omega, by omega⟩, ⟨by omega, by omega⟩, i + 1, by omega, by omega, (by repeat (first | exact Off_reset _ _ _ (by simp) | (refine Off.reset (by intro x hx; simp at hx ⊢; omega) (by simp) ?_; simp -failIfUnchanged [go_sem, Off_reset]))), ?_, by omega⟩
     rw [hN, hS2]
     have em : frzL (mat (S.take a) ++ AV.sl p.length (avs p) :: mat ((S.drop a).take (S.length - a))) = mat (S.take a ++ p :: S.drop a) := by rw [show (S.drop a).take (S.length - a) = S.drop a from List.take_of_length_le (by simp), ← mat_frz (S.take a ++ p :: S.drop a), mat_app]; rfl
     exact ⟨by simp; omega, em⟩
    ·rw [if_neg hlt] at hat
     have hlf : ltL (S[a]?.getD []) p = false := by simpa using hlt
     rw [hlf] at cL
     simp [go_sem, has', hg]
     refine ⟨by rintro rfl; simp at has, ?_⟩
     refine CallVC.of (cL) (by decide) ?_
     simp [go_sem]
     exact ⟨by omega, a + 1, ⟨by omega, by omega⟩, by omega, Off_reset _ _ _ (by simp), by omega⟩
   ·have has' : ¬ (a : Int) < S.length := by omega
    have hd : S.drop a = [] := List.drop_eq_nil_of_le (by omega)
    rw [hd, atL] at hat
    have hS2 : S2 = S.take a ++ p :: S.drop a := by rw [ht, insL, hat, Nat.add_zero]
    simp [go_sem, has', mat_dropL, mat_takeL, mat_noown]
    refine ⟨by omega, ⟨by omega, by omega⟩, by omega, ⟨by omega, by omega, by omega⟩, ⟨by omega, by omega, by omega, by omega⟩, ⟨by omega, by omega⟩, i + 1, by omega, by omega, (by repeat (first | exact Off_reset _ _ _ (by simp) | (refine Off.reset (by intro x hx; simp at hx ⊢; omega) (by simp) ?_; simp -failIfUnchanged [go_sem, Off_reset]))), ?_, by omega⟩
    rw [hN, hS2]
    have em : frzL (mat (S.take a) ++ AV.sl p.length (avs p) :: mat ((S.drop a).take (S.length - a))) = mat (S.take a ++ p :: S.drop a) := by rw [show (S.drop a).take (S.length - a) = S.drop a from List.take_of_length_le (by simp), ← mat_frz (S.take a ++ p :: S.drop a), mat_app]; rfl
    exact ⟨by simp; omega, em⟩
  ·have e : i = bs.length := by omega
   subst e
   rw [List.take_length]
   have tot : (rootL (insA n bs)).length = t.length := by rw [← hce, hcl]
   rw [rootL_len] at tot
   have val : ∀ x ∈ rootL (insA n bs), 0 ≤ x ∧ x ≤ (n + 1 : Nat) := fun x hx => by rw [← hce] at hx; exact canF_val (n + 1) t x hx
   have sval : ∀ s ∈ insA n bs, ∀ x ∈ s, 0 ≤ x ∧ x ≤ n := fun s hs x hx => by
    obtain ⟨b, _, rfl⟩ := insA_mem hs
    exact canF_val n b x hx
   clear hce hcl
   have Sl : (insA n bs).length ≤ bs.length := insA_len_le n bs _ (Nat.le_refl _)
   generalize insA n bs = S at *
   simp [go_sem]
   refine loop_inv (9 :: 10 :: 11 :: List.range' 55 26) (fun i : Nat => [(9, .own 2 (sumL (S.take i) + 1) (avs (rootL (S.take i)))), (10, .int i)]) (fun i => i ≤ S.length) (fun i => S.length - i) 0 (by simp) (by simp [go_sem, rootL, sumL, avs]) (by simp [go_sem]) ?_
   intro i hi
   simp [go_sem]
   refine ⟨fun h => ?_, fun h => ?_⟩ <;> simp at h
   ·have hif : i < S.length := by omega
    have hs := memD [] hif
    have sv := sval _ hs
    have st := sumL_take hif
    have sle := sumL_le S (i + 1)
    have rr : rootL (S.take (i + 1)) = rootL (S.take i) ++ (S[i]?.getD []).map (· + 1) := by
     rw [rootL, List.take_add_one, List.getElem?_eq_getElem hif, Option.toList_some, List.flatMap_append, List.flatMap_singleton]; rfl
    generalize hR : S[i]?.getD [] = b at *
    simp [go_sem]
    refine loop_inv (9 :: 11 :: List.range' 61 20) (fun k : Nat => [(9, .own 2 (sumL (S.take i) + 1 + k) (avs (rootL (S.take i) ++ (b.take k).map (· + 1)))), (11, .int k)]) (fun k => k ≤ b.length) (fun k => b.length - k) 0 (by simp) (by simp [go_sem]) (by simp [go_sem]) ?_
    intro k hk
    simp [go_sem, mat_drop hif, hR]
    refine ⟨⟨hif, by rintro rfl; simp at hif⟩, ?_⟩
    refine ⟨fun h => ?_, fun h => ?_⟩ <;> simp at h
    ·have hkb : k < b.length := by omega
     have hv := sv _ (memD 0 hkb)
     simp [go_sem, mat_drop hif, hR, avs_drop hkb]
     have rl := rootL_len (S.take i)
     refine ⟨⟨hif, by rintro rfl; simp at hif⟩, ⟨hkb, by rintro rfl; simp at hkb⟩, ⟨by omega, by omega⟩, ⟨by omega, by omega, by omega⟩, ⟨by omega, by omega⟩, k + 1, by omega, by omega, Off_reset _ _ _ (by simp), ?_, by omega⟩
     rw [List.take_add_one, List.getElem?_eq_getElem hkb]
     refine ⟨by omega, ?_⟩
     rw [avs_app, avs_app, List.append_assoc]
     simp [hkb, avs]
    ·have e : k = b.length := by omega
     subst e
     simp [go_sem]
     refine ⟨by omega, i + 1, by omega, by omega, (Off.reset (by intro x hx; simp at hx ⊢; omega) (by simp) (by simp [go_sem, Off_reset])), ?_, by omega⟩
     rw [rr, show (b.map (· + 1)).take b.length = b.map (· + 1) from List.take_of_length_le (by simp)]; exact ⟨by omega, rfl⟩
   ·have e : i = S.length := by omega
    subst e
    rw [List.take_length]
    simp [go_sem]
    omega
end Go.Proofs.YtphccfabekdmnaaGreat


namespace Go.Proofs.YtphccfabekdmnaaGreat
open Go.Abs Go.Shelf Go.Sort
theorem ltL_asym {a b : List Int} (h : ltL a b = true) : ltL b a = false := by
 cases h2 : ltL b a with
 | false => rfl
 | true => have := ltL_trans h h2; rw [ltL_irr] at this; simp at this
theorem insL_perm (p : List Int) (S : List (List Int)) : (insL p S).Perm (p :: S) := by
 unfold insL
 exact List.perm_middle.trans (by rw [List.take_append_drop])
theorem insL_cons (p s : List Int) (S : List (List Int)) : insL p (s :: S) = if ltL s p = true then p :: s :: S else s :: insL p S := by
 unfold insL
 rw [atL]
 split <;> simp
theorem insL_dsc (p : List Int) : ∀ {S : List (List Int)}, S.Pairwise (fun a b => ltL a b = false) → (insL p S).Pairwise (fun a b => ltL a b = false)
 | [], _ => by simp [insL, atL]
 | s :: S, h => by
  obtain ⟨h1, h2⟩ := List.pairwise_cons.1 h
  rw [insL_cons]
  split
  ·rename_i hs
   refine List.pairwise_cons.2 ⟨fun y hy => ?_, h⟩
   rcases List.mem_cons.1 hy with rfl | hy
   ·exact ltL_asym hs
   ·cases hp : ltL p y with
    | false => rfl
    | true => have := h1 y hy; rw [ltL_trans hs hp] at this; exact this
  ·rename_i hs
   refine List.pairwise_cons.2 ⟨fun y hy => ?_, insL_dsc p h2⟩
   rcases insL_mem hy with rfl | hy
   ·simpa using hs
   ·exact h1 y hy
theorem insA_dsc (n : Nat) (bs : List (List Int)) : (insA n bs).Pairwise (fun a b => ltL a b = false) :=
 rev_ind (P := fun bs => (insA n bs).Pairwise (fun a b => ltL a b = false)) List.Pairwise.nil (fun l a h => by rw [insA_snoc]; exact insL_dsc _ h) bs
theorem insA_perm (n : Nat) (bs : List (List Int)) : (insA n bs).Perm (bs.map (canF n)) :=
 rev_ind (P := fun bs => (insA n bs).Perm (bs.map (canF n))) (List.Perm.refl _) (fun l a h => by
  rw [insA_snoc, List.map_append]
  refine (insL_perm _ _).trans ((h.cons _).trans ?_)
  exact (List.perm_append_comm (l₁ := [canF n a]) (l₂ := l.map (canF n)))) bs
theorem dsc_unique {X L : List (List Int)} (hp : X.Perm L) (hX : X.Pairwise (fun a b => ltL a b = false)) (hL : L.Pairwise (fun a b => ltL a b = false)) : X = L :=
 hp.eq_of_pairwise (fun a b _ _ h1 h2 => by
  by_cases e : a = b
  ·exact e
  ·have := ltL_tot e h1; rw [h2] at this; simp at this) hX hL
theorem canonical1_c [DrawK] (a b : List Int) (ha : a.length ≤ 1000000) (hb : b.length ≤ 1000000) : Con Tryz.prog 225 [.sl a.length (avs a), .sl b.length (avs b)] (.int (cmpL b a)) := by
 refine con_of_vc Tryz.mixed ⟨5, [], [], []⟩ Tryz.func225 (by decide) rfl (by simp) (by decide) (by simp [freshOK, freshL, go_sem]) ?_
 rw [Tryz.ntmps225]
 simp [go_sem]
 refine CallVC.of (Compare_c b a (by omega) (by omega)) (by decide) ?_
 simp [go_sem]
theorem swo_dsc : SWO (Go.Proofs.ltOf fun a b : List Int => cmpL b a) := by
 have e : (Go.Proofs.ltOf fun a b : List Int => cmpL b a) = fun a b => ltL b a := by
  funext a b; exact cmpL_neg _ _
 rw [e]
 refine ⟨fun m => ltL_irr _, fun x y z h1 h2 => ltL_trans h2 h1, fun x y z h1 h2 => ?_⟩
 cases h3 : ltL z x with
 | false => rfl
 | true =>
  by_cases e : x = y
  ·rw [e] at h3; rw [h3] at h2; exact h2
  ·have h4 := ltL_tot (fun x => e x.symm) h1
   have := ltL_trans h3 h4
   rw [this] at h2; exact h2
theorem omat_flat (X : List (List Int)) : (X.flatMap fun x => [AV.own 2 x.length (avs x)]) = omat X := by
 induction X with
 | nil => rfl
 | cons x X ih => simp only [List.flatMap_cons, ih, omat, List.map_cons, List.singleton_append]
theorem sortTrees_c (X L : List (List Int)) (hX : X.Perm L) (hS : L.Pairwise (fun a b => ltL a b = false)) (hl : ∀ m ∈ L, m.length ≤ 1000000) (hn : L.length ≤ 1048576) :
  MCon Tryz.prog 224 [.own 25 X.length (omat X), .val (.func (.func 225) #[] #[])] (.tup []) [.own 25 X.length (omat L), .any] := by
 have hxl := hX.length_eq
 have hm : ∀ m ∈ X, m.length ≤ 1000000 := fun m hm => hl m (hX.mem_iff.1 hm)
 obtain ⟨ys, h1, h2, h3⟩ := sort_mcon1 Tryz.sortTrees ⟨_, Tryz.func224, by decide, rfl⟩ (fun m : List Int => .own 2 m.length (avs m)) (fun m n => cmpL n m) swo_dsc 225 25 (by kernel_rfl) X (by rw [omat_flat]; exact omat_fresh X)
  (fun x hx y hy => by simpa [frz] using @canonical1_c ⟨1⟩ x y (hm x hx) (hm y hy)) (by omega)
 have e : ys = L := dsc_unique (h1.trans hX) (h2.imp fun {a b} h => by
  have := cmpL_neg a b
  rw [← this]; simpa using h) hS
 subst e
 rw [omat_flat, omat_flat] at h3
 exact h3
theorem rootOn_c (S : List (List Int)) (hl : S.length ≤ 1000) (hr : ∀ b ∈ S, b.length ≤ 1000 ∧ ∀ x ∈ b, 0 ≤ x ∧ x ≤ 1000) : Con Tryz.prog 226 [.sl S.length (mat S)] (.own 2 (rootL S).length (avs (rootL S))) := by
 have bl : ∀ i, (rootL (S.take i)).length ≤ 1 + i * 1000 := fun i => by
  rw [rootL_len]
  have : ∀ T : List (List Int), (∀ b ∈ T, b.length ≤ 1000) → sumL T ≤ T.length * 1000 := by
   intro T
   induction T with
   | nil => intro _; simp [sumL]
   | cons b T ih => intro h; have := h b (by simp); have := ih (fun c hc => h c (by simp [hc])); simp only [sumL, List.length_cons]; omega
  have h1 := this (S.take i) (fun b hb => (hr b (List.mem_of_mem_take hb)).1)
  have h2 : (S.take i).length ≤ i := by rw [List.length_take]; omega
  have := Nat.mul_le_mul_right 1000 h2
  omega
 refine con_of_vc Tryz.mixed ⟨8, [], [], []⟩ Tryz.func226 (by decide) rfl (by simp) (by decide) (by simp [freshOK, freshL, go_sem]) ?_
 rw [Tryz.ntmps226]
 simp [go_sem]
 refine loop_inv (3 :: 5 :: 7 :: List.range' 11 17) (fun i : Nat => [(3, .own 2 (rootL (S.take i)).length (avs (rootL (S.take i)))), (11, .int i)]) (fun i => i ≤ S.length) (fun i => S.length - i) 0 (by simp) (by simp [go_sem, rootL, avs]) (by simp [go_sem]) ?_
 intro i hi
 by_cases hiS : i < S.length
 ·have hii : (i : Int) < S.length := by omega
  have ne : ¬ S = [] := by rintro rfl; simp at hiS
  have md := mat_drop hiS
  obtain ⟨b1, b2⟩ := hr _ (show S[i]?.getD [] ∈ S by simp [hiS])
  have sn : rootL (S.take (i + 1)) = rootL (S.take i) ++ (S[i]?.getD []).map (· + 1) := by
   unfold rootL
   rw [List.take_add_one, List.flatMap_append, List.getElem?_eq_getElem hiS]; simp
  have bli := bl i
  generalize S[i]?.getD [] = b at *
  generalize rootL (S.take i) = R at *
  simp [go_sem, hii, md]
  refine ⟨ne, ?_⟩
  refine loop_inv (3 :: 7 :: List.range' 17 10) (fun k : Nat => [(3, .own 2 (R.length + k) (avs (R ++ (b.map (· + 1)).take k))), (17, .int k)]) (fun k => k ≤ b.length) (fun k => b.length - k) 0 (by simp) (by simp [go_sem]) (by simp [go_sem]) ?_
  intro k hk
  by_cases hkb : k < b.length
  ·have hki : (k : Int) < b.length := by omega
   have nb : ¬ b = [] := by rintro rfl; simp at hkb
   have ad := avs_drop hkb
   have bx := b2 _ (show b[k]?.getD 0 ∈ b by simp [hkb])
   have tk : (b.map (· + 1)).take (k + 1) = (b.map (· + 1)).take k ++ [b[k]?.getD 0 + 1] := by
    rw [List.take_add_one]; simp [hkb]
   rw [List.getD_eq_getElem?_getD] at ad
   generalize b[k]?.getD 0 = x at *
   simp [go_sem, hki, ad]
   exact ⟨nb, ⟨by omega, by omega⟩, ⟨by omega, by omega, by omega⟩, ⟨by omega, by omega⟩, k + 1, by omega, by omega, Off_reset _ _ _ (by simp), ⟨by omega, by rw [tk, ← List.append_assoc, avs_snoc]⟩, by omega⟩
  ·have e : k = b.length := by omega
   subst e
   have hki : ¬ (b.length : Int) < b.length := by omega
   have tk : (b.map (· + 1)).take b.length = b.map (· + 1) := List.take_of_length_le (by simp)
   simp [go_sem, hki, tk]
   exact ⟨⟨by omega, by omega⟩, i + 1, by omega, by omega, (Off.reset (by intro x hx; simp at hx ⊢; omega) (by simp) (by simp [go_sem, Off_reset])), by rw [sn]; simp, by omega⟩
 ·have e : i = S.length := by omega
  subst e
  have hii : ¬ (S.length : Int) < S.length := by omega
  rw [List.take_length]
  simp [go_sem, hii]
def cnB (n : Nat) (bs : List (List Int)) (i : Nat) : List (List Int) := (bs.take i).map (canF n) ++ bs.drop i
theorem cnB_zero (n : Nat) (bs : List (List Int)) : cnB n bs 0 = bs := by simp [cnB]
theorem cnB_all (n : Nat) (bs : List (List Int)) : cnB n bs bs.length = bs.map (canF n) := by simp [cnB]
theorem omat_get2 {A : List (List Int)} {k : Nat} (h : k < A.length) : (omat A)[k]? = some (.own 2 (A[k]?.getD []).length (avs (A[k]?.getD []))) := by simp [omat, h]
theorem cnB_at (n : Nat) {bs : List (List Int)} {i : Nat} (hi : i < bs.length) : (omat (cnB n bs i))[i]? = some (.own 2 (bs[i]?.getD []).length (avs (bs[i]?.getD []))) := by
 have h1 : i < (cnB n bs i).length := by simp [cnB]; omega
 rw [omat_get2 h1]
 have e : (cnB n bs i)[i]?.getD [] = bs[i]?.getD [] := by
  unfold cnB
  rw [List.getElem?_append_right (by simp; omega)]; simp [Nat.min_eq_left (Nat.le_of_lt hi)]
 rw [e]
theorem cnB_set (n : Nat) {bs : List (List Int)} {i : Nat} (hi : i < bs.length) (hc : (canF n (bs[i]?.getD [])).length = (bs[i]?.getD []).length) :
  (omat (cnB n bs i)).set i (.own 2 (bs[i]?.getD []).length (avs (canF n (bs[i]?.getD [])))) = omat (cnB n bs (i + 1)) := by
 have h := omat_set (cnB n bs i) i (canF n (bs[i]?.getD []))
 rw [hc] at h
 rw [h]
 congr 1
 unfold cnB
 have e1 : bs.drop i = bs[i]?.getD [] :: bs.drop (i + 1) := by rw [List.drop_eq_getElem_cons hi]; simp [hi]
 have e2 : bs.take (i + 1) = bs.take i ++ [bs[i]?.getD []] := by rw [List.take_add_one]; simp [hi]
 rw [e1, e2, List.map_append, List.set_append_right _ _ (by simp; omega)]
 simp [Nat.min_eq_left (Nat.le_of_lt hi)]
theorem canonical_c : ∀ (n : Nat) (t : List Int), n ≤ 100 → Lv t → t.length ≤ n → Con Tryz.prog 123 [.sl t.length (avs t)] (.own 2 t.length (avs (canF n t))) := by
 intro n
 induction n with
 | zero => intro t _ h1 h2; have := h1.1; omega
 | succ n ih =>
  intro t hn hLv hl
  have cB := branchesOf_c t (by omega) hLv
  have cn := brs_cnt hLv
  have bo := fun (b : List Int) hb => brs_ok hLv (b := b) hb
  have cI := fun (b : List Int) (hb : b ∈ brs t) => ih b (by omega) (bo b hb).1 (by have := (bo b hb).2; omega)
  have cl := fun (b : List Int) (hb : b ∈ brs t) => canF_len n b (bo b hb).1 (by have := (bo b hb).2; omega)
  have im := fun x (hx : x ∈ insA n (brs t)) => insA_mem hx
  have il : (insA n (brs t)).length = (brs t).length := by have := (insA_perm n (brs t)).length_eq; simpa using this
  have xl : ∀ x ∈ insA n (brs t), x.length ≤ 100 ∧ ∀ y ∈ x, 0 ≤ y ∧ y ≤ 1000 := fun x hx => by
   obtain ⟨b, hb, rfl⟩ := im x hx
   have := (bo b hb).2
   exact ⟨by rw [cl b hb]; omega, fun y hy => by have := canF_val n b y hy; omega⟩
  have cS := sortTrees_c ((brs t).map (canF n)) (insA n (brs t)) (insA_perm n (brs t)).symm (insA_dsc n _) (fun x hx => by have := (xl x hx).1; omega) (by omega)
  have cR := rootOn_c (insA n (brs t)) (by omega) (fun b hb => ⟨by have := (xl b hb).1; omega, (xl b hb).2⟩)
  have rl : (rootL (insA n (brs t))).length = t.length := canF_len (n + 1) t hLv hl
  have e1 : canF (n + 1) t = rootL (insA n (brs t)) := rfl
  rw [e1]
  rw [rl, il] at cR
  rw [List.length_map] at cS
  clear rl e1 xl im
  generalize insA n (brs t) = S at *
  refine con_of_vc Tryz.mixed ⟨6, [], [224], []⟩ Tryz.func123 (by decide) rfl (by simp) (by decide) (by simp [freshOK, freshL, go_sem]) ?_
  rw [Tryz.ntmps123]
  simp [go_sem]
  refine CallVC.of (cB) (by decide) ?_
  simp [go_sem]
  generalize brs t = bs at *
  refine loop_invA (3 :: 4 :: 5 :: 8 :: List.range' 10 11) (4 :: 5 :: List.range' 11 10) (fun i : Nat => [(3, .own 25 bs.length (omat (cnB n bs i))), (8, .bor 3 []), (10, .int i)]) (fun i => i ≤ bs.length) (fun i => bs.length - i) 0 (by intro x i h1 h2; have : i = 3 ∨ i = 8 ∨ i = 10 := (by simp at h1 h2; omega); rcases this with rfl | rfl | rfl <;> rfl) (by intro i h; simp at h ⊢; omega) (by simp) (by simp [go_sem, cnB_zero]) (by simp [go_sem, kl]) ?_
  intro i hi
  by_cases hib : i < bs.length
  ·have hii : (i : Int) < bs.length := by omega
   have gt := cnB_at n hib
   have st := cnB_set n hib (cl _ (by simp [hib]))
   have cc := cI (bs[i]?.getD []) (by simp [hib])
   generalize bs[i]?.getD [] = b at *
   simp [go_sem, hii, gt]
   have cbl : i < (cnB n bs i).length := by simp [cnB]; omega
   refine CallVC.of (cc) (by decide) ?_
   simp [go_sem]
   exact ⟨hib, cbl, ⟨by omega, by omega⟩, i + 1, by omega, by omega, Off_reset _ _ _ (by simp), by first | exact ⟨st, by omega⟩ | exact st | (refine ⟨?_⟩; exact st) | (simp; exact st), by simp [kl]⟩
  ·have e : i = bs.length := by omega
   subst e
   have hii : ¬ (bs.length : Int) < bs.length := by omega
   rw [cnB_all]
   simp [go_sem, hii]
   refine ⟨_, _, cS, ?_⟩
   simp [go_sem]
   refine CallVC.of (cR) (by decide) ?_
   simp [go_sem]
end Go.Proofs.YtphccfabekdmnaaGreat


namespace Go.Proofs.YtphccfabekdmnaaGreat
open Go.Abs
@[go_sem] theorem klW_bor (W : List Nat) (s : Nat) (p : List Nat) : kl W (.bor s p) = if W.contains s then .any else .bor s p := by rw [kl]
@[go_sem] theorem klW_ptr (W : List Nat) (s : Nat) (p : List Nat) (o : Nat) : kl W (.ptr s p o) = if W.contains s then .any else .ptr s p o := by rw [kl]
theorem omat_get {A : List (List Int)} {k : Nat} (h : k < A.length) : (omat A)[k]? = some (.own 2 (A[k]?.getD []).length (avs (A[k]?.getD []))) := by simp [omat, h]
end Go.Proofs.YtphccfabekdmnaaGreat


namespace Go.Proofs.YtphccfabekdmnaaGreat
open Go.Abs
end Go.Proofs.YtphccfabekdmnaaGreat


namespace Go.Proofs.YtphccfabekdmnaaGreat
open Go.Abs
end Go.Proofs.YtphccfabekdmnaaGreat


namespace Go.Proofs.YtphccfabekdmnaaGreat
open Go.Abs
end Go.Proofs.YtphccfabekdmnaaGreat


namespace Go.Proofs.YtphccfabekdmnaaGreat
open Go.Abs
theorem cloneRows_c (a : List (List Int)) (hl : a.length ≤ 1048576) (hr : ∀ r ∈ a, r.length ≤ 1048576) :
  Con Tryz.prog 258 [.sl a.length (mat a)] (.own 25 a.length (omat a)) := by
 refine con_of_vc Tryz.mixed ⟨6, [], [], []⟩ Tryz.func258 (by decide) rfl (by simp) (by decide) (by simp [freshOK, freshL, go_sem]) ?_
 rw [Tryz.ntmps258]
 simp [go_sem]
 refine loop_inv (3 :: 5 :: List.range' 9 10) (fun i : Nat => [(3, .own 25 i (omat (a.take i))), (9, .int i)]) (fun i => i ≤ a.length) (fun i => a.length - i) 0 (by simp) (by simp [go_sem, omat_nil]) (by simp [go_sem]) ?_
 intro i hi
 simp [go_sem]
 refine ⟨fun h => ?_, fun h => ?_⟩ <;> simp at h
 ·simp [go_sem, mat_drop h]
  refine ⟨⟨h, by rintro rfl; simp at h⟩, ?_⟩
  refine CallVC.of (Clone_c (a[i]?.getD []) (hr _ (by simp [h]))) (by decide) ?_
  simp [go_sem]
  have ht := omat_take a i h
  refine ⟨⟨by omega, by omega, by omega⟩, by omega, i + 1, by omega, by omega, Off_reset _ _ _ (by simp), by rw [ht]; exact ⟨rfl, rfl⟩, by omega⟩
 ·have e : i = a.length := by omega
  subst e
  simp [go_sem]
theorem l01Own2_c (a : List (List Int)) (hl : a.length ≤ 1048576) (hr : ∀ r ∈ a, r.length ≤ 1048576) :
  Con Tryz.prog 263 [.sl a.length (mat a)] (.own 25 a.length (omat a)) := by
 refine con_of_vc Tryz.mixed ⟨5, [], [], []⟩ Tryz.func263 (by decide) rfl (by simp) (by decide) (by simp [freshOK, freshL, go_sem]) ?_
 rw [Tryz.ntmps263]
 simp [go_sem]
 refine loop_inv (3 :: 4 :: List.range' 6 14) (fun i : Nat => [(3, .own 25 i (omat (a.take i))), (4, .int i)]) (fun i => i ≤ a.length) (fun i => a.length - i) 0 (by simp) (by simp [go_sem, omat_nil]) (by simp [go_sem]) ?_
 intro i hi
 simp [go_sem]
 refine ⟨fun h => ?_, fun h => ?_⟩ <;> simp at h
 ·simp [go_sem, mat_drop h]
  refine ⟨⟨h, by rintro rfl; simp at h⟩, ?_⟩
  refine CallVC.of (l01Own_c (a[i]?.getD []) (by have := hr _ (show a[i]?.getD [] ∈ a by simp [h]); omega)) (by decide) ?_
  simp [go_sem]
  have ht := omat_take a i h
  refine ⟨⟨by omega, by omega, by omega⟩, by omega, i + 1, by omega, by omega, Off_reset _ _ _ (by simp), by rw [ht]; exact ⟨rfl, rfl⟩, by omega⟩
 ·have e : i = a.length := by omega
  subst e
  simp [go_sem]
end Go.Proofs.YtphccfabekdmnaaGreat


namespace Go.Proofs.YtphccfabekdmnaaGreat
open Go.Abs Go.Shelf Go.Sort
def ltT (s t : List Int) : Bool := if s.length = t.length then ltL t s else decide (s.length < t.length)
def cmpT (s t : List Int) : Int := if s.length = t.length then cmpL t s else (s.length : Int) - t.length
theorem cmpT_neg (s t : List Int) : decide (cmpT s t < 0) = ltT s t := by
 unfold cmpT ltT
 split
 ·exact cmpL_neg t s
 ·congr 1; exact propext ⟨fun h => by omega, fun h => by omega⟩
theorem ltT_irr (s : List Int) : ltT s s = false := by unfold ltT; rw [if_pos rfl]; exact ltL_irr s
theorem ltT_trans {a b c : List Int} (h1 : ltT a b = true) (h2 : ltT b c = true) : ltT a c = true := by
 unfold ltT at *
 split at h1 <;> split at h2
 ·rw [if_pos (by omega)]; exact ltL_trans h2 h1
 ·simp at h2; rw [if_neg (by omega)]; simp; omega
 ·simp at h1; rw [if_neg (by omega)]; simp; omega
 ·simp at h1 h2; rw [if_neg (by omega)]; simp; omega
theorem ltT_tot {a b : List Int} (e : a ≠ b) (h : ltT a b = false) : ltT b a = true := by
 unfold ltT at *
 split at h
 ·rename_i hl
  rw [if_pos hl.symm]; exact ltL_tot (fun x => e x.symm) h
 ·rename_i hl
  simp at h; rw [if_neg (fun x => hl x.symm)]; simp; omega
theorem ltT_asym {a b : List Int} (h : ltT a b = true) : ltT b a = false := by
 cases h2 : ltT b a with
 | false => rfl
 | true => have := ltT_trans h h2; rw [ltT_irr] at this; simp at this
def atT (p : List Int) : List (List Int) → Nat
 | [] => 0
 | s :: S => if ltT p s = true then 0 else atT p S + 1
theorem atT_le (p : List Int) : ∀ S, atT p S ≤ S.length
 | [] => by simp [atT]
 | s :: S => by have := atT_le p S; rw [atT]; split <;> simp; omega
def insT (p : List Int) (S : List (List Int)) : List (List Int) := S.take (atT p S) ++ p :: S.drop (atT p S)
@[simp] theorem insT_len (p : List Int) (S : List (List Int)) : (insT p S).length = S.length + 1 := by have := atT_le p S; simp [insT]; omega
theorem insT_mem {p x : List Int} {S : List (List Int)} (h : x ∈ insT p S) : x = p ∨ x ∈ S := by
 rcases List.mem_append.1 h with h | h
 ·exact .inr (List.mem_of_mem_take h)
 ·rcases List.mem_cons.1 h with h | h
  ·exact .inl h
  ·exact .inr (List.mem_of_mem_drop h)
theorem insT_perm (p : List Int) (S : List (List Int)) : (insT p S).Perm (p :: S) := by
 unfold insT
 exact List.perm_middle.trans (by rw [List.take_append_drop])
theorem insT_cons (p s : List Int) (S : List (List Int)) : insT p (s :: S) = if ltT p s = true then p :: s :: S else s :: insT p S := by
 unfold insT
 rw [atT]
 split <;> simp
theorem insT_asc (p : List Int) : ∀ {S : List (List Int)}, S.Pairwise (fun a b => ltT b a = false) → (insT p S).Pairwise (fun a b => ltT b a = false)
 | [], _ => by simp [insT, atT]
 | s :: S, h => by
  obtain ⟨h1, h2⟩ := List.pairwise_cons.1 h
  rw [insT_cons]
  split
  ·rename_i hs
   refine List.pairwise_cons.2 ⟨fun y hy => ?_, h⟩
   rcases List.mem_cons.1 hy with rfl | hy
   ·exact ltT_asym hs
   ·cases hp : ltT y p with
    | false => rfl
    | true => have := h1 y hy; rw [ltT_trans hp hs] at this; exact this
  ·rename_i hs
   refine List.pairwise_cons.2 ⟨fun y hy => ?_, insT_asc p h2⟩
   rcases insT_mem hy with rfl | hy
   ·simpa using hs
   ·exact h1 y hy
def srtT (bs : List (List Int)) : List (List Int) := bs.foldl (fun S b => insT b S) []
theorem srtT_snoc (bs : List (List Int)) (b : List Int) : srtT (bs ++ [b]) = insT b (srtT bs) := by simp [srtT]
theorem srtT_asc (bs : List (List Int)) : (srtT bs).Pairwise (fun a b => ltT b a = false) :=
 rev_ind (P := fun bs => (srtT bs).Pairwise (fun a b => ltT b a = false)) List.Pairwise.nil (fun l a h => by rw [srtT_snoc]; exact insT_asc _ h) bs
theorem srtT_perm (bs : List (List Int)) : (srtT bs).Perm bs :=
 rev_ind (P := fun bs => (srtT bs).Perm bs) (List.Perm.refl _) (fun l a h => by
  rw [srtT_snoc]
  refine (insT_perm _ _).trans ((h.cons _).trans ?_)
  exact (List.perm_append_comm (l₁ := [a]) (l₂ := l))) bs
@[simp] theorem srtT_len (bs : List (List Int)) : (srtT bs).length = bs.length := (srtT_perm bs).length_eq
theorem asc_unique {X L : List (List Int)} (hp : X.Perm L) (hX : X.Pairwise (fun a b => ltT b a = false)) (hL : L.Pairwise (fun a b => ltT b a = false)) : X = L :=
 hp.eq_of_pairwise (fun a b _ _ h1 h2 => by
  by_cases e : a = b
  ·exact e
  ·have := ltT_tot e h2; rw [h1] at this; simp at this) hX hL
theorem swo_asc : SWO (Go.Proofs.ltOf cmpT) := by
 have e : (Go.Proofs.ltOf cmpT) = ltT := by
  funext a b; exact cmpT_neg _ _
 rw [e]
 refine ⟨fun m => ltT_irr _, fun x y z h1 h2 => ltT_trans h1 h2, fun x y z h1 h2 => ?_⟩
 cases h3 : ltT x z with
 | false => rfl
 | true =>
  by_cases e : x = y
  ·rw [e] at h3; rw [h3] at h2; exact h2
  ·have h4 := ltT_tot e h1
   have := ltT_trans h4 h3
   rw [this] at h2; exact h2
theorem compareTrees_c [DrawK] (a b : List Int) (ha : a.length ≤ 1000000) (hb : b.length ≤ 1000000) : Con Tryz.prog 223 [.sl a.length (avs a), .sl b.length (avs b)] (.int (cmpT a b)) := by
 unfold cmpT
 by_cases h : a.length = b.length
 ·have hi : (a.length : Int) = b.length := by omega
  rw [if_pos h]
  have c := Compare_c b a (by omega) (by omega)
  refine con_of_vc Tryz.mixed ⟨5, [], [], []⟩ Tryz.func223 (by decide) rfl (by simp) (by decide) (by simp [freshOK, freshL, go_sem]) ?_
  rw [Tryz.ntmps223]
  simp [go_sem, hi]
  refine CallVC.of (c) (by decide) ?_
  simp [go_sem]
 ·have hi : ¬ (a.length : Int) = b.length := by omega
  rw [if_neg h]
  refine con_of_vc Tryz.mixed ⟨5, [], [], []⟩ Tryz.func223 (by decide) rfl (by simp) (by decide) (by simp [freshOK, freshL, go_sem]) ?_
  rw [Tryz.ntmps223]
  simp [go_sem, hi]
  omega
theorem insTrees_c (X : List (List Int)) (hl : ∀ m ∈ X, m.length ≤ 1000000) (hn : X.length ≤ 1048576) :
  MCon Tryz.prog 328 [.own 25 X.length (omat X), .int 0, .int X.length, .val (.func (.func 223) #[] #[])] (.tup []) [.own 25 X.length (omat (srtT X)), .any, .any, .any] := by
 obtain ⟨ys, h1, h2, h3⟩ := inssort_mcon1 Tryz.insTrees ⟨_, Tryz.func328, by decide, rfl⟩ (fun m : List Int => .own 2 m.length (avs m)) cmpT swo_asc 223 25 (by kernel_rfl) X (by rw [omat_flat]; exact omat_fresh X)
  (fun x hx y hy => by simpa [frz] using @compareTrees_c ⟨1⟩ x y (hl x hx) (hl y hy)) (by omega)
 have e : ys = srtT X := asc_unique (h1.trans (srtT_perm X).symm) (h2.imp fun {a b} h => by
  have := cmpT_neg b a
  rw [← this]; simpa using h) (srtT_asc X)
 subst e
 rw [omat_flat, omat_flat] at h3
 exact h3
theorem stable_c (X : List (List Int)) (hl : ∀ m ∈ X, m.length ≤ 1000000) (hn : X.length ≤ 19) :
  MCon Tryz.prog 321 [.own 25 X.length (omat X), .int X.length, .val (.func (.func 223) #[] #[])] (.tup []) [.own 25 X.length (omat (srtT X)), .any, .any] := by
 have cI := insTrees_c X hl (by omega)
 have h1 : ¬ (20 : Int) ≤ X.length := by omega
 have h2 : ¬ (20 : Int) < X.length := by omega
 refine mcon_of_vc Tryz.mixed ⟨10, [], [328], []⟩ [] [0] Tryz.func321 (by decide) rfl rfl (by simp) (by simp) (by simp) (by decide) ?_
 rw [Tryz.ntmps321]
 simp [go_sem]
 refine loop_inv (7 :: 8 :: List.range' 11 12) (fun _ : Nat => [(7, .int 0), (8, .int 20)]) (fun _ => True) (fun _ => 0) 0 trivial (by simp [go_sem]) (by simp [go_sem]) ?_
 intro _ _
 simp [go_sem, h1]
 refine ⟨_, _, cI, ?_⟩
 simp [go_sem]
 refine loop_inv ([6, 7, 8, 9] ++ List.range' 28 35) (fun _ : Nat => [(6, .int 20)]) (fun _ => True) (fun _ => 0) 0 trivial (by simp [go_sem]) (by simp [go_sem]) ?_
 intro _ _
 simp [go_sem, h2]
theorem sortStable_c (X : List (List Int)) (hl : ∀ m ∈ X, m.length ≤ 1000000) (hn : X.length ≤ 19) :
  MCon Tryz.prog 276 [.own 25 X.length (omat X), .val (.func (.func 223) #[] #[])] (.tup []) [.own 25 X.length (omat (srtT X)), .any] := by
 have cI := stable_c X hl hn
 refine mcon_of_vc Tryz.mixed ⟨4, [], [321], []⟩ [] [0] Tryz.func276 (by decide) rfl rfl (by simp) (by simp) (by simp) (by decide) ?_
 rw [Tryz.ntmps276]
 simp [go_sem]
 refine ⟨_, _, cI, ?_⟩
 simp [go_sem]
theorem forestOf_c (X : List (List Int)) (hl : ∀ m ∈ X, m.length ≤ 1000000) (hn : X.length ≤ 19) :
  Con Tryz.prog 200 [.sl X.length (mat X)] (.own 25 X.length (omat (srtT X))) := by
 have cC := cloneRows_c X (by omega) (fun r h => by have := hl r h; omega)
 have cI := sortStable_c X hl hn
 refine con_of_vc Tryz.mixed ⟨4, [], [276], []⟩ Tryz.func200 (by decide) rfl (by simp) (by decide) (by simp [freshOK, freshL, go_sem]) ?_
 rw [Tryz.ntmps200]
 simp [go_sem]
 refine CallVC.of (cC) (by decide) ?_
 simp [go_sem]
 refine ⟨_, _, cI, ?_⟩
 simp [go_sem]
end Go.Proofs.YtphccfabekdmnaaGreat


namespace Go.Proofs.YtphccfabekdmnaaGreat
open Go.Abs
theorem slEqual_c (a b : List Int) (ha : a.length ≤ 9223372036854775807) : Con Tryz.prog 145 [.sl a.length (avs a), .sl b.length (avs b)] (.bool (decide (a = b))) := by
 by_cases hl : a.length = b.length
 ·have hi : (a.length : Int) = b.length := by omega
  refine con_of_vc Tryz.mixed ⟨7, [], [], []⟩ Tryz.func145 (by decide) rfl (by simp) (by decide) (by simp [freshOK, freshL, go_sem]) ?_
  rw [Tryz.ntmps145]
  simp [go_sem, hi]
  refine loop_inv (4 :: 5 :: List.range' 13 13) (fun i : Nat => [(13, .int i)]) (fun i => i ≤ b.length ∧ a.take i = b.take i) (fun i => b.length - i) 0 (by simp) (by simp [go_sem]) (by simp [go_sem]) ?_
  intro i hi
  simp [go_sem]
  refine ⟨fun h => ?_, fun h => ?_⟩ <;> simp at h
  ·have h2 : i < a.length := by omega
   simp [go_sem, avs_drop h, avs_drop h2]
   refine ⟨by kernel_rfl, ⟨h2, by rintro rfl; simp at h2⟩, ⟨h, by rintro rfl; simp at h⟩, ?_⟩
   refine ⟨by kernel_rfl, ?_⟩
   simp [go_sem]
   refine ⟨fun h3 => ?_, fun h3 => ?_⟩ <;> simp at h3 <;> simp [go_sem]
   ·rintro rfl; exact h3 rfl
   ·refine ⟨by omega, i + 1, ⟨by omega, ?_⟩, by omega, Off_reset _ _ _ (by simp), by omega⟩
    rw [List.take_add_one, List.take_add_one, hi.2]
    rw [List.getElem?_eq_getElem h, List.getElem?_eq_getElem h2] at h3 ⊢
    simp only [Option.getD_some] at h3
    rw [h3]
  ·simp [go_sem]
   have e : i = b.length := by omega
   subst e
   have := hi.2
   rw [List.take_length, ← hl, List.take_length] at this
   exact this
 ·have e : decide (a = b) = false := by
   rw [decide_eq_false_iff_not]; intro h; exact hl (by rw [h])
  rw [e]
  have hi : ¬ (a.length : Int) = b.length := by omega
  refine con_of_vc Tryz.mixed ⟨7, [], [], []⟩ Tryz.func145 (by decide) rfl (by simp) (by decide) (by simp [freshOK, freshL, go_sem]) ?_
  rw [Tryz.ntmps145]
  simp [go_sem, hi]
end Go.Proofs.YtphccfabekdmnaaGreat


namespace Go.Proofs.YtphccfabekdmnaaGreat
open Go.Abs
end Go.Proofs.YtphccfabekdmnaaGreat


namespace Go.Proofs.YtphccfabekdmnaaGreat
open Go.Abs
end Go.Proofs.YtphccfabekdmnaaGreat


namespace Go.Proofs.YtphccfabekdmnaaGreat
open Go.Abs
end Go.Proofs.YtphccfabekdmnaaGreat


namespace Go.Proofs.YtphccfabekdmnaaGreat
open Go.Abs
def pF (t : List Int) : Nat → Option Nat
 | 0 => none
 | j + 1 => if t[j]?.getD 0 ≤ 1 then pF t j else some j
def qF (t : List Int) (v : Int) : Nat → Option Nat
 | 0 => none
 | j + 1 => if t[j]?.getD 0 = v then some j else qF t v j
def fiS (t : List Int) (d p : Nat) : Nat → List Int
 | 0 => t
 | k + 1 => (fiS t d p k).set (p + k) ((fiS t d p k)[p + k - d]?.getD 0)
@[simp] theorem fiS_len (t : List Int) (d p : Nat) : ∀ k, (fiS t d p k).length = t.length
 | 0 => rfl
 | k + 1 => by simp [fiS, fiS_len t d p k]
def genT : Nat → List Int → List (List Int)
 | 0, _ => []
 | k + 1, t => t :: match pF t t.length with
  | none => []
  | some p => match qF t (t[p]?.getD 0 - 1) p with
   | none => []
   | some q => genT k (fiS t (p - q) p (t.length - p))
def chkT : Nat → List Int → Bool
 | 0, _ => false
 | k + 1, t => t.all (fun x => decide (0 ≤ x ∧ x ≤ 100)) && match pF t t.length with
  | none => true
  | some p => match qF t (t[p]?.getD 0 - 1) p with
   | none => false
   | some q => chkT k (fiS t (p - q) p (t.length - p))
theorem qF_lt {t : List Int} {v : Int} : ∀ {j q : Nat}, qF t v j = some q → q < j ∧ t[q]?.getD 0 = v
 | j + 1, q, h => by
  rw [qF] at h
  split at h
  ·injection h with h; subst h; exact ⟨by omega, by assumption⟩
  ·have := qF_lt h; exact ⟨by omega, this.2⟩
theorem treesOf_c (n F : Nat) (hn : n ≤ 1000) (hF : F ≤ 1000000) (hc : chkT F (upTo n) = true) : Con Tryz.prog 199 [.int n] (.own 25 (genT F (upTo n)).length (omat (genT F (upTo n)))) := by
 refine con_of_vc Tryz.mixed ⟨9, [], [], []⟩ Tryz.func199 (by decide) rfl (by simp) (by decide) (by simp [freshOK, freshL, go_sem]) ?_
 rw [Tryz.ntmps199]
 simp [go_sem]
 refine loop_inv (3 :: 5 :: List.range' 12 8) (fun i : Nat => [(3, .own 2 i (avs (upTo i))), (12, .int i)]) (fun i => i ≤ n) (fun i => n - i) 0 (by simp) (by simp [go_sem, upTo]) (by simp [go_sem]) ?_
 intro i hi
 simp [go_sem]
 refine ⟨fun h => ?_, fun h => ?_⟩ <;> simp at h
 ·simp [go_sem]
  refine ⟨⟨by omega, by omega⟩, by omega, i + 1, by omega, by omega, Off_reset _ _ _ (by simp), by rw [upTo_succ, avs_snoc]; exact ⟨rfl, rfl⟩, by omega⟩
 ·have e : i = n := by omega
  subst e
  simp [go_sem]
  refine loop_inv (2 :: 3 :: 4 :: 6 :: 7 :: 8 :: List.range' 20 52) (fun x : Nat × List Int × List (List Int) => [(3, .own 2 i (avs x.2.1)), (4, .own 25 x.2.2.length (omat x.2.2))]) (fun x => x.2.2 ++ genT x.1 x.2.1 = genT F (upTo i) ∧ chkT x.1 x.2.1 = true ∧ x.2.1.length = i ∧ x.2.2.length + x.1 ≤ F) (fun x => x.1) (F, upTo i, []) ⟨by simp, hc, by simp, by simp⟩ (by simp [go_sem, omat_nil]) (by simp [go_sem]) ?_
  rintro ⟨k, t, done⟩ ⟨hg, hk, hl, hdl⟩
  simp only at hg hk hl hdl
  cases k with
  | zero => simp [chkT] at hk
  | succ k =>
   rw [chkT] at hk
   rw [genT] at hg
   simp only [Bool.and_eq_true] at hk
   obtain ⟨hb, hk⟩ := hk
   have hb2 : ∀ j : Nat, 0 ≤ t[j]?.getD 0 ∧ t[j]?.getD 0 ≤ 100 := fun j => by
    rcases Nat.lt_or_ge j t.length with hj | hj
    ·have := (List.all_eq_true.1 hb) _ (List.getElem_mem hj)
     simp only [decide_eq_true_eq] at this
     simpa [hj] using this
    ·simp [List.getElem?_eq_none hj]
   have cC := Clone_c t (by omega)
   rw [hl] at cC hk hg
   simp [go_sem]
   refine CallVC.of (cC) (by decide) ?_
   simp [go_sem]
   refine ⟨⟨by omega, by omega⟩, ⟨by omega, by omega⟩, ?_⟩
   refine loop_inv (6 :: List.range' 27 11) (fun j : Nat => [(6, .int ((j : Int) - 1))]) (fun j => j ≤ i ∧ pF t i = pF t j) (fun j => j) i ⟨by omega, rfl⟩ (by simp [go_sem]) (by simp [go_sem]) ?_
   rintro j ⟨hj, hpj⟩
   rcases j with _ | j
   ·rw [hpj, pF] at hg
    simp [go_sem]
    rw [← hg, omat_app, omat_one, hl]
    exact ⟨by simp, rfl⟩
   ·have hjt : j < t.length := by omega
    have ej : ((j + 1 : Nat) : Int) - 1 = j := by omega
    have j0 : (0 : Int) ≤ j := by omega
    by_cases ht : t[j]?.getD 0 ≤ 1
    ·rw [pF, if_pos ht] at hpj
     simp [go_sem, ej, j0, avs_at hjt, ht]
     exact ⟨by omega, ⟨by omega, by omega⟩, j, ⟨by omega, hpj⟩, by omega, Off_reset _ _ _ (by simp), by omega⟩
    ·rw [pF, if_neg ht] at hpj
     rw [hpj] at hg hk
     simp only at hg hk
     have jn : ¬ (j : Int) < 0 := by omega
     cases hq : qF t (t[j]?.getD 0 - 1) j with
     | none => rw [hq] at hk; simp at hk
     | some q =>
      rw [hq] at hg hk
      simp only at hg hk
      have hql := qF_lt hq
      have b1 := hb2 j
      simp [go_sem, ej, j0, avs_at hjt, ht, jn]
      refine ⟨by omega, ⟨by omega, by omega⟩, ?_⟩
      refine loop_inv (7 :: List.range' 43 12) (fun r : Nat => [(7, .int ((r : Int) - 1))]) (fun r => r ≤ j ∧ qF t (t[j]?.getD 0 - 1) r = some q) (fun r => r) j ⟨by omega, hq⟩ (by simp [go_sem]) (by simp [go_sem]) ?_
      rintro r ⟨hr, hqr⟩
      rcases r with _ | r
      ·simp [qF] at hqr
      ·have hrt : r < t.length := by omega
       have er : ((r + 1 : Nat) : Int) - 1 = r := by omega
       by_cases hv : t[r]?.getD 0 = t[j]?.getD 0 - 1
       ·rw [qF, if_pos hv] at hqr
        injection hqr with hqr
        subst hqr
        simp [go_sem, er, avs_at hrt, avs_at hjt, hv]
        refine ⟨by kernel_rfl, by omega, by omega, ⟨by omega, by omega⟩, ?_⟩
        refine ⟨by kernel_rfl, ?_⟩
        simp [go_sem]
        refine loop_inv (3 :: 8 :: List.range' 56 16) (fun e : Nat => [(3, .own 2 i (avs (fiS t (j - r) j e))), (8, .int ((j + e : Nat) : Int))]) (fun e => j + e ≤ i) (fun e => i - e) 0 (by omega) (by simp [go_sem, fiS]) (by simp [go_sem]) ?_
        intro e he
        simp [go_sem]
        refine ⟨fun h => ?_, fun h => ?_⟩ <;> simp at h
        ·have hlf := fiS_len t (j - r) j e
         have k1 : j + e - (j - r) < (fiS t (j - r) j e).length := by omega
         have k2 : j + e < (fiS t (j - r) j e).length := by omega
         have ix : ((j : Int) + e - (j - r)) = ((j + e - (j - r) : Nat) : Int) := by omega
         have hs : fiS t (j - r) j (e + 1) = (fiS t (j - r) j e).set (j + e) ((fiS t (j - r) j e)[j + e - (j - r)]?.getD 0) := rfl
         generalize hF1 : fiS t (j - r) j (e + 1) = F1 at *
         generalize fiS t (j - r) j e = F0 at *
         have ix2 : ((j : Int) + e - (j - r)).toNat = j + e - (j - r) := by omega
         have ij2 : ((j : Int) + e).toNat = j + e := by omega
         simp [go_sem, ix2, avs_at k1, ij2]
         refine ⟨⟨by omega, by omega⟩, ⟨by omega, by omega⟩, ⟨by omega, by omega⟩, ⟨by omega, by omega⟩, k2, ⟨by omega, by omega⟩, e + 1, by omega, by omega, Off_reset _ _ _ (by simp), ?_, by omega⟩
         rw [hF1, hs, avs_set]
        ·have en : e = i - j := by omega
         subst en
         have h1 : done ++ [t] ++ genT k (fiS t (j - r) j (i - j)) = genT F (upTo i) := by rw [← hg]; simp
         simp [go_sem]
         refine ⟨k, fiS t (j - r) j (i - j), done ++ [t], ⟨h1, hk, by rw [fiS_len]; exact hl, by simp; omega⟩, by omega, (by repeat (first | exact Off_reset _ _ _ (by simp) | (refine Off.reset (by intro x hx; simp at hx ⊢; omega) (by simp) ?_; simp -failIfUnchanged [go_sem, Off_reset]))), rfl, ?_⟩
         rw [omat_app, omat_one, hl]
         exact ⟨by simp, rfl⟩
       ·rw [qF, if_neg hv] at hqr
        simp [go_sem, er, avs_at hrt, avs_at hjt, hv]
        refine ⟨by kernel_rfl, by omega, by omega, ⟨by omega, by omega⟩, ?_⟩
        refine ⟨by kernel_rfl, ?_⟩
        simp [go_sem]
        exact ⟨⟨by omega, by omega⟩, r, ⟨by omega, hqr⟩, by omega, Off_reset _ _ _ (by simp), by omega⟩
end Go.Proofs.YtphccfabekdmnaaGreat


namespace Go.Proofs.YtphccfabekdmnaaGreat
open Go.Abs
def nlA (L : List (List Int)) : AV := match L with
 | [] => .val (.slice none 0 0)
 | _ :: _ => .own 25 L.length (omat L)
def grwL : Nat → List Int → List (List Int) → List (List Int)
 | 0, t, L => if canF t.length t = t then L ++ [t] else L
 | k + 1, t, L => (List.range (t[t.length - 1]?.getD 0 + 1).toNat).foldl (fun (L : List (List Int)) (i : Nat) => grwL k (t ++ [t[t.length - 1]?.getD 0 + 1 - (i : Int)]) L) L
def grwI (k : Nat) (t : List Int) (m : Int) (L : List (List Int)) (i : Nat) : List (List Int) := (List.range i).foldl (fun (L : List (List Int)) (i : Nat) => grwL k (t ++ [m - (i : Int)]) L) L
theorem grwI_succ (k : Nat) (t : List Int) (m : Int) (L : List (List Int)) (i : Nat) : grwI k t m L (i + 1) = grwL k (t ++ [m - (i : Int)]) (grwI k t m L i) := by simp [grwI, List.range_succ]
theorem grwL_succ (k : Nat) (t : List Int) (L : List (List Int)) : grwL (k + 1) t L = grwI k t (t[t.length - 1]?.getD 0 + 1) L (t[t.length - 1]?.getD 0 + 1).toNat := rfl
theorem trees_same : ∀ n : Nat, 1 ≤ n → n ≤ 6 → chkT 200 (upTo n) = true ∧ genT 200 (upTo n) = grwL (n - 1) [0] [] ∧ (genT 200 (upTo n)).all lvB = true := by
 have h : ∀ n ∈ [1, 2, 3, 4, 5, 6], (chkT 200 (upTo n) && decide (genT 200 (upTo n) = grwL (n - 1) [0] []) && (genT 200 (upTo n)).all lvB) = true := by decide +kernel
 intro n h1 h6
 have := h n (by simp; omega)
 simp only [Bool.and_eq_true, decide_eq_true_eq] at this
 exact ⟨this.1.1, this.1.2, this.2⟩
theorem Lv_snoc {t : List Int} (h : Lv t) {x : Int} (h1 : 1 ≤ x) (h2 : x ≤ t[t.length - 1]?.getD 0 + 1) : Lv (t ++ [x]) := by
 have hp := h.1
 refine ⟨by simp, by rw [List.getElem?_append_left hp]; exact h.2.1, fun j hj hl => ?_⟩
 simp at hl
 by_cases e : j = t.length
 ·subst e
  rw [List.getElem?_append_right (Nat.le_refl _), List.getElem?_append_left (by omega), Nat.sub_self]
  exact ⟨h1, h2⟩
 ·rw [List.getElem?_append_left (by omega), List.getElem?_append_left (by omega)]
  exact h.2.2 j hj (by omega)
theorem Lv_last {t : List Int} (h : Lv t) : 0 ≤ t[t.length - 1]?.getD 0 ∧ t[t.length - 1]?.getD 0 < t.length := by
 have gen : ∀ j, j < t.length → 0 ≤ t[j]?.getD 0 ∧ t[j]?.getD 0 ≤ j := by
  intro j
  induction j with
  | zero => intro _; rw [h.2.1]; omega
  | succ j ih => intro hj; have := ih (by omega); have h3 := h.2.2 (j + 1) (by omega) hj; simp only [Nat.add_sub_cancel] at h3; omega
 have hp := h.1
 have := gen (t.length - 1) (by omega)
 omega
theorem grwI_of {k : Nat} {t : List Int} {L : List (List Int)} (hg : ∀ (x : Int) (L : List (List Int)), 1 ≤ x → x ≤ t[t.length - 1]?.getD 0 + 1 → (grwL k (t ++ [x]) L).length ≤ L.length + 6 ^ k) : ∀ i : Nat, i ≤ (t[t.length - 1]?.getD 0 + 1).toNat → (grwI k t (t[t.length - 1]?.getD 0 + 1) L i).length ≤ L.length + i * 6 ^ k
 | 0, _ => by simp [grwI]
 | i + 1, hi => by
  rw [grwI_succ]
  have := hg (t[t.length - 1]?.getD 0 + 1 - (i : Int)) (grwI k t (t[t.length - 1]?.getD 0 + 1) L i) (by omega) (by omega)
  have := grwI_of (L := L) hg i (by omega)
  rw [Nat.add_mul]
  omega
theorem grwL_len : ∀ (k : Nat) (t : List Int) (L : List (List Int)), Lv t → t.length + k ≤ 6 → (grwL k t L).length ≤ L.length + 6 ^ k
 | 0, t, L, _, _ => by rw [grwL]; split <;> simp
 | k + 1, t, L, h, hk => by
  have hl := Lv_last h
  have gen := grwI_of (k := k) (t := t) (L := L) (fun x L h1 h2 => grwL_len k (t ++ [x]) L (Lv_snoc h h1 h2) (by simp; omega))
  rw [grwL_succ]
  have h1 := gen _ (Nat.le_refl _)
  have h2 : (t[t.length - 1]?.getD 0 + 1).toNat * 6 ^ k ≤ 6 * 6 ^ k := Nat.mul_le_mul_right _ (by omega)
  rw [Nat.pow_succ]
  omega
theorem grwI_len (k : Nat) (t : List Int) (L : List (List Int)) (h : Lv t) (hk : t.length + (k + 1) ≤ 6) (i : Nat) (hi : i ≤ (t[t.length - 1]?.getD 0 + 1).toNat) : (grwI k t (t[t.length - 1]?.getD 0 + 1) L i).length ≤ L.length + i * 6 ^ k :=
 grwI_of (fun x L h1 h2 => grwL_len k (t ++ [x]) L (Lv_snoc h h1 h2) (by simp; omega)) i hi
@[simp] theorem nlA_nil : nlA [] = .val (.slice none 0 0) := rfl
@[simp] theorem nlA_cons (r : List Int) (L : List (List Int)) : nlA (r :: L) = .own 25 (L.length + 1) (omat (r :: L)) := rfl
theorem nlA_kl (W : List Nat) (L : List (List Int)) : kl W (nlA L) = nlA L := by cases L <;> simp [go_sem]
theorem l03Grow_c (n : Nat) (hn : n ≤ 6) : ∀ (k : Nat) (t : List Int) (L : List (List Int)), Lv t → t.length + k = n → L.length + 6 ^ k ≤ 1000000 → MCon Tryz.prog 307 [.own 2 t.length (avs t), .int n, nlA L] (nlA (grwL k t L)) [.any, .any, .any]
 | 0, t, L, h, hk, hL => by
  have e : t.length = n := by omega
  have hp := h.1
  have hc := l03Canon_c n t (by omega) h (by omega)
  have hl := canF_len n t h (by omega)
  rw [← hl] at hc
  have hs := l01Same_c (canF n t) t (by omega)
  have hO := l01Own_c t (by omega)
  rw [grwL, e]
  by_cases hcn : canF n t = t
  ·rw [if_pos hcn]
   rw [hcn] at hc hs
   simp only [decide_true] at hs
   rw [e] at hc hs hO
   cases L with
   | nil =>
    rw [nlA, List.nil_append, nlA]
    refine mcon_of_vc Tryz.mixed ⟨2, [], [307], []⟩ [6] [] Tryz.func307 (by decide) rfl rfl (by simp) (by simp) (by simp) (by decide) ?_
    rw [Tryz.ntmps307]
    simp [go_sem]
    refine CallVC.of (hc) (by decide) ?_
    simp [go_sem]
    refine CallVC.of (hs) (by decide) ?_
    simp [go_sem]
    refine CallVC.of (hO) (by decide) ?_
    simp [go_sem]
    rw [omat_one, e]
   | cons r L =>
    rw [nlA, List.cons_append, nlA]
    refine mcon_of_vc Tryz.mixed ⟨2, [], [307], []⟩ [6] [] Tryz.func307 (by decide) rfl rfl (by simp) (by simp) (by simp) (by decide) ?_
    rw [Tryz.ntmps307]
    simp [go_sem]
    refine CallVC.of (hc) (by decide) ?_
    simp [go_sem]
    refine CallVC.of (hs) (by decide) ?_
    simp [go_sem]
    refine CallVC.of (hO) (by decide) ?_
    simp [go_sem]
    simp at hL
    have em : omat (r :: L) ++ [AV.own 2 n (avs t)] = omat (r :: (L ++ [t])) := by rw [← List.cons_append, omat_app, omat_one, e]
    refine ⟨⟨by omega, by omega⟩, em, ?_⟩
    rw [em]; exact omat_fresh _
  ·rw [if_neg hcn]
   simp only [hcn, decide_false] at hs
   rw [hl] at hc hs
   rw [e] at hc hs
   cases L with
   | nil =>
    rw [nlA]
    refine mcon_of_vc Tryz.mixed ⟨2, [], [307], []⟩ [6] [] Tryz.func307 (by decide) rfl rfl (by simp) (by simp) (by simp) (by decide) ?_
    rw [Tryz.ntmps307]
    simp [go_sem]
    refine CallVC.of (hc) (by decide) ?_
    simp [go_sem]
    refine CallVC.of (hs) (by decide) ?_
    simp [go_sem]
   | cons r L =>
    rw [nlA]
    refine mcon_of_vc Tryz.mixed ⟨2, [], [307], []⟩ [6] [] Tryz.func307 (by decide) rfl rfl (by simp) (by simp) (by simp) (by decide) ?_
    rw [Tryz.ntmps307]
    simp [go_sem]
    refine CallVC.of (hc) (by decide) ?_
    simp [go_sem]
    refine CallVC.of (hs) (by decide) ?_
    simp [go_sem]
 | k + 1, t, L, h, hk, hL => by
  have hp := h.1
  have hl := Lv_last h
  have tn : ¬ (t.length : Int) = n := by omega
  have tn2 : ¬ t.length = n := by omega
  have hO := l01Own_c t (by omega)
  have ht : t.length - 1 < t.length := by omega
  have ex : ((t.length : Int) - 1) = ((t.length - 1 : Nat) : Int) := by omega
  rw [grwL_succ]
  have glen := fun (i : Nat) (hi : i ≤ (t[t.length - 1]?.getD 0 + 1).toNat) => grwI_len k t L h (by omega) i hi
  have ih := fun (i : Nat) (hi : i < (t[t.length - 1]?.getD 0 + 1).toNat) (L1 : List (List Int)) (h1 : L1.length + 6 ^ k ≤ 1000000) => l03Grow_c n hn k (t ++ [t[t.length - 1]?.getD 0 + 1 - (i : Int)]) L1 (Lv_snoc h (by omega) (by omega)) (by simp; omega) h1
  generalize hm : t[t.length - 1]?.getD 0 = m at *
  have ib : ∀ i : Nat, i < (m + 1).toNat → (grwI k t (m + 1) L i).length + 6 ^ k ≤ 1000000 := fun i hi => by
   have := glen i (by omega)
   have h6 : (i + 1) * 6 ^ k ≤ 6 * 6 ^ k := Nat.mul_le_mul_right _ (by omega)
   rw [Nat.pow_succ] at hL
   rw [Nat.add_mul] at h6
   omega
  have Tr : ∀ (S : St), S 2 = nlA L → S 7 = .val (.int .i64 (m + 1)) → Trk S ([(2, nlA (grwI k t (m + 1) L 0)), (7, .int (m + 1 - (0 : Nat)))] : List (Nat × AV)) := fun S h2 h7 => by
   simp [go_sem, grwI, h2, h7]
  obtain ⟨LL, hLL⟩ : ∃ LL, LL = L := ⟨_, rfl⟩
  have hR : grwI k t (m + 1) L (m + 1).toNat = grwI k t (m + 1) LL (m + 1).toNat := by rw [hLL]
  rw [hR]
  rw [← hLL] at Tr ib
  clear hR
  cases L
  all_goals
   refine mcon_of_vc Tryz.mixed ⟨2, [], [307], []⟩ [6] [] Tryz.func307 (by decide) rfl rfl (by simp) (by simp) (by simp) (by decide) ?_
   rw [Tryz.ntmps307]
   simp [go_sem]
   simp [go_sem, tn, tn2, ex, avs_at ht, hm]
   refine ⟨by omega, ht, ⟨by omega, by omega⟩, ?_⟩
   refine loop_inv (2 :: 7 :: List.range' 29 12) (fun i : Nat => [(2, nlA (grwI k t (m + 1) LL i)), (7, .int (m + 1 - (i : Int)))]) (fun i => i ≤ (m + 1).toNat) (fun i => (m + 1).toNat - i) 0 (by simp) (Tr _ (by simp [go_sem, hLL]) (by simp [go_sem])) (by simp [go_sem, nlA_kl]) ?_
   intro i hi
   simp [go_sem]
   refine ⟨fun h => ?_, fun h => ?_⟩ <;> simp at h
   ·have him : i < (m + 1).toNat := by omega
    have i1 := ih i him _ (ib i him)
    have e1 := grwI_succ k t (m + 1) LL i
    generalize hL2 : grwI k t (m + 1) LL (i + 1) = L2 at *
    generalize grwI k t (m + 1) LL i = L1 at *
    rw [← e1] at i1
    simp only [List.length_append, List.length_singleton, avs_snoc] at i1
    cases L1 <;> cases L2
    all_goals
     simp [go_sem]
     refine CallVC.of (hO) (by decide) ?_
     simp [go_sem]
     refine ⟨⟨by omega, by omega⟩, ?_⟩
     refine ⟨_, _, i1, ?_⟩
     simp [go_sem]
     refine ⟨⟨by omega, by omega⟩, i + 1, by omega, by omega, Off_reset _ _ _ (by simp), ?_, nlA_kl _ _⟩
     rw [hL2]
     exact ⟨rfl, by omega⟩
   ·have e : i = (m + 1).toNat := by omega
    subst e
    generalize grwI k t (m + 1) LL (m + 1).toNat = L1 at *
    cases L1
    all_goals
     simp [go_sem]
end Go.Proofs.YtphccfabekdmnaaGreat


namespace Go.Proofs.YtphccfabekdmnaaGreat
abbrev Mx := Nat → Nat → Int
def sgd (i : Nat) : Int := if i % 2 = 0 then 1 else -1
theorem sgd_succ (i : Nat) : sgd (i + 1) = - sgd i := by
 unfold sgd
 by_cases h : i % 2 = 0
 ·rw [if_pos h, if_neg (by omega)]
 ·rw [if_neg h, if_pos (by omega)]; rfl
def dsum (f : Nat → Int) : Nat → Int
 | 0 => 0
 | n + 1 => dsum f n + f n
theorem dsum_congr {f g : Nat → Int} : ∀ {n : Nat}, (∀ i, i < n → f i = g i) → dsum f n = dsum g n
 | 0, _ => rfl
 | n + 1, h => by rw [dsum, dsum, dsum_congr (fun i hi => h i (by omega)), h n (by omega)]
theorem dsum_lin (f g : Nat → Int) (k : Int) : ∀ n : Nat, dsum (fun i => f i + k * g i) n = dsum f n + k * dsum g n
 | 0 => by simp [dsum]
 | n + 1 => by rw [dsum, dsum, dsum, dsum_lin f g k n, Int.mul_add]; omega
theorem dsum_zero {f : Nat → Int} : ∀ {n : Nat}, (∀ i, i < n → f i = 0) → dsum f n = 0
 | 0, _ => rfl
 | n + 1, h => by rw [dsum, dsum_zero (fun i hi => h i (by omega)), h n (by omega)]; rfl
theorem dsum_one {f : Nat → Int} {k : Nat} : ∀ {n : Nat}, k < n → (∀ i, i < n → i ≠ k → f i = 0) → dsum f n = f k
 | 0, h, _ => by omega
 | n + 1, h, hz => by
  rw [dsum]
  by_cases e : k = n
  ·subst e
   rw [dsum_zero (fun i hi => hz i (by omega) (by omega)), Int.zero_add]
  ·rw [dsum_one (n := n) (by omega) (fun i hi hne => hz i (by omega) hne), hz n (by omega) (by omega), Int.add_zero]
theorem dsum_two {f : Nat → Int} {k : Nat} : ∀ {n : Nat}, k + 1 < n → (∀ i, i < n → i ≠ k → i ≠ k + 1 → f i = 0) → dsum f n = f k + f (k + 1)
 | 0, h, _ => by omega
 | n + 1, h, hz => by
  rw [dsum]
  by_cases e : k + 1 = n
  ·subst e
   rw [dsum_one (k := k) (by omega) (fun i hi hne => hz i (by omega) hne (by omega))]
  ·rw [dsum_two (n := n) (by omega) (fun i hi h1 h2 => hz i (by omega) h1 h2), hz n (by omega) (by omega) (by omega), Int.add_zero]
def mnr (M : Mx) (i : Nat) : Mx := fun r c => M (if r < i then r else r + 1) (c + 1)
def det : Nat → Mx → Int
 | 0, _ => 1
 | n + 1, M => dsum (fun i => sgd i * M i 0 * det n (mnr M i)) (n + 1)
def updR (M : Mx) (i : Nat) (w : Nat → Int) : Mx := fun r => if r = i then w else M r
theorem updR_self (M : Mx) (i : Nat) : updR M i (M i) = M := funext fun r => by
 unfold updR; split
 ·rename_i h; rw [h]
 ·rfl
theorem updR_at (M : Mx) (i : Nat) (w : Nat → Int) : updR M i w i = w := by simp [updR]
theorem updR_ne (M : Mx) {i r : Nat} (w : Nat → Int) (h : r ≠ i) : updR M i w r = M r := by simp [updR, h]
theorem updR_comm (M : Mx) {i j : Nat} (h : i ≠ j) (v w : Nat → Int) : updR (updR M i v) j w = updR (updR M j w) i v := funext fun r => by
 unfold updR
 by_cases h1 : r = i
 ·subst h1; rw [if_neg h, if_pos rfl, if_pos rfl]
 ·rw [if_neg h1, if_neg h1]
theorem mnr_self (M : Mx) (i : Nat) (w : Nat → Int) : mnr (updR M i w) i = mnr M i := funext fun r => funext fun c => by
 unfold mnr updR
 rw [if_neg (by split <;> omega)]
theorem mnr_ne (M : Mx) {i j : Nat} (w : Nat → Int) (h : j ≠ i) : mnr (updR M i w) j = updR (mnr M j) (if i < j then i else i - 1) (fun c => w (c + 1)) := funext fun r => funext fun c => by
 unfold mnr updR
 by_cases h1 : (if r < j then r else r + 1) = i
 ·have h2 : r = if i < j then i else i - 1 := by
   split at h1 <;> split <;> omega
  rw [if_pos h1, if_pos h2]
 ·have h2 : ¬ r = if i < j then i else i - 1 := by
   split at h1 <;> split <;> omega
  rw [if_neg h1, if_neg h2]
theorem det_cong {p : Int} : ∀ {n : Nat} {M N : Mx}, (∀ r c, r < n → c < n → M r c % p = N r c % p) → det n M % p = det n N % p
 | 0, _, _, _ => rfl
 | n + 1, M, N, h => by
  rw [det, det]
  have gen : ∀ m : Nat, m ≤ n + 1 → dsum (fun i => sgd i * M i 0 * det n (mnr M i)) m % p = dsum (fun i => sgd i * N i 0 * det n (mnr N i)) m % p := by
   intro m
   induction m with
   | zero => intro _; rfl
   | succ m ih =>
    intro hm
    rw [dsum, dsum, Int.add_emod, ih (by omega), Int.add_emod (dsum (fun i => sgd i * N i 0 * det n (mnr N i)) m)]
    have e1 := h m 0 (by omega) (by omega)
    have e2 := det_cong (p := p) (n := n) (M := mnr M m) (N := mnr N m) (fun r c hr hc => h _ _ (by split <;> omega) (by omega))
    have e3 : (sgd m * M m 0 * det n (mnr M m)) % p = (sgd m * N m 0 * det n (mnr N m)) % p := by
     rw [Int.mul_emod, Int.mul_emod (sgd m), e1, e2, ← Int.mul_emod (sgd m), ← Int.mul_emod]
    rw [e3]
  exact gen _ (Nat.le_refl _)
theorem det_lin : ∀ {n : Nat} (M : Mx) {i : Nat} (u v : Nat → Int) (k : Int), i < n → det n (updR M i (fun c => u c + k * v c)) = det n (updR M i u) + k * det n (updR M i v)
 | 0, _, _, _, _, _, h => by omega
 | n + 1, M, i, u, v, k, h => by
  rw [det, det, det, ← dsum_lin]
  refine dsum_congr fun j hj => ?_
  by_cases e : j = i
  ·subst e
   simp only [mnr_self, updR_at]
   generalize det n (mnr M j) = d
   rw [Int.mul_add, Int.add_mul]
   congr 1
   ac_rfl
  ·simp only [mnr_ne M _ e, updR_ne M _ e]
   rw [det_lin (n := n) (mnr M j) (fun c => u (c + 1)) (fun c => v (c + 1)) k (by split <;> omega), Int.mul_add]
   congr 1
   ac_rfl
theorem det_adj : ∀ {n : Nat} (M : Mx) {i : Nat}, i + 1 < n → M i = M (i + 1) → det n M = 0
 | 0, _, _, h, _ => by omega
 | n + 1, M, i, h, he => by
  rw [det, dsum_two (k := i) h]
  ·have hm : mnr M (i + 1) = mnr M i := funext fun r => funext fun c => by
    unfold mnr
    by_cases h1 : r < i
    ·rw [if_pos (by omega), if_pos h1]
    ·by_cases h2 : r = i
     ·subst h2; rw [if_pos (by omega), if_neg (by omega), he]
     ·rw [if_neg (by omega), if_neg (by omega)]
   rw [hm, ← he, sgd_succ, Int.neg_mul, Int.neg_mul]
   omega
  ·intro j hj h1 h2
   have hz : det n (mnr M j) = 0 := by
    by_cases hlt : i < j
    ·refine det_adj (mnr M j) (i := i) (by omega) (funext fun c => ?_)
     unfold mnr
     rw [if_pos hlt, if_pos (by omega), he]
    ·obtain ⟨i', rfl⟩ : ∃ i', i = i' + 1 := ⟨i - 1, by omega⟩
     refine det_adj (mnr M j) (i := i') (by omega) (funext fun c => ?_)
     unfold mnr
     rw [if_neg (by omega), if_neg (by omega), he]
   rw [hz, Int.mul_zero]
theorem det_swap1 {n : Nat} (M : Mx) {i : Nat} (h : i + 1 < n) (u v : Nat → Int) : det n (updR (updR M i u) (i + 1) v) = - det n (updR (updR M i v) (i + 1) u) := by
 have hne : i ≠ i + 1 := by omega
 have z := fun w : Nat → Int => det_adj (n := n) (updR (updR M i w) (i + 1) w) h (by rw [updR_at, updR_ne _ _ hne, updR_at])
 have s := z (fun c => u c + 1 * v c)
 rw [det_lin _ u v 1 h, updR_comm _ hne, updR_comm _ hne, det_lin _ u v 1 (by omega), det_lin _ u v 1 (by omega)] at s
 have zu := z u
 have zv := z v
 rw [updR_comm _ hne] at zu zv
 rw [updR_comm _ hne, updR_comm (M) hne v u]
 omega
theorem det_eq : ∀ {n : Nat} (k : Nat) (M : Mx) {i : Nat}, i + k + 1 < n → M i = M (i + k + 1) → det n M = 0
 | n, 0, M, i, h, he => det_adj M h he
 | n, k + 1, M, i, h, he => by
  have hne : i + k + 1 ≠ i + (k + 1) + 1 := by omega
  have e0 : M = updR (updR M (i + k + 1) (M (i + k + 1))) (i + k + 1 + 1) (M (i + k + 1 + 1)) := by rw [updR_self, updR_self]
  rw [e0, det_swap1 M (i := i + k + 1) (by omega)]
  have := det_eq k (updR (updR M (i + k + 1) (M (i + k + 1 + 1))) (i + k + 1 + 1) (M (i + k + 1))) (i := i) (n := n) (by omega) (by
   rw [updR_ne _ _ (show i ≠ i + k + 1 + 1 by omega), updR_ne _ _ (show i ≠ i + k + 1 by omega), updR_ne _ _ (show i + k + 1 ≠ i + k + 1 + 1 by omega), updR_at]
   exact he)
  rw [this]; rfl
theorem det_same {n : Nat} (M : Mx) {i j : Nat} (hi : i < n) (hj : j < n) (hne : i ≠ j) (he : M i = M j) : det n M = 0 := by
 by_cases h : i < j
 ·have e : j = i + (j - i - 1) + 1 := by omega
  rw [e] at he
  exact det_eq (j - i - 1) M (by omega) he
 ·have e : i = j + (i - j - 1) + 1 := by omega
  rw [e] at he
  exact det_eq (i - j - 1) M (by omega) he.symm
theorem det_nil {n : Nat} (M : Mx) {i : Nat} (hi : i < n) (hz : ∀ c, M i c = 0) : det n M = 0 := by
 have := det_lin M (M i) (M i) 1 hi
 have e : (fun c => M i c + 1 * M i c) = M i := funext fun c => by rw [hz c]; rfl
 rw [e, updR_self] at this
 omega
theorem det_swap {n : Nat} (M : Mx) {i j : Nat} (hi : i < n) (hj : j < n) (hne : i ≠ j) (u v : Nat → Int) : det n (updR (updR M i u) j v) = - det n (updR (updR M i v) j u) := by
 have z := fun w : Nat → Int => det_same (n := n) (updR (updR M i w) j w) hi hj hne (by rw [updR_at, updR_ne _ _ hne, updR_at])
 have s := z (fun c => u c + 1 * v c)
 rw [det_lin _ u v 1 hj, updR_comm _ hne, updR_comm _ hne, det_lin _ u v 1 hi, det_lin _ u v 1 hi] at s
 have zu := z u
 have zv := z v
 rw [updR_comm _ hne] at zu zv
 rw [updR_comm _ hne, updR_comm (M) hne v u]
 omega
def idM : Mx := fun r c => if r = c then 1 else 0
theorem mnr_id : mnr idM 0 = idM := funext fun r => funext fun c => by simp [mnr, idM]
theorem det_one : ∀ n : Nat, det n idM = 1
 | 0 => rfl
 | n + 1 => by
  rw [det, dsum_one (k := 0) (by omega) (fun i hi hne => by simp [idM, hne]), mnr_id, det_one n]
  simp [sgd, idM]
def updC (M : Mx) (k : Nat) (b : Nat → Int) : Mx := fun r c => if c = k then b r else M r c
theorem det_col : ∀ {n k : Nat} (b : Nat → Int), k < n → det n (updC idM k b) = b k
 | 0, _, _, h => by omega
 | n + 1, 0, b, _ => by
  rw [det, dsum_one (k := 0) (by omega)]
  ·have e : mnr (updC idM 0 b) 0 = idM := funext fun r => funext fun c => by simp [mnr, updC, idM]
   rw [e, det_one]
   simp [sgd, updC]
  ·intro i hi hne
   rw [det_nil (mnr (updC idM 0 b) i) (i := 0) (by omega) (fun c => by
    have : (0 : Nat) < i := by omega
    simp [mnr, updC, idM, this]), Int.mul_zero]
 | n + 1, k + 1, b, h => by
  rw [det, dsum_one (k := 0) (by omega)]
  ·have e : mnr (updC idM (k + 1) b) 0 = updC idM k (fun r => b (r + 1)) := funext fun r => funext fun c => by simp [mnr, updC, idM]
   rw [e, det_col _ (by omega)]
   simp [sgd, updC, idM]
  ·intro i hi hne
   have : updC idM (k + 1) b i 0 = 0 := by simp [updC, idM, hne]
   rw [this]; simp
end Go.Proofs.YtphccfabekdmnaaGreat


namespace Go.Proofs.YtphccfabekdmnaaGreat
theorem dsum_shift (f : Nat → Int) : ∀ n, dsum f (n + 1) = f 0 + dsum (fun i => f (i + 1)) n
 | 0 => by simp [dsum]
 | n + 1 => by rw [dsum, dsum_shift f n, dsum]; omega
theorem dsum_mul (k : Int) (f : Nat → Int) : ∀ n, k * dsum f n = dsum (fun i => k * f i) n
 | 0 => by simp [dsum]
 | n + 1 => by rw [dsum, dsum, Int.mul_add, dsum_mul k f n]
theorem dsum_plus (f g : Nat → Int) : ∀ n, dsum (fun i => f i + g i) n = dsum f n + dsum g n
 | 0 => by simp [dsum]
 | n + 1 => by rw [dsum, dsum, dsum, dsum_plus f g n]; omega
end Go.Proofs.YtphccfabekdmnaaGreat


namespace Go.Proofs.YtphccfabekdmnaaGreat
open Go.Abs CR
section
variable {α : Type}
def mnR (M : Nat → Nat → α) (i : Nat) : Nat → Nat → α := fun r c => M (if r < i then r else r + 1) (c + 1)
end
section
variable {α : Type} [CR α]
def dR (f : Nat → α) : Nat → α
 | 0 => ofI 0
 | n + 1 => dR f n + f n
def dtR : Nat → (Nat → Nat → α) → α
 | 0, _ => ofI 1
 | n + 1, M => dR (fun i => ofI (sgd i) * M i 0 * dtR n (mnR M i)) (n + 1)
end
end Go.Proofs.YtphccfabekdmnaaGreat


namespace Go.Proofs.YtphccfabekdmnaaGreat
open Go.Abs CR
section
variable {α : Type} [CR α]
end
end Go.Proofs.YtphccfabekdmnaaGreat


namespace Go.Proofs.YtphccfabekdmnaaGreat
open Go.Abs CR
section
variable {α : Type} [CR α]
end
end Go.Proofs.YtphccfabekdmnaaGreat


namespace Go.Proofs.YtphccfabekdmnaaGreat
open Go.Abs CR
theorem cmul_nil (b : Ser Int) : ∀ (k : Nat) (a : Ser Int), (∀ i, a i = 0) → cmul k a b = 0
 | 0, a, h => by show a 0 * b 0 = 0; rw [h 0, Int.zero_mul]
 | k + 1, a, h => by
  show a 0 * b (k + 1) + cmul k (sh a) b = 0
  rw [h 0, cmul_nil b k (sh a) (fun i => h (i + 1)), Int.zero_mul]; rfl
theorem cmul_lin {a : Ser Int} (h : ∀ i, a (i + 2) = 0) (b : Ser Int) (k : Nat) : cmul (k + 1) a b = a 0 * b (k + 1) + a 1 * b k := by
 show a 0 * b (k + 1) + cmul k (sh a) b = _
 congr 1
 cases k with
 | zero => rfl
 | succ k =>
  show sh a 0 * b (k + 1) + cmul k (sh (sh a)) b = _
  rw [cmul_nil b k (sh (sh a)) (fun i => h i), Int.add_zero]; rfl
def Ev (z : Int) (d : Nat) (f : Ser Int) (v : Int) : Prop := (∀ k, d < k → f k = 0) ∧ dsum (fun k => f k * z ^ k) (d + 1) = v
theorem Ev.zero (z : Int) (d : Nat) : Ev z d (ofI 0) 0 := by
 have h0 : ∀ k, (ofI 0 : Ser Int) k = 0 := fun k => by cases k <;> rfl
 exact ⟨fun k _ => h0 k, dsum_zero fun k _ => by rw [h0, Int.zero_mul]⟩
theorem Ev.add {z : Int} {d : Nat} {f g : Ser Int} {v w : Int} (h : Ev z d f v) (k : Ev z d g w) : Ev z d (f + g) (v + w) := by
 refine ⟨fun i hi => by rw [ser_add, h.1 i hi, k.1 i hi]; rfl, ?_⟩
 rw [← h.2, ← k.2, ← dsum_plus]
 exact dsum_congr fun i hi => by rw [ser_add, Int.add_mul]
theorem Ev.lin {z : Int} {d : Nat} {f g : Ser Int} {w : Int} (hf : ∀ i, f (i + 2) = 0) (k : Ev z d g w) : Ev z (d + 1) (f * g) ((f 0 + f 1 * z) * w) := by
 have at1 : ∀ i, (f * g) (i + 1) = f 0 * g (i + 1) + f 1 * g i := fun i => cmul_lin hf g i
 have at0 : (f * g) 0 = f 0 * g 0 := rfl
 refine ⟨fun i hi => ?_, ?_⟩
 ·obtain ⟨j, rfl⟩ : ∃ j, i = j + 1 := ⟨i - 1, by omega⟩
  rw [at1, k.1 (j + 1) (by omega), k.1 j (by omega)]; omega
 ·have e1 : dsum (fun i => (f * g) (i + 1) * z ^ (i + 1)) (d + 1) = dsum (fun i => f 0 * (g (i + 1) * z ^ (i + 1)) + (f 1 * z) * (g i * z ^ i)) (d + 1) :=
   dsum_congr fun i hi => by
    rw [at1, Int.add_mul, Int.pow_succ]
    congr 1
    ·rw [Int.mul_assoc]
    ·rw [Int.mul_assoc, Int.mul_assoc]
     congr 1
     rw [← Int.mul_assoc, Int.mul_comm]
  have e2 : dsum (fun i => g i * z ^ i) (d + 1 + 1) = w := by
   show dsum (fun i => g i * z ^ i) (d + 1) + g (d + 1) * z ^ (d + 1) = w
   rw [k.2, k.1 (d + 1) (by omega), Int.zero_mul, Int.add_zero]
  rw [dsum_shift] at e2
  rw [dsum_shift, e1, dsum_lin, at0, ← dsum_mul, k.2, Int.add_mul]
  have e3 : f 0 * w = f 0 * (g 0 * z ^ 0) + f 0 * dsum (fun i => g (i + 1) * z ^ (i + 1)) (d + 1) := by rw [← Int.mul_add, e2]
  rw [e3, Int.mul_assoc (f 0) (g 0), Int.add_assoc]
theorem Ev.dR {z : Int} {d : Nat} {f : Nat → Ser Int} {v : Nat → Int} : ∀ {n : Nat}, (∀ i, i < n → Ev z d (f i) (v i)) → Ev z d (dR f n) (dsum v n)
 | 0, _ => Ev.zero z d
 | n + 1, h => Ev.add (Ev.dR (n := n) (fun i hi => h i (by omega))) (h n (by omega))
theorem Ev.det {z : Int} : ∀ (n : Nat) (A : Nat → Nat → Ser Int), (∀ r c i, A r c (i + 2) = 0) → Ev z n (dtR n A) (det n (fun r c => A r c 0 + A r c 1 * z))
 | 0, A, _ => by
  refine ⟨fun k hk => ?_, ?_⟩
  ·obtain ⟨j, rfl⟩ : ∃ j, k = j + 1 := ⟨k - 1, by omega⟩
   rfl
  ·show (0 : Int) + 1 * z ^ 0 = 1
   rw [Int.pow_zero]; rfl
 | n + 1, A, h => by
  rw [dtR, Go.Proofs.YtphccfabekdmnaaGreat.det]
  refine Ev.dR fun i hi => ?_
  have q := Ev.lin (f := ofI (sgd i) * A i 0) (fun t => by
   show cmul (t + 2) (sOf (sgd i)) (A i 0) = 0
   rw [cmul_comm, cmul_of, h, Int.zero_mul]) (Ev.det (z := z) n (mnR A i) (fun r c t => h _ _ _))
  have e : ∀ t, (ofI (sgd i) * A i 0) t = sgd i * A i 0 t := fun t => by
   show cmul t (sOf (sgd i)) (A i 0) = _
   rw [cmul_comm, cmul_of]; exact Int.mul_comm _ _
  rw [e, e, Int.mul_assoc, ← Int.mul_add] at q
  exact q
end Go.Proofs.YtphccfabekdmnaaGreat


namespace Go.Proofs.YtphccfabekdmnaaGreat
open Go.Abs CR
section
variable {α : Type} [CR α]
end
def serEq (a b : Ser Int) : Prop := ∀ k, a k % 10007 = b k % 10007
theorem mod_mulc {a b c d : Int} (h : a % 10007 = b % 10007) (k : c % 10007 = d % 10007) : (a * c) % 10007 = (b * d) % 10007 := by
 rw [Int.mul_emod, h, k, ← Int.mul_emod]
theorem mod_addc {a b c d : Int} (h : a % 10007 = b % 10007) (k : c % 10007 = d % 10007) : (a + c) % 10007 = (b + d) % 10007 := by
 rw [Int.add_emod, h, k, ← Int.add_emod]
theorem cmul_mod (n : Nat) : ∀ {a b c d : Ser Int}, (∀ i, i ≤ n → a i % 10007 = b i % 10007) → (∀ i, i ≤ n → c i % 10007 = d i % 10007) → cmul n a c % 10007 = cmul n b d % 10007 := by
 induction n with
 | zero => intro a b c d h k; exact mod_mulc (h 0 (Nat.le_refl _)) (k 0 (Nat.le_refl _))
 | succ n ih =>
  intro a b c d h k
  rw [cmul, cmul]
  exact mod_addc (mod_mulc (h 0 (by omega)) (k (n + 1) (by omega))) (ih (fun i hi => h (i + 1) (by omega)) (fun i hi => k i (by omega)))
end Go.Proofs.YtphccfabekdmnaaGreat


namespace Go.Proofs.YtphccfabekdmnaaGreat
def sel (W : Mx) (g : Nat → Nat) : Mx := fun r c => W r (g c)
theorem sel_upd (W : Mx) (i : Nat) (w : Nat → Int) (g : Nat → Nat) : sel (updR W i w) g = updR (sel W g) i (fun c => w (g c)) := funext fun r => funext fun c => by
 unfold sel updR; split <;> rfl
def RowEq (n w : Nat) (W W' : Mx) : Prop := ∃ s t : Int, s * t % 10007 = 1 ∧ ∀ g : Nat → Nat, (∀ c, c < n → g c < w) → det n (sel W g) * s % 10007 = det n (sel W' g) % 10007
theorem RowEq.refl (n w : Nat) (W : Mx) : RowEq n w W W := ⟨1, 1, rfl, fun g hg => by rw [Int.mul_one]⟩
theorem mul_mod_l (a b : Int) : a % 10007 * b % 10007 = a * b % 10007 := by rw [Int.mul_emod, Int.emod_emod_of_dvd _ (Int.dvd_refl _), ← Int.mul_emod]
theorem RowEq.trans {n w : Nat} {W X Y : Mx} (h : RowEq n w W X) (k : RowEq n w X Y) : RowEq n w W Y := by
 obtain ⟨s, t, h1, h2⟩ := h
 obtain ⟨s', t', k1, k2⟩ := k
 refine ⟨s * s', t * t', ?_, fun g hg => ?_⟩
 ·have e : s * s' * (t * t') = (s * t) * (s' * t') := by ac_rfl
  rw [e, Int.mul_emod, h1, k1]; rfl
 ·rw [← k2 g hg, ← Int.mul_assoc, ← mul_mod_l, h2 g hg, mul_mod_l]
theorem RowEq.swap {n w : Nat} (W : Mx) {i j : Nat} (hi : i < n) (hj : j < n) (hne : i ≠ j) : RowEq n w W (updR (updR W i (W j)) j (W i)) :=
 ⟨-1, -1, rfl, fun g hg => by
  rw [sel_upd, sel_upd]
  have e : sel W g = updR (updR (sel W g) i (fun c => W i (g c))) j (fun c => W j (g c)) := by
   have e1 : (fun c => W i (g c)) = sel W g i := rfl
   have e2 : (fun c => W j (g c)) = sel W g j := rfl
   rw [e1, e2, updR_self, updR_self]
  have h := det_swap (sel W g) hi hj hne (fun c => W j (g c)) (fun c => W i (g c))
  rw [h, ← e]
  congr 1
  omega⟩
theorem RowEq.full {n : Nat} {W W' : Mx} (h : RowEq n (n + 1) W W') (hid : ∀ r c, r < n → c < n → W' r c % 10007 = idM r c % 10007) :
  ∃ s : Int, det n W * s % 10007 = 1 ∧ ∀ k, k < n → W' k n % 10007 = det n (updC W k (fun r => W r n)) * s % 10007 := by
 obtain ⟨s, t, h1, h2⟩ := h
 refine ⟨s, ?_, fun k hk => ?_⟩
 ·have := h2 id (fun c hc => by show c < n + 1; omega)
  have e : ∀ X : Mx, sel X id = X := fun X => rfl
  rw [e, e, det_cong (p := 10007) (N := idM) hid, det_one] at this
  exact this
 ·have := h2 (fun c => if c = k then n else c) (fun c hc => by show (if c = k then n else c) < n + 1; split <;> omega)
  have e : sel W (fun c => if c = k then n else c) = updC W k (fun r => W r n) := funext fun r => funext fun c => by
   by_cases hc : c = k
   ·simp [sel, updC, hc]
   ·simp [sel, updC, hc]
  rw [e] at this
  rw [this, det_cong (p := 10007) (N := updC idM k (fun r => W' r n)), det_col _ hk]
  intro r c hr hc
  by_cases hck : c = k
  ·simp [sel, updC, hck]
  ·simp [sel, updC, hck]; exact hid r c hr hc
end Go.Proofs.YtphccfabekdmnaaGreat


namespace Go.Proofs.YtphccfabekdmnaaGreat
open Go.Abs
def mx (m : List (List Int)) : Mx := fun r c => (m[r]?.getD [])[c]?.getD 0
def Rws (w : Nat) (m : List (List Int)) : Prop := ∀ r ∈ m, r.length = w ∧ Ns r
theorem Rws.at {w : Nat} {m : List (List Int)} (h : Rws w m) {i : Nat} (hi : i < m.length) : (m[i]?.getD []).length = w ∧ Ns (m[i]?.getD []) := h _ (by simp [hi])
theorem Rws.set {w : Nat} {m : List (List Int)} (h : Rws w m) {i : Nat} {r : List Int} (hr : r.length = w ∧ Ns r) : Rws w (m.set i r) := fun x hx => by
 rcases List.mem_or_eq_of_mem_set hx with hx | rfl
 ·exact h x hx
 ·exact hr
end Go.Proofs.YtphccfabekdmnaaGreat


namespace Go.Proofs.YtphccfabekdmnaaGreat
open Go.Abs
theorem pw_N (a k : Int) : isN (pw a k) := isN_mod _
end Go.Proofs.YtphccfabekdmnaaGreat


namespace Go.Proofs.YtphccfabekdmnaaGreat
def fp : Nat → Nat → Nat → Nat
 | 0, _, _ => 1
 | f + 1, a, n => Nat.rec (1 % 10007) (fun _ _ => Nat.rec (fp f (Nat.mod (Nat.mul a a) 10007) (Nat.div n 2)) (fun _ _ => Nat.mod (Nat.mul a (fp f (Nat.mod (Nat.mul a a) 10007) (Nat.div n 2))) 10007) (Nat.mod n 2)) n
theorem fp_eq : ∀ (f a n : Nat), n < 2 ^ f → fp f a n = a ^ n % 10007
 | 0, a, n, h => by
  have : n = 0 := by simp at h; exact h
  subst this; rfl
 | f + 1, a, 0, _ => by show 1 % 10007 = a ^ 0 % 10007; rw [Nat.pow_zero]
 | f + 1, a, n + 1, h => by
  have hh : (n + 1) / 2 < 2 ^ f := by rw [Nat.pow_succ] at h; omega
  have ih := fp_eq f (a * a % 10007) ((n + 1) / 2) hh
  have sq : (a * a % 10007) ^ ((n + 1) / 2) % 10007 = a ^ (2 * ((n + 1) / 2)) % 10007 := by
   rw [← Nat.pow_mod, Nat.pow_mul, Nat.pow_two]
  rw [sq] at ih
  have e0 : fp (f + 1) a (n + 1) = Nat.rec (fp f (a * a % 10007) ((n + 1) / 2)) (fun _ _ => a * fp f (a * a % 10007) ((n + 1) / 2) % 10007) ((n + 1) % 2) := rfl
  rw [e0, ih]
  rcases Nat.mod_two_eq_zero_or_one (n + 1) with h2 | h2
  ·rw [h2]
   show a ^ (2 * ((n + 1) / 2)) % 10007 = a ^ (n + 1) % 10007
   rw [show 2 * ((n + 1) / 2) = n + 1 by omega]
  ·rw [h2]
   show a * (a ^ (2 * ((n + 1) / 2)) % 10007) % 10007 = a ^ (n + 1) % 10007
   rw [show n + 1 = 2 * ((n + 1) / 2) + 1 by omega, Nat.pow_succ, Nat.mul_mod, Nat.mod_mod, ← Nat.mul_mod, Nat.mul_comm]
   rw [show (2 * ((n + 1) / 2) + 1) / 2 = (n + 1) / 2 by omega]
theorem fp_pow (n e : Nat) (he : e < 2 ^ 15) : ((fp 15 n e : Nat) : Int) = pw (n : Int) (e : Int) := by
 rw [fp_eq 15 n e he]
 unfold pw
 rw [Int.toNat_natCast, Int.natCast_emod, Int.natCast_pow]; rfl
theorem fp_pw (n : Nat) : ((fp 15 n 10005 : Nat) : Int) = pw (n : Int) 10005 := fp_pow n 10005 (by decide)
end Go.Proofs.YtphccfabekdmnaaGreat


namespace Go.Proofs.YtphccfabekdmnaaGreat
open Go.Abs
structure GI (n w : Nat) (W0 : Mx) (m : List (List Int)) (done k : Nat) : Prop where
 len : m.length = n
 rws : Rws w m
 eqv : RowEq n w W0 (mx m)
 dle : done ≤ n
 piv : ∃ piv : Nat → Nat, (∀ j, j < done → piv j < k ∧ ∀ r, r < n → mx m r (piv j) = if r = j then 1 else 0) ∧ (∀ j, j + 1 < done → piv j < piv (j + 1)) ∧ (∀ j, j < done → ∀ c, c < piv j → mx m j c = 0)
 low : ∀ r, done ≤ r → r < n → ∀ c, c < k → mx m r c = 0
theorem GI.skip {n w : Nat} {W0 : Mx} {m : List (List Int)} {done k : Nat} (h : GI n w W0 m done k) (hz : ∀ r, done ≤ r → r < n → mx m r k = 0) : GI n w W0 m done (k + 1) := by
 obtain ⟨h1, h2, h3, h4, ⟨p, p1, p2, p3⟩, h6⟩ := h
 refine ⟨h1, h2, h3, h4, ⟨p, fun j hj => ⟨by have := (p1 j hj).1; omega, (p1 j hj).2⟩, p2, p3⟩, fun r hr hn c hc => ?_⟩
 by_cases e : c = k
 ·subst e; exact hz r hr hn
 ·exact h6 r hr hn c (by omega)
end Go.Proofs.YtphccfabekdmnaaGreat


namespace Go.Proofs.YtphccfabekdmnaaGreat
open Go.Abs
def ldF (r : List Int) : Nat → Nat → Nat
 | 0, i => i
 | f + 1, i => if r[i]?.getD 0 = 0 then ldF r f (i + 1) else i
theorem ldF_le (r : List Int) : ∀ f i, i ≤ ldF r f i ∧ ldF r f i ≤ i + f
 | 0, i => by simp [ldF]
 | f + 1, i => by
  rw [ldF]
  split
  ·have := ldF_le r f (i + 1); omega
  ·omega
theorem ldF_zero (r : List Int) : ∀ f i j, i ≤ j → j < ldF r f i → r[j]?.getD 0 = 0
 | 0, i, j, h1, h2 => by rw [ldF] at h2; omega
 | f + 1, i, j, h1, h2 => by
  rw [ldF] at h2
  split at h2
  ·rename_i h
   by_cases e : j = i
   ·subst e; exact h
   ·exact ldF_zero r f (i + 1) j (by omega) h2
  ·omega
theorem ldF_ne (r : List Int) : ∀ f i, ldF r f i < i + f → r[ldF r f i]?.getD 0 ≠ 0
 | 0, i, h => by rw [ldF] at h; omega
 | f + 1, i, h => by
  rw [ldF] at h ⊢
  split
  ·rename_i hz
   rw [if_pos hz] at h
   exact ldF_ne r f (i + 1) (by omega)
  ·rename_i hz; exact hz
def leadL (r : List Int) : Nat := ldF r r.length 0
def oneB (n : Nat) (m : List (List Int)) (done : Nat) : Bool := decide (done = n) && decide (leadL (m[n - 1]?.getD []) = n - 1)
theorem piv_ge {p : Nat → Nat} {n : Nat} (h : ∀ j, j + 1 < n → p j < p (j + 1)) : ∀ j, j < n → j ≤ p j
 | 0, _ => by omega
 | j + 1, hj => by have := piv_ge h j (by omega); have := h j hj; omega
theorem piv_le {p : Nat → Nat} {n : Nat} (h : ∀ j, j + 1 < n → p j < p (j + 1)) : ∀ t j, j + t + 1 = n → p j + t ≤ p (n - 1)
 | 0, j, hj => by rw [show n - 1 = j by omega]; omega
 | t + 1, j, hj => by have := piv_le h t (j + 1) (by omega); have := h j (by omega); omega
theorem GI.one {n : Nat} {W0 : Mx} {m : List (List Int)} {done k : Nat} (h : GI n (n + 1) W0 m done k) (hn : 0 < n) (hk : k ≤ n + 1) (ho : oneB n m done = true) : ∀ r c, r < n → c < n → mx m r c = idM r c := by
 unfold oneB at ho
 simp only [Bool.and_eq_true, decide_eq_true_eq] at ho
 obtain ⟨hd, hl⟩ := ho
 subst hd
 obtain ⟨p, p1, p2, p3⟩ := h.piv
 have rl := (h.rws.at (i := done - 1) (by rw [h.len]; omega)).1
 have hne := ldF_ne (m[done - 1]?.getD []) (m[done - 1]?.getD []).length 0 (by
  have : ldF (m[done - 1]?.getD []) (m[done - 1]?.getD []).length 0 = done - 1 := hl
  omega)
 have hl2 : ldF (m[done - 1]?.getD []) (m[done - 1]?.getD []).length 0 = done - 1 := hl
 rw [hl2] at hne
 have hp : p (done - 1) ≤ done - 1 := by
  rcases Nat.lt_or_ge (done - 1) (p (done - 1)) with hlt | hge
  ·exact (hne (p3 (done - 1) (by omega) (done - 1) hlt)).elim
  ·exact hge
 intro r c hr hc
 have g1 := piv_ge p2 c hc
 have g2 := piv_le p2 (done - 1 - c) c (by omega)
 have e : p c = c := by omega
 have := (p1 c hc).2 r hr
 rw [e] at this
 exact this
theorem GI.none {n : Nat} {W0 : Mx} {m : List (List Int)} {done k : Nat} (h : GI n (n + 1) W0 m done k) (hn : 0 < n) (hk : k ≤ n + 1) (hf : k = n + 1 ∨ done = n) (ho : oneB n m done = false) : ∃ i, i < n ∧ ∀ c, c < n → mx m i c = 0 := by
 refine ⟨n - 1, by omega, fun c hc => ?_⟩
 have hdl := h.dle
 by_cases hd : done = n
 ·subst hd
  obtain ⟨p, p1, p2, p3⟩ := h.piv
  have rl := (h.rws.at (i := done - 1) (by rw [h.len]; omega)).1
  have g1 := piv_ge p2 (done - 1) (by omega)
  have q := p1 (done - 1) (by omega)
  by_cases e : p (done - 1) = done - 1
  ·have e1 : mx m (done - 1) (done - 1) = 1 := by
    have := q.2 (done - 1) (by omega)
    rw [e, if_pos rfl] at this
    exact this
   have l1 := ldF_le (m[done - 1]?.getD []) (m[done - 1]?.getD []).length 0
   have hl : leadL (m[done - 1]?.getD []) = done - 1 := by
    unfold leadL
    rcases Nat.lt_trichotomy (ldF (m[done - 1]?.getD []) (m[done - 1]?.getD []).length 0) (done - 1) with hlt | heq | hgt
    ·have := ldF_ne (m[done - 1]?.getD []) (m[done - 1]?.getD []).length 0 (by omega)
     exact (this (p3 (done - 1) (by omega) _ (by omega))).elim
    ·exact heq
    ·have := ldF_zero (m[done - 1]?.getD []) (m[done - 1]?.getD []).length 0 (done - 1) (by omega) hgt
     have e2 : mx m (done - 1) (done - 1) = 0 := this
     rw [e1] at e2; omega
   unfold oneB at ho
   rw [hl] at ho
   simp at ho
  ·exact p3 (done - 1) (by omega) c (by omega)
 ·exact h.low (n - 1) (by omega) (by omega) c (by omega)
end Go.Proofs.YtphccfabekdmnaaGreat


namespace Go.Proofs.YtphccfabekdmnaaGreat
open Go.Abs
end Go.Proofs.YtphccfabekdmnaaGreat


namespace Go.Proofs.YtphccfabekdmnaaGreat
open Go.Abs
end Go.Proofs.YtphccfabekdmnaaGreat


namespace Go.Proofs.YtphccfabekdmnaaGreat
open Go.Abs
end Go.Proofs.YtphccfabekdmnaaGreat


namespace Go.Proofs.YtphccfabekdmnaaGreat
open Go.Abs
end Go.Proofs.YtphccfabekdmnaaGreat


namespace Go.Proofs.YtphccfabekdmnaaGreat
open Go.Abs
end Go.Proofs.YtphccfabekdmnaaGreat


namespace Go.Proofs.YtphccfabekdmnaaGreat
open Go.Abs
end Go.Proofs.YtphccfabekdmnaaGreat


namespace Go.Proofs.YtphccfabekdmnaaGreat
open Go.Abs
end Go.Proofs.YtphccfabekdmnaaGreat


namespace Go.Proofs.YtphccfabekdmnaaGreat
open Go.Abs
end Go.Proofs.YtphccfabekdmnaaGreat


namespace Go.Proofs.YtphccfabekdmnaaGreat
open Go.Abs
end Go.Proofs.YtphccfabekdmnaaGreat


namespace Go.Proofs.YtphccfabekdmnaaGreat
open Go.Abs
end Go.Proofs.YtphccfabekdmnaaGreat


namespace Go.Proofs.YtphccfabekdmnaaGreat
open Go.Abs
end Go.Proofs.YtphccfabekdmnaaGreat


namespace Go.Proofs.YtphccfabekdmnaaGreat
open Go.Abs
theorem Tab.rws {A : List (List Int)} {B : List Int} (h : Tab A B) : Rws B.length A := h.a
end Go.Proofs.YtphccfabekdmnaaGreat


namespace Go.Proofs.YtphccfabekdmnaaGreat
open Go.Abs CR
end Go.Proofs.YtphccfabekdmnaaGreat


namespace Go.Proofs.YtphccfabekdmnaaGreat
open Go.Abs CR
structure Adj (A : List (List Int)) (B : List Int) (A' : List (List Int)) (B' : List Int) : Prop where
 tab : Tab A' B'
 len : B'.length = B.length
 a : ∀ r c, r < B.length → c < B.length → mx A' r c % 10007 = (B[B.length - 1 - c]?.getD 0 - mx A (B.length - 1 - r) (B.length - 1 - c)) % 10007
 b : ∀ r, r < B.length → B'[r]?.getD 0 % 10007 = B[B.length - 1 - r]?.getD 0 % 10007
theorem serEq.mul {a b c d : Ser Int} (h : serEq a b) (k : serEq c d) : serEq (a * c) (b * d) := fun i => cmul_mod i (fun j _ => h j) (fun j _ => k j)
end Go.Proofs.YtphccfabekdmnaaGreat


namespace Go.Proofs.YtphccfabekdmnaaGreat
open Go.Abs
def denF : Nat → List Int → Int
 | 0, _ => 0
 | n + 1, t => (brs t).foldl (fun o b => o * denF n b) t.length
def denK (n : Nat) (t : List Int) (j : Nat) : Int := ((brs t).take j).foldl (fun o b => o * denF n b) t.length
def denOk : Nat → List Int → Bool
 | 0, _ => false
 | n + 1, t => (brs t).all (denOk n) && (List.range ((brs t).length + 1)).all fun j => decide (0 ≤ denK n t j ∧ denK n t j ≤ 1000000)
theorem denK_succ (n : Nat) {t : List Int} {j : Nat} (h : j < (brs t).length) : denK n t (j + 1) = denK n t j * denF n ((brs t)[j]?.getD []) := by
 unfold denK
 rw [List.take_add_one, List.foldl_append]
 simp [h]
theorem density_c : ∀ (n : Nat) (t : List Int), Lv t → t.length ≤ 1048576 → denOk n t = true → Con Tryz.prog 195 [.sl t.length (avs t)] (.int (denF n t))
 | 0, t, hL, hl, hd => by simp [denOk] at hd
 | n + 1, t, hL, hl, hd => by
  have cL := length_c t.length (avs t) (by omega)
  have cB := branchesOf_c t hl hL
  rw [denOk, Bool.and_eq_true] at hd
  obtain ⟨hd1, hd2⟩ := hd
  have ih := fun b (hb : b ∈ brs t) => density_c n b (brs_ok hL hb).1 (by have := (brs_ok hL hb).2; omega) (List.all_eq_true.1 hd1 b hb)
  have bd : ∀ j, j ≤ (brs t).length → 0 ≤ denK n t j ∧ denK n t j ≤ 1000000 := fun j hj => by
   have := List.all_eq_true.1 hd2 j (by simp; omega)
   simpa using this
  have hs := fun j (h : j < (brs t).length) => denK_succ n h
  have k0 : denK n t 0 = t.length := by simp [denK]
  have ke : denK n t (brs t).length = denF (n + 1) t := by rw [denK, List.take_length, denF]
  have hcnt : (brs t).length < t.length := brs_cnt hL
  rw [← ke]
  generalize denK n t = K at *
  generalize brs t = L at *
  refine con_of_vc Tryz.mixed ⟨6, [], [], []⟩ Tryz.func195 (by decide) rfl (by simp) (by decide) (by simp [freshOK, freshL, go_sem]) ?_
  rw [Tryz.ntmps195]
  simp [go_sem]
  refine CallVC.of (cL) (by decide) ?_
  simp [go_sem]
  refine CallVC.of (cB) (by decide) ?_
  simp [go_sem]
  refine loop_inv ([3, 5] ++ List.range' 11 9) (fun i : Nat => [(3, .int (K i)), (11, .int i)]) (fun i => i ≤ L.length) (fun i => L.length - i) 0 (by simp) (by simp [go_sem, k0]) (by simp [go_sem]) ?_
  intro i hi
  by_cases hiL : i < L.length
  ·have hii : (i : Int) < L.length := by omega
   have hb : L[i]?.getD [] ∈ L := by simp [hiL]
   have cD := ih _ hb
   have hg := omat_get hiL
   have b0 := bd i hi
   have b1 := bd (i + 1) hiL
   have h1 := hs i hiL
   generalize denF n (L[i]?.getD []) = d at *
   generalize hk1 : K (i + 1) = k1 at *
   generalize K i = k at *
   simp [go_sem, hii, hg]
   refine CallVC.of (cD) (by decide) ?_
   simp [go_sem]
   rw [← h1]
   exact ⟨⟨by omega, by omega⟩, ⟨by omega, by omega⟩, i + 1, by omega, by omega, Off_reset _ _ _ (by simp), hk1.symm, by omega⟩
  ·have e : i = L.length := by omega
   subst e
   have hii : ¬ (L.length : Int) < L.length := by omega
   simp [go_sem, hii]
def trN (k : Nat) : List (List Int) := (List.range k).flatMap fun i => genT 200 (upTo (i + 1))
theorem trN_succ (k : Nat) : trN (k + 1) = trN k ++ genT 200 (upTo (k + 1)) := by simp [trN, List.range_succ]
theorem trN_len : ∀ k, k ≤ 6 → (trN k).length ≤ 100 := by decide +kernel
theorem trN_len6 : (trN 6).length = 37 := by decide +kernel
def lvC (t : List Int) : Bool := decide (0 < t.length) && decide (t[0]?.getD 0 = 0) && (List.range t.length).all fun j => decide (j = 0) || decide (1 ≤ t[j]?.getD 0 ∧ t[j]?.getD 0 ≤ t[j - 1]?.getD 0 + 1)
theorem lvC_Lv {t : List Int} (h : lvC t = true) : Lv t := by
 unfold lvC at h
 simp only [Bool.and_eq_true, decide_eq_true_eq, List.all_eq_true, Bool.or_eq_true, List.mem_range] at h
 exact ⟨h.1.1, h.1.2, fun j h1 h2 => (h.2 j h2).resolve_left (by omega)⟩
theorem trN_all : (trN 6).all (fun t => lvC t && decide (t.length ≤ 6) && denOk 8 t) = true := by decide +kernel
theorem trN_at {t : List Int} (h : t ∈ trN 6) : Lv t ∧ t.length ≤ 6 ∧ denOk 8 t = true := by
 have := List.all_eq_true.1 trN_all t h
 simp only [Bool.and_eq_true, decide_eq_true_eq] at this
 exact ⟨lvC_Lv this.1.1, this.1.2, this.2⟩
theorem treesTo_c (n : Nat) (hn : n ≤ 6) : Con Tryz.prog 97 [.int n] (.own 25 (trN n).length (omat (trN n))) := by
 refine con_of_vc Tryz.mixed ⟨5, [], [], []⟩ Tryz.func97 (by decide) rfl (by simp) (by decide) (by simp [freshOK, freshL, go_sem]) ?_
 rw [Tryz.ntmps97]
 simp [go_sem]
 refine loop_inv ([3, 4] ++ List.range' 6 9) (fun i : Nat => [(3, .own 25 (trN i).length (omat (trN i))), (4, .int (i + 1))]) (fun i => i ≤ n) (fun i => n - i) 0 (by simp) (by simp [go_sem, trN, omat]) (by simp [go_sem]) ?_
 intro i hi
 have l0 := trN_len i (by omega)
 by_cases hin : i < n
 ·have hii : (i : Int) + 1 ≤ n := by omega
  have cT := treesOf_c (i + 1) 200 (by omega) (by omega) (trees_same (i + 1) (by omega) (by omega)).1
  have l1 := trN_len (i + 1) (by omega)
  have ts := trN_succ i
  have tl := congrArg List.length ts
  rw [List.length_append] at tl
  have ot : omat (trN (i + 1)) = omat (trN i) ++ omat (genT 200 (upTo (i + 1))) := by rw [ts]; simp [omat]
  have ec : ((i + 1 : Nat) : Int) = (i : Int) + 1 := by omega
  rw [ec] at cT
  generalize genT 200 (upTo (i + 1)) = G at *
  simp [go_sem, hii]
  refine CallVC.of (cT) (by decide) ?_
  simp [go_sem]
  exact ⟨⟨by omega, by omega⟩, ⟨by omega, by omega⟩, i + 1, by omega, by omega, Off_reset _ _ _ (by simp), by rw [tl, ot]; exact ⟨rfl, rfl⟩, by omega⟩
 ·have e : i = n := by omega
  subst e
  have hii : ¬ (i : Int) + 1 ≤ i := by omega
  simp [go_sem, hii]
end Go.Proofs.YtphccfabekdmnaaGreat


namespace Go.Proofs.YtphccfabekdmnaaGreat
open Go.Abs
theorem nodesIn_c [DrawK] (F : List (List Int)) (hl : F.length ≤ 1000) (hr : ∀ r ∈ F, r.length ≤ 1000) : Con Tryz.prog 358 [.sl F.length (mat F)] (.int (sumN F)) := by
 have bd : ∀ i, i ≤ F.length → sumN (F.take i) ≤ 1000 * i := fun i => by
  induction i with
  | zero => intro _; simp [sumN]
  | succ i ih =>
   intro hi
   have h1 := ih (by omega)
   have h2 : F.take (i + 1) = F.take i ++ [F[i]?.getD []] := by
    rw [List.take_succ_eq_append_getElem (by omega), List.getElem?_eq_getElem (by omega)]; rfl
   rw [h2, sumN_app]
   have h3 := hr _ (memD [] (show i < F.length by omega))
   have h4 : sumN [F[i]?.getD []] = (F[i]?.getD []).length := by simp [sumN]
   omega
 refine con_of_vc Tryz.mixed ⟨6, [], [], []⟩ Tryz.func358 (by decide) rfl (by simp) (by decide) (by simp [freshOK, freshL, go_sem]) ?_
 rw [Tryz.ntmps358]
 simp [go_sem]
 refine loop_inv (3 :: 5 :: List.range' 8 9) (fun i : Nat => [(3, .int (sumN (F.take i))), (8, .int i)]) (fun i => i ≤ F.length) (fun i => F.length - i) 0 (by simp) (by simp [go_sem, sumN]) (by simp [go_sem]) ?_
 intro i hi
 by_cases h : i < F.length
 ·have hii : (i : Int) < F.length := by omega
  have ne : ¬ F = [] := by rintro rfl; simp at h
  have b1 := bd i hi
  have b2 := bd (i + 1) h
  have h2 : F.take (i + 1) = F.take i ++ [F[i]?.getD []] := by
   rw [List.take_succ_eq_append_getElem h, List.getElem?_eq_getElem h]; rfl
  have h4 : sumN (F.take (i + 1)) = sumN (F.take i) + (F[i]?.getD []).length := by rw [h2, sumN_app]; simp [sumN]
  simp [go_sem, hii, mat_drop h]
  exact ⟨ne, ⟨by omega, by omega⟩, ⟨by omega, by omega⟩, i + 1, by omega, by omega, Off_reset _ _ _ (by simp), by rw [h4]; omega, by omega⟩
 ·have e : i = F.length := by omega
  subst e
  rw [List.take_length]
  simp [go_sem]
def cmpFs : List (List Int) → List (List Int) → Int
 | [], [] => 0
 | [], _ :: _ => -1
 | _ :: _, [] => 1
 | a :: f, b :: g => if cmpT a b = 0 then cmpFs f g else cmpT a b
theorem cmpFs_skip : ∀ (f g : List (List Int)) (i : Nat), i ≤ f.length → i ≤ g.length → (∀ j, j < i → cmpT (f[j]?.getD []) (g[j]?.getD []) = 0) → cmpFs f g = cmpFs (f.drop i) (g.drop i)
 | f, g, 0, _, _, _ => rfl
 | a :: f, b :: g, i + 1, h1, h2, h => by
  have h0 : cmpT a b = 0 := h 0 (by omega)
  rw [cmpFs, if_pos h0, List.drop_succ_cons, List.drop_succ_cons]
  exact cmpFs_skip f g i (by simpa using h1) (by simpa using h2) (fun j hj => by simpa using h (j + 1) (by omega))
theorem CompareFunc_c [DrawK] (f g : List (List Int)) (hf : f.length ≤ 1000) (hg : g.length ≤ 1000) (rf : ∀ r ∈ f, r.length ≤ 1000) (rg : ∀ r ∈ g, r.length ≤ 1000) :
  Con Tryz.prog 282 [.sl f.length (mat f), .sl g.length (mat g), .val (.func (.func 223) #[] #[])] (.int (cmpFs f g)) := by
 refine con_of_vc Tryz.mixed ⟨11, [], [], []⟩ Tryz.func282 (by decide) rfl (by simp) (by decide) (by simp [freshOK, freshL, go_sem]) ?_
 rw [Tryz.ntmps282]
 simp [go_sem]
 refine loop_inv (List.range' 6 5 ++ List.range' 13 21) (fun i : Nat => [(13, .int i)]) (fun i => i ≤ f.length ∧ i ≤ g.length ∧ ∀ j, j < i → cmpT (f[j]?.getD []) (g[j]?.getD []) = 0) (fun i => f.length - i) 0 (by simp) (by simp [go_sem]) (by simp [go_sem]) ?_
 rintro i ⟨hi, hg2, hz⟩
 have sk := cmpFs_skip f g i hi hg2 hz
 by_cases h : i < f.length
 ·have hii : (i : Int) < f.length := by omega
  have nf : ¬ f = [] := by rintro rfl; simp at h
  have df : f.drop i = f[i]?.getD [] :: f.drop (i + 1) := by rw [List.drop_eq_getElem_cons h]; simp [h]
  by_cases h2 : i < g.length
  ·have ng : ¬ g = [] := by rintro rfl; simp at h2
   have hgi : ¬ (g.length : Int) ≤ i := by omega
   have dg : g.drop i = g[i]?.getD [] :: g.drop (i + 1) := by rw [List.drop_eq_getElem_cons h2]; simp [h2]
   have cT := compareTrees_c (f[i]?.getD []) (g[i]?.getD []) (by have := rf _ (memD [] h); omega) (by have := rg _ (memD [] h2); omega)
   rw [df, dg, cmpFs] at sk
   have m1 := mat_drop h
   have m2 := mat_drop h2
   by_cases c0 : cmpT (f[i]?.getD []) (g[i]?.getD []) = 0
   ·rw [c0] at cT
    rw [if_pos c0] at sk
    simp [go_sem, hii, m1, m2, hgi]
    repeat refine ⟨by first | omega | exact nf | exact ng | exact ⟨h, nf⟩ | exact ⟨h2, ng⟩, ?_⟩
    refine CallVC.of (cT) (by decide) ?_
    simp [go_sem]
    refine ⟨⟨by omega, by omega⟩, i + 1, ⟨by omega, by omega, fun j hj => ?_⟩, by omega, Off_reset _ _ _ (by simp), by omega⟩
    rcases Nat.lt_or_ge j i with hji | hji
    ·exact hz j hji
    ·have : j = i := by omega
     subst this; exact c0
   ·rw [if_neg c0] at sk
    rw [sk]
    generalize cmpT (f[i]?.getD []) (g[i]?.getD []) = e at *
    simp [go_sem, hii, m1, m2, hgi]
    repeat refine ⟨by first | omega | exact nf | exact ng | exact ⟨h, nf⟩ | exact ⟨h2, ng⟩, ?_⟩
    refine CallVC.of (cT) (by decide) ?_
    simp [go_sem]
    simp [go_sem, c0]
  ·have hgi : (g.length : Int) ≤ i := by omega
   rw [df, show g.drop i = [] from List.drop_eq_nil_of_le (by omega), cmpFs] at sk
   rw [sk]
   simp [go_sem, hii, mat_drop h, hgi]
   repeat refine ⟨by first | omega | exact nf | exact ⟨h, nf⟩, ?_⟩
   exact nf
 ·have e : i = f.length := by omega
  subst e
  rw [List.drop_eq_nil_of_le (Nat.le_refl _)] at sk
  by_cases h2 : f.length < g.length
  ·have dg : g.drop f.length = g[f.length]?.getD [] :: g.drop (f.length + 1) := by rw [List.drop_eq_getElem_cons h2]; simp [h2]
   rw [dg, cmpFs] at sk
   rw [sk]
   simp [go_sem, h2]
  ·rw [List.drop_eq_nil_of_le (by omega), cmpFs] at sk
   rw [sk]
   simp [go_sem, h2]
theorem compareTrunks_c [DrawK] (f g : List (List Int)) (hf : f.length ≤ 1000) (hg : g.length ≤ 1000) (rf : ∀ r ∈ f, r.length ≤ 1000) (rg : ∀ r ∈ g, r.length ≤ 1000) :
  Con Tryz.prog 317 [.sl f.length (mat f), .sl g.length (mat g)] (.int (if f.length = g.length then cmpFs f g else (f.length : Int) - g.length)) := by
 have cC := CompareFunc_c f g hf hg rf rg
 by_cases e : f.length = g.length
 ·rw [if_pos e]
  rw [e] at cC
  refine con_of_vc Tryz.mixed ⟨5, [], [], []⟩ Tryz.func317 (by decide) rfl (by simp) (by decide) (by simp [freshOK, freshL, go_sem]) ?_
  rw [Tryz.ntmps317]
  simp [go_sem]
  simp [go_sem, e]
  refine CallVC.of (cC) (by decide) ?_
  simp [go_sem]
 ·rw [if_neg e]
  have ei : ¬ (f.length : Int) = g.length := by omega
  refine con_of_vc Tryz.mixed ⟨5, [], [], []⟩ Tryz.func317 (by decide) rfl (by simp) (by decide) (by simp [freshOK, freshL, go_sem]) ?_
  rw [Tryz.ntmps317]
  simp [go_sem]
  simp [go_sem, ei]
  omega
def cmpTr (f g : List (List Int)) : Int := if f.length = g.length then cmpFs f g else (f.length : Int) - g.length
def cmpFo (f g : List (List Int)) : Int := if (sumN f : Int) - sumN g = 0 then cmpTr f g else (sumN f : Int) - sumN g
theorem sumN_le {F : List (List Int)} {b : Nat} (hr : ∀ r ∈ F, r.length ≤ b) : sumN F ≤ b * F.length := by
 induction F with
 | nil => simp [sumN]
 | cons r F ih =>
  have h1 := ih (fun s hs => hr s (by simp [hs]))
  have h2 := hr r (by simp)
  simp only [sumN, List.length_cons, Nat.mul_succ]
  omega
theorem compareForests_c [DrawK] (f g : List (List Int)) (hf : f.length ≤ 1000) (hg : g.length ≤ 1000) (rf : ∀ r ∈ f, r.length ≤ 1000) (rg : ∀ r ∈ g, r.length ≤ 1000) :
  Con Tryz.prog 316 [.sl f.length (mat f), .sl g.length (mat g)] (.int (cmpFo f g)) := by
 have c1 := nodesIn_c f hf rf
 have c2 := nodesIn_c g hg rg
 have c3 := compareTrunks_c f g hf hg rf rg
 have b1 := sumN_le rf
 have b2 := sumN_le rg
 unfold cmpFo
 have e3 : (if f.length = g.length then cmpFs f g else (f.length : Int) - g.length) = cmpTr f g := rfl
 rw [e3] at c3
 generalize cmpTr f g = w at *
 generalize sumN f = a at *
 generalize sumN g = b at *
 by_cases e : (a : Int) - b = 0
 ·rw [if_pos e]
  refine con_of_vc Tryz.mixed ⟨6, [], [], []⟩ Tryz.func316 (by decide) rfl (by simp) (by decide) (by simp [freshOK, freshL, go_sem]) ?_
  rw [Tryz.ntmps316]
  simp [go_sem]
  refine CallVC.of (c1) (by decide) ?_
  simp [go_sem]
  refine CallVC.of (c2) (by decide) ?_
  simp [go_sem]
  refine ⟨⟨by omega, by omega⟩, ?_⟩
  simp [go_sem, e]
  refine CallVC.of (c3) (by decide) ?_
  simp [go_sem]
 ·rw [if_neg e]
  refine con_of_vc Tryz.mixed ⟨6, [], [], []⟩ Tryz.func316 (by decide) rfl (by simp) (by decide) (by simp [freshOK, freshL, go_sem]) ?_
  rw [Tryz.ntmps316]
  simp [go_sem]
  refine CallVC.of (c1) (by decide) ?_
  simp [go_sem]
  refine CallVC.of (c2) (by decide) ?_
  simp [go_sem]
  refine ⟨⟨by omega, by omega⟩, ?_⟩
  simp [go_sem, e]
abbrev Spl := List (List Int) × List (List Int) × Int
def cmpSp (s r : Spl) : Int := if cmpFo s.1 r.1 = 0 then cmpTr s.2.1 r.2.1 else cmpFo s.1 r.1
def spA (s : Spl) : List AV := [.own 25 s.1.length (omat s.1), .own 25 s.2.1.length (omat s.2.1), .int s.2.2]
def spF (s : Spl) : List AV := [.sl s.1.length (mat s.1), .sl s.2.1.length (mat s.2.1), .int s.2.2]
theorem spA_frz (s : Spl) : frzL (spA s) = spF s := by simp [spA, spF, frzL, frz]
def SpOk (s : Spl) : Prop := (s.1.length ≤ 100 ∧ ∀ r ∈ s.1, r.length ≤ 100) ∧ (s.2.1.length ≤ 100 ∧ ∀ r ∈ s.2.1, r.length ≤ 100)
theorem gathered1_c [DrawK] (s r : Spl) (hs : SpOk s) (hr : SpOk r) : Con Tryz.prog 315 [.agg (spF s), .agg (spF r)] (.int (cmpSp s r)) := by
 obtain ⟨⟨s1, s2⟩, s3, s4⟩ := hs
 obtain ⟨⟨r1, r2⟩, r3, r4⟩ := hr
 have c1 := compareForests_c s.1 r.1 (by omega) (by omega) (fun x hx => by have := s2 x hx; omega) (fun x hx => by have := r2 x hx; omega)
 have c2 := compareTrunks_c s.2.1 r.2.1 (by omega) (by omega) (fun x hx => by have := s4 x hx; omega) (fun x hx => by have := r4 x hx; omega)
 have e3 : (if s.2.1.length = r.2.1.length then cmpFs s.2.1 r.2.1 else (s.2.1.length : Int) - r.2.1.length) = cmpTr s.2.1 r.2.1 := rfl
 rw [e3] at c2
 unfold cmpSp spF
 generalize cmpTr s.2.1 r.2.1 = w at *
 generalize cmpFo s.1 r.1 = v at *
 by_cases v0 : v = 0
 ·rw [if_pos v0]
  refine con_of_vc Tryz.mixed ⟨6, [], [], []⟩ Tryz.func315 (by decide) rfl (by simp) (by decide) (by simp [freshOK, freshL, go_sem]) ?_
  rw [Tryz.ntmps315]
  simp [go_sem]
  refine CallVC.of (c1) (by decide) ?_
  simp [go_sem]
  simp [go_sem, v0]
  refine CallVC.of (c2) (by decide) ?_
  simp [go_sem]
 ·rw [if_neg v0]
  refine con_of_vc Tryz.mixed ⟨6, [], [], []⟩ Tryz.func315 (by decide) rfl (by simp) (by decide) (by simp [freshOK, freshL, go_sem]) ?_
  rw [Tryz.ntmps315]
  simp [go_sem]
  refine CallVC.of (c1) (by decide) ?_
  simp [go_sem]
  simp [go_sem, v0]
end Go.Proofs.YtphccfabekdmnaaGreat


namespace Go.Proofs.YtphccfabekdmnaaGreat
open Go.Abs Go.Shelf Go.Sort
structure LinC {α : Type} (c : α → α → Int) : Prop where
 zero : ∀ a b, c a b = 0 ↔ a = b
 anti : ∀ a b, c a b < 0 ↔ 0 < c b a
 trans : ∀ a b d, c a b < 0 → c b d < 0 → c a d < 0
theorem LinC.self {α : Type} {c : α → α → Int} (h : LinC c) (a : α) : c a a = 0 := (h.zero a a).2 rfl
theorem cmpL_zero : ∀ a b : List Int, cmpL a b = 0 ↔ a = b
 | [], [] => by simp [cmpL]
 | [], _ :: _ => by simp [cmpL]
 | _ :: _, [] => by simp [cmpL]
 | x :: xs, y :: ys => by
  rw [cmpL]
  by_cases h : x = y
  ·rw [if_pos h, cmpL_zero xs ys]; simp [h]
  ·rw [if_neg h]; simp [h, cmpI_ne h]
theorem cmpL_anti : ∀ a b : List Int, cmpL a b < 0 ↔ 0 < cmpL b a
 | [], [] => by simp [cmpL]
 | [], _ :: _ => by simp [cmpL]
 | _ :: _, [] => by simp [cmpL]
 | x :: xs, y :: ys => by
  rw [cmpL, cmpL]
  by_cases h : x = y
  ·rw [if_pos h, if_pos h.symm]; exact cmpL_anti xs ys
  ·rw [if_neg h, if_neg (fun e => h e.symm)]
   by_cases h1 : x < y
   ·have h2 : ¬ y < x := by omega
    simp [cmpI, h1, h2]
   ·have h2 : y < x := by omega
    simp [cmpI, h1, h2]
theorem linLx : LinC cmpL where
 zero := cmpL_zero
 anti := cmpL_anti
 trans a b d h1 h2 := by
  have := ltL_trans (a := a) (b := b) (c := d) (by rw [← cmpL_neg]; simpa using h1) (by rw [← cmpL_neg]; simpa using h2)
  rw [← cmpL_neg] at this; simpa using this
theorem LinC.flip {α : Type} {c : α → α → Int} (h : LinC c) : LinC (fun a b => c b a) :=
 ⟨fun a b => (h.zero b a).trans eq_comm, fun a b => h.anti b a, fun a b d h1 h2 => h.trans d b a h2 h1⟩
theorem LinC.key {α : Type} {c : α → α → Int} (h : LinC c) (k : α → Nat) : LinC (fun a b => if k a = k b then c a b else (k a : Int) - k b) where
 zero a b := by
  by_cases e : k a = k b
  ·simp only [if_pos e]; exact h.zero a b
  ·simp only [if_neg e]; exact ⟨fun x => by omega, fun x => (e (by rw [x])).elim⟩
 anti a b := by
  by_cases e : k a = k b
  ·simp only [if_pos e, if_pos e.symm]; exact h.anti a b
  ·have e2 : ¬ k b = k a := fun x => e x.symm
   simp only [if_neg e, if_neg e2]; omega
 trans a b d h1 h2 := by
  by_cases e : k a = k b
  ·by_cases e2 : k b = k d
   ·simp only [if_pos e] at h1; simp only [if_pos e2] at h2; simp only [if_pos (e.trans e2)]; exact h.trans _ _ _ h1 h2
   ·simp only [if_neg e2] at h2; have e3 : ¬ k a = k d := by omega
    simp only [if_neg e3]; omega
  ·simp only [if_neg e] at h1
   by_cases e2 : k b = k d
   ·have e3 : ¬ k a = k d := by omega
    simp only [if_neg e3]; omega
   ·simp only [if_neg e2] at h2; have e3 : ¬ k a = k d := by omega
    simp only [if_neg e3]; omega
theorem LinC.pair {α β : Type} {c : α → α → Int} {d : β → β → Int} (h : LinC c) (k : LinC d) : LinC (fun p q : α × β => if c p.1 q.1 = 0 then d p.2 q.2 else c p.1 q.1) where
 zero p q := by
  obtain ⟨a, x⟩ := p; obtain ⟨b, y⟩ := q
  by_cases e : c a b = 0
  ·have e1 := (h.zero a b).1 e
   simp only [if_pos e]; rw [k.zero]; simp [e1]
  ·have e1 : ¬ a = b := fun x => e ((h.zero a b).2 x)
   simp only [if_neg e]; simp [e, e1]
 anti p q := by
  obtain ⟨a, x⟩ := p; obtain ⟨b, y⟩ := q
  by_cases e : c a b = 0
  ·have e2 : c b a = 0 := (h.zero b a).2 ((h.zero a b).1 e).symm
   simp only [if_pos e, if_pos e2]; exact k.anti x y
  ·have e2 : ¬ c b a = 0 := fun x => e ((h.zero a b).2 ((h.zero b a).1 x).symm)
   simp only [if_neg e, if_neg e2]; exact h.anti a b
 trans p q r h1 h2 := by
  obtain ⟨a, x⟩ := p; obtain ⟨b, y⟩ := q; obtain ⟨d, z⟩ := r
  by_cases e : c a b = 0
  ·have e1 := (h.zero a b).1 e
   simp only [if_pos e] at h1
   by_cases e2 : c b d = 0
   ·simp only [if_pos e2] at h2; rw [← e1] at e2; simp only [if_pos e2]; exact k.trans _ _ _ h1 h2
   ·simp only [if_neg e2] at h2; rw [← e1] at e2 h2; simp only [if_neg e2]; exact h2
  ·simp only [if_neg e] at h1
   by_cases e2 : c b d = 0
   ·have e3 := (h.zero b d).1 e2
    rw [e3] at h1 e; simp only [if_neg e]; exact h1
   ·simp only [if_neg e2] at h2
    have h3 := h.trans a b d h1 h2
    have e3 : ¬ c a d = 0 := by omega
    simp only [if_neg e3]; exact h3
theorem LinC.swo {α β : Type} {c : β → β → Int} (h : LinC c) (k : α → β) : SWO (Go.Proofs.ltOf fun a b => c (k a) (k b)) := by
 refine ⟨fun a => ?_, fun x y z h1 h2 => ?_, fun x y z h1 h2 => ?_⟩
 ·show decide (c (k a) (k a) < 0) = false
  rw [h.self]; rfl
 ·have h1 : decide (c (k x) (k y) < 0) = true := h1
  have h2 : decide (c (k y) (k z) < 0) = true := h2
  show decide (c (k x) (k z) < 0) = true
  rw [decide_eq_true_eq] at *
  exact h.trans _ _ _ h1 h2
 ·have h1 : decide (c (k x) (k y) < 0) = false := h1
  have h2 : decide (c (k y) (k z) < 0) = false := h2
  show decide (c (k x) (k z) < 0) = false
  rw [decide_eq_false_iff_not] at *
  intro h3
  by_cases e : c (k x) (k y) = 0
  ·rw [(h.zero _ _).1 e] at h3; exact h2 h3
  ·have h4 : c (k y) (k x) < 0 := (h.anti _ _).2 (by omega)
   exact h2 (h.trans _ _ _ h4 h3)
theorem linT : LinC cmpT := linLx.flip.key List.length
theorem cmpFs_zero : ∀ f g, cmpFs f g = 0 ↔ f = g
 | [], [] => by simp [cmpFs]
 | [], _ :: _ => by simp [cmpFs]
 | _ :: _, [] => by simp [cmpFs]
 | a :: f, b :: g => by
  rw [cmpFs]
  by_cases h : cmpT a b = 0
  ·rw [if_pos h, cmpFs_zero f g]; simp [(linT.zero a b).1 h]
  ·have e : ¬ a = b := fun e => h ((linT.zero a b).2 e)
   rw [if_neg h]; simp [h, e]
theorem cmpFs_anti : ∀ f g, cmpFs f g < 0 ↔ 0 < cmpFs g f
 | [], [] => by simp [cmpFs]
 | [], _ :: _ => by simp [cmpFs]
 | _ :: _, [] => by simp [cmpFs]
 | a :: f, b :: g => by
  rw [cmpFs, cmpFs]
  by_cases h : cmpT a b = 0
  ·have h2 : cmpT b a = 0 := (linT.zero b a).2 ((linT.zero a b).1 h).symm
   rw [if_pos h, if_pos h2]; exact cmpFs_anti f g
  ·have h2 : ¬ cmpT b a = 0 := fun x => h ((linT.zero a b).2 ((linT.zero b a).1 x).symm)
   rw [if_neg h, if_neg h2]; exact linT.anti a b
theorem cmpFs_trans : ∀ f g k, cmpFs f g < 0 → cmpFs g k < 0 → cmpFs f k < 0
 | [], [], k, h1, _ => by simp [cmpFs] at h1
 | [], b :: g, [], _, h2 => by simp [cmpFs] at h2
 | [], b :: g, d :: k, _, _ => by simp [cmpFs]
 | a :: f, [], k, h1, _ => by simp [cmpFs] at h1
 | a :: f, b :: g, [], _, h2 => by simp [cmpFs] at h2
 | a :: f, b :: g, d :: k, h1, h2 => by
  rw [cmpFs] at h1 h2 ⊢
  by_cases e1 : cmpT a b = 0
  ·have e := (linT.zero a b).1 e1
   rw [if_pos e1] at h1
   rw [← e] at h2
   by_cases e2 : cmpT a d = 0
   ·rw [if_pos e2] at h2 ⊢; exact cmpFs_trans f g k h1 h2
   ·rw [if_neg e2] at h2 ⊢; exact h2
  ·rw [if_neg e1] at h1
   by_cases e2 : cmpT b d = 0
   ·rw [(linT.zero b d).1 e2] at h1 e1
    rw [if_neg e1]; exact h1
   ·rw [if_neg e2] at h2
    have h3 := linT.trans a b d h1 h2
    rw [if_neg (by omega)]; exact h3
theorem linFs : LinC cmpFs := ⟨cmpFs_zero, cmpFs_anti, cmpFs_trans⟩
theorem linTr : LinC cmpTr := linFs.key List.length
theorem linFo : LinC cmpFo := by
 have e : cmpFo = fun f g => if sumN f = sumN g then cmpTr f g else (sumN f : Int) - sumN g := by
  funext f g
  unfold cmpFo
  by_cases e : sumN f = sumN g
  ·rw [if_pos (by omega), if_pos e]
  ·rw [if_neg (by omega), if_neg e]
 rw [e]; exact linTr.key sumN
theorem linSp : LinC (fun p q : List (List Int) × List (List Int) => if cmpFo p.1 q.1 = 0 then cmpTr p.2 q.2 else cmpFo p.1 q.1) := linFo.pair linTr
def keyS (s : Spl) : List (List Int) × List (List Int) := (s.1, s.2.1)
theorem swo_sp : SWO (Go.Proofs.ltOf cmpSp) := linSp.swo keyS
theorem spT {a b d : Spl} (h1 : cmpSp a b < 0) (h2 : cmpSp b d < 0) : cmpSp a d < 0 := linSp.trans (keyS a) (keyS b) (keyS d) h1 h2
theorem spI (a : Spl) : ¬ cmpSp a a < 0 := by
 have : cmpSp a a = 0 := linSp.self (keyS a)
 omega
theorem spZ {a b : Spl} : cmpSp a b = 0 ↔ keyS a = keyS b := linSp.zero (keyS a) (keyS b)
theorem spAn {a b : Spl} : cmpSp a b < 0 ↔ 0 < cmpSp b a := linSp.anti (keyS a) (keyS b)
def insS (p : Spl) : List Spl → List Spl
 | [] => [p]
 | s :: S => if cmpSp p s < 0 then p :: s :: S else s :: insS p S
def srtS : List Spl → List Spl
 | [] => []
 | s :: S => insS s (srtS S)
theorem insS_perm (p : Spl) : ∀ S, (insS p S).Perm (p :: S)
 | [] => .refl _
 | s :: S => by
  rw [insS]; split
  ·exact .refl _
  ·exact ((insS_perm p S).cons s).trans (.swap _ _ _)
theorem srtS_perm : ∀ S, (srtS S).Perm S
 | [] => .refl _
 | s :: S => (insS_perm s _).trans ((srtS_perm S).cons s)
theorem srtS_len (S : List Spl) : (srtS S).length = S.length := (srtS_perm S).length_eq
theorem insS_srt (p : Spl) : ∀ S : List Spl, S.Pairwise (fun x y => ¬ cmpSp y x < 0) → (insS p S).Pairwise (fun x y => ¬ cmpSp y x < 0)
 | [], _ => by simp [insS]
 | s :: S, h => by
  obtain ⟨h1, h2⟩ := List.pairwise_cons.1 h
  rw [insS]; split
  ·rename_i hl
   refine .cons (fun y hy => ?_) h
   rcases List.mem_cons.1 hy with e | hy
   ·rw [e]; intro hc; exact spI p (spT hl hc)
   ·intro hc; exact h1 y hy (spT hc hl)
  ·rename_i hl
   refine .cons (fun y hy => ?_) (insS_srt p S h2)
   rcases List.mem_cons.1 ((insS_perm p S).mem_iff.1 hy) with e | hy
   ·rw [e]; exact hl
   ·exact h1 y hy
theorem srtS_srt : ∀ S : List Spl, (srtS S).Pairwise (fun x y => ¬ cmpSp y x < 0)
 | [] => .nil
 | s :: S => insS_srt s _ (srtS_srt S)
theorem srtS_unique {ys X : List Spl} (hp : ys.Perm X) (h1 : ∀ s ∈ X, s.2.2 = 1) (hy : ys.Pairwise (fun x y => ¬ cmpSp y x < 0)) : ys = srtS X :=
 (hp.trans (srtS_perm X).symm).eq_of_pairwise (fun a b ha hb k1 k2 => by
  have e1 := h1 a (hp.mem_iff.1 ha)
  have e2 := h1 b ((srtS_perm X).mem_iff.1 hb)
  have z : cmpSp a b = 0 := by
   have k3 : ¬ 0 < cmpSp a b := fun x => k1 (spAn.2 x)
   omega
  have k := spZ.1 z
  obtain ⟨a1, a2, a3⟩ := a
  obtain ⟨b1, b2, b3⟩ := b
  simp only [keyS, Prod.mk.injEq] at k e1 e2
  rw [k.1, k.2, e1, e2]) hy (srtS_srt X)
def stepG (out : List Spl) (s : Spl) : List Spl := match out.getLast? with
 | some l => if cmpSp l s = 0 then out.set (out.length - 1) (l.1, l.2.1, l.2.2 + 1) else out ++ [s]
 | none => [s]
def gthS (L : List Spl) : List Spl := L.foldl stepG []
theorem gthS_snoc (L : List Spl) (s : Spl) : gthS (L ++ [s]) = stepG (gthS L) s := by simp [gthS]
theorem stepG_len (out : List Spl) (s : Spl) : (stepG out s).length ≤ out.length + 1 := by
 unfold stepG
 split
 ·split <;> simp
 ·simp
theorem gthS_inv (L : List Spl) : (gthS L).length ≤ L.length ∧ (∀ l ∈ gthS L, ∃ s ∈ L, keyS l = keyS s) ∧ ((∀ s ∈ L, s.2.2 = 1) → ∀ l ∈ gthS L, 0 ≤ l.2.2 ∧ l.2.2 ≤ L.length) := by
 refine rev_ind (P := fun L => (gthS L).length ≤ L.length ∧ (∀ l ∈ gthS L, ∃ s ∈ L, keyS l = keyS s) ∧ ((∀ s ∈ L, s.2.2 = 1) → ∀ l ∈ gthS L, 0 ≤ l.2.2 ∧ l.2.2 ≤ L.length)) ⟨by simp [gthS], by simp [gthS], by simp [gthS]⟩ (fun L s ih => ?_) L
 obtain ⟨i1, i2, i3⟩ := ih
 rw [gthS_snoc]
 have hl := stepG_len (gthS L) s
 refine ⟨by rw [List.length_append, List.length_singleton]; omega, fun l hm => ?_, fun h1 l hm => ?_⟩
 ·unfold stepG at hm
  split at hm
  ·rename_i l0 hl0
   split at hm
   ·rcases List.mem_or_eq_of_mem_set hm with hm | e
    ·obtain ⟨t, t1, t2⟩ := i2 l hm
     exact ⟨t, by simp [t1], t2⟩
    ·obtain ⟨t, t1, t2⟩ := i2 l0 (List.mem_of_getLast? hl0)
     exact ⟨t, by simp [t1], by rw [e, ← t2]; rfl⟩
   ·rcases List.mem_append.1 hm with hm | hm
    ·obtain ⟨t, t1, t2⟩ := i2 l hm
     exact ⟨t, by simp [t1], t2⟩
    ·rw [List.mem_singleton] at hm
     exact ⟨s, by simp, by rw [hm]⟩
  ·rw [List.mem_singleton] at hm
   exact ⟨s, by simp, by rw [hm]⟩
 ·have j3 := i3 (fun t ht => h1 t (by simp [ht]))
  have hs := h1 s (by simp)
  rw [List.length_append, List.length_singleton]
  unfold stepG at hm
  split at hm
  ·rename_i l0 hl0
   split at hm
   ·rcases List.mem_or_eq_of_mem_set hm with hm | e
    ·have := j3 l hm; omega
    ·have := j3 l0 (List.mem_of_getLast? hl0)
     rw [e]; simp only; omega
   ·rcases List.mem_append.1 hm with hm | hm
    ·have := j3 l hm; omega
    ·rw [List.mem_singleton] at hm; rw [hm]; omega
  ·rw [List.mem_singleton] at hm; rw [hm]; omega
end Go.Proofs.YtphccfabekdmnaaGreat


namespace Go.Proofs.YtphccfabekdmnaaGreat
open Go.Abs
def mulSp (L M : List Spl) : List Spl := L.flatMap fun s => M.map fun c => (s.1 ++ c.1, s.2.1 ++ c.2.1, (0 : Int))
def spl : Nat → List Int → List Spl
 | 0, _ => []
 | n + 1, t => ((brs t).foldl (fun L b => mulSp L (spl n b)) [([], [], 0)]).map (fun s => (s.1, [canF (n + 1) (rootL s.2.1)], s.2.2)) ++ [([canF (n + 1) t], [], 0)]
def fldS (n : Nat) (bs : List (List Int)) : List Spl := bs.foldl (fun L b => mulSp L (spl n b)) [([], [], 0)]
theorem fldS_snoc (n : Nat) (bs : List (List Int)) (b : List Int) : fldS n (bs ++ [b]) = mulSp (fldS n bs) (spl n b) := by simp [fldS]
theorem spl_succ (n : Nat) (t : List Int) : spl (n + 1) t = (fldS n (brs t)).map (fun s => (s.1, [canF (n + 1) (rootL s.2.1)], s.2.2)) ++ [([canF (n + 1) t], [], 0)] := rfl
theorem mulSp_snoc (L M : List Spl) (s : Spl) : mulSp (L ++ [s]) M = mulSp L M ++ M.map fun c => (s.1 ++ c.1, s.2.1 ++ c.2.1, (0 : Int)) := by simp [mulSp]
theorem mulSp_len (L M : List Spl) : (mulSp L M).length = L.length * M.length := by
 induction L with
 | nil => simp [mulSp]
 | cons s L ih =>
  have e : mulSp (s :: L) M = (M.map fun c => (s.1 ++ c.1, s.2.1 ++ c.2.1, (0 : Int))) ++ mulSp L M := rfl
  rw [e, List.length_append, ih, List.length_map, List.length_cons, Nat.succ_mul]; omega
def smS (s : Spl) : Bool := decide (s.1.length ≤ 100) && decide (s.2.1.length ≤ 100) && decide (s.2.2 = 0)
def rtS (n : Nat) (s : Spl) : Bool := lvC (rootL s.2.1) && decide ((rootL s.2.1).length ≤ n) && s.2.1.all (fun b => decide (b.length ≤ 100) && b.all (fun x => decide (0 ≤ x) && decide (x ≤ 100)))
def splOk : Nat → List Int → Bool
 | 0, _ => false
 | n + 1, t => decide (n + 1 ≤ 100) && lvC t && decide (t.length ≤ n + 1) && (brs t).all (splOk n) && (brs t).all (fun b => decide ((spl n b).length ≤ 100) && (spl n b).all smS) &&
   (List.range ((brs t).length + 1)).all (fun i => decide ((fldS n ((brs t).take i)).length ≤ 100) && (fldS n ((brs t).take i)).all smS) && (fldS n (brs t)).all (rtS (n + 1))
theorem smS_spec {s : Spl} (h : smS s = true) : s.1.length ≤ 100 ∧ s.2.1.length ≤ 100 ∧ s.2.2 = 0 := by
 simp [smS] at h; exact ⟨h.1.1, h.1.2, h.2⟩
theorem rtS_spec {n : Nat} {s : Spl} (h : rtS n s = true) : Lv (rootL s.2.1) ∧ (rootL s.2.1).length ≤ n ∧ ∀ b ∈ s.2.1, b.length ≤ 100 ∧ ∀ x ∈ b, 0 ≤ x ∧ x ≤ 100 := by
 simp only [rtS, Bool.and_eq_true, decide_eq_true_eq, List.all_eq_true] at h
 exact ⟨lvC_Lv h.1.1, h.1.2, h.2⟩
theorem splOk_spec {n : Nat} {t : List Int} (h : splOk (n + 1) t = true) : n + 1 ≤ 100 ∧ Lv t ∧ t.length ≤ n + 1 ∧ (∀ b ∈ brs t, splOk n b = true ∧ (spl n b).length ≤ 100 ∧ ∀ s ∈ spl n b, smS s = true) ∧
  (∀ i, i ≤ (brs t).length → (fldS n ((brs t).take i)).length ≤ 100 ∧ ∀ s ∈ fldS n ((brs t).take i), smS s = true) ∧ ∀ s ∈ fldS n (brs t), rtS (n + 1) s = true := by
 simp only [splOk, Bool.and_eq_true, decide_eq_true_eq, List.all_eq_true, List.mem_range] at h
 obtain ⟨⟨⟨⟨⟨⟨h1, h2⟩, h3⟩, h4⟩, h5⟩, h6⟩, h7⟩ := h
 exact ⟨h1, lvC_Lv h2, h3, fun b hb => ⟨h4 b hb, (h5 b hb).1, (h5 b hb).2⟩, fun i hi => h6 i (by omega), h7⟩
theorem splOk_all : (trN 6).all (splOk 6) = true := by kernel_rfl
end Go.Proofs.YtphccfabekdmnaaGreat


namespace Go.Proofs.YtphccfabekdmnaaGreat
open Go.RowKit Go.Shelf Go.Lib Go.Abs
theorem Grow_calls (n : Nat) (h0 : 0 < n) (hn : n ≤ 1048576) (i : TypeInfo) (z : Value) (hi : Tryz.prog.info? 2 = some i) (hz : i.zero = some z) (hs : 0 < i.size) (hb : i.bytes = 8) (w : World) :
  Calls Tryz.prog 300 #[.slice none 0 0, .int .i64 n] w fun e w' =>
   e = .returned (.slice (some ⟨w.heap.size, 0, none⟩) 0 (grownCap w n 0 2)) ∧
   w' = w.drew.alloc (.cells (([] : List Value).toArray ++ Builtin.zeroCells z.cells n ++ Builtin.zeroCells z.cells (grownCap w n 0 2 - n)) 2) := by
 have h1 : ¬ ((n : Int) < 0) := by omega
 have h2 : wrap64 (n : Int) = n := by unfold wrap64; omega
 have h4 : (n : Int) > 0 := by omega
 have hrz : ∀ ty, (Builtin.append_ #[25, 3] ty #[.slice none 0 0, .int .i64 (n : Int)]).run Tryz.prog w =
   .ok (.slice (some ⟨w.heap.size, 0, none⟩) n (grownCap w n 0 2)) (w.drew.alloc (.cells (([] : List Value).toArray ++ Builtin.zeroCells z.cells n ++ Builtin.zeroCells z.cells (grownCap w n 0 2 - n)) 2)) := fun ty => by
  have h := Lib.run_append_grow_zeros w 25 3 ty 2 i z .i64 .i64 Tryz.underlying25 Tryz.underlying3 hi hz none 0 0 [] (run_firstCells_none w.drew i.size 0 0 0) n h0 hs (by omega) (by omega)
   (by rw [hb]; omega) (by
    rw [hb]
    have := growslice_fits (need := 0 + n) (old := 0) (bytes := 8) (by omega) (by omega)
    exact this)
  simp only [Nat.zero_add] at h
  exact h
 have hGn : n ≤ grownCap w n 0 2 := grownCap_ge w _ _ _
 obtain ⟨G, hG⟩ : ∃ G, G = grownCap w n 0 2 := ⟨_, rfl⟩
 rw [← hG] at hrz hGn ⊢
 have hG63 : G ≤ 9223372036854775807 := by
  have := grownCap_le_maxLen w n 0 2 (by unfold maxLen; omega)
  rw [← hG] at this
  unfold maxLen at this
  omega
 clear hG
 go_enter Tryz.func300, Tryz.ntmps300
 go_wp2_with (at_builtin; refine Lib.wpList_append_run _ rfl _ _ _ _ rfl _ _ rfl rfl _ _ (hrz _) ?_)
 all_goals (go_ret; exact ⟨rfl, rfl⟩)
theorem Grow_c (n : Nat) (h0 : 0 < n) (hn : n ≤ 1048576) : Con Tryz.prog 300 [.val (.slice none 0 0), .int n] (.own 2 0 []) := by
 refine ⟨⟨_, Tryz.func300, by decide, rfl⟩, fun w vs hl ha => ?_⟩
 have k := ha (fun _ => undef) (fun _ => [])
 generalize hoz : ([] : List Nat) = oz at k
 obtain ⟨i, z, hi, hz, hs, hb, hzs, _, hce⟩ := infoT_some Tryz.info2
 cases k with
 | cons c v o cs vs os hc ht =>
  cases ht with
  | cons c2 v2 o2 cs2 vs2 os2 hc2 ht2 =>
   have e2 : vs2 = [] := by simpa using hl
   subst e2
   cases hc2 with
   | cell _ _ _ hc2 =>
    cases hc2 with
    | val _ _ =>
     cases hc with
     | cell _ _ _ hc =>
      cases hc with
      | val _ _ =>
       refine (Grow_calls n h0 hn i z hi hz (by omega) hb w).mono ?_
       rintro e w' ⟨rfl, rfl⟩
       have hge : n ≤ grownCap w n 0 2 := grownCap_ge w _ _ _
       have hrep : RepC Tryz.prog (w.drew.alloc (.cells (([] : List Value).toArray ++ Builtin.zeroCells z.cells n ++ Builtin.zeroCells z.cells (grownCap w n 0 2 - n)) 2)) (fun _ => False) (.own 2 0 []) (.slice (some ⟨w.heap.size, 0, none⟩) 0 (grownCap w n 0 2)) [w.heap.size] :=
        .own _ _ 0 _ _ _ _ (heapDrewNew w _) (by omega) (by rw [hce]; simp [size_zeroCells, hzs, ← Nat.add_mul]; omega) (.nil _)
       refine ⟨_, [w.heap.size], rfl, ⟨rfl, rfl, rfl, by simp, fun b hb => heapDrewOld w _ b hb, by first | exact Nat.le_refl _ | exact dr_succ _⟩, fun tm oss => .cell _ _ _ (hrep.mono (fun _ h => h.elim) (fun _ _ => rfl)), by simp, by simp⟩
def flL (xss : List (List Int)) (i : Nat) : List Int := (xss.take i).flatten
theorem flL_zero (xss : List (List Int)) : flL xss 0 = [] := rfl
theorem flL_succ {xss : List (List Int)} {i : Nat} (h : i < xss.length) : flL xss (i + 1) = flL xss i ++ xss[i]?.getD [] := by
 unfold flL
 rw [List.take_add_one, List.flatten_append]
 simp [h]
theorem flL_le (xss : List (List Int)) {i : Nat} (h : i ≤ xss.length) : (flL xss i).length ≤ (flL xss xss.length).length := by
 unfold flL
 rw [List.take_length]
 have : xss.flatten = (xss.take i).flatten ++ (xss.drop i).flatten := by rw [← List.flatten_append, List.take_append_drop]
 rw [this, List.length_append]; omega
theorem Concat_c (xss : List (List Int)) (h0 : 0 < (flL xss xss.length).length) (hn : (flL xss xss.length).length ≤ 1048576) (hl : xss.length ≤ 1048576) :
  Con Tryz.prog 243 [.sl xss.length (mat xss)] (.own 2 (flL xss xss.length).length (avs (flL xss xss.length))) := by
 have cG := Con.gfz (Grow_c (flL xss xss.length).length h0 hn) (by simp [hasOwnL, hasOwn]) rfl
 refine con_of_vc Tryz.mixed ⟨9, [], [1000000 + 300], []⟩ Tryz.func243 (by decide) rfl (by simp) (by decide) (by simp [freshOK, freshL, go_sem]) ?_
 rw [Tryz.ntmps243]
 simp [go_sem]
 refine loop_inv ([3, 5] ++ List.range' 11 12) (fun i : Nat => [(3, .int (flL xss i).length), (11, .int i)]) (fun i => i ≤ xss.length) (fun i => xss.length - i) 0 (by simp) (by simp [go_sem, flL_zero]) (by simp [go_sem]) ?_
 intro i hi
 by_cases hin : i < xss.length
 ·have hii : (i : Int) < xss.length := by omega
  have ne : ¬ xss = [] := by rintro rfl; simp at hin
  have ft := congrArg List.length (flL_succ hin)
  rw [List.length_append] at ft
  have fl := flL_le xss (i := i + 1) (by omega)
  generalize (flL xss i).length = s at *
  generalize (flL xss xss.length).length = T at *
  simp [go_sem, hii, mat_drop hin]
  generalize (xss[i]?.getD []).length = x at *
  refine ⟨ne, ⟨by omega, by omega⟩, ?_⟩
  have hs : ¬ ((s : Int) + x < 0) := by omega
  simp [go_sem, hs]
  refine ⟨⟨by omega, by omega⟩, i + 1, by omega, by omega, Off_reset _ _ _ (by simp), ?_, by omega⟩
  omega
 ·have e : i = xss.length := by omega
  subst e
  have hii : ¬ (xss.length : Int) < xss.length := by omega
  simp [go_sem, hii]
  refine ⟨_, _, cG, ?_⟩
  simp [go_sem]
  refine loop_inv ([6, 8] ++ List.range' 27 8) (fun i : Nat => [(6, .own 2 (flL xss i).length (avs (flL xss i))), (27, .int i)]) (fun i => i ≤ xss.length) (fun i => xss.length - i) 0 (by simp) (by simp [go_sem, avs, flL_zero]) (by simp [go_sem]) ?_
  intro i hi
  by_cases hin : i < xss.length
  ·have hii : (i : Int) < xss.length := by omega
   have ne : ¬ xss = [] := by rintro rfl; simp at hin
   have ft := flL_succ hin
   have fl := flL_le xss (i := i + 1) (by omega)
   rw [ft, List.length_append] at fl
   simp [go_sem, hii, mat_drop hin]
   refine ⟨ne, ?_⟩
   exact ⟨⟨by omega, by omega⟩, ⟨by omega, by omega⟩, i + 1, by omega, by omega, Off_reset _ _ _ (by simp), by rw [ft, List.length_append, avs_app]; exact ⟨rfl, rfl⟩, by omega⟩
  ·have e : i = xss.length := by omega
   subst e
   have hii : ¬ (xss.length : Int) < xss.length := by omega
   simp [go_sem, hii]
end Go.Proofs.YtphccfabekdmnaaGreat


namespace Go.Proofs.YtphccfabekdmnaaGreat
open Go.Abs
def bsG (L : List (List Int)) (t : List Int) : Nat → Nat → Nat → Nat
 | 0, i, _ => i
 | n + 1, i, j => if i < j then (if cmpT (L[(i + j) / 2]?.getD []) t < 0 then bsG L t n ((i + j) / 2 + 1) j else bsG L t n i ((i + j) / 2)) else i
def bsI (L : List (List Int)) (t : List Int) : Nat := bsG L t (L.length + 1) 0 L.length
theorem bsG_more (L : List (List Int)) (t : List Int) : ∀ (n m i j : Nat), j - i < n → j - i < m → bsG L t n i j = bsG L t m i j
 | 0, m, i, j, h, _ => by omega
 | n + 1, 0, i, j, _, h => by omega
 | n + 1, m + 1, i, j, h1, h2 => by
  rw [bsG, bsG]
  by_cases hij : i < j
  ·rw [if_pos hij, if_pos hij]
   by_cases hc : cmpT (L[(i + j) / 2]?.getD []) t < 0
   ·rw [if_pos hc, if_pos hc]; exact bsG_more L t n m _ _ (by omega) (by omega)
   ·rw [if_neg hc, if_neg hc]; exact bsG_more L t n m _ _ (by omega) (by omega)
  ·rw [if_neg hij, if_neg hij]
theorem bsG_le (L : List (List Int)) (t : List Int) : ∀ (n i j : Nat), i ≤ j → i ≤ bsG L t n i j ∧ bsG L t n i j ≤ j
 | 0, i, j, h => ⟨Nat.le_refl _, h⟩
 | n + 1, i, j, h => by
  rw [bsG]
  by_cases hij : i < j
  ·rw [if_pos hij]
   by_cases hc : cmpT (L[(i + j) / 2]?.getD []) t < 0
   ·rw [if_pos hc]
    have := bsG_le L t n ((i + j) / 2 + 1) j (by omega)
    omega
   ·rw [if_neg hc]
    have := bsG_le L t n i ((i + j) / 2) (by omega)
    omega
  ·rw [if_neg hij]; omega
theorem shr1 {a : Nat} (h : a < 1000000000) : shrI IntKind.u64 (a : Int) 1 = ((a / 2 : Nat) : Int) := by
 have e : (2 : Int) ^ min (1 : Int).toNat IntKind.u64.bits = 2 := by decide
 unfold shrI
 rw [e, Int.fdiv_eq_ediv_of_nonneg _ (by decide)]
 omega
theorem BinarySearch_c (L : List (List Int)) (t : List Int) (hL : L.length ≤ 1000) (hr : ∀ r ∈ L, r.length ≤ 1000) (ht : t.length ≤ 1000) :
  Con Tryz.prog 222 [.sl L.length (mat L), .sl t.length (avs t), .val (.func (.func 223) #[] #[])] (.tup [.int (bsI L t), .bool (decide (bsI L t < L.length) && decide (cmpT (L[bsI L t]?.getD []) t = 0))]) := by
 refine con_of_vc Tryz.mixed ⟨12, [], [], []⟩ Tryz.func222 (by decide) rfl (by simp) (by decide) (by simp [freshOK, freshL, go_sem]) ?_
 rw [Tryz.ntmps222]
 simp [go_sem]
 refine loop_inv (List.range' 9 3 ++ List.range' 15 20) (fun x : Nat × Nat => [(9, .int x.1), (10, .int x.2)]) (fun x => x.1 ≤ x.2 ∧ x.2 ≤ L.length ∧ bsG L t (x.2 - x.1 + 1) x.1 x.2 = bsI L t) (fun x => x.2 - x.1) (0, L.length) ⟨by simp, by simp, rfl⟩ (by simp [go_sem]) (by simp [go_sem]) ?_
 rintro ⟨i, j⟩ ⟨h1, h2, h3⟩
 simp only at h1 h2 h3
 by_cases hij : i < j
 ·have hii : (i : Int) < j := by omega
  have hh : (i + j) / 2 < L.length := by omega
  have cT := compareTrees_c (L[(i + j) / 2]?.getD []) t (by have := hr _ (memD [] hh); omega) (by omega)
  rw [bsG, if_pos hij] at h3
  have hsh : shrI IntKind.u64 (IntKind.u64.wrap ((i : Int) + j)) 1 = (((i + j) / 2 : Nat) : Int) := by
   have w : IntKind.u64.wrap ((i : Int) + j) = ((i + j : Nat) : Int) := by
    rw [wrap_u64 (by omega) (by omega)]; omega
   rw [w]
   exact shr1 (by omega)
  have hnL : ¬ L = [] := by rintro rfl; simp at hh
  have md := mat_drop hh
  have k1 : i ≤ (i + j) / 2 := by omega
  have k2 : (i + j) / 2 < j := by omega
  generalize (i + j) / 2 = k at *
  by_cases c0 : cmpT (L[k]?.getD []) t < 0
  ·rw [if_pos c0, bsG_more L t (j - i) (j - (k + 1) + 1) _ _ (by omega) (by omega)] at h3
   generalize cmpT (L[k]?.getD []) t = e at *
   simp [go_sem, hii, hsh, md]
   refine ⟨⟨by omega, by omega⟩, by omega, ⟨hh, hnL⟩, ?_⟩
   refine CallVC.of (cT) (by decide) ?_
   simp [go_sem]
   simp [go_sem, c0]
   exact ⟨⟨by omega, by omega⟩, k + 1, j, ⟨by omega, h2, h3⟩, by omega, Off_reset _ _ _ (by simp), by omega, rfl⟩
  ·rw [if_neg c0, bsG_more L t (j - i) (k - i + 1) _ _ (by omega) (by omega)] at h3
   generalize cmpT (L[k]?.getD []) t = e at *
   simp [go_sem, hii, hsh, md]
   refine ⟨⟨by omega, by omega⟩, by omega, ⟨hh, hnL⟩, ?_⟩
   refine CallVC.of (cT) (by decide) ?_
   simp [go_sem]
   simp [go_sem, c0]
   exact ⟨i, k, ⟨by omega, by omega, h3⟩, by omega, Off_reset _ _ _ (by simp), rfl, rfl⟩
 ·have e : i = j := by omega
  subst e
  have hii : ¬ (i : Int) < i := by omega
  rw [bsG, if_neg (by omega)] at h3
  rw [← h3]
  by_cases hi : i < L.length
  ·have hiL : (i : Int) < L.length := by omega
   have hnL : ¬ L = [] := by rintro rfl; simp at hi
   have cT := compareTrees_c (L[i]?.getD []) t (by have := hr _ (memD [] hi); omega) (by omega)
   have md := mat_drop hi
   generalize cmpT (L[i]?.getD []) t = e at *
   simp [go_sem, hii, hiL, md]
   refine ⟨hnL, ?_⟩
   refine CallVC.of (cT) (by decide) ?_
   simp [go_sem]
   simp [hi]
  ·have hiL : ¬ (i : Int) < L.length := by omega
   simp [go_sem, hii, hiL]
   omega
def ixT (L : List (List Int)) (t : List Int) : Int := if bsI L t < L.length ∧ cmpT (L[bsI L t]?.getD []) t = 0 then bsI L t else -1
theorem bsI_le (L : List (List Int)) (t : List Int) : bsI L t ≤ L.length := (bsG_le L t _ 0 L.length (by omega)).2
theorem ixT_le (L : List (List Int)) (t : List Int) : -1 ≤ ixT L t ∧ ixT L t ≤ L.length := by
 have := bsI_le L t
 unfold ixT
 split <;> omega
theorem indexIn_c (L : List (List Int)) (t : List Int) (hL : L.length ≤ 1000) (hr : ∀ r ∈ L, r.length ≤ 1000) (ht : t.length ≤ 1000) :
  Con Tryz.prog 122 [.sl L.length (mat L), .sl t.length (avs t)] (.int (ixT L t)) := by
 have c1 := BinarySearch_c L t hL hr ht
 unfold ixT
 by_cases h : bsI L t < L.length ∧ cmpT (L[bsI L t]?.getD []) t = 0
 ·rw [if_pos h]
  rw [decide_eq_true h.1, decide_eq_true h.2] at c1
  generalize bsI L t = i at *
  refine con_of_vc Tryz.mixed ⟨7, [], [], []⟩ Tryz.func122 (by decide) rfl (by simp) (by decide) (by simp [freshOK, freshL, go_sem]) ?_
  rw [Tryz.ntmps122]
  simp [go_sem]
  refine CallVC.of (c1) (by decide) ?_
  simp [go_sem]
 ·rw [if_neg h]
  have e : (decide (bsI L t < L.length) && decide (cmpT (L[bsI L t]?.getD []) t = 0)) = false := by
   cases e1 : decide (bsI L t < L.length) with
   | false => rfl
   | true =>
    cases e2 : decide (cmpT (L[bsI L t]?.getD []) t = 0) with
    | false => rfl
    | true => exact (h ⟨of_decide_eq_true e1, of_decide_eq_true e2⟩).elim
  rw [e] at c1
  generalize bsI L t = i at *
  refine con_of_vc Tryz.mixed ⟨7, [], [], []⟩ Tryz.func122 (by decide) rfl (by simp) (by decide) (by simp [freshOK, freshL, go_sem]) ?_
  rw [Tryz.ntmps122]
  simp [go_sem]
  refine CallVC.of (c1) (by decide) ?_
  simp [go_sem]
theorem place_c (L : List (List Int)) (n : Nat) (cs : List AV) (t : List Int) (hL : L.length ≤ 1000) (hr : ∀ r ∈ L, r.length ≤ 1000) (ht : t.length ≤ 1000) :
  Con Tryz.prog 193 [.agg [.sl L.length (mat L), .sl n cs], .sl t.length (avs t)] (.int (ixT L t + 1)) := by
 have c1 := indexIn_c L t hL hr ht
 have b := ixT_le L t
 generalize ixT L t = e at *
 refine con_of_vc Tryz.mixed ⟨5, [], [], []⟩ Tryz.func193 (by decide) rfl (by simp) (by decide) (by simp [freshOK, freshL, go_sem]) ?_
 rw [Tryz.ntmps193]
 simp [go_sem]
 refine CallVC.of (c1) (by decide) ?_
 simp [go_sem]
 omega
end Go.Proofs.YtphccfabekdmnaaGreat


namespace Go.Proofs.YtphccfabekdmnaaGreat
open Go.Abs Go.Shelf Go.Sort
theorem spAs_fresh : ∀ X : List Spl, freshL (X.flatMap spA) = true
 | [] => rfl
 | s :: X => by
  have := spAs_fresh X
  simp only [List.flatMap_cons, spA, List.cons_append, List.nil_append]
  simp [freshL, freshOK, this]
theorem spAs_frz : ∀ X : List Spl, frzL (X.flatMap spA) = X.flatMap spF
 | [] => rfl
 | s :: X => by
  have := spAs_frz X
  simp only [List.flatMap_cons, spA, spF, List.cons_append, List.nil_append]
  simp [frzL, frz, this]
theorem sortSpl_c (X : List Spl) (h1 : ∀ s ∈ X, s.2.2 = 1) (hok : ∀ s ∈ X, SpOk s) (hn : X.length ≤ 1048576) :
  MCon Tryz.prog 318 [.own 208 X.length (X.flatMap spA), .val (.func (.func 315) #[] #[])] (.tup []) [.own 208 X.length ((srtS X).flatMap spA), .any] := by
 obtain ⟨ys, p1, p2, p3⟩ := sort_mcon Tryz.sortSplits 3 Tryz.isAgg208 Tryz.sizeOf208 ⟨_, Tryz.func318, by decide, rfl⟩ spA cmpSp swo_sp 315 208 (by kernel_rfl) X (fun _ _ => rfl) (spAs_fresh X)
  (fun x hx y hy => by rw [spA_frz, spA_frz]; exact @gathered1_c ⟨1⟩ x y (hok x hx) (hok y hy)) (by omega)
 have e : ys = srtS X := srtS_unique p1 h1 p2
 subst e
 exact p3
def cntF (s : Spl) : Spl := (srtT s.1, srtT s.2.1, 1)
def mixS (L : List Spl) (i : Nat) : List AV := ((L.map cntF).take i).flatMap spA ++ (L.drop i).flatMap spF
theorem spA_len (X : List Spl) : (X.flatMap spA).length = X.length * 3 := by
 induction X with
 | nil => rfl
 | cons s X ih => rw [List.flatMap_cons, List.length_append, ih]; simp [spA]; omega
theorem spF_len (X : List Spl) : (X.flatMap spF).length = X.length * 3 := by
 induction X with
 | nil => rfl
 | cons s X ih => rw [List.flatMap_cons, List.length_append, ih]; simp [spF]; omega
theorem set3 (R : List AV) (x1 x2 x3 y1 y2 y3 : AV) : ∀ P : List AV, (((P ++ x1 :: x2 :: x3 :: R).set P.length y1).set (P.length + 1) y2).set (P.length + 1 + 1) y3 = P ++ y1 :: y2 :: y3 :: R
 | [] => rfl
 | p :: P => by
  have := set3 R x1 x2 x3 y1 y2 y3 P
  simp only [List.cons_append, List.length_cons, List.set_cons_succ]
  rw [this]
theorem set3c (x1 x2 x3 y3 : AV) : ∀ P : List AV, (P ++ [x1, x2, x3]).set (P.length + 2) y3 = P ++ [x1, x2, y3]
 | [] => rfl
 | p :: P => by
  have := set3c x1 x2 x3 y3 P
  show p :: (P ++ [x1, x2, x3]).set (P.length + 2) y3 = p :: (P ++ [x1, x2, y3])
  rw [this]
theorem stepG_snoc (O : List Spl) (l s : Spl) : stepG (O ++ [l]) s = if cmpSp l s = 0 then O ++ [(l.1, l.2.1, l.2.2 + 1)] else O ++ [l] ++ [s] := by
 have e : ∀ O : List Spl, (O ++ [l]).set O.length (l.1, l.2.1, l.2.2 + 1) = O ++ [(l.1, l.2.1, l.2.2 + 1)] := fun O => by
  induction O with
  | nil => rfl
  | cons o O ih => rw [List.cons_append, List.length_cons, List.set_cons_succ, ih]; rfl
 unfold stepG
 rw [List.getLast?_concat]
 simp only [List.length_append, List.length_singleton, Nat.add_sub_cancel, e]
theorem mix_set (L : List Spl) {i : Nat} (h : i < L.length) {a b : List (List Int)} {k : Int} (hsp : L[i]?.getD ([], [], 0) = (a, b, k)) :
  (((mixS L i).set (i * 3) (AV.own 25 a.length (omat (srtT a)))).set (i * 3 + 1) (AV.own 25 b.length (omat (srtT b)))).set (i * 3 + 1 + 1) (AV.val (Value.int IntKind.i64 1)) = mixS L (i + 1) := by
 have e1 : (((L.map cntF).take i).flatMap spA).length = i * 3 := by rw [spA_len, List.length_take, List.length_map, Nat.min_eq_left (by omega)]
 have e2 : L.drop i = (a, b, k) :: L.drop (i + 1) := by rw [List.drop_eq_getElem_cons h, ← hsp]; simp [h]
 have e3 : (L.map cntF).take (i + 1) = (L.map cntF).take i ++ [cntF (a, b, k)] := by
  rw [List.take_succ_eq_append_getElem (by simpa using h), List.getElem_map]
  congr 2
  rw [← hsp]; simp [h]
 unfold mixS
 rw [e2, e3, List.flatMap_cons, List.flatMap_append, ← e1]
 refine (set3 _ _ _ _ _ _ _ _).trans ?_
 simp [cntF, spA]
theorem gathered_c (L : List Spl) (hok : ∀ s ∈ L, (s.1.length ≤ 19 ∧ ∀ r ∈ s.1, r.length ≤ 100) ∧ (s.2.1.length ≤ 19 ∧ ∀ r ∈ s.2.1, r.length ≤ 100)) (hn : L.length ≤ 1000) :
  GCon Tryz.prog 272 [.own 208 L.length (L.flatMap spF)] (.own 208 (gthS (srtS (L.map cntF))).length ((gthS (srtS (L.map cntF))).flatMap spF)) [.any] := by
 have cS := sortSpl_c (L.map cntF) (fun s hs => by obtain ⟨t, _, rfl⟩ := List.mem_map.1 hs; rfl) (fun s hs => by
  obtain ⟨t, ht, rfl⟩ := List.mem_map.1 hs
  have h := hok t ht
  refine ⟨⟨by simp [cntF]; omega, fun r hr => h.1.2 r ((srtT_perm _).mem_iff.1 hr)⟩, by simp [cntF]; omega, fun r hr => h.2.2 r ((srtT_perm _).mem_iff.1 hr)⟩) (by simp; omega)
 rw [List.length_map] at cS
 refine gcon_of_vc Tryz.mixed ⟨10, [32], [318], []⟩ [2] [] Tryz.func272 (by decide) rfl rfl (by simp) (by simp) (by decide) ?_
 rw [Tryz.ntmps272]
 simp [go_sem]
 refine loop_invA (0 :: 3 :: 4 :: 10 :: List.range' 12 16) (3 :: 4 :: List.range' 13 15) (fun i : Nat => [(0, .own 208 L.length (mixS L i)), (10, .bor 0 []), (12, .int i)]) (fun i => i ≤ L.length) (fun i => L.length - i) 0 (by intro x i h1 h2; have : i = 0 ∨ i = 10 ∨ i = 12 := (by simp at h1 h2; omega); rcases this with rfl | rfl | rfl <;> rfl) (by intro i h; simp at h ⊢; omega) (by simp) (by simp [go_sem, mixS]) (by simp [go_sem, kl]) ?_
 intro i hi
 by_cases h : i < L.length
 ·have hii : (i : Int) < L.length := by omega
  have hs := hok (L[i]?.getD ([], [], 0)) (memD _ h)
  have c1 := forestOf_c (L[i]?.getD ([], [], 0)).1 (fun m hm => by have := hs.1.2 m hm; omega) hs.1.1
  have c2 := forestOf_c (L[i]?.getD ([], [], 0)).2.1 (fun m hm => by have := hs.2.2 m hm; omega) hs.2.1
  have dr : (mixS L i).drop (i * 3) = spF (L[i]?.getD ([], [], 0)) ++ (L.drop (i + 1)).flatMap spF := by
   have e1 : (((L.map cntF).take i).flatMap spA).length = i * 3 := by rw [spA_len, List.length_take, List.length_map, Nat.min_eq_left (by omega)]
   have e2 : L.drop i = L[i]?.getD ([], [], 0) :: L.drop (i + 1) := by rw [List.drop_eq_getElem_cons h]; simp [h]
   unfold mixS
   rw [List.drop_append_of_le_length (by omega), e2, List.flatMap_cons, List.drop_eq_nil_of_le (by omega), List.nil_append]
  generalize hsp : L[i]?.getD ([], [], 0) = s at *
  obtain ⟨a, b, k⟩ := s
  simp only [spF] at dr c1 c2
  have ml : (mixS L i).length = L.length * 3 := by
   unfold mixS
   rw [List.length_append, spA_len, spF_len, List.length_take, List.length_map, List.length_drop, Nat.min_eq_left (by omega)]; omega
  have nm : ¬ mixS L i = [] := by intro e; rw [e] at ml; simp at ml; omega
  simp [go_sem, hii, dr]
  refine ⟨⟨nm, by omega⟩, by kernel_rfl, ?_⟩
  refine CallD.of (c1) (by simp [roots, rootsL]) (by decide) ?_
  simp [go_sem]
  refine CallD.of (c2) (by simp [roots, rootsL]) (by decide) ?_
  simp [go_sem]
  refine ⟨h, ⟨by omega, nm⟩, ?_⟩
  refine ⟨by kernel_rfl, ?_⟩
  simp [go_sem]
  refine ⟨⟨by omega, by omega⟩, i + 1, by omega, by omega, Off_reset _ _ _ (by simp), mix_set L h hsp, by omega⟩
 ·have e : i = L.length := by omega
  subst e
  have hii : ¬ (L.length : Int) < L.length := by omega
  have e0 : mixS L L.length = (L.map cntF).flatMap spA := by
   unfold mixS
   rw [List.take_of_length_le (by simp), List.drop_eq_nil_of_le (Nat.le_refl _)]; simp
  rw [e0]
  have sl : (srtS (L.map cntF)).length = L.length := by rw [srtS_len, List.length_map]
  have so : ∀ s ∈ srtS (L.map cntF), s.2.2 = 1 ∧ SpOk s := fun s hs => by
   obtain ⟨t, ht, rfl⟩ := List.mem_map.1 ((srtS_perm _).mem_iff.1 hs)
   have h := hok t ht
   exact ⟨rfl, ⟨by simp [cntF]; omega, fun r hr => h.1.2 r ((srtT_perm _).mem_iff.1 hr)⟩, by simp [cntF]; omega, fun r hr => h.2.2 r ((srtT_perm _).mem_iff.1 hr)⟩
  simp [go_sem, hii]
  refine ⟨_, _, cS, ?_⟩
  simp [go_sem]
  generalize srtS (L.map cntF) = S at *
  simp [go_sem, spAs_frz]
  refine loop_inv (6 :: 8 :: 9 :: List.range' 34 33) (fun i : Nat => [(6, .own 208 (gthS (S.take i)).length ((gthS (S.take i)).flatMap spF)), (34, .int i)]) (fun i => i ≤ L.length) (fun i => L.length - i) 0 (by simp) (by simp [go_sem, gthS]) (by simp [go_sem]) ?_
  intro i hi
  by_cases hi2 : i < L.length
  ·have hii : (i : Int) < L.length := by omega
   have hS : i < S.length := by omega
   have dr : (S.flatMap spF).drop (i * 3) = spF (S[i]?.getD ([], [], 0)) ++ (S.drop (i + 1)).flatMap spF := by
    have e1 : ((S.take i).flatMap spF).length = i * 3 := by rw [spF_len, List.length_take, Nat.min_eq_left (by omega)]
    have e2 : S.drop i = S[i]?.getD ([], [], 0) :: S.drop (i + 1) := by rw [List.drop_eq_getElem_cons hS]; simp [hS]
    have e3 : S.flatMap spF = (S.take i).flatMap spF ++ (S.drop i).flatMap spF := by rw [← List.flatMap_append, List.take_append_drop]
    rw [e3, List.drop_append_of_le_length (by omega), e2, List.flatMap_cons, List.drop_eq_nil_of_le (by omega), List.nil_append]
   have hs := so _ (memD ([], [], 0) hS)
   generalize hsp : S[i]?.getD ([], [], 0) = s at *
   obtain ⟨a, b, k⟩ := s
   obtain ⟨hk, hs⟩ := hs
   simp only at hk
   subst hk
   simp only [spF] at dr
   have ml : (S.flatMap spF).length = L.length * 3 := by rw [spF_len, sl]
   have nm : ¬ S.flatMap spF = [] := by intro e; rw [e] at ml; simp at ml; omega
   have gs : gthS (S.take (i + 1)) = stepG (gthS (S.take i)) (a, b, 1) := by
    rw [List.take_succ_eq_append_getElem hS, gthS_snoc]
    congr 1
    rw [← hsp, List.getElem?_eq_getElem hS]; rfl
   have iv := gthS_inv (S.take i)
   generalize S.flatMap spF = M at *
   rcases (List.eq_nil_or_concat (gthS (S.take i))) with ho | ⟨O, l, ho⟩
   ·rw [ho, show stepG [] (a, b, 1) = [(a, b, 1)] from rfl] at gs
    rw [ho]
    simp [go_sem, hii, dr]
    refine ⟨nm, by kernel_rfl, ?_⟩
    refine ⟨by kernel_rfl, ?_⟩
    simp [go_sem]
    refine ⟨⟨by omega, by omega⟩, i + 1, by omega, by omega, Off_reset _ _ _ (by simp), ?_⟩
    rw [gs]
    exact ⟨⟨rfl, by simp [spF]⟩, by omega⟩
   ·rw [List.concat_eq_append] at ho
    rw [ho] at iv
    rw [ho, stepG_snoc] at gs
    rw [ho]
    obtain ⟨i1, i2, i3⟩ := iv
    have kb := i3 (fun s hs => (so s (List.mem_of_mem_take hs)).1) l (by simp)
    have hl : SpOk l := by
     obtain ⟨t, t1, t2⟩ := i2 l (by simp)
     have := (so t (List.mem_of_mem_take t1)).2
     simp only [keyS, Prod.mk.injEq] at t2
     unfold SpOk
     rw [t2.1, t2.2]; exact this
    have cG := gathered1_c l (a, b, 1) hl hs
    have cl : ((O ++ [l]).flatMap spF).length = (O.length + 1) * 3 := by rw [spF_len]; simp
    have cd : ((O ++ [l]).flatMap spF).drop (O.length * 3) = [.sl l.1.length (mat l.1), .sl l.2.1.length (mat l.2.1), .int l.2.2] := by
     rw [List.flatMap_append, List.drop_append_of_le_length (by rw [spF_len]; omega), List.drop_eq_nil_of_le (by rw [spF_len]; omega)]
     simp [spF]
    have cs : ∀ y, ((O ++ [l]).flatMap spF).set (O.length * 3 + 2) y = O.flatMap spF ++ [.sl l.1.length (mat l.1), .sl l.2.1.length (mat l.2.1), y] := fun y => by
     have e := set3c (.sl l.1.length (mat l.1)) (.sl l.2.1.length (mat l.2.1)) (.int l.2.2) y (O.flatMap spF)
     rw [spF_len] at e
     rw [← e, List.flatMap_append]; simp [spF]
    have ol : (O ++ [l]).length = O.length + 1 := by simp
    have i1' : O.length + 1 ≤ i := by
     rw [ol, List.length_take] at i1; omega
    rw [List.length_take] at i3
    simp only [spF] at cG
    rw [ol]
    generalize hC : (O ++ [l]).flatMap spF = C at *
    have cg : C[O.length * 3 + 2]? = some (.val (.int .i64 l.2.2)) := by rw [← List.getElem?_drop, cd]; rfl
    have nC : ¬ C = [] := by intro e; rw [e] at cl; simp at cl
    have hd : 0 < O.length + 1 := by omega
    generalize hv : cmpSp l (a, b, 1) = v at *
    by_cases hz : v = 0
    ·rw [if_pos hz] at gs
     subst hz
     simp [go_sem, hii, dr, hd, cd]
     refine ⟨nm, by kernel_rfl, ?_⟩
     refine ⟨by omega, by omega, ⟨nC, by omega⟩, ?_⟩
     refine CallD.of (cG) (by simp [roots, rootsL]) (by decide) ?_
     simp [go_sem]
     refine ⟨by kernel_rfl, ?_⟩
     simp [go_sem]
     simp [go_sem, cg]
     have tl : (S.take i).length ≤ i := by rw [List.length_take]; omega
     have kk : 0 ≤ l.2.2 ∧ l.2.2 ≤ 1000 := by omega
     refine ⟨by omega, by omega, nC, ⟨by omega, by omega⟩, by omega, nC, by omega, ⟨by omega, by omega⟩, i + 1, by omega, by omega, Off_reset _ _ _ (by simp), ?_⟩
     rw [gs, cs]
     refine ⟨⟨by simp, ?_⟩, by omega⟩
     rw [List.flatMap_append]
     simp [spF]
    ·rw [if_neg hz] at gs
     simp [go_sem, hii, dr, hd, cd]
     refine ⟨nm, by kernel_rfl, ?_⟩
     refine ⟨by omega, by omega, ⟨nC, by omega⟩, ?_⟩
     refine CallD.of (cG) (by simp [roots, rootsL]) (by decide) ?_
     simp [go_sem]
     simp [go_sem, hz]
     refine ⟨by kernel_rfl, ?_⟩
     simp [go_sem]
     refine ⟨⟨by rw [cl], by omega, by omega⟩, ⟨by omega, by omega⟩, i + 1, by omega, by omega, Off_reset _ _ _ (by simp), ?_⟩
     rw [gs]
     refine ⟨⟨by simp, ?_⟩, by omega⟩
     rw [List.flatMap_append, hC]
     simp [spF]
  ·have e : i = S.length := by omega
   subst e
   have hii : ¬ (S.length : Int) < L.length := by omega
   rw [List.take_length]
   simp [go_sem, hii]
end Go.Proofs.YtphccfabekdmnaaGreat


namespace Go.Proofs.YtphccfabekdmnaaGreat
open Go.RowKit Go.Shelf Go.Lib Go.Abs
theorem Grow2_calls (n : Nat) (h0 : 0 < n) (hn : n ≤ 1048576) (i : TypeInfo) (z : Value) (hi : Tryz.prog.info? 25 = some i) (hz : i.zero = some z) (hs : 0 < i.size) (hb : i.bytes = 24) (w : World) :
  Calls Tryz.prog 360 #[.slice none 0 0, .int .i64 n] w fun e w' =>
   e = .returned (.slice (some ⟨w.heap.size, 0, none⟩) 0 (grownCap w n 0 25)) ∧
   w' = w.drew.alloc (.cells (([] : List Value).toArray ++ Builtin.zeroCells z.cells n ++ Builtin.zeroCells z.cells (grownCap w n 0 25 - n)) 25) := by
 have h1 : ¬ ((n : Int) < 0) := by omega
 have h2 : wrap64 (n : Int) = n := by unfold wrap64; omega
 have h4 : (n : Int) > 0 := by omega
 have hrz : ∀ ty, (Builtin.append_ #[24, 3] ty #[.slice none 0 0, .int .i64 (n : Int)]).run Tryz.prog w =
   .ok (.slice (some ⟨w.heap.size, 0, none⟩) n (grownCap w n 0 25)) (w.drew.alloc (.cells (([] : List Value).toArray ++ Builtin.zeroCells z.cells n ++ Builtin.zeroCells z.cells (grownCap w n 0 25 - n)) 25)) := fun ty => by
  have h := Lib.run_append_grow_zeros w 24 3 ty 25 i z .i64 .i64 Tryz.underlying24 Tryz.underlying3 hi hz none 0 0 [] (run_firstCells_none w.drew i.size 0 0 0) n h0 hs (by omega) (by omega)
   (by rw [hb]; omega) (by
    rw [hb]
    have := growslice_fits (need := 0 + n) (old := 0) (bytes := 24) (by omega) (by omega)
    exact this)
  simp only [Nat.zero_add] at h
  exact h
 have hGn : n ≤ grownCap w n 0 25 := grownCap_ge w _ _ _
 obtain ⟨G, hG⟩ : ∃ G, G = grownCap w n 0 25 := ⟨_, rfl⟩
 rw [← hG] at hrz hGn ⊢
 have hG63 : G ≤ 9223372036854775807 := by
  have := grownCap_le_maxLen w n 0 25 (by unfold maxLen; omega)
  rw [← hG] at this
  unfold maxLen at this
  omega
 clear hG
 go_enter Tryz.func360, Tryz.ntmps360
 go_wp2_with (at_builtin; refine Lib.wpList_append_run _ rfl _ _ _ _ rfl _ _ rfl rfl _ _ (hrz _) ?_)
 all_goals (go_ret; exact ⟨rfl, rfl⟩)
theorem Grow2_c (n : Nat) (h0 : 0 < n) (hn : n ≤ 1048576) : Con Tryz.prog 360 [.val (.slice none 0 0), .int n] (.own 25 0 []) := by
 refine ⟨⟨_, Tryz.func360, by decide, rfl⟩, fun w vs hl ha => ?_⟩
 have k := ha (fun _ => undef) (fun _ => [])
 generalize hoz : ([] : List Nat) = oz at k
 obtain ⟨i, z, hi, hz, hs, hb, hzs, _, hce⟩ := infoT_some Tryz.info25
 cases k with
 | cons c v o cs vs os hc ht =>
  cases ht with
  | cons c2 v2 o2 cs2 vs2 os2 hc2 ht2 =>
   have e2 : vs2 = [] := by simpa using hl
   subst e2
   cases hc2 with
   | cell _ _ _ hc2 =>
    cases hc2 with
    | val _ _ =>
     cases hc with
     | cell _ _ _ hc =>
      cases hc with
      | val _ _ =>
       refine (Grow2_calls n h0 hn i z hi hz (by omega) hb w).mono ?_
       rintro e w' ⟨rfl, rfl⟩
       have hge : n ≤ grownCap w n 0 25 := grownCap_ge w _ _ _
       have hrep : RepC Tryz.prog (w.drew.alloc (.cells (([] : List Value).toArray ++ Builtin.zeroCells z.cells n ++ Builtin.zeroCells z.cells (grownCap w n 0 25 - n)) 25)) (fun _ => False) (.own 25 0 []) (.slice (some ⟨w.heap.size, 0, none⟩) 0 (grownCap w n 0 25)) [w.heap.size] :=
        .own _ _ 0 _ _ _ _ (heapDrewNew w _) (by omega) (by rw [hce]; simp [size_zeroCells, hzs, ← Nat.add_mul]; omega) (.nil _)
       refine ⟨_, [w.heap.size], rfl, ⟨rfl, rfl, rfl, by simp, fun b hb => heapDrewOld w _ b hb, by first | exact Nat.le_refl _ | exact dr_succ _⟩, fun tm oss => .cell _ _ _ (hrep.mono (fun _ h => h.elim) (fun _ _ => rfl)), by simp, by simp⟩
inductive NW : AV → AV → Prop
 | same (c : AV) : NW c c
 | nil : NW (.val (.slice none 0 0)) (.sl 0 [])
inductive NWL : List AV → List AV → Prop
 | nil : NWL [] []
 | cons {c c' : AV} {cs cs' : List AV} (h : NW c c') (t : NWL cs cs') : NWL (c :: cs) (c' :: cs')
theorem NW.rep {P : Program} {w : World} {F : Nat → Prop} {c c' : AV} {v : Value} {os : List Nat} (h : NW c c') (hr : RepC P w F c v os) : RepC P w F c' v os := by
 cases h with
 | same => exact hr
 | nil => cases hr with
  | val _ _ => exact .sl0 none 0
theorem NWL.rep {P : Program} {w : World} {F : Nat → Prop} {cs cs' : List AV} (h : NWL cs cs') : ∀ {vs : List Value} {os : List Nat}, RepL P w F cs vs os → RepL P w F cs' vs os := by
 induction h with
 | nil => intro vs os hr; exact hr
 | cons h _ ih =>
  intro vs os hr
  cases hr with
  | cons _ v os _ vs os' h1 h2 => exact .cons _ _ _ _ _ _ (h.rep h1) (ih h2)
theorem GCon.nwArg {P : Program} {f : FuncId} {e : TypeId} {n : Nat} {cs cs' : List AV} {r : AV} {outs : List AV} (hw : NWL cs cs') (h : GCon P f [.own e n cs'] r outs) : GCon P f [.own e n cs] r outs := by
 refine ⟨h.1, fun w vs os F0 hl hnd ho hF hr => h.2 w vs os F0 hl hnd ho hF fun tm oss => ?_⟩
 have k := hr tm oss
 cases k with
 | cons c v o cs1 vs os2 hc ht =>
  refine .cons _ _ _ _ _ _ ?_ ht
  cases hc with
  | cell _ _ _ hc =>
   refine .cell _ _ _ ?_
   cases hc with
   | own0 => cases hw; exact .own0 _
   | own b _ _ cap c _ os3 hb hn2 hc2 hl2 => exact .own b _ _ cap c _ os3 hb hn2 hc2 (hw.rep hl2)
theorem GCon.own0 {P : Program} {f : FuncId} {args : List AV} {outs : List AV} (e : TypeId) (h : GCon P f args (.val (.slice none 0 0)) outs) : GCon P f args (.own e 0 []) outs := by
 refine ⟨h.1, fun w vs os F0 hl hn ho hF hr => (h.2 w vs os F0 hl hn ho hF hr).mono ?_⟩
 rintro x w' ⟨v, orr, oo, F', h1, h2, h3, h4, h5, h6⟩
 refine ⟨v, orr, oo, F', h1, h2, h3, h4, fun tm oss => ?_, h6⟩
 have k := h5 tm oss
 cases k with
 | cell _ _ _ hc => cases hc with
  | val _ _ => exact .cell _ _ _ (.own0 e)
theorem NWL.app {a b : List AV} (h : NWL a b) : ∀ p : List AV, NWL (p ++ a) (p ++ b)
 | [] => h
 | c :: p => .cons (.same c) (NWL.app h p)
theorem GCon.nwRes {P : Program} {f : FuncId} {args : List AV} {e : TypeId} {n : Nat} {cs cs' : List AV} {outs : List AV} (hw : NWL cs cs') (h : GCon P f args (.own e n cs) outs) : GCon P f args (.own e n cs') outs := by
 refine ⟨h.1, fun w vs os F0 hl hn ho hF hr => (h.2 w vs os F0 hl hn ho hF hr).mono ?_⟩
 rintro x w' ⟨v, orr, oo, F', h1, h2, h3, h4, h5, h6⟩
 refine ⟨v, orr, oo, F', h1, h2, h3, h4, fun tm oss => ?_, h6⟩
 have k := h5 tm oss
 cases k with
 | cell _ _ _ hc =>
  refine .cell _ _ _ ?_
  cases hc with
  | own0 => cases hw; exact .own0 _
  | own b _ _ cap c _ os3 hb hn2 hc2 hl2 => exact .own b _ _ cap c _ os3 hb hn2 hc2 (hw.rep hl2)
def szC (x y : List (List Int)) (i : Nat) : Nat := if i = 0 then 0 else if i = 1 then x.length else x.length + y.length
def flC (x y : List (List Int)) (i : Nat) : List (List Int) := if i = 0 then [] else if i = 1 then x else x ++ y
theorem Concat2_pos (x y : List (List Int)) (h0 : 0 < x.length + y.length) (hn : x.length + y.length ≤ 1000) :
  GCon Tryz.prog 319 [.own 24 2 [.sl x.length (mat x), .sl y.length (mat y)]] (.own 25 (x ++ y).length (mat (x ++ y))) [.any] := by
 have cG := Con.gfz (Grow2_c (x.length + y.length) h0 (by omega)) (by simp [hasOwnL, hasOwn]) rfl
 refine gcon_of_vc Tryz.mixed ⟨9, [], [1000000 + 360], []⟩ [2] [] Tryz.func319 (by decide) rfl rfl (by simp) (by simp) (by decide) ?_
 rw [Tryz.ntmps319]
 simp [go_sem]
 refine loop_inv ([3, 5] ++ List.range' 11 12) (fun i : Nat => [(3, .int (szC x y i)), (11, .int i)]) (fun i => i ≤ 2) (fun i => 2 - i) 0 (by simp) (by simp [go_sem, szC]) (by simp [go_sem]) ?_
 intro i hi
 have hc : i = 0 ∨ i = 1 ∨ i = 2 := by omega
 rcases hc with rfl | rfl | rfl
 ·have hs : ¬ ((x.length : Int) < 0) := by omega
  simp [go_sem, szC, hs]
  exact ⟨by omega, 1, by omega, by omega, Off_reset _ _ _ (by simp), by simp, by omega⟩
 ·have hs : ¬ ((x.length : Int) + y.length < 0) := by omega
  simp [go_sem, szC, hs]
  exact ⟨⟨by omega, by omega⟩, 2, by omega, by omega, Off_reset _ _ _ (by simp), by simp, by omega⟩
 ·have e2 : (x.length : Int) + y.length = ((x.length + y.length : Nat) : Int) := by omega
  simp [go_sem, szC]
  rw [e2]
  refine ⟨_, _, cG, ?_⟩
  simp [go_sem]
  refine loop_inv ([6, 8] ++ List.range' 27 8) (fun i : Nat => [(6, .own 25 (flC x y i).length (mat (flC x y i))), (27, .int i)]) (fun i => i ≤ 2) (fun i => 2 - i) 0 (by simp) (by simp [go_sem, flC, mat, frzL]) (by simp [go_sem]) ?_
  intro i hi
  have hc : i = 0 ∨ i = 1 ∨ i = 2 := by omega
  rcases hc with rfl | rfl | rfl
  ·simp [go_sem, flC, mat]
   exact ⟨⟨by omega, by omega⟩, 1, by omega, by omega, Off_reset _ _ _ (by simp), by simp, by omega⟩
  ·simp [go_sem, flC, mat]
   exact ⟨⟨by omega, by omega⟩, 2, by omega, by omega, Off_reset _ _ _ (by simp), by simp, by omega⟩
  ·simp [go_sem, flC]
theorem Grow2_calls0 (w : World) :
  Calls Tryz.prog 360 #[.slice none 0 0, .int .i64 0] w fun e w' => e = .returned (.slice none 0 0) ∧ w' = w := by
 have h2 : wrap64 (0 : Int) = 0 := by unfold wrap64; omega
 go_enter Tryz.func360, Tryz.ntmps360
 go_wp2
 all_goals (go_ret; exact ⟨rfl, rfl⟩)
theorem Grow2_nil : GCon Tryz.prog 360 [.val (.slice none 0 0), .int 0] (.val (.slice none 0 0)) [.any, .any] := by
 refine ⟨⟨_, Tryz.func360, by decide, rfl⟩, fun w vs os F0 hl hnd ho hF hr => ?_⟩
 have k := hr (fun _ => undef) (fun _ => [])
 cases k with
 | cons c v o cs vs os1 hc ht =>
  cases ht with
  | cons c2 v2 o2 cs2 vs2 os2 hc2 ht2 =>
   have e2 : vs2 = [] := by simpa using hl
   subst e2
   cases hc2 with
   | cell _ _ _ hc2 =>
    cases hc2 with
    | val _ _ =>
     cases hc with
     | cell _ _ _ hc =>
      cases hc with
      | val _ _ =>
       refine (Grow2_calls0 w).mono ?_
       rintro e w' ⟨rfl, rfl⟩
       exact ⟨_, [], [], F0, rfl, Ext.refl _ _, fun _ h => h, fun _ h => .inl h, fun tm oss => .cell _ _ _ (.val _ rfl), fun tm oss => .cons _ _ [] _ _ [] (.any _) (.cons _ _ [] _ _ [] (.any _) (.nil _)), rfl, by simp, by simp⟩
theorem Concat2_nil :
  GCon Tryz.prog 319 [.own 24 2 [.sl 0 [], .sl 0 []]] (.own 25 0 []) [.any] := by
 have cG := GCon.own0 25 Grow2_nil
 refine gcon_of_vc Tryz.mixed ⟨9, [], [1000000 + 360], []⟩ [2] [] Tryz.func319 (by decide) rfl rfl (by simp) (by simp) (by decide) ?_
 rw [Tryz.ntmps319]
 simp [go_sem]
 refine loop_inv ([3, 5] ++ List.range' 11 12) (fun i : Nat => [(3, .int 0), (11, .int i)]) (fun i => i ≤ 2) (fun i => 2 - i) 0 (by simp) (by simp [go_sem]) (by simp [go_sem]) ?_
 intro i hi
 have hc : i = 0 ∨ i = 1 ∨ i = 2 := by omega
 rcases hc with rfl | rfl | rfl
 ·simp [go_sem]
  exact ⟨1, by omega, by omega, Off_reset _ _ _ (by simp), by omega⟩
 ·simp [go_sem]
  exact ⟨2, by omega, by omega, Off_reset _ _ _ (by simp), by omega⟩
 ·simp [go_sem]
  refine ⟨_, _, cG, ?_⟩
  simp [go_sem]
  refine loop_inv ([6, 8] ++ List.range' 27 8) (fun i : Nat => [(6, .own 25 0 []), (27, .int i)]) (fun i => i ≤ 2) (fun i => 2 - i) 0 (by simp) (by simp [go_sem]) (by simp [go_sem]) ?_
  intro i hi
  have hc : i = 0 ∨ i = 1 ∨ i = 2 := by omega
  rcases hc with rfl | rfl | rfl
  ·simp [go_sem]
   exact ⟨1, by omega, by omega, Off_reset _ _ _ (by simp), by omega⟩
  ·simp [go_sem]
   exact ⟨2, by omega, by omega, Off_reset _ _ _ (by simp), by omega⟩
  ·simp [go_sem]
theorem ConcatR_c (x y : List (List Int)) (hn : x.length + y.length ≤ 1000) :
  GCon Tryz.prog 319 [.own 24 2 [.sl x.length (mat x), .sl y.length (mat y)]] (.own 25 (x ++ y).length (mat (x ++ y))) [.any] := by
 by_cases h0 : 0 < x.length + y.length
 ·exact Concat2_pos x y h0 hn
 ·have e1 : x = [] := List.length_eq_zero_iff.1 (by omega)
  have e2 : y = [] := List.length_eq_zero_iff.1 (by omega)
  subst e1 e2
  exact Concat2_nil
theorem Concat2_z (y : List (List Int)) (hn : y.length ≤ 1000) :
  GCon Tryz.prog 319 [.own 24 2 [.val (.slice none 0 0), .sl y.length (mat y)]] (.own 25 y.length (mat y)) [.any] :=
 GCon.nwArg (.cons .nil (.cons (.same _) .nil)) (ConcatR_c [] y (by simpa using hn))
end Go.Proofs.YtphccfabekdmnaaGreat


namespace Go.Proofs.YtphccfabekdmnaaGreat
open Go.Abs
def canS (n : Nat) (s : Spl) : Spl := (s.1, [canF (n + 1) (rootL s.2.1)], s.2.2)
def lfS (n : Nat) (j : Nat) : AV := .own 208 1 [.val (.slice none 0 0), if j = 0 then .val (.slice none 0 0) else .sl 1 (mat [canF (n + 1) (rootL [])]), .int 0]
theorem splitTree_leaf {n : Nat} {t : List Int} (h1 : n + 1 ≤ 100) (h2 : Lv t) (h3 : t.length ≤ n + 1) (hb : brs t = []) :
  GCon Tryz.prog 273 [.sl t.length (avs t)] (.own 208 (spl (n + 1) t).length ((spl (n + 1) t).flatMap spF)) [.any] := by
 have cB := branchesOf_c t (by omega) h2
 have cT := canonical_c (n + 1) t h1 h2 h3
 have cR := rootOn_c [] (by simp) (by simp)
 have cK := canonical_c (n + 1) (rootL []) h1 Lv_zero (by simp [rootL])
 rw [spl_succ, hb]
 rw [hb] at cB
 refine GCon.nwRes (n := 2) (cs := [.val (.slice none 0 0), .sl 1 (mat [canF (n + 1) (rootL [])]), .int 0, .sl 1 (mat [canF (n + 1) t]), .val (.slice none 0 0), .int 0]) (.cons .nil (.cons (.same _) (.cons (.same _) (.cons (.same _) (.cons .nil (.cons (.same _) .nil)))))) ?_
 refine gcon_of_vc Tryz.mixed ⟨6, [16, 23, 42, 48, 69, 76], [], []⟩ [2] [] Tryz.func273 (by decide) rfl rfl (by simp) (by simp) (by decide) ?_
 rw [Tryz.ntmps273]
 simp [go_sem]
 refine CallVC.of (cB) (by decide) ?_
 simp [go_sem]
 refine loop_inv (3 :: 5 :: 6 :: 8 :: 10 :: List.range' 18 38) (fun i : Nat => [(3, lfS n 0), (18, .int 0)]) (fun _ => True) (fun _ => 0) 0 trivial (by simp [go_sem, lfS]) (by simp [go_sem, lfS]) ?_
 intro _ _
 simp [go_sem, lfS]
 refine loop_invA (3 :: 11 :: 12 :: 56 :: List.range' 58 15) (11 :: 12 :: List.range' 59 14) (fun j : Nat => [(3, lfS n j), (56, .bor 3 []), (58, .int j)]) (fun j => j ≤ 1) (fun j => 1 - j) 0 (by intro x i h1 h2; have : i = 3 ∨ i = 56 ∨ i = 58 := (by simp at h1 h2; omega); rcases this with rfl | rfl | rfl <;> rfl) (by intro i h; simp at h ⊢; omega) (by simp) (by simp [go_sem, lfS]) (by simp [go_sem, kl, lfS]) ?_
 intro j hj
 have hj01 : j = 0 ∨ j = 1 := by omega
 rcases hj01 with rfl | rfl
 ·simp [go_sem, lfS]
  refine CallVC.of (cR) (by decide) ?_
  simp [go_sem]
  refine CallVC.of (cK) (by decide) ?_
  simp [go_sem]
  have cl : (canF (n + 1) (rootL [])).length = 1 := canF_len (n + 1) (rootL []) Lv_zero (by simp [rootL])
  refine ⟨1, by omega, by omega, Off_reset _ _ _ (by simp), ?_⟩
  have cl2 : (canF (n + 1) [0]).length = 1 := cl
  simp [lfS, mat, cl2, rootL]
 ·simp [go_sem, lfS]
  refine CallVC.of (cT) (by decide) ?_
  simp [go_sem]
  simp [mat, canF_len (n + 1) t h2 h3]
end Go.Proofs.YtphccfabekdmnaaGreat

