/- Texts of the own layer and contracts, part 6: P0 C0 C1 C4 C5 C6 C7 C8 C2 C9 C10 C11 C12 F0 F1 F2 F3 F4 F5 F6 P1 P2 P3 P4 P5 P6 C13 F7 Q0 G0 G1 Q1 Q2 Q29 L3 Q9 Q10 Q11 Q12 Q13 Q3 Q4 Q5 P7 Q6 Q7 Q8 Q14 Q15. -/
import Derived.Test.YtiikdbomhkbdlaaGreatM5
set_option linter.unusedSectionVars false
set_option linter.unusedVariables false
set_option linter.unusedSimpArgs false
set_option maxHeartbeats 4000000
set_option maxRecDepth 100000
namespace Go.Proofs.YtiikdbomhkbdlaaGreat
abbrev Key3 := Int × Int × Int
def sumI {α : Type} (f : α → Int) : List α → Int
 | [] => 0
 | a :: l => f a + sumI f l
theorem sumI_app {α : Type} (f : α → Int) (l r : List α) : sumI f (l ++ r) = sumI f l + sumI f r := by
 induction l with
 | nil => simp [sumI]
 | cons a l ih => simp [sumI, ih]; omega
theorem sumI_add {α : Type} (f g : α → Int) : ∀ l : List α, sumI (fun a => f a + g a) l = sumI f l + sumI g l
 | [] => rfl
 | a :: l => by simp only [sumI, sumI_add f g l]; omega
theorem sumI_mul {α : Type} (c : Int) (f : α → Int) : ∀ l : List α, sumI (fun a => c * f a) l = c * sumI f l
 | [] => by simp [sumI]
 | a :: l => by simp only [sumI, sumI_mul c f l, Int.mul_add]
theorem sumI_zero {α : Type} {f : α → Int} : ∀ {l : List α}, (∀ a ∈ l, f a = 0) → sumI f l = 0
 | [], _ => rfl
 | a :: l, h => by simp only [sumI, h a (by simp), sumI_zero (l := l) (fun b hb => h b (by simp [hb]))]; rfl
theorem sumI_congr {α : Type} {f g : α → Int} : ∀ {l : List α}, (∀ a ∈ l, f a = g a) → sumI f l = sumI g l
 | [], _ => rfl
 | a :: l, h => by simp only [sumI, h a (by simp), sumI_congr (l := l) (fun b hb => h b (by simp [hb]))]
theorem sumI_mod {α : Type} {P : Int} {f g : α → Int} : ∀ {l : List α}, (∀ a ∈ l, f a % P = g a % P) → sumI f l % P = sumI g l % P
 | [], _ => rfl
 | a :: l, h => by
  simp only [sumI]
  rw [Int.add_emod, h a (by simp), sumI_mod (l := l) (fun b hb => h b (by simp [hb])), ← Int.add_emod]
theorem sumI_one {α : Type} [DecidableEq α] (e : α) (v : Int) : ∀ {l : List α}, l.Nodup → e ∈ l → sumI (fun k => if k = e then v else 0) l = v
 | a :: l, hn, he => by
  obtain ⟨h1, h2⟩ := List.nodup_cons.1 hn
  simp only [sumI]
  by_cases h : a = e
  ·subst h
   rw [if_pos rfl, sumI_zero (fun b hb => if_neg (fun hh => h1 (by rw [← hh]; exact hb)))]; omega
  ·have hel : e ∈ l := by
    rcases List.mem_cons.1 he with he | he
    ·exact (h he.symm).elim
    ·exact he
   rw [if_neg h, sumI_one e v h2 hel]; omega
def r4 : List Int := [0, 1, 2, 3]
def box : List Key3 := r4.flatMap fun i => r4.flatMap fun j => r4.map fun k => (i, j, k)
theorem box_nd : box.Nodup := by decide
theorem mem_box {k : Key3} : k ∈ box ↔ 0 ≤ k.1 ∧ k.1 ≤ 3 ∧ 0 ≤ k.2.1 ∧ k.2.1 ≤ 3 ∧ 0 ≤ k.2.2 ∧ k.2.2 ≤ 3 := by
 obtain ⟨a, b, c⟩ := k
 have h4 : ∀ x : Int, x ∈ r4 ↔ 0 ≤ x ∧ x ≤ 3 := fun x => by simp [r4]; omega
 simp only [box, List.mem_flatMap, List.mem_map, Prod.mk.injEq]
 constructor
 ·rintro ⟨i, hi, j, hj, k, hk, rfl, rfl, rfl⟩
  have := (h4 i).1 hi; have := (h4 j).1 hj; have := (h4 k).1 hk
  omega
 ·rintro ⟨h1, h2, h3, h5, h6, h7⟩
  exact ⟨a, (h4 a).2 ⟨h1, h2⟩, b, (h4 b).2 ⟨h3, h5⟩, c, (h4 c).2 ⟨h6, h7⟩, rfl, rfl, rfl⟩
def trm (y : Nat → Int) (k : Key3) : Int := y 0 ^ k.1.toNat * (y 1 ^ k.2.1.toNat * y 2 ^ k.2.2.toNat)
def Val (y : Nat → Int) (C : Key3 → Int) : Int := sumI (fun k => C k * trm y k) box
theorem Val_add (y : Nat → Int) (C D : Key3 → Int) : Val y (fun k => C k + D k) = Val y C + Val y D := by
 unfold Val; rw [← sumI_add]; exact sumI_congr (fun k _ => Int.add_mul _ _ _)
theorem Val_mul (y : Nat → Int) (c : Int) (C : Key3 → Int) : Val y (fun k => c * C k) = c * Val y C := by
 unfold Val; rw [← sumI_mul]; exact sumI_congr (fun k _ => Int.mul_assoc _ _ _)
theorem Val_one (y : Nat → Int) (e : Key3) (v : Int) (he : e ∈ box) : Val y (fun k => if k = e then v else 0) = v * trm y e := by
 unfold Val
 rw [← sumI_one e (v * trm y e) box_nd he]
 refine sumI_congr (fun k _ => ?_)
 show (if k = e then v else 0) * trm y k = if k = e then v * trm y e else 0
 by_cases h : k = e
 ·rw [if_pos h, if_pos h, h]
 ·rw [if_neg h, if_neg h, Int.zero_mul]
theorem Val_mod (y : Nat → Int) {P : Int} {C D : Key3 → Int} (h : ∀ k ∈ box, C k % P = D k % P) : Val y C % P = Val y D % P := by
 unfold Val
 refine sumI_mod (fun k hk => ?_)
 rw [Int.mul_emod, h k hk, ← Int.mul_emod]
def coef {α : Type} (key : α → Key3) (num : α → Int) (l : List α) (k : Key3) : Int := sumI (fun a => if k = key a then num a else 0) l
theorem Val_coef {α : Type} (y : Nat → Int) (key : α → Key3) (num : α → Int) : ∀ l : List α, (∀ a ∈ l, key a ∈ box) → Val y (coef key num l) = sumI (fun a => num a * trm y (key a)) l
 | [], _ => by unfold Val coef; simp only [sumI]; exact sumI_zero (fun _ _ => by simp)
 | a :: l, h => by
  have e : coef key num (a :: l) = fun k => (if k = key a then num a else 0) + coef key num l k := rfl
  rw [e, Val_add, Val_one y (key a) (num a) (h a (by simp)), Val_coef y key num l (fun b hb => h b (by simp [hb]))]; rfl
def inc (i : Nat) (k : Key3) : Key3 := if i = 0 then (k.1 + 1, k.2.1, k.2.2) else if i = 1 then (k.1, k.2.1 + 1, k.2.2) else (k.1, k.2.1, k.2.2 + 1)
def at3 (i : Nat) (k : Key3) : Int := if i = 0 then k.1 else if i = 1 then k.2.1 else k.2.2
def der (i : Nat) (C : Key3 → Int) (k : Key3) : Int := (at3 i k + 1) * C (inc i k)
theorem der_add (i : Nat) (C D : Key3 → Int) (k : Key3) : der i (fun k => C k + D k) k = der i C k + der i D k := by simp only [der, Int.mul_add]
theorem der_mul (i : Nat) (c : Int) (C : Key3 → Int) (k : Key3) : der i (fun k => c * C k) k = c * der i C k := by simp only [der]; rw [Int.mul_left_comm]
def alo (v : Nat → Int) (C : Key3 → Int) : Nat → Key3 → Int
 | 0, _ => 0
 | n + 1, k => alo v C n k + v n * der n C k
end Go.Proofs.YtiikdbomhkbdlaaGreat


namespace Go.Abs
def avs (xs : List Int) : List AV := xs.map AV.int
@[simp] theorem avs_len (xs : List Int) : (avs xs).length = xs.length := by simp [avs]
@[simp] theorem avs_nil : avs [] = [] := rfl
theorem avs_snoc (xs : List Int) (x : Int) : avs (xs ++ [x]) = avs xs ++ [.val (.int .i64 x)] := by simp [avs]
theorem avs_cons (xs : List Int) (x : Int) : avs (x :: xs) = .val (.int .i64 x) :: avs xs := by simp [avs]
theorem avs_drop {xs : List Int} {k : Nat} (h : k < xs.length) : (avs xs).drop k = .val (.int .i64 (xs.getD k 0)) :: avs (xs.drop (k + 1)) := by
 rw [avs, ← List.map_drop, List.drop_eq_getElem_cons h, List.map_cons]; simp [h, avs]
@[simp] theorem avs_inj {xs ys : List Int} : (avs xs = avs ys) = (xs = ys) := by
 apply propext
 constructor
 ·intro h
  induction xs generalizing ys with
  | nil => cases ys with
   | nil => rfl
   | cons y ys => simp [avs] at h
  | cons x xs ih => cases ys with
   | nil => simp [avs] at h
   | cons y ys =>
    rw [avs_cons, avs_cons] at h
    injection h with h1 h2
    injection h1 with h1
    injection h1 with _ h1
    rw [h1, ih h2]
 ·rintro rfl; rfl
theorem avs_set (xs : List Int) (k : Nat) (x : Int) : (avs xs).set k (.val (.int .i64 x)) = avs (xs.set k x) := by
 simp [avs, List.map_set]
theorem avs_repl (n : Nat) (x : Int) : List.replicate n (AV.val (.int .i64 x)) = avs (List.replicate n x) := by simp [avs]
@[simp] theorem avs_fresh (xs : List Int) : freshL (avs xs) = true := by
 induction xs with
 | nil => rfl
 | cons x xs ih => simp [avs_cons, freshL, ih, freshOK]
@[simp] theorem avs_frz (xs : List Int) : frzL (avs xs) = avs xs := by
 induction xs with
 | nil => rfl
 | cons x xs ih => simp [avs_cons, frzL, ih, frz]
@[simp] theorem avs_kl (W : List Nat) (xs : List Int) : klL W (avs xs) = avs xs := by
 induction xs with
 | nil => rfl
 | cons x xs ih => simp [avs_cons, klL, ih, kl]
@[simp] theorem avs_own (xs : List Int) : hasOwnL (avs xs) = false := by
 induction xs with
 | nil => rfl
 | cons x xs ih => simp [avs_cons, hasOwnL, ih, hasOwn]
@[simp] theorem avs_ne {xs : List Int} : (avs xs = []) = (xs = []) := by
 cases xs <;> simp [avs]
theorem tmod_up {n : Int} (h : 0 ≤ n) (m : Int) : n.tmod m = n % m := Int.tmod_eq_emod_of_nonneg h
theorem tdiv_up {n : Int} (h : 0 ≤ n) (m : Int) : n.tdiv m = n / m := Int.tdiv_eq_ediv_of_nonneg h
theorem num_law (n : Int) : (n.tmod 10007 + 10007).tmod 10007 = n % 10007 := by
 rw [Int.tmod_eq_emod, Int.tmod_eq_emod]; split <;> split <;> simp_all <;> omega
theorem num_low (n : Int) : -10007 < n.tmod 10007 ∧ n.tmod 10007 < 10007 := by
 constructor
 ·rw [Int.tmod_eq_emod]; split <;> simp_all <;> omega
 ·exact Int.tmod_lt_of_pos n (by omega)
end Go.Abs


namespace Go.Proofs.YtiikdbomhkbdlaaGreat
open Go.Abs
theorem inRange_c (n a b : Int) : Con Tryz.prog 130 [.int n, .int a, .int b] (.bool (decide (a ≤ n) && decide (n ≤ b))) := by
 refine con_of_vc Tryz.mixed ⟨4, [], [], []⟩ Tryz.func130 (by decide) rfl (by simp) (by decide) rfl ?_
 rw [Tryz.ntmps130]
 simp [go_sem]
 refine ⟨fun h => ?_, fun h => ?_⟩ <;> simp at h <;> simp [go_sem, h] <;> omega
theorem l01In_c (n a b : Int) : Con Tryz.prog 174 [.int n, .int a, .int b] (.bool (decide (a ≤ n) && decide (n ≤ b))) := by
 refine con_of_vc Tryz.mixed ⟨4, [], [], []⟩ Tryz.func174 (by decide) rfl (by simp) (by decide) rfl ?_
 rw [Tryz.ntmps174]
 simp [go_sem]
 refine ⟨fun h => ?_, fun h => ?_⟩ <;> simp at h <;> simp [go_sem, h] <;> omega
def upTo (k : Nat) : List Int := (List.range k).map fun (i : Nat) => (i : Int)
theorem upTo_succ (k : Nat) : upTo (k + 1) = upTo k ++ [(k : Int)] := by simp [upTo, List.range_succ]
@[simp] theorem upTo_len (k : Nat) : (upTo k).length = k := by simp [upTo]
def tall (n : Int) : AV := if 1 ≤ n ∧ n ≤ 8 then .tup [.own 2 n.toNat (avs (upTo n.toNat)), .int 0] else .tup [.val (.slice none 0 0), .int 2]
def held (xs : List Int) (k : Int) : Int := if xs = (List.range xs.length).map (fun (i : Nat) => k + i) then k + xs.length else -1
end Go.Proofs.YtiikdbomhkbdlaaGreat


namespace Go.Proofs.YtiikdbomhkbdlaaGreat
open Go.Abs
def idxF {α : Type} (p : α → Bool) : List α → Int
 | [] => -1
 | x :: xs => if p x then 0 else if idxF p xs = -1 then -1 else idxF p xs + 1
theorem idxF_ge {α : Type} (p : α → Bool) : ∀ xs : List α, -1 ≤ idxF p xs ∧ idxF p xs < xs.length
 | [] => by simp [idxF]
 | x :: xs => by
  have := idxF_ge p xs
  simp only [idxF, List.length_cons]
  split
  ·omega
  ·split <;> omega
theorem idxF_any {α : Type} (p : α → Bool) (xs : List α) : decide (0 ≤ idxF p xs) = xs.any p := by
 induction xs with
 | nil => simp [idxF]
 | cons x xs ih =>
  have := idxF_ge p xs
  simp only [idxF, List.any_cons, ← ih]
  by_cases hp : p x = true
  ·simp [hp]
  ·simp only [hp]
   simp
   split
   ·rename_i e; simp [e]
   ·by_cases h : 0 ≤ idxF p xs <;> simp [h] <;> omega
theorem idxF_skip {α : Type} (p : α → Bool) : ∀ (xs : List α) (i : Nat), (∀ x ∈ xs.take i, p x = false) → i ≤ xs.length → (idxF p xs = if idxF p (xs.drop i) = -1 then -1 else idxF p (xs.drop i) + i)
 | xs, 0, h, hl => by simp
 | [], i + 1, h, hl => by simp at hl
 | x :: xs, i + 1, h, hl => by
  have h1 : p x = false := h x (by simp)
  have h2 := idxF_skip p xs i (fun y hy => h y (by simp [hy])) (by simpa using hl)
  simp only [idxF, h1, List.drop_succ_cons]
  have := (idxF_ge p (xs.drop i)).1
  simp
  rw [h2]
  split
  ·simp
  ·rename_i hne
   rw [if_neg (by omega)]
   omega
theorem IndexFuncI_c (g : FuncId) (p : Int → Bool) (xs : List Int) (hl : xs.length ≤ 9223372036854775807) (hg : ∀ x ∈ xs, Con Tryz.prog g [.int x] (.bool (p x))) :
  Con Tryz.prog 330 [.sl xs.length (avs xs), .val (.func (.func g) #[] #[])] (.int (idxF p xs)) := by
 refine con_of_vc Tryz.mixed ⟨6, [], [], []⟩ Tryz.func330 (by decide) rfl (by simp) (by decide) rfl ?_
 rw [Tryz.ntmps330]
 simp [go_sem]
 refine loop_inv (5 :: List.range' 8 20) (fun i : Nat => [(8, .int i)]) (fun i => i ≤ xs.length ∧ ∀ x ∈ xs.take i, p x = false) (fun i => xs.length - i) 0 (by simp) (by simp [go_sem]) (by simp [go_sem]) ?_
 rintro i ⟨hi, hf⟩
 simp [go_sem]
 have sk := idxF_skip p xs i hf hi
 refine ⟨fun h => ?_, fun h => ?_⟩ <;> simp at h
 ·have hx : xs[i]?.getD 0 ∈ xs := by simp [h]
  have hd : xs.drop i = xs[i]?.getD 0 :: xs.drop (i + 1) := by rw [List.drop_eq_getElem_cons h]; simp [h]
  simp [go_sem, avs_drop h]
  refine ⟨⟨h, by rintro rfl; simp at h⟩, CallVC.of (hg _ hx) (by decide) ?_⟩
  simp [go_sem]
  refine ⟨fun h2 => ?_, fun h2 => ?_⟩ <;> simp [go_sem]
  ·rw [sk, hd]; simp [idxF, h2]
  ·refine ⟨by omega, i + 1, ⟨by omega, ?_⟩, by omega, Off_reset _ _ _ (by simp), by omega⟩
   intro x hx2
   rw [List.take_add_one, List.getElem?_eq_getElem h, Option.toList_some, List.mem_append, List.mem_singleton] at hx2
   rcases hx2 with hx2 | hx2
   ·exact hf x hx2
   ·rw [hx2]; simpa [h] using h2
 ·simp [go_sem]
  rw [sk, List.drop_eq_nil_of_le h]; simp [idxF]
theorem ContainsFuncI_c (g : FuncId) (p : Int → Bool) (xs : List Int) (hl : xs.length ≤ 9223372036854775807) (hg : ∀ x ∈ xs, Con Tryz.prog g [.int x] (.bool (p x))) :
  Con Tryz.prog 282 [.sl xs.length (avs xs), .val (.func (.func g) #[] #[])] (.bool (xs.any p)) := by
 refine con_of_vc Tryz.mixed ⟨5, [], [], []⟩ Tryz.func282 (by decide) rfl (by simp) (by decide) rfl ?_
 rw [Tryz.ntmps282]
 simp [go_sem]
 refine CallVC.of (IndexFuncI_c g p xs hl hg) (by decide) ?_
 simp [go_sem, idxF_any]
theorem IsNumber_c (a : Int) : Con Tryz.prog 120 [.int a] (.bool (decide (0 ≤ a ∧ a ≤ 10006))) := by
 refine con_of_vc Tryz.mixed ⟨3, [], [], []⟩ Tryz.func120 (by decide) rfl (by simp) (by decide) rfl ?_
 rw [Tryz.ntmps120]
 simp [go_sem]
 refine CallVC.of (inRange_c _ _ _) (by decide) ?_
 simp [go_sem]
theorem notNumber_c (a : Int) : Con Tryz.prog 283 [.int a] (.bool (!decide (0 ≤ a ∧ a ≤ 10006))) := by
 refine con_of_vc Tryz.mixed ⟨3, [], [], []⟩ Tryz.func283 (by decide) rfl (by simp) (by decide) rfl ?_
 rw [Tryz.ntmps283]
 simp [go_sem]
 refine CallVC.of (IsNumber_c _) (by decide) ?_
 simp [go_sem]
def numsB (xs : List Int) : Bool := xs.all fun a => decide (0 ≤ a ∧ a ≤ 10006)
theorem areNumbers_c (xs : List Int) (hl : xs.length ≤ 9223372036854775807) : Con Tryz.prog 201 [.sl xs.length (avs xs)] (.bool (numsB xs)) := by
 refine con_of_vc Tryz.mixed ⟨3, [], [], []⟩ Tryz.func201 (by decide) rfl (by simp) (by decide) rfl ?_
 rw [Tryz.ntmps201]
 simp [go_sem]
 refine CallVC.of (ContainsFuncI_c _ _ xs hl (fun x _ => notNumber_c x)) (by decide) ?_
 simp [go_sem, numsB, List.not_any_eq_all_not]
end Go.Proofs.YtiikdbomhkbdlaaGreat


namespace Go.Proofs.YtiikdbomhkbdlaaGreat
open Go.Abs
def mat (xss : List (List Int)) : List AV := xss.map fun r => .sl r.length (avs r)
@[simp] theorem mat_len (xss : List (List Int)) : (mat xss).length = xss.length := by simp [mat]
theorem mat_drop {xss : List (List Int)} {k : Nat} (h : k < xss.length) : (mat xss).drop k = .sl (xss[k]?.getD []).length (avs (xss[k]?.getD [])) :: mat (xss.drop (k + 1)) := by
 rw [mat, ← List.map_drop, List.drop_eq_getElem_cons h, List.map_cons]; simp [h, mat]
@[simp] theorem mat_ne {xss : List (List Int)} : (mat xss = []) = (xss = []) := by cases xss <;> simp [mat]
theorem length_c (n : Nat) (cs : List AV) (hn : n ≤ 9223372036854775807) : Con Tryz.prog 147 [.sl n cs] (.int n) := by
 refine con_of_vc Tryz.mixed ⟨3, [], [], []⟩ Tryz.func147 (by decide) rfl (by simp) (by decide) rfl ?_
 rw [Tryz.ntmps147]
 simp [go_sem]
 try omega
end Go.Proofs.YtiikdbomhkbdlaaGreat


namespace Go.Proofs.YtiikdbomhkbdlaaGreat
open Go.Abs
end Go.Proofs.YtiikdbomhkbdlaaGreat


namespace Go.Proofs.YtiikdbomhkbdlaaGreat
open Go.Abs
def omat (A : List (List Int)) : List AV := A.map fun r => .own 2 r.length (avs r)
@[simp] theorem omat_len (A : List (List Int)) : (omat A).length = A.length := by simp [omat]
@[simp] theorem omat_frz (A : List (List Int)) : frzL (omat A) = mat A := by
 induction A with
 | nil => rfl
 | cons r A ih => simp only [omat, mat, List.map_cons, frzL] at ih ⊢; rw [ih]; simp [frz]
@[simp] theorem omat_fresh (A : List (List Int)) : freshL (omat A) = true := by
 induction A with
 | nil => rfl
 | cons r A ih => simp only [omat, List.map_cons, freshL] at ih ⊢; rw [ih]; simp [freshOK]
end Go.Proofs.YtiikdbomhkbdlaaGreat


namespace Go.Proofs.YtiikdbomhkbdlaaGreat
open Go.Abs
def sumL : List (List Int) → Nat
 | [] => 0
 | r :: rs => r.length + sumL rs
theorem sumL_app (A C : List (List Int)) : sumL (A ++ C) = sumL A + sumL C := by
 induction A with
 | nil => simp [sumL]
 | cons r A ih => simp [sumL, ih]; omega
end Go.Proofs.YtiikdbomhkbdlaaGreat


namespace Go.Proofs.YtiikdbomhkbdlaaGreat
open Go.Abs
def pw (a k : Int) : Int := a ^ k.toNat % 10007
theorem num_c (n : Int) (h0 : -9223372036854775808 ≤ n) (h1 : n ≤ 9223372036854775807) : Con Tryz.prog 108 [.int n] (.int (n % 10007)) := by
 have e := num_law n
 have b := num_low n
 refine con_of_vc Tryz.mixed ⟨3, [], [], []⟩ Tryz.func108 (by decide) rfl (by simp) (by decide) rfl ?_
 rw [Tryz.ntmps108]
 simp [go_sem, e]
 omega
theorem l01Mod_c (n : Int) (h0 : -9223372036854775808 ≤ n) (h1 : n ≤ 9223372036854775807) : Con Tryz.prog 259 [.int n] (.int (n % 10007)) := by
 have e := num_law n
 have b := num_low n
 refine con_of_vc Tryz.mixed ⟨3, [], [], []⟩ Tryz.func259 (by decide) rfl (by simp) (by decide) rfl ?_
 rw [Tryz.ntmps259]
 simp [go_sem, e]
 omega
def fits (n : Int) : Prop := -9223372036854775808 ≤ n ∧ n ≤ 9223372036854775807
theorem l01Mul_c (a b : Int) (h : fits (a * b)) : Con Tryz.prog 177 [.int a, .int b] (.int (a * b % 10007)) := by
 refine con_of_vc Tryz.mixed ⟨5, [], [], []⟩ Tryz.func177 (by decide) rfl (by simp) (by decide) rfl ?_
 rw [Tryz.ntmps177]
 simp [go_sem]
 refine ⟨h, CallVC.of (l01Mod_c _ h.1 h.2) (by decide) ?_⟩
 simp [go_sem]
theorem l01Add_c (a b : Int) (h : fits (a + b)) : Con Tryz.prog 231 [.int a, .int b] (.int ((a + b) % 10007)) := by
 refine con_of_vc Tryz.mixed ⟨5, [], [], []⟩ Tryz.func231 (by decide) rfl (by simp) (by decide) rfl ?_
 rw [Tryz.ntmps231]
 simp [go_sem]
 refine ⟨h, CallVC.of (l01Mod_c _ h.1 h.2) (by decide) ?_⟩
 simp [go_sem]
def isN (a : Int) : Prop := 0 ≤ a ∧ a < 10007
theorem isN_mod (n : Int) : isN (n % 10007) := ⟨Int.emod_nonneg _ (by omega), Int.emod_lt_of_pos _ (by omega)⟩
theorem mul_bound {a b : Int} (ha : isN a) (hb : isN b) : 0 ≤ a * b ∧ a * b ≤ 100120036 := by
 obtain ⟨a0, a1⟩ := ha
 obtain ⟨b0, b1⟩ := hb
 exact ⟨Int.mul_nonneg a0 b0, Int.le_trans (Int.mul_le_mul_of_nonneg_right (show a ≤ 10006 by omega) b0) (by omega)⟩
theorem mul_fits {a b : Int} (ha : isN a) (hb : isN b) : fits (a * b) := by
 have := mul_bound ha hb
 exact ⟨by omega, by omega⟩
theorem add_fits {a b : Int} (ha : isN a) (hb : isN b) : fits (a + b) := by
 obtain ⟨a0, a1⟩ := ha
 obtain ⟨b0, b1⟩ := hb
 exact ⟨by omega, by omega⟩
theorem pow_mod (a : Int) (k : Nat) : (a % 10007) ^ k % 10007 = a ^ k % 10007 := by
 induction k with
 | zero => simp
 | succ k ih => rw [Int.pow_succ, Int.pow_succ, Int.mul_emod, ih, Int.emod_emod, ← Int.mul_emod]
theorem sq_pow (a : Int) (q : Nat) : (a * a) ^ q = a ^ (2 * q) := by
 induction q with
 | zero => simp
 | succ q ih => rw [Int.pow_succ, ih, show 2 * (q + 1) = 2 * q + 1 + 1 by omega, Int.pow_succ, Int.pow_succ, Int.mul_assoc]
theorem mod_mul_r (o x : Int) : o * (x % 10007) % 10007 = o * x % 10007 := by
 rw [Int.mul_emod, Int.emod_emod, ← Int.mul_emod]
theorem mod_mul_l (o x : Int) : (x % 10007) * o % 10007 = x * o % 10007 := by
 rw [Int.mul_emod, Int.emod_emod, ← Int.mul_emod]
theorem pw_even (o a : Int) (q : Nat) : o * (a * a % 10007) ^ q % 10007 = o * a ^ (2 * q) % 10007 := by
 rw [← mod_mul_r, pow_mod, mod_mul_r, sq_pow]
theorem pw_odd (o a : Int) (q : Nat) : (o * a % 10007) * (a * a % 10007) ^ q % 10007 = o * a ^ (2 * q + 1) % 10007 := by
 rw [pw_even, mod_mul_l, Int.pow_succ, Int.mul_assoc, Int.mul_comm (a ^ (2 * q)) a]
theorem half_cast (j : Nat) : (j : Int).tdiv 2 = ((j / 2 : Nat) : Int) := by rw [tdiv_up (by omega)]; omega
theorem bit_cast (j : Nat) : (j : Int).tmod 2 = ((j % 2 : Nat) : Int) := by rw [tmod_up (by omega)]; omega
theorem pow_c (a k : Int) (ha : isN a) (hk : 0 ≤ k) (hk2 : k ≤ 9223372036854775807) : Con Tryz.prog 157 [.int a, .int k] (.int (pw a k)) := by
 refine con_of_vc Tryz.mixed ⟨6, [], [], []⟩ Tryz.func157 (by decide) rfl (by simp) (by decide) rfl ?_
 rw [Tryz.ntmps157]
 simp [go_sem]
 refine loop_inv (0 :: 1 :: List.range' 4 30) (fun x : Int × Nat × Int => [(0, .int x.1), (1, .int x.2.1), (5, .int x.2.2)])
  (fun x => isN x.1 ∧ (x.2.1 : Int) ≤ 9223372036854775807 ∧ isN x.2.2 ∧ x.2.2 * x.1 ^ x.2.1 % 10007 = a ^ k.toNat % 10007) (fun x => x.2.1) (a, k.toNat, 1) ⟨ha, by simp; omega, ⟨by simp, by simp⟩, by simp⟩ (by simp [go_sem]; omega) (by simp [go_sem]) ?_
 rintro ⟨b, j, o⟩ ⟨hb, hj, ho, he⟩
 simp only at hb hj ho he
 have f1 := mul_fits hb hb
 have f2 := mul_fits ho hb
 simp [go_sem]
 refine ⟨fun h => ?_, fun h => ?_⟩ <;> simp at h
 ·simp [go_sem, half_cast, bit_cast]
  refine ⟨fun h2 => ?_, fun h2 => ?_⟩ <;> simp at h2 <;> simp [go_sem]
  ·refine ⟨f2, CallVC.of (num_c _ f2.1 f2.2) (by decide) ?_⟩
   simp [go_sem]
   refine ⟨f1, CallVC.of (num_c _ f1.1 f1.2) (by decide) ?_⟩
   simp [go_sem, half_cast, bit_cast]
   refine ⟨by omega, b * b % 10007, j / 2, o * b % 10007, ⟨isN_mod _, by omega, isN_mod _, ?_⟩, by omega, Off_reset _ _ _ (by simp), rfl, by omega, rfl⟩
   rw [pw_odd, show 2 * (j / 2) + 1 = j by omega, he]
  ·refine ⟨f1, CallVC.of (num_c _ f1.1 f1.2) (by decide) ?_⟩
   simp [go_sem, half_cast, bit_cast]
   refine ⟨by omega, b * b % 10007, j / 2, o, ⟨isN_mod _, by omega, ho, ?_⟩, by omega, Off_reset _ _ _ (by simp), rfl, by omega, rfl⟩
   rw [pw_even, show 2 * (j / 2) = j by omega, he]
 ·simp [go_sem]
  subst h
  unfold pw
  rw [← he]
  simp
  rw [Int.emod_eq_of_lt ho.1 ho.2]
theorem l01Pow_c (a k : Int) (ha : isN a) (hk : 0 ≤ k) (hk2 : k ≤ 9223372036854775807) : Con Tryz.prog 175 [.int a, .int k] (.int (pw a k)) := by
 refine con_of_vc Tryz.mixed ⟨6, [], [], []⟩ Tryz.func175 (by decide) rfl (by simp) (by decide) rfl ?_
 rw [Tryz.ntmps175]
 simp [go_sem]
 refine loop_inv (0 :: 1 :: List.range' 4 30) (fun x : Int × Nat × Int => [(0, .int x.1), (1, .int x.2.1), (5, .int x.2.2)])
  (fun x => isN x.1 ∧ (x.2.1 : Int) ≤ 9223372036854775807 ∧ isN x.2.2 ∧ x.2.2 * x.1 ^ x.2.1 % 10007 = a ^ k.toNat % 10007) (fun x => x.2.1) (a, k.toNat, 1) ⟨ha, by simp; omega, ⟨by simp, by simp⟩, by simp⟩ (by simp [go_sem]; omega) (by simp [go_sem]) ?_
 rintro ⟨b, j, o⟩ ⟨hb, hj, ho, he⟩
 simp only at hb hj ho he
 have f1 := mul_fits hb hb
 have f2 := mul_fits ho hb
 simp [go_sem]
 refine ⟨fun h => ?_, fun h => ?_⟩ <;> simp at h
 ·simp [go_sem, half_cast, bit_cast]
  refine ⟨fun h2 => ?_, fun h2 => ?_⟩ <;> simp at h2 <;> simp [go_sem]
  ·refine CallVC.of (l01Mul_c _ _ f2) (by decide) ?_
   simp [go_sem]
   refine CallVC.of (l01Mul_c _ _ f1) (by decide) ?_
   simp [go_sem, half_cast, bit_cast]
   refine ⟨by omega, b * b % 10007, j / 2, o * b % 10007, ⟨isN_mod _, by omega, isN_mod _, ?_⟩, by omega, Off_reset _ _ _ (by simp), rfl, by omega, rfl⟩
   rw [pw_odd, show 2 * (j / 2) + 1 = j by omega, he]
  ·refine CallVC.of (l01Mul_c _ _ f1) (by decide) ?_
   simp [go_sem, half_cast, bit_cast]
   refine ⟨by omega, b * b % 10007, j / 2, o, ⟨isN_mod _, by omega, ho, ?_⟩, by omega, Off_reset _ _ _ (by simp), rfl, by omega, rfl⟩
   rw [pw_even, show 2 * (j / 2) = j by omega, he]
 ·simp [go_sem]
  subst h
  unfold pw
  rw [← he]
  simp
  rw [Int.emod_eq_of_lt ho.1 ho.2]
theorem inv_c (a : Int) (ha : isN a) : Con Tryz.prog 109 [.int a] (.int (pw a 10005)) := by
 refine con_of_vc Tryz.mixed ⟨3, [], [], []⟩ Tryz.func109 (by decide) rfl (by simp) (by decide) rfl ?_
 rw [Tryz.ntmps109]
 simp [go_sem]
 refine CallVC.of (pow_c _ _ ha (by omega) (by omega)) (by decide) ?_
 simp [go_sem]
theorem l01Inv_c (a : Int) (ha : isN a) : Con Tryz.prog 179 [.int a] (.int (pw a 10005)) := by
 refine con_of_vc Tryz.mixed ⟨3, [], [], []⟩ Tryz.func179 (by decide) rfl (by simp) (by decide) rfl ?_
 rw [Tryz.ntmps179]
 simp [go_sem]
 refine CallVC.of (l01Pow_c _ _ ha (by omega) (by omega)) (by decide) ?_
 simp [go_sem]
def fact : Nat → Int
 | 0 => 1
 | n + 1 => fact n * (n + 1)
theorem fact_pos : ∀ n, 1 ≤ fact n
 | 0 => by simp [fact]
 | n + 1 => by
  have := fact_pos n
  have : 1 * 1 ≤ fact n * (n + 1 : Int) := Int.mul_le_mul this (by omega) (by omega) (by omega)
  simp [fact]; omega
theorem fact_mono (n : Nat) : fact n ≤ fact (n + 1) := by
 have := fact_pos n
 have : fact n * 1 ≤ fact n * (n + 1 : Int) := Int.mul_le_mul_of_nonneg_left (by omega) (by omega)
 simp [fact]; omega
theorem fact_le {n m : Nat} (h : n ≤ m) : fact n ≤ fact m := by
 induction m with
 | zero => rw [show n = 0 by omega]; omega
 | succ m ih => rcases Nat.lt_or_ge n (m + 1) with hl | hl
                ·exact Int.le_trans (ih (by omega)) (fact_mono m)
                ·rw [show n = m + 1 by omega]; omega
theorem fact_20 {n : Nat} (h : n ≤ 20) : 1 ≤ fact n ∧ fact n ≤ 9223372036854775807 :=
 ⟨fact_pos n, Int.le_trans (fact_le h) (by decide)⟩
theorem factorial_c (n : Nat) (h : n ≤ 20) : Con Tryz.prog 145 [.int n] (.int (fact n)) := by
 refine con_of_vc Tryz.mixed ⟨5, [], [], []⟩ Tryz.func145 (by decide) rfl (by simp) (by decide) rfl ?_
 rw [Tryz.ntmps145]
 simp [go_sem]
 refine loop_inv (List.range' 2 20) (fun k : Nat => [(3, .int (fact (k + 1))), (4, .int (k + 2))]) (fun k => k ≤ n - 1) (fun k => n - k) 0 (by simp) (by simp [go_sem]; decide) (by simp [go_sem]) ?_
 intro k hk
 simp [go_sem]
 refine ⟨fun h2 => ?_, fun h2 => ?_⟩ <;> simp at h2
 ·have e : fact (k + 1) * ((k : Int) + 2) = fact (k + 1 + 1) := by simp only [fact]; rw [show ((k + 1 : Nat) : Int) + 1 = (k : Int) + 2 by omega]
  have b := fact_20 (show k + 1 + 1 ≤ 20 by omega)
  simp [go_sem, e]
  refine ⟨by omega, by omega, k + 1, by omega, by omega, Off_reset _ _ _ (by simp), rfl, by omega⟩
 ·simp [go_sem]
  rcases (show k = 0 ∧ n ≤ 1 ∨ k + 1 = n by omega) with ⟨rfl, _⟩ | hk
  ·have : n = 0 ∨ n = 1 := by omega
   rcases this with rfl | rfl <;> rfl
  ·rw [hk]
end Go.Proofs.YtiikdbomhkbdlaaGreat


namespace Go.Proofs.YtiikdbomhkbdlaaGreat
open Go.Abs
end Go.Proofs.YtiikdbomhkbdlaaGreat


namespace Go.Proofs.YtiikdbomhkbdlaaGreat
open Go.Abs
def dotI : List Int → List Int → Int
 | x :: xs, y :: ys => x * y + dotI xs ys
 | _, _ => 0
def Ns (xs : List Int) : Prop := ∀ x ∈ xs, isN x
theorem Ns.get {xs : List Int} (h : Ns xs) (k : Nat) : isN (xs[k]?.getD 0) := by
 rcases Nat.lt_or_ge k xs.length with hk | hk
 ·simp [hk]; exact h _ (List.getElem_mem hk)
 ·simp [hk]; exact ⟨by omega, by omega⟩
theorem Ns.take {xs : List Int} (h : Ns xs) (k : Nat) : Ns (xs.take k) := fun x hx => h x (List.mem_of_mem_take hx)
theorem Ns.snoc {xs : List Int} (h : Ns xs) {x : Int} (hx : isN x) : Ns (xs ++ [x]) := fun y hy => by
 rcases List.mem_append.1 hy with hy | hy
 ·exact h y hy
 ·simp at hy; subst hy; exact hx
theorem Ns.nil : Ns [] := by intro x hx; simp at hx
def tim (A : List (List Int)) (v : List Int) : List Int := A.map fun r => dotI r v % 10007
@[simp] theorem tim_len (A : List (List Int)) (v : List Int) : (tim A v).length = A.length := by simp [tim]
def Mat (n : Nat) (A : List (List Int)) : Prop := ∀ r ∈ A, r.length = n ∧ Ns r
theorem Mat.get {n : Nat} {A : List (List Int)} (h : Mat n A) {k : Nat} (hk : k < A.length) : (A[k]?.getD []).length = n ∧ Ns (A[k]?.getD []) := by
 rw [List.getElem?_eq_getElem hk]; exact h _ (List.getElem_mem hk)
end Go.Proofs.YtiikdbomhkbdlaaGreat


namespace Go.Proofs.YtiikdbomhkbdlaaGreat
open Go.Abs
abbrev u64 (n : Int) : AV := .val (.int .u64 n)
theorem wrap_u64 {x : Int} (h0 : 0 ≤ x) (h1 : x < 18446744073709551616) : IntKind.wrap .u64 x = x := wrap_in (by
 have e1 : IntKind.min .u64 = 0 := by decide
 have e2 : IntKind.max .u64 = 18446744073709551615 := by decide
 unfold inK; rw [e1, e2]; omega)
end Go.Proofs.YtiikdbomhkbdlaaGreat


namespace Go.Proofs.YtiikdbomhkbdlaaGreat
open Go.Abs
theorem specIsNumber_c (a : Int) : Con Tryz.prog 308 [.int a] (.bool (decide (0 ≤ a ∧ a ≤ 10006))) := by
 refine con_of_vc Tryz.mixed ⟨3, [], [], []⟩ Tryz.func308 (by decide) rfl (by simp) (by decide) (by simp [freshOK, freshL, go_sem]) ?_
 rw [Tryz.ntmps308]
 simp [go_sem]
 refine CallVC.of (l01In_c _ _ _) (by decide) ?_
 simp [go_sem]
theorem numsB_bad {xs : List Int} {i : Nat} (h : i < xs.length) (hb : ¬ (0 ≤ xs[i]?.getD 0 ∧ xs[i]?.getD 0 ≤ 10006)) : numsB xs = false := by
 rw [List.getElem?_eq_getElem h] at hb
 simp only [Option.getD_some] at hb
 unfold numsB
 rw [List.all_eq_false]
 exact ⟨xs[i], List.getElem_mem h, by simpa using hb⟩
theorem numsB_ok {xs : List Int} (h : ∀ x ∈ xs, 0 ≤ x ∧ x ≤ 10006) : numsB xs = true := by
 unfold numsB
 rw [List.all_eq_true]
 intro x hx
 simpa using h x hx
theorem numsB_N {xs : List Int} : numsB xs = true ↔ Ns xs := by
 unfold numsB Ns isN
 rw [List.all_eq_true]
 constructor
 ·intro h x hx
  have := h x hx
  simp at this; omega
 ·intro h x hx
  have := h x hx
  simp; omega
theorem take_all {α : Type} {p : α → Prop} {xs : List α} {i : Nat} (h : i < xs.length) (h1 : ∀ x ∈ xs.take i, p x) (h2 : p xs[i]) : ∀ x ∈ xs.take (i + 1), p x := by
 intro x hx
 rw [List.take_add_one, List.getElem?_eq_getElem h, Option.toList_some, List.mem_append, List.mem_singleton] at hx
 rcases hx with hx | rfl
 ·exact h1 x hx
 ·exact h2
theorem l01Numbers_c (xs : List Int) (hl : xs.length ≤ 9223372036854775807) : Con Tryz.prog 246 [.sl xs.length (avs xs)] (.bool (numsB xs)) := by
 refine con_of_vc Tryz.mixed ⟨4, [], [], []⟩ Tryz.func246 (by decide) rfl (by simp) (by decide) (by simp [freshOK, freshL, go_sem]) ?_
 rw [Tryz.ntmps246]
 simp [go_sem]
 refine loop_inv (List.range' 2 14) (fun i : Nat => [(3, .int i)]) (fun i => i ≤ xs.length ∧ ∀ x ∈ xs.take i, 0 ≤ x ∧ x ≤ 10006) (fun i => xs.length - i) 0 (by simp) (by simp [go_sem]) (by simp [go_sem]) ?_
 rintro i ⟨hi, hp⟩
 simp [go_sem]
 refine ⟨fun h => ?_, fun h => ?_⟩ <;> simp at h
 ·simp [go_sem, avs_drop h]
  refine ⟨⟨h, by rintro rfl; simp at h⟩, ?_⟩
  refine CallVC.of (specIsNumber_c _) (by decide) ?_
  by_cases hb : 0 ≤ xs[i]?.getD 0 ∧ xs[i]?.getD 0 ≤ 10006
  ·simp [go_sem, hb]
   refine ⟨by omega, i + 1, ⟨by omega, ?_⟩, by omega, Off_reset _ _ _ (by simp), by omega⟩
   rw [List.getElem?_eq_getElem h, Option.getD_some] at hb
   exact take_all h hp hb
  ·have e : decide (0 ≤ xs[i]?.getD 0 ∧ xs[i]?.getD 0 ≤ 10006) = false := by simpa using hb
   rw [e]
   simp [go_sem]
   exact numsB_bad h hb
 ·simp [go_sem]
  have e : i = xs.length := by omega
  subst e
  rw [List.take_length] at hp
  exact numsB_ok hp
structure Tab (A : List (List Int)) (B : List Int) : Prop where
 pos : 1 ≤ B.length
 le : B.length ≤ 8
 len : A.length = B.length
 b : Ns B
 a : Mat B.length A
end Go.Proofs.YtiikdbomhkbdlaaGreat


namespace Go.Proofs.YtiikdbomhkbdlaaGreat
open Go.Abs
abbrev Mon := Int × List Int
def mons (p : List Mon) : List AV := p.flatMap fun m => [.int m.1, .sl m.2.length (avs m.2)]
def omons (p : List Mon) : List AV := p.flatMap fun m => [.int m.1, .own 2 m.2.length (avs m.2)]
def prt (f : List (List Mon)) : List AV := f.map fun p => .sl p.length (mons p)
def oprt (f : List (List Mon)) : List AV := f.map fun p => .own 62 p.length (omons p)
theorem mons_cons (m : Mon) (p : List Mon) : mons (m :: p) = .int m.1 :: .sl m.2.length (avs m.2) :: mons p := rfl
theorem omons_cons (m : Mon) (p : List Mon) : omons (m :: p) = .int m.1 :: .own 2 m.2.length (avs m.2) :: omons p := rfl
@[simp] theorem mons_nil : mons [] = [] := rfl
@[simp] theorem omons_nil : omons [] = [] := rfl
@[simp] theorem mons_len : ∀ p : List Mon, (mons p).length = p.length * 2
 | [] => rfl
 | m :: p => by rw [mons_cons]; simp [mons_len p]; omega
@[simp] theorem omons_len : ∀ p : List Mon, (omons p).length = p.length * 2
 | [] => rfl
 | m :: p => by rw [omons_cons]; simp [omons_len p]; omega
@[simp] theorem mons_ne {p : List Mon} : (mons p = []) = (p = []) := by cases p <;> simp [mons_cons]
@[simp] theorem prt_len (f : List (List Mon)) : (prt f).length = f.length := by simp [prt]
@[simp] theorem oprt_len (f : List (List Mon)) : (oprt f).length = f.length := by simp [oprt]
@[simp] theorem prt_ne {f : List (List Mon)} : (prt f = []) = (f = []) := by cases f <;> simp [prt]
@[simp] theorem omons_frz : ∀ p : List Mon, frzL (omons p) = mons p
 | [] => rfl
 | m :: p => by rw [omons_cons, mons_cons]; simp [frzL, frz, omons_frz p]
@[simp] theorem mons_frz : ∀ p : List Mon, frzL (mons p) = mons p
 | [] => rfl
 | m :: p => by rw [mons_cons]; simp [frzL, frz, mons_frz p]
@[simp] theorem omons_fresh : ∀ p : List Mon, freshL (omons p) = true
 | [] => rfl
 | m :: p => by rw [omons_cons]; simp [freshL, freshOK, omons_fresh p]
@[simp] theorem oprt_frz : ∀ f : List (List Mon), frzL (oprt f) = prt f
 | [] => rfl
 | p :: f => by have := oprt_frz f; simp only [oprt, prt, List.map_cons, frzL] at this ⊢; rw [this]; simp [frz]
@[simp] theorem oprt_fresh : ∀ f : List (List Mon), freshL (oprt f) = true
 | [] => rfl
 | p :: f => by have := oprt_fresh f; simp only [oprt, List.map_cons, freshL] at this ⊢; rw [this]; simp [freshOK]
theorem mons_drop : ∀ {p : List Mon} {k : Nat}, k < p.length → (mons p).drop (k * 2) = .val (.int .i64 (p[k]?.getD (0, [])).1) :: .sl (p[k]?.getD (0, [])).2.length (avs (p[k]?.getD (0, [])).2) :: mons (p.drop (k + 1))
 | m :: p, 0, _ => rfl
 | m :: p, k + 1, h => by
  have := mons_drop (p := p) (k := k) (by simpa using h)
  rw [mons_cons, show (k + 1) * 2 = k * 2 + 1 + 1 by omega]
  simpa using this
theorem prt_drop {f : List (List Mon)} {k : Nat} (h : k < f.length) : (prt f).drop k = .sl (f[k]?.getD []).length (mons (f[k]?.getD [])) :: prt (f.drop (k + 1)) := by
 rw [prt, ← List.map_drop, List.drop_eq_getElem_cons h, List.map_cons]; simp [h, prt]
def sumC {α : Type} (c : α → Nat) : List α → Nat
 | [] => 0
 | a :: l => c a + sumC c l
structure SzOk {α : Type} (g : Int → α → Int) (c : α → Nat) : Prop where
 lo : ∀ l a, -1 ≤ g l a
 hi : ∀ l a, 0 ≤ l → g l a ≤ l
 ok : ∀ l a, 0 ≤ l → 0 ≤ g l a → (c a : Int) ≤ l - g l a
def cM (m : Mon) : Nat := m.2.length
def cP (p : List Mon) : Nat := p.length + sumC cM p
def cF (f : List (List Mon)) : Nat := f.length + sumC cP f
end Go.Proofs.YtiikdbomhkbdlaaGreat


namespace Go.Proofs.YtiikdbomhkbdlaaGreat
open Go.Abs
theorem omons_app (p q : List Mon) : omons (p ++ q) = omons p ++ omons q := by simp [omons]
theorem oprt_app (f g : List (List Mon)) : oprt (f ++ g) = oprt f ++ oprt g := by simp [oprt]
end Go.Proofs.YtiikdbomhkbdlaaGreat


namespace Go.Proofs.YtiikdbomhkbdlaaGreat
open Go.Abs
theorem avs_at' {xs : List Int} {k : Nat} (h : k < xs.length) : (avs xs)[k]? = some (AV.val (.int .i64 (xs[k]?.getD 0))) := by simp [avs, h]
def ltL : List Int → List Int → Bool
 | _, [] => false
 | [], _ :: _ => true
 | x :: xs, y :: ys => if x = y then ltL xs ys else decide (x < y)
theorem ltL_at : ∀ {a b : List Int} {i : Nat}, i < a.length → i < b.length → a.take i = b.take i → a[i]?.getD 0 ≠ b[i]?.getD 0 → ltL a b = decide (a[i]?.getD 0 < b[i]?.getD 0)
 | x :: a, y :: b, 0, _, _, _, h => by
  simp at h
  simp [ltL, h]
 | x :: a, y :: b, i + 1, h1, h2, h3, h4 => by
  simp at h3
  simp only [ltL, if_pos h3.1]
  simpa using ltL_at (a := a) (b := b) (i := i) (by simpa using h1) (by simpa using h2) h3.2 (by simpa using h4)
theorem ltL_end : ∀ {a b : List Int} {i : Nat}, a.take i = b.take i → i ≤ a.length → i ≤ b.length → (a.length ≤ i ∨ b.length ≤ i) → ltL a b = decide (a.length < b.length)
 | _, [], i, _, _, _, _ => by simp [ltL]
 | [], _ :: _, i, _, _, _, _ => by simp [ltL]
 | x :: a, y :: b, 0, _, h1, h2, h3 => by simp at h3
 | x :: a, y :: b, i + 1, h, h1, h2, h3 => by
  simp at h
  simp only [ltL, if_pos h.1]
  have := ltL_end (a := a) (b := b) (i := i) h.2 (by simpa using h1) (by simpa using h2) (by simpa using h3)
  rw [this]; simp
theorem take_ext {a b : List Int} {i : Nat} (h1 : i < a.length) (h2 : i < b.length) (h : a.take i = b.take i) (e : a[i]?.getD 0 = b[i]?.getD 0) : a.take (i + 1) = b.take (i + 1) := by
 rw [List.getElem?_eq_getElem h1, List.getElem?_eq_getElem h2] at e
 simp at e
 rw [List.take_add_one, List.take_add_one, h, List.getElem?_eq_getElem h1, List.getElem?_eq_getElem h2, e]
theorem l01Less_c (a b : List Int) (ha : a.length ≤ 9223372036854775807) (hb : b.length ≤ 9223372036854775807) : Con Tryz.prog 245 [.sl a.length (avs a), .sl b.length (avs b)] (.bool (ltL a b)) := by
 refine con_of_vc Tryz.mixed ⟨6, [], [], []⟩ Tryz.func245 (by decide) rfl (by simp) (by decide) (by simp [freshOK, freshL, go_sem]) ?_
 rw [Tryz.ntmps245]
 simp [go_sem]
 refine loop_inv (4 :: 5 :: List.range' 6 30) (fun i : Nat => [(5, .int i)]) (fun i => i ≤ a.length ∧ i ≤ b.length ∧ a.take i = b.take i) (fun i => a.length - i) 0 (by simp) (by simp [go_sem]) (by simp [go_sem]) ?_
 rintro i ⟨hi, hj, he⟩
 by_cases h1 : i < a.length
 ·by_cases h2 : i < b.length
  ·have h1' : (i : Int) < a.length := by omega
   have h2' : (i : Int) < b.length := by omega
   by_cases hd : a[i]?.getD 0 = b[i]?.getD 0
   ·simp [go_sem, h1, h2, h1', h2', avs_drop h1, avs_drop h2, hd]
    refine ⟨by kernel_rfl, by rintro rfl; simp at h1, by rintro rfl; simp at h2, ?_⟩
    have hd2 : a[i] = b[i] := by simpa [h1, h2] using hd
    refine ⟨by kernel_rfl, ?_⟩
    simp [go_sem]
    simp [go_sem, hd2]
    refine ⟨by omega, i + 1, ⟨by omega, by omega, take_ext h1 h2 he hd⟩, by omega, Off_reset _ _ _ (by simp), by omega⟩
   ·simp [go_sem, h1, h2, h1', h2', avs_drop h1, avs_drop h2, hd]
    refine ⟨by kernel_rfl, by rintro rfl; simp at h1, by rintro rfl; simp at h2, ?_⟩
    have hd2 : ¬ a[i] = b[i] := by simpa [h1, h2] using hd
    refine ⟨by kernel_rfl, ?_⟩
    simp [go_sem]
    simp [go_sem, hd2, avs_drop h1, avs_drop h2]
    refine ⟨by kernel_rfl, ⟨h1, by rintro rfl; simp at h1⟩, ⟨h2, by rintro rfl; simp at h2⟩, ?_⟩
    refine ⟨by kernel_rfl, ?_⟩
    simp [go_sem]
    rw [ltL_at h1 h2 he hd]
  ·have h2' : ¬ (i : Int) < b.length := by omega
   simp [go_sem, h1, h2, h2']
   rw [ltL_end he hi hj (.inr (by omega))]
 ·simp [go_sem, h1]
  rw [ltL_end he hi hj (.inl (by omega))]
def degL : List Int → Int → Int
 | [], s => s
 | x :: xs, s => if x < 0 ∨ 100 < x then 1000 else degL xs (s + x)
theorem l13Degree_c (a : List Int) (ha : a.length ≤ 1048576) : Con Tryz.prog 244 [.sl a.length (avs a)] (.int (degL a 0)) := by
 refine con_of_vc Tryz.mixed ⟨5, [], [], []⟩ Tryz.func244 (by decide) rfl (by simp) (by decide) (by simp [freshOK, freshL, go_sem]) ?_
 rw [Tryz.ntmps244]
 simp [go_sem]
 refine loop_inv (2 :: 3 :: 4 :: List.range' 5 24) (fun x : Nat × Int => [(3, .int x.2), (4, .int x.1)]) (fun x => x.1 ≤ a.length ∧ 0 ≤ x.2 ∧ x.2 ≤ 100 * x.1 ∧ degL (a.drop x.1) x.2 = degL a 0) (fun x => a.length - x.1) (0, 0) (by simp) (by simp [go_sem]) (by simp [go_sem]) ?_
 rintro ⟨i, s⟩ ⟨hi, hs0, hs1, he⟩
 simp only at hi hs0 hs1 he
 simp [go_sem]
 refine ⟨fun h => ?_, fun h => ?_⟩ <;> simp at h
 ·have hd : a.drop i = a[i]?.getD 0 :: a.drop (i + 1) := by rw [List.drop_eq_getElem_cons h]; simp [h]
  rw [hd, degL] at he
  by_cases b1 : a[i]?.getD 0 < 0
  ·simp [go_sem, avs_drop h, b1]
   rw [if_pos (.inl b1)] at he
   exact ⟨⟨h, by rintro rfl; simp at h⟩, he⟩
  ·by_cases b2 : 100 < a[i]?.getD 0
   ·simp [go_sem, avs_drop h, b1, b2]
    rw [if_pos (.inr b2)] at he
    exact ⟨⟨h, by rintro rfl; simp at h⟩, he⟩
   ·simp [go_sem, avs_drop h, b1, b2]
    rw [if_neg (by omega)] at he
    refine ⟨⟨h, by rintro rfl; simp at h⟩, by omega, by omega, i + 1, _, ⟨by omega, by omega, by omega, he⟩, by omega, Off_reset _ _ _ (by simp), rfl, by omega⟩
 ·simp [go_sem]
  rw [List.drop_eq_nil_of_le h] at he
  exact he
def monB (z : Int) (m : Mon) : Bool := decide (1 ≤ m.1 ∧ m.1 ≤ 10006) && decide ((m.2.length : Int) = z) && decide (degL m.2 0 ≤ 3)
def atB (z : Int) (p : List Mon) (j : Nat) : Bool := monB z (p[j]?.getD (0, [])) && (decide (j = 0) || ltL (p[j - 1]?.getD (0, [])).2 (p[j]?.getD (0, [])).2)
def partB (z : Int) (p : List Mon) : Bool := (List.range p.length).all (atB z p)
def fieldB (z : Int) (f : List (List Mon)) : Bool := decide (1 ≤ z ∧ z ≤ 3) && decide ((f.length : Int) = z) && f.all (partB z)
theorem partB_no {z : Int} {p : List Mon} {j : Nat} (hj : j < p.length) (h : atB z p j = false) : partB z p = false := by
 unfold partB; rw [List.all_eq_false]; exact ⟨j, by simpa using hj, by simp [h]⟩
theorem partB_yes {z : Int} {p : List Mon} (h : ∀ j, j < p.length → atB z p j = true) : partB z p = true := by
 unfold partB; rw [List.all_eq_true]; intro j hj; exact h j (by simpa using hj)
theorem fieldB_no {z : Int} {f : List (List Mon)} {i : Nat} (hi : i < f.length) (h : partB z (f[i]?.getD []) = false) : fieldB z f = false := by
 unfold fieldB
 have : f.all (partB z) = false := by rw [List.all_eq_false]; exact ⟨f[i]?.getD [], by simp [hi], by simp [h]⟩
 rw [this]; simp
def Small (f : List (List Mon)) : Prop := f.length ≤ 1048576 ∧ ∀ p ∈ f, p.length ≤ 1048576 ∧ ∀ q ∈ p, q.2.length ≤ 1048576
theorem l13Is_c (z : Int) (f : List (List Mon)) (hf : Small f) : Con Tryz.prog 142 [.agg [.int z, .sl f.length (prt f)]] (.bool (fieldB z f)) := by
 have fl := hf.1
 refine con_of_vc Tryz.mixed ⟨6, [], [], []⟩ Tryz.func142 (by decide) rfl (by simp) (by decide) (by simp [freshOK, freshL, go_sem]) ?_
 rw [Tryz.ntmps142]
 simp [go_sem]
 refine CallVC.of (l01In_c z 1 3) (by decide) ?_
 simp [go_sem]
 by_cases hz : 1 ≤ z ∧ z ≤ 3
 ·by_cases hl : (f.length : Int) = z
  ·have fine : fieldB z f = f.all (partB z) := by unfold fieldB; simp [hz, hl]
   simp [go_sem, hz.1, hz.2, hl]
   refine loop_inv (2 :: 3 :: 4 :: 5 :: List.range' 18 61) (fun i : Nat => [(3, .int i)]) (fun i => i ≤ f.length ∧ ∀ p ∈ f.take i, partB z p = true) (fun i => f.length - i) 0 (by simp) (by simp [go_sem]) (by simp [go_sem]) ?_
   rintro i ⟨hi, hp⟩
   simp [go_sem]
   refine ⟨fun h => ?_, fun h => ?_⟩ <;> simp at h
   ·have hx : f[i]?.getD [] ∈ f := by simp [h]
    obtain ⟨hm1, hm2⟩ := hf.2 _ hx
    simp [go_sem]
    refine loop_inv (2 :: 4 :: 5 :: List.range' 25 54) (fun j : Nat => [(4, .int j)]) (fun j => j ≤ (f[i]?.getD []).length ∧ ∀ k, k < j → atB z (f[i]?.getD []) k = true) (fun j => (f[i]?.getD []).length - j) 0 (by simp) (by simp [go_sem]) (by simp [go_sem]) ?_
    rintro j ⟨hj, hq⟩
    have hif := h
    simp [go_sem, prt_drop hif]
    refine ⟨⟨hif, by rintro rfl; simp at hif⟩, ?_⟩
    generalize hP : f[i]?.getD [] = P at *
    refine ⟨fun h => ?_, fun h => ?_⟩ <;> simp at h
    ·have hy : P[j]?.getD (0, []) ∈ P := by simp [h]
     have hm := hm2 _ hy
     have hno : atB z P j = false → fieldB z f = false := fun hh => fieldB_no hif (by rw [hP]; exact partB_no h hh)
     simp [go_sem, prt_drop hif, hP, mons_drop h]
     refine ⟨⟨hif, by rintro rfl; simp at hif⟩, ⟨h, by rintro rfl; simp at h⟩, ?_⟩
     generalize hM : P[j]?.getD (0, []) = m at *
     have cD := l13Degree_c m.2 hm
     refine CallVC.of (l01In_c _ _ _) (by decide) ?_
     by_cases c1 : 1 ≤ m.1 ∧ m.1 ≤ 10006
     ·by_cases c2 : (m.2.length : Int) = z
      ·simp [go_sem, c1.1, c1.2, c2]
       refine CallVC.of (cD) (by decide) ?_
       by_cases c3 : degL m.2 0 ≤ 3
       ·have c3' : ¬ 3 < degL m.2 0 := by omega
        have hmb : monB z m = true := by unfold monB; simp [c1, c2, c3]
        simp [go_sem, c3']
        refine ⟨by kernel_rfl, ?_⟩
        by_cases j0 : 0 < j
        ·have hk : j - 1 < P.length := by omega
         have ek : (j : Int) - 1 = ((j - 1 : Nat) : Int) := by omega
         have hyk : P[j - 1]?.getD (0, []) ∈ P := by simp [hk]
         have hmk := hm2 _ hyk
         have cL := l01Less_c (P[j - 1]?.getD (0, [])).2 m.2 (by omega) (by omega)
         have hat : atB z P j = ltL (P[j - 1]?.getD (0, [])).2 m.2 := by unfold atB; rw [hM, hmb, decide_eq_false (by omega : ¬ j = 0)]; simp
         simp [go_sem, j0, ek, prt_drop hif, hP, mons_drop hk]
         generalize (P[j - 1]?.getD (0, [])).2 = pw0 at *
         refine ⟨⟨hif, by rintro rfl; simp at hif⟩, by omega, ⟨hk, by rintro rfl; simp at h⟩, ?_⟩
         generalize hL : ltL pw0 m.2 = bb at *
         refine CallD.of (cL) (by simp [roots, rootsL]) (by decide) ?_
         simp [go_sem]
         cases bb with
         | false =>
          simp [go_sem]
          refine ⟨by kernel_rfl, ?_⟩
          simp [go_sem]
          rw [hno hat]
         | true =>
          simp [go_sem]
          refine ⟨by kernel_rfl, ?_⟩
          simp [go_sem]
          refine ⟨by omega, j + 1, ⟨by omega, fun k hk2 => ?_⟩, by omega, Off_reset _ _ _ (by simp), by omega⟩
          by_cases e : k = j
          ·rw [e]; exact hat
          ·exact hq k (by omega)
        ·simp [go_sem, j0]
         refine ⟨by kernel_rfl, ?_⟩
         simp [go_sem]
         have hat : atB z P j = true := by unfold atB; rw [hM, hmb, decide_eq_true (by omega : j = 0)]; rfl
         refine ⟨by omega, j + 1, ⟨by omega, fun k hk2 => ?_⟩, by omega, Off_reset _ _ _ (by simp), by omega⟩
         by_cases e : k = j
         ·rw [e]; exact hat
         ·exact hq k (by omega)
       ·have c3' : 3 < degL m.2 0 := by omega
        simp [go_sem, c3']
        rw [hno (by unfold atB monB; rw [hM, decide_eq_false c3]; simp)]
      ·simp [go_sem, c1.1, c1.2, c2]
       rw [hno (by unfold atB monB; simp [hM, c2])]
     ·have c1' : (decide (1 ≤ m.1) && decide (m.1 ≤ 10006)) = false := by simpa using c1
      rw [c1']
      simp [go_sem]
      rw [hno (by unfold atB monB; rw [hM, decide_eq_false c1]; simp)]
    ·simp [go_sem]
     have hpb : partB z P = true := partB_yes (fun k hk => hq k (by omega))
     refine ⟨by omega, i + 1, ⟨by omega, take_all hif hp (by rw [← hP] at hpb; simpa [hif] using hpb)⟩, by omega, (Off.reset (by intro x hx; simp at hx ⊢; omega) (by simp) (by simp [go_sem, Off_reset])), by omega⟩
   ·simp [go_sem]
    rw [List.take_of_length_le h] at hp
    rw [fine, List.all_eq_true.2 hp]
  ·simp [go_sem, hz.1, hz.2, hl]
   unfold fieldB; simp [hl]
 ·have hz' : (decide (1 ≤ z) && decide (z ≤ 3)) = false := by simpa using hz
  rw [hz']
  simp [go_sem]
  unfold fieldB; rw [decide_eq_false hz]; simp
end Go.Proofs.YtiikdbomhkbdlaaGreat


namespace Go.Proofs.YtiikdbomhkbdlaaGreat
open Go.Abs
theorem degL_le : ∀ {xs : List Int} {s : Int}, 0 ≤ s → degL xs s ≤ 3 → (∀ x ∈ xs, 0 ≤ x ∧ x ≤ 3) ∧ s + xs.sum ≤ 3
 | [], s, h0, h => by simpa [degL] using h
 | x :: xs, s, h0, h => by
  rw [degL] at h
  split at h
  ·omega
  ·rename_i hx
   have hd := degL_le (xs := xs) (s := s + x) (by omega) h
   have pos : ∀ (l : List Int), (∀ x ∈ l, 0 ≤ x ∧ x ≤ 3) → 0 ≤ l.sum := by
    intro l
    induction l with
    | nil => simp
    | cons a l ih => intro h; have h1 := h a (by simp); have h2 := ih (fun x hx => h x (by simp [hx])); simp; omega
   have hs := pos xs hd.1
   have hd2 := hd.2
   refine ⟨fun y hy => ?_, by simp; omega⟩
   rcases List.mem_cons.1 hy with rfl | hy
   ·omega
   ·exact hd.1 y hy
structure MonOk (z : Int) (m : Mon) : Prop where
 lo : 1 ≤ m.1
 hi : m.1 ≤ 10006
 len : (m.2.length : Int) = z
 pw : ∀ x ∈ m.2, 0 ≤ x ∧ x ≤ 3
 deg : m.2.sum ≤ 3
theorem monB_ok {z : Int} {m : Mon} (h : monB z m = true) : MonOk z m := by
 unfold monB at h
 simp only [Bool.and_eq_true, decide_eq_true_eq] at h
 have := degL_le (by omega : (0 : Int) ≤ 0) h.2
 exact ⟨h.1.1.1, h.1.1.2, h.1.2, this.1, by omega⟩
theorem MonOk.get {z : Int} {m : Mon} (h : MonOk z m) (k : Nat) : 0 ≤ m.2[k]?.getD 0 ∧ m.2[k]?.getD 0 ≤ 3 := by
 rcases Nat.lt_or_ge k m.2.length with hk | hk
 ·simp [hk]; exact h.pw _ (List.getElem_mem hk)
 ·simp [hk]
structure FieldOk (z : Int) (f : List (List Mon)) : Prop where
 lo : 1 ≤ z
 hi : z ≤ 3
 len : (f.length : Int) = z
 part : ∀ p ∈ f, partB z p = true
theorem fieldB_iff {z : Int} {f : List (List Mon)} : fieldB z f = true ↔ FieldOk z f := by
 unfold fieldB
 simp only [Bool.and_eq_true, decide_eq_true_eq, List.all_eq_true]
 exact ⟨fun ⟨⟨⟨a, b⟩, c⟩, d⟩ => ⟨a, b, c, d⟩, fun ⟨a, b, c, d⟩ => ⟨⟨⟨a, b⟩, c⟩, d⟩⟩
theorem partB_at {z : Int} {p : List Mon} (h : partB z p = true) {j : Nat} (hj : j < p.length) : MonOk z (p[j]?.getD (0, [])) ∧ (0 < j → ltL (p[j - 1]?.getD (0, [])).2 (p[j]?.getD (0, [])).2 = true) := by
 unfold partB at h
 have := (List.all_eq_true.1 h) j (by simpa using hj)
 unfold atB at this
 simp only [Bool.and_eq_true, Bool.or_eq_true, decide_eq_true_eq] at this
 exact ⟨monB_ok this.1, fun h0 => this.2.resolve_left (by omega)⟩
theorem partB_mem {z : Int} {p : List Mon} (h : partB z p = true) {m : Mon} (hm : m ∈ p) : MonOk z m := by
 obtain ⟨j, hj, rfl⟩ := List.getElem_of_mem hm
 have := (partB_at h hj).1
 simpa [hj] using this
def tmF (y e : List Int) (x : Int) : Nat → Int
 | 0 => x
 | i + 1 => tmF y e x i * Go.Proofs.YtiikdbomhkbdlaaGreat.pw (y[i]?.getD 0) (e[i]?.getD 0) % 10007
theorem tmF_N {y e : List Int} {x : Int} (h : isN x) : ∀ i, isN (tmF y e x i)
 | 0 => h
 | i + 1 => isN_mod _
def vsum (y : List Int) : List Mon → Int
 | [] => 0
 | m :: p => tmF y m.2 m.1 y.length + vsum y p
theorem l13Point_c (z : Int) (y : List Int) (hl : y.length ≤ 9223372036854775807) : Con Tryz.prog 143 [.int z, .sl y.length (avs y)] (.bool (decide ((y.length : Int) = z) && numsB y)) := by
 refine con_of_vc Tryz.mixed ⟨5, [], [], []⟩ Tryz.func143 (by decide) rfl (by simp) (by decide) (by simp [freshOK, freshL, go_sem]) ?_
 rw [Tryz.ntmps143]
 simp [go_sem]
 by_cases h : (y.length : Int) = z
 ·simp [go_sem, h]
  refine CallVC.of (l01Numbers_c y hl) (by decide) ?_
  simp [go_sem]
 ·simp [go_sem, h]
end Go.Proofs.YtiikdbomhkbdlaaGreat


namespace Go.Proofs.YtiikdbomhkbdlaaGreat
open Go.Abs
def cmpI (x y : Int) : Int := if x < y then -1 else if y < x then 1 else 0
theorem isNaN_c [DrawK] (x : Int) : Con Tryz.prog 338 [.int x] (.bool false) := by
 refine con_of_vc Tryz.mixed ⟨3, [], [], []⟩ Tryz.func338 (by decide) rfl (by simp) (by decide) (by simp [freshOK, freshL, go_sem]) ?_
 rw [Tryz.ntmps338]
 simp [go_sem]
theorem Compare1_c [DrawK] (x y : Int) : Con Tryz.prog 289 [.int x, .int y] (.int (cmpI x y)) := by
 refine con_of_vc Tryz.mixed ⟨7, [], [], []⟩ Tryz.func289 (by decide) rfl (by simp) (by decide) (by simp [freshOK, freshL, go_sem]) ?_
 rw [Tryz.ntmps289]
 simp [go_sem]
 refine CallVC.of (isNaN_c _) (by decide) ?_
 simp [go_sem]
 refine CallVC.of (isNaN_c _) (by decide) ?_
 simp [go_sem]
 unfold cmpI
 by_cases h1 : x < y
 ·simp [go_sem, h1]
 ·by_cases h2 : y < x
  ·simp [go_sem, h1, h2]
  ·simp [go_sem, h1, h2]
def cmpL : List Int → List Int → Int
 | [], [] => 0
 | [], _ :: _ => -1
 | _ :: _, [] => 1
 | x :: xs, y :: ys => if x = y then cmpL xs ys else cmpI x y
theorem cmpI_ne {x y : Int} (h : x ≠ y) : cmpI x y ≠ 0 := by unfold cmpI; split; omega; split <;> omega
theorem cmpL_lt : ∀ a b : List Int, decide (0 ≤ cmpL a b) = !ltL a b
 | [], [] => by simp [cmpL, ltL]
 | [], _ :: _ => by simp [cmpL, ltL]
 | _ :: _, [] => by simp [cmpL, ltL]
 | x :: xs, y :: ys => by
  rw [cmpL, ltL]
  by_cases h : x = y
  ·rw [if_pos h, if_pos h]; exact cmpL_lt xs ys
  ·rw [if_neg h, if_neg h]
   unfold cmpI
   by_cases h1 : x < y
   ·simp [h1]
   ·have : y < x := by omega
    simp [h1, this]
theorem cmpL_at : ∀ {a b : List Int} {i : Nat}, i < a.length → i < b.length → a.take i = b.take i → a[i]?.getD 0 ≠ b[i]?.getD 0 → cmpL a b = cmpI (a[i]?.getD 0) (b[i]?.getD 0)
 | x :: a, y :: b, 0, _, _, _, h => by
  simp at h
  simp [cmpL, h]
 | x :: a, y :: b, i + 1, h1, h2, h3, h4 => by
  simp at h3
  simp only [cmpL, if_pos h3.1]
  simpa using cmpL_at (a := a) (b := b) (i := i) (by simpa using h1) (by simpa using h2) h3.2 (by simpa using h4)
theorem cmpL_more : ∀ {a b : List Int} {i : Nat}, i < a.length → b.length ≤ i → a.take b.length = b → cmpL a b = 1
 | x :: a, [], _, _, _, _ => by simp [cmpL]
 | x :: a, y :: b, 0, _, h, _ => by simp at h
 | x :: a, y :: b, i + 1, h1, h2, h3 => by
  simp at h3
  simp only [cmpL, if_pos h3.1]
  exact cmpL_more (a := a) (b := b) (i := i) (by simpa using h1) (by simpa using h2) h3.2
theorem cmpL_end : ∀ {a b : List Int}, a = b.take a.length → cmpL a b = if a.length < b.length then -1 else 0
 | [], [], _ => by simp [cmpL]
 | [], _ :: _, _ => by simp [cmpL]
 | x :: a, [], h => by simp at h
 | x :: a, y :: b, h => by
  simp at h
  simp only [cmpL, if_pos h.1]
  rw [cmpL_end h.2]; simp
theorem Compare_c [DrawK] (a b : List Int) (ha : a.length ≤ 9223372036854775807) (hb : b.length ≤ 9223372036854775807) : Con Tryz.prog 211 [.sl a.length (avs a), .sl b.length (avs b)] (.int (cmpL a b)) := by
 refine con_of_vc Tryz.mixed ⟨9, [], [], []⟩ Tryz.func211 (by decide) rfl (by simp) (by decide) (by simp [freshOK, freshL, go_sem]) ?_
 rw [Tryz.ntmps211]
 simp [go_sem]
 refine loop_inv (4 :: 5 :: 6 :: 7 :: 8 :: List.range' 11 20) (fun i : Nat => [(11, .int i)]) (fun i => i ≤ a.length ∧ i ≤ b.length ∧ a.take i = b.take i) (fun i => a.length - i) 0 (by simp) (by simp [go_sem]) (by simp [go_sem]) ?_
 rintro i ⟨hi, hj, he⟩
 simp [go_sem]
 refine ⟨fun h => ?_, fun h => ?_⟩ <;> simp at h
 ·have h1 := h
  simp [go_sem, avs_drop h1]
  refine ⟨⟨h1, by rintro rfl; simp at h1⟩, ?_⟩
  by_cases h2 : i < b.length
  ·have h2' : ¬ (b.length ≤ i) := by omega
   simp [go_sem, h2', avs_drop h2]
   refine ⟨⟨h2, by rintro rfl; simp at h2⟩, ?_⟩
   refine CallVC.of (Compare1_c _ _) (by decide) ?_
   simp [go_sem]
   by_cases hd : a[i]?.getD 0 = b[i]?.getD 0
   ·have hc : cmpI (a[i]?.getD 0) (b[i]?.getD 0) = 0 := by unfold cmpI; rw [if_neg (by omega), if_neg (by omega)]
    simp [go_sem, hc]
    refine ⟨by omega, i + 1, ⟨by omega, by omega, take_ext h1 h2 he hd⟩, by omega, Off_reset _ _ _ (by simp), by omega⟩
   ·have hc := cmpI_ne hd
    simp [go_sem, hc]
    rw [cmpL_at h1 h2 he hd]
  ·have h2' : b.length ≤ i := by omega
   have e : i = b.length := by omega
   simp [go_sem, h2']
   rw [cmpL_more h1 h2' (by rw [← e, he, e, List.take_length])]
 ·simp [go_sem]
  have e : i = a.length := by omega
  subst e
  rw [List.take_length] at he
  rw [cmpL_end he]
  by_cases h3 : a.length < b.length
  ·simp [go_sem, h3]
  ·simp [go_sem, h3]
theorem degL_big {xs : List Int} {s : Int} (h : 3 < s) : ¬ degL xs s ≤ 3 := by
 intro hd
 have := degL_le (by omega : 0 ≤ s) hd
 have pos : ∀ (l : List Int), (∀ x ∈ l, 0 ≤ x ∧ x ≤ 3) → 0 ≤ l.sum := by
  intro l
  induction l with
  | nil => simp
  | cons a l ih => intro h; have h1 := h a (by simp); have h2 := ih (fun x hx => h x (by simp [hx])); simp; omega
 have := pos xs this.1
 omega
theorem isMonomial_c (z : Int) (m : Mon) (hl : m.2.length ≤ 1048576) : Con Tryz.prog 210 [.agg [.int m.1, .sl m.2.length (avs m.2)], .int z] (.bool (monB z m)) := by
 refine con_of_vc Tryz.mixed ⟨8, [], [], []⟩ Tryz.func210 (by decide) rfl (by simp) (by decide) (by simp [freshOK, freshL, go_sem]) ?_
 rw [Tryz.ntmps210]
 simp [go_sem]
 refine loop_inv (4 :: 5 :: 7 :: List.range' 11 11) (fun x : Nat × Int => [(5, .int x.2), (11, .int x.1)]) (fun x => x.1 ≤ m.2.length ∧ 0 ≤ x.2 ∧ x.2 ≤ 3 * x.1 ∧ degL (m.2.drop x.1) x.2 = degL m.2 0) (fun x => m.2.length - x.1) (0, 0) (by simp) (by simp [go_sem]) (by simp [go_sem]) ?_
 rintro ⟨i, s⟩ ⟨hi, hs0, hs1, he⟩
 simp only at hi hs0 hs1 he
 simp [go_sem]
 refine ⟨fun h => ?_, fun h => ?_⟩ <;> simp at h
 ·have hd : m.2.drop i = m.2[i]?.getD 0 :: m.2.drop (i + 1) := by rw [List.drop_eq_getElem_cons h]; simp [h]
  simp [go_sem, avs_drop h]
  refine ⟨⟨h, fun e => by rw [e] at h; simp at h⟩, ?_⟩
  refine CallVC.of (inRange_c _ _ _) (by decide) ?_
  by_cases hx : 0 ≤ m.2[i]?.getD 0 ∧ m.2[i]?.getD 0 ≤ 3
  ·simp [go_sem, hx.1, hx.2]
   rw [hd, degL, if_neg (by omega)] at he
   refine ⟨by omega, by omega, i + 1, _, ⟨by omega, by omega, by omega, he⟩, by omega, Off_reset _ _ _ (by simp), rfl, by omega⟩
  ·have hx' : (decide (0 ≤ m.2[i]?.getD 0) && decide (m.2[i]?.getD 0 ≤ 3)) = false := by simpa using hx
   have hm : monB z m = false := by
    have : ¬ degL m.2 0 ≤ 3 := by
     rw [← he, hd, degL]
     split
     ·omega
     ·exact degL_big (by omega)
    unfold monB; rw [decide_eq_false this]; simp
   rw [hx']
   simp [go_sem]
   rw [hm]
 ·simp [go_sem]
  rw [List.drop_eq_nil_of_le h, degL] at he
  subst he
  by_cases c0 : m.1 = 0
  ·simp [go_sem, c0]
   unfold monB; simp [c0]
  ·simp [go_sem, c0]
   refine CallVC.of (IsNumber_c _) (by decide) ?_
   simp [go_sem]
   by_cases c1 : 0 ≤ m.1 ∧ m.1 ≤ 10006
   ·simp [go_sem, c1.1, c1.2]
    refine CallVC.of (length_c _ _ (by omega)) (by decide) ?_
    simp [go_sem]
    by_cases c2 : (m.2.length : Int) = z
    ·simp [go_sem, c2]
     unfold monB
     have : 1 ≤ m.1 := by omega
     simp [this, c1.2, c2]
    ·simp [go_sem, c2]
     unfold monB; simp [c2]
   ·have c1' : (decide (0 ≤ m.1) && decide (m.1 ≤ 10006)) = false := by simpa using c1
    rw [c1']
    simp [go_sem]
    have : ¬ (1 ≤ m.1 ∧ m.1 ≤ 10006) := by omega
    unfold monB; rw [decide_eq_false this]; simp
theorem lengthP_c (n : Nat) (cs : List AV) (hn : n ≤ 9223372036854775807) : Con Tryz.prog 209 [.sl n cs] (.int n) := by
 refine con_of_vc Tryz.mixed ⟨3, [], [], []⟩ Tryz.func209 (by decide) rfl (by simp) (by decide) (by simp [freshOK, freshL, go_sem]) ?_
 rw [Tryz.ntmps209]
 simp [go_sem]
 try omega
theorem IsField_c (z : Int) (f : List (List Mon)) (hf : Small f) : Con Tryz.prog 103 [.agg [.int z, .sl f.length (prt f)]] (.bool (fieldB z f)) := by
 have fl := hf.1
 refine con_of_vc Tryz.mixed ⟨7, [], [], []⟩ Tryz.func103 (by decide) rfl (by simp) (by decide) (by simp [freshOK, freshL, go_sem]) ?_
 rw [Tryz.ntmps103]
 simp [go_sem]
 refine ⟨by kernel_rfl, ?_⟩
 refine CallD.of (inRange_c z 1 3) (by simp [roots, rootsL]) (by decide) ?_
 simp [go_sem]
 by_cases hz : 1 ≤ z ∧ z ≤ 3
 ·have cl := lengthP_c f.length (prt f) (by omega)
  by_cases hl : (f.length : Int) = z
  ·have fine : fieldB z f = f.all (partB z) := by unfold fieldB; simp [hz, hl]
   simp [go_sem, hz.1, hz.2]
   refine CallD.of (cl) (by simp [roots, rootsL]) (by decide) ?_
   simp [go_sem]
   simp [go_sem, hl]
   refine ⟨by kernel_rfl, ?_⟩
   simp [go_sem]
   refine loop_inv (2 :: 4 :: 5 :: 6 :: List.range' 22 34) (fun i : Nat => [(22, .int i)]) (fun i => i ≤ f.length ∧ ∀ p ∈ f.take i, partB z p = true) (fun i => f.length - i) 0 (by simp) (by simp [go_sem]) (by simp [go_sem]) ?_
   rintro i ⟨hi, hp⟩
   simp [go_sem]
   refine ⟨fun h => ?_, fun h => ?_⟩ <;> simp at h
   ·have hif := h
    have hx : f[i]?.getD [] ∈ f := by simp [h]
    obtain ⟨hm1, hm2⟩ := hf.2 _ hx
    simp [go_sem, prt_drop hif]
    refine ⟨⟨hif, by rintro rfl; simp at hif⟩, ?_⟩
    generalize hP : f[i]?.getD [] = P at *
    refine loop_inv (2 :: 5 :: 6 :: List.range' 28 27) (fun j : Nat => [(28, .int j)]) (fun j => j ≤ P.length ∧ ∀ k, k < j → atB z P k = true) (fun j => P.length - j) 0 (by simp) (by simp [go_sem]) (by simp [go_sem]) ?_
    rintro j ⟨hj, hq⟩
    simp [go_sem]
    refine ⟨fun h => ?_, fun h => ?_⟩ <;> simp at h
    ·have hy : P[j]?.getD (0, []) ∈ P := by simp [h]
     have hm := hm2 _ hy
     have hno : atB z P j = false → fieldB z f = false := fun hh => fieldB_no hif (by rw [hP]; exact partB_no h hh)
     simp [go_sem, mons_drop h]
     refine ⟨⟨h, by rintro rfl; simp at h⟩, by kernel_rfl, ?_⟩
     generalize hM : P[j]?.getD (0, []) = m at *
     have cM := isMonomial_c z m hm
     generalize hmb : monB z m = mb at *
     refine CallD.of (cM) (by simp [roots, rootsL]) (by decide) ?_
     simp [go_sem]
     cases mb with
     | false =>
      simp [go_sem]
      refine ⟨by kernel_rfl, ?_⟩
      simp [go_sem]
      rw [hno (by unfold atB; rw [hM, hmb]; rfl)]
     | true =>
      by_cases j0 : 0 < j
      ·have hk : j - 1 < P.length := by omega
       have ek : (j : Int) - 1 = ((j - 1 : Nat) : Int) := by omega
       have hyk : P[j - 1]?.getD (0, []) ∈ P := by simp [hk]
       have hmk := hm2 _ hyk
       have cC := Compare_c (P[j - 1]?.getD (0, [])).2 m.2 (by omega) (by omega)
       have hat : atB z P j = ltL (P[j - 1]?.getD (0, [])).2 m.2 := by unfold atB; rw [hM, hmb, decide_eq_false (by omega : ¬ j = 0)]; simp
       have hlt := cmpL_lt (P[j - 1]?.getD (0, [])).2 m.2
       simp [go_sem, j0, ek, mons_drop hk]
       refine ⟨by omega, ⟨hk, by rintro rfl; simp at h⟩, ?_⟩
       generalize (P[j - 1]?.getD (0, [])).2 = pw0 at *
       generalize hc : cmpL pw0 m.2 = c at *
       refine CallD.of (cC) (by simp [roots, rootsL]) (by decide) ?_
       simp [go_sem]
       cases hL : ltL pw0 m.2 with
       | false =>
        rw [hL] at hlt hat
        have hc0 : 0 ≤ c := by simpa using hlt
        simp [go_sem, hc0]
        refine ⟨by kernel_rfl, ?_⟩
        simp [go_sem]
        rw [hno hat]
       | true =>
        rw [hL] at hlt hat
        have hc0 : ¬ 0 ≤ c := by simpa using hlt
        simp [go_sem, hc0]
        refine ⟨by kernel_rfl, ?_⟩
        simp [go_sem]
        refine ⟨by omega, j + 1, ⟨by omega, fun k hk2 => ?_⟩, by omega, Off_reset _ _ _ (by simp), by omega⟩
        by_cases e : k = j
        ·rw [e]; exact hat
        ·exact hq k (by omega)
      ·simp [go_sem, j0]
       refine ⟨by kernel_rfl, ?_⟩
       simp [go_sem]
       have hat : atB z P j = true := by unfold atB; rw [hM, hmb, decide_eq_true (by omega : j = 0)]; rfl
       refine ⟨by omega, j + 1, ⟨by omega, fun k hk2 => ?_⟩, by omega, Off_reset _ _ _ (by simp), by omega⟩
       by_cases e : k = j
       ·rw [e]; exact hat
       ·exact hq k (by omega)
    ·simp [go_sem]
     have hpb : partB z P = true := partB_yes (fun k hk => hq k (by omega))
     refine ⟨by omega, i + 1, ⟨by omega, take_all hif hp (by rw [← hP] at hpb; simpa [hif] using hpb)⟩, by omega, (Off.reset (by intro x hx; simp at hx ⊢; omega) (by simp) (by simp [go_sem, Off_reset])), by omega⟩
   ·simp [go_sem]
    rw [List.take_of_length_le h] at hp
    rw [fine, List.all_eq_true.2 hp]
  ·simp [go_sem, hz.1, hz.2]
   refine CallD.of (cl) (by simp [roots, rootsL]) (by decide) ?_
   simp [go_sem]
   simp [go_sem, hl]
   refine ⟨by kernel_rfl, ?_⟩
   simp [go_sem]
   unfold fieldB; simp [hl]
 ·by_cases z1 : 1 ≤ z
  ·have z3 : ¬ z ≤ 3 := fun h => hz ⟨z1, h⟩
   simp [go_sem, z1, z3]
   refine ⟨by kernel_rfl, ?_⟩
   simp [go_sem]
   unfold fieldB; rw [decide_eq_false hz]; simp
  ·simp [go_sem, z1]
   refine ⟨by kernel_rfl, ?_⟩
   simp [go_sem]
   unfold fieldB; rw [decide_eq_false hz]; simp
def vecB (z : Int) (y : List Int) : Bool := decide ((y.length : Int) = z) && numsB y
theorem isVector_c (z : Int) (n : Nat) (cs : List AV) (y : List Int) (hl : y.length ≤ 9223372036854775807) :
  Con Tryz.prog 105 [.agg [.int z, .sl n cs], .sl y.length (avs y)] (.bool (vecB z y)) := by
 refine con_of_vc Tryz.mixed ⟨5, [], [], []⟩ Tryz.func105 (by decide) rfl (by simp) (by decide) (by simp [freshOK, freshL, go_sem]) ?_
 rw [Tryz.ntmps105]
 simp [go_sem]
 refine ⟨by kernel_rfl, ?_⟩
 refine CallD.of (length_c _ _ hl) (by simp [roots, rootsL]) (by decide) ?_
 simp [go_sem]
 unfold vecB
 by_cases h : (y.length : Int) = z
 ·simp [go_sem, h]
  refine CallD.of (areNumbers_c y hl) (by simp [roots, rootsL]) (by decide) ?_
  simp [go_sem]
  refine ⟨by kernel_rfl, ?_⟩
  simp [go_sem]
 ·simp [go_sem, h]
  refine ⟨by kernel_rfl, ?_⟩
  simp [go_sem]
theorem notVector_c (z : Int) (n : Nat) (cs : List AV) (y : List Int) (hl : y.length ≤ 9223372036854775807) :
  Con Tryz.prog 215 [.sl y.length (avs y), .fptr [.int z, .sl n cs]] (.bool (!vecB z y)) := by
 refine con_of_vc Tryz.mixed ⟨4, [], [], []⟩ Tryz.func215 (by decide) rfl (by simp) (by decide) (by simp [freshOK, freshL, go_sem]) ?_
 rw [Tryz.ntmps215]
 simp [go_sem]
 refine CallVC.of (isVector_c z n cs y hl) (by decide) ?_
 simp [go_sem]
theorem IndexFuncV_c (g : FuncId) (cs : List AV) (p : List Int → Bool) (xss : List (List Int)) (hl : xss.length ≤ 9223372036854775807) (hg : ∀ x ∈ xss, Con Tryz.prog g [.sl x.length (avs x), .fptr cs] (.bool (p x))) :
  Con Tryz.prog 284 [.sl xss.length (mat xss), .fn g [.fptr cs]] (.int (idxF p xss)) := by
 refine con_of_vc Tryz.mixed ⟨6, [], [], []⟩ Tryz.func284 (by decide) rfl (by simp) (by decide) (by simp [freshOK, freshL, go_sem]) ?_
 rw [Tryz.ntmps284]
 simp [go_sem]
 refine loop_inv (5 :: List.range' 8 20) (fun i : Nat => [(8, .int i)]) (fun i => i ≤ xss.length ∧ ∀ x ∈ xss.take i, p x = false) (fun i => xss.length - i) 0 (by simp) (by simp [go_sem]) (by simp [go_sem]) ?_
 rintro i ⟨hi, hf⟩
 simp [go_sem]
 have sk := idxF_skip p xss i hf hi
 refine ⟨fun h => ?_, fun h => ?_⟩ <;> simp at h
 ·have hx : xss[i]?.getD [] ∈ xss := by simp [h]
  have hd : xss.drop i = xss[i]?.getD [] :: xss.drop (i + 1) := by rw [List.drop_eq_getElem_cons h]; simp [h]
  simp [go_sem, mat_drop h]
  refine ⟨⟨h, by rintro rfl; simp at h⟩, CallVC.of (hg _ hx) (by decide) ?_⟩
  simp [go_sem]
  refine ⟨fun h2 => ?_, fun h2 => ?_⟩ <;> simp [go_sem]
  ·rw [sk, hd]; simp [idxF, h2]
  ·refine ⟨by omega, i + 1, ⟨by omega, ?_⟩, by omega, Off_reset _ _ _ (by simp), by omega⟩
   intro x hx2
   rw [List.take_add_one, List.getElem?_eq_getElem h, Option.toList_some, List.mem_append, List.mem_singleton] at hx2
   rcases hx2 with hx2 | hx2
   ·exact hf x hx2
   ·rw [hx2]; simpa [h] using h2
 ·simp [go_sem]
  rw [sk, List.drop_eq_nil_of_le h]; simp [idxF]
theorem ContainsFuncV_c (g : FuncId) (cs : List AV) (p : List Int → Bool) (xss : List (List Int)) (hl : xss.length ≤ 9223372036854775807) (hg : ∀ x ∈ xss, Con Tryz.prog g [.sl x.length (avs x), .fptr cs] (.bool (p x))) :
  Con Tryz.prog 202 [.sl xss.length (mat xss), .fn g [.fptr cs]] (.bool (xss.any p)) := by
 refine con_of_vc Tryz.mixed ⟨5, [], [], []⟩ Tryz.func202 (by decide) rfl (by simp) (by decide) (by simp [freshOK, freshL, go_sem]) ?_
 rw [Tryz.ntmps202]
 simp [go_sem]
 refine CallVC.of (IndexFuncV_c g cs p xss hl hg) (by decide) ?_
 simp [go_sem]
 simp [idxF_any]
def chk (z : Int) (f : List (List Mon)) (ys : List (List Int)) : Int := if fieldB z f = true then if ys.any (fun y => !vecB z y) = true then 2 else 0 else 1
theorem checkVectors_c (z : Int) (f : List (List Mon)) (ys : List (List Int)) (hs : Small f) (hl : ys.length ≤ 9223372036854775807) (hr : ∀ y ∈ ys, y.length ≤ 9223372036854775807) :
  Con Tryz.prog 113 [.agg [.int z, .sl f.length (prt f)], .sl ys.length (mat ys)] (.int (chk z f ys)) := by
 have cI := IsField_c z f hs
 have cC := ContainsFuncV_c 215 [.int z, .sl f.length (prt f)] (fun y => !vecB z y) ys hl (fun y hy => notVector_c z _ _ y (hr y hy))
 unfold chk
 generalize fieldB z f = b at *
 generalize ys.any (fun y => !vecB z y) = c at *
 refine con_of_vc Tryz.mixed ⟨5, [], [], []⟩ Tryz.func113 (by decide) rfl (by simp) (by decide) (by simp [freshOK, freshL, go_sem]) ?_
 rw [Tryz.ntmps113]
 simp [go_sem]
 refine CallVC.of (cI) (by decide) ?_
 simp [go_sem]
 cases b with
 | false =>
  simp [go_sem]
 | true =>
  simp [go_sem]
  refine CallVC.of (cC) (by decide) ?_
  simp [go_sem]
  cases c with
  | false =>
   simp [go_sem]
  | true =>
   simp [go_sem]
end Go.Proofs.YtiikdbomhkbdlaaGreat


namespace Go.Proofs.YtiikdbomhkbdlaaGreat
open Go.Abs
def keyOf (e : List Int) : Key := (e[0]?.getD 0, e[1]?.getD 0, e[2]?.getD 0)
def polG (c : Key → Option Int) : List Mon → Key → Option Int
 | [] => c
 | m :: p => polG (mset c (keyOf m.2) m.1) p
def polF (p : List Mon) : Key → Option Int := polG mzero p
theorem polG_app (c : Key → Option Int) (p q : List Mon) : polG c (p ++ q) = polG (polG c p) q := by
 induction p generalizing c with
 | nil => rfl
 | cons m p ih => exact ih _
theorem polF_take {p : List Mon} {i : Nat} (h : i < p.length) : polF (p.take (i + 1)) = mset (polF (p.take i)) (keyOf (p[i]?.getD (0, [])).2) (p[i]?.getD (0, [])).1 := by
 rw [List.take_add_one, List.getElem?_eq_getElem h, polF, polG_app]; rfl
theorem polynomialOf_c (p : List Mon) (hp : p.length ≤ 1048576) (hm : ∀ m ∈ p, m.2.length ≤ 3) :
  Con Tryz.prog 195 [.sl p.length (mons p)] (.mp (polF p)) := by
 refine con_of_vc Tryz.mixed ⟨7, [], [], []⟩ Tryz.func195 (by decide) rfl (by simp) (by decide) (by simp [freshOK, freshL, go_sem]) ?_
 rw [Tryz.ntmps195]
 simp [go_sem]
 refine loop_inv (3 :: 5 :: 6 :: List.range' 10 14) (fun i : Nat => [(3, .mp (polF (p.take i))), (10, .int i)]) (fun i => i ≤ p.length) (fun i => p.length - i) 0 (by simp) (by simp [go_sem, polF, polG]) (by simp [go_sem]) ?_
 intro i hi
 simp [go_sem]
 refine ⟨fun h => ?_, fun h => ?_⟩ <;> simp at h
 ·have hif := h
  have hx : p[i]?.getD (0, []) ∈ p := by simp [h]
  have hl := hm _ hx
  have hv := polF_take h
  simp [go_sem, mons_drop hif]
  generalize p[i]?.getD (0, []) = m at *
  obtain ⟨x, e⟩ := m
  simp only at hl hv
  refine ⟨⟨hif, by rintro rfl; simp at hif⟩, by kernel_rfl, ⟨by omega, by omega⟩, ?_⟩
  refine ⟨by kernel_rfl, ?_⟩
  simp [go_sem]
  rcases e with _ | ⟨a, _ | ⟨b, _ | ⟨c, _ | ⟨d, e⟩⟩⟩⟩
  ·simp [go_sem, avs]
   refine ⟨by omega, i + 1, by omega, by omega, Off_reset _ _ _ (by simp), hv.symm, by omega⟩
  ·simp [go_sem, avs]
   refine ⟨by omega, i + 1, by omega, by omega, Off_reset _ _ _ (by simp), hv.symm, by omega⟩
  ·simp [go_sem, avs]
   refine ⟨by omega, i + 1, by omega, by omega, Off_reset _ _ _ (by simp), hv.symm, by omega⟩
  ·simp [go_sem, avs]
   refine ⟨by omega, i + 1, by omega, by omega, Off_reset _ _ _ (by simp), hv.symm, by omega⟩
  ·simp at hl
 ·simp [go_sem]
  rw [List.take_of_length_le h]
def pols (f : List (List Mon)) : List AV := f.map fun p => .mp (polF p)
def fpols (f : List (List Mon)) : List AV := f.map fun p => .fmp (polF p)
@[simp] theorem pols_len (f : List (List Mon)) : (pols f).length = f.length := by simp [pols]
@[simp] theorem fpols_len (f : List (List Mon)) : (fpols f).length = f.length := by simp [fpols]
@[simp] theorem fpols_ne {f : List (List Mon)} : (fpols f = []) = (f = []) := by cases f <;> simp [fpols]
@[simp] theorem pols_frz : ∀ f : List (List Mon), frzL (pols f) = fpols f
 | [] => rfl
 | p :: f => by have := pols_frz f; simp only [pols, fpols, List.map_cons, frzL] at this ⊢; rw [this]; simp [frz]
@[simp] theorem pols_fresh : ∀ f : List (List Mon), freshL (pols f) = true
 | [] => rfl
 | p :: f => by have := pols_fresh f; simp only [pols, List.map_cons, freshL] at this ⊢; rw [this]; simp [freshOK]
theorem fpols_drop {f : List (List Mon)} {k : Nat} (h : k < f.length) : (fpols f).drop k = .fmp (polF (f[k]?.getD [])) :: fpols (f.drop (k + 1)) := by
 rw [fpols, ← List.map_drop, List.drop_eq_getElem_cons h, List.map_cons]; simp [h, fpols]
theorem polynomials_c (z : Int) (f : List (List Mon)) (hf : FieldOk z f) (hs : Small f) :
  Con Tryz.prog 89 [.agg [.int z, .sl f.length (prt f)]] (.own 125 f.length (pols f)) := by
 have fl := hs.1
 have z3 := hf.hi
 have zl := hf.len
 refine con_of_vc Tryz.mixed ⟨6, [], [], []⟩ Tryz.func89 (by decide) rfl (by simp) (by decide) (by simp [freshOK, freshL, go_sem]) ?_
 rw [Tryz.ntmps89]
 simp [go_sem]
 refine loop_inv (3 :: 5 :: List.range' 10 10) (fun i : Nat => [(3, .own 125 i (pols (f.take i))), (10, .int i)]) (fun i => i ≤ f.length) (fun i => f.length - i) 0 (by simp) (by simp [go_sem, pols]) (by simp [go_sem]) ?_
 intro i hi
 simp [go_sem]
 refine ⟨fun h => ?_, fun h => ?_⟩ <;> simp at h
 ·have hif := h
  have hx : f[i]?.getD [] ∈ f := by simp [h]
  have hm := hs.2 _ hx
  simp [go_sem, prt_drop hif]
  refine ⟨⟨hif, by rintro rfl; simp at hif⟩, ?_⟩
  refine CallVC.of (polynomialOf_c _ hm.1 (fun m hm => by have := (partB_mem (hf.part _ hx) hm).len; omega)) (by decide) ?_
  simp [go_sem]
  have e1 : f.take (i + 1) = f.take i ++ [f[i]?.getD []] := by rw [List.take_add_one]; simp [hif]
  refine ⟨⟨by omega, by omega, by omega⟩, by omega, i + 1, by omega, by omega, Off_reset _ _ _ (by simp), ⟨rfl, ?_⟩, by omega⟩
  rw [e1]; simp [pols]
 ·simp [go_sem]
  rw [List.take_of_length_le h]
  exact ⟨by omega, rfl⟩
def tmK (y : List Int) (k : Key) (x : Int) : Int := tmF y [k.1, k.2.1, k.2.2] x y.length
def rest (y : List Int) : List (Key × Int) → Int
 | [] => 0
 | e :: es => tmK y e.1 e.2 + rest y es
theorem rest_app (y : List Int) (a b : List (Key × Int)) : rest y (a ++ b) = rest y a + rest y b := by
 induction a with
 | nil => simp [rest]
 | cons e a ih => simp [rest, ih]; omega
theorem rest_pos (y : List Int) : ∀ {es : List (Key × Int)}, (∀ e ∈ es, isN e.2) → 0 ≤ rest y es
 | [], _ => by simp [rest]
 | e :: es, h => by
  have h1 := rest_pos y (es := es) (fun a ha => h a (by simp [ha]))
  have h2 := (tmF_N (y := y) (e := [e.1.1, e.1.2.1, e.1.2.2]) (h e (by simp)) y.length).1
  simp only [rest, tmK]; omega
def EOk (e : Key × Int) : Prop := isN e.2 ∧ 0 ≤ e.1.1 ∧ e.1.1 ≤ 1000 ∧ 0 ≤ e.1.2.1 ∧ e.1.2.1 ≤ 1000 ∧ 0 ≤ e.1.2.2 ∧ e.1.2.2 ≤ 1000
theorem value_c (c : Key → Option Int) (y : List Int) (T : Int) (hy : Ns y) (hl : y.length ≤ 3) (hc : ∀ k x, c k = some x → EOk (k, x)) (hT : T ≤ 1000000000000000000) (hE : ∀ es, Enum c es → rest y es = T) :
  Con Tryz.prog 292 [.fmp c, .sl y.length (avs y)] (.int (T % 10007)) := by
 refine con_of_vc Tryz.mixed ⟨10, [], [], []⟩ Tryz.func292 (by decide) rfl (by simp) (by decide) (by simp [freshOK, freshL, go_sem]) ?_
 rw [Tryz.ntmps292]
 simp [go_sem]
 intro es hes
 have hok : ∀ e ∈ es, EOk e := fun e he => hc e.1 e.2 (hes.val e he)
 have hsum := hE es hes
 refine loop_inv (5 :: 6 :: 7 :: 8 :: 9 :: 11 :: List.range' 12 24) (fun x : Int × Option (Key × Int) × List (Key × Int) => [(5, .int x.1), (11, .it x.2.1 x.2.2)]) (fun x => 0 ≤ x.1 ∧ x.1 + rest y x.2.2 = T ∧ ∀ e ∈ x.2.2, EOk e) (fun x => x.2.2.length) (0, none, es) ⟨by simp, by simpa using hsum, hok⟩ (by simp [go_sem]) (by simp [go_sem]) ?_
 rintro ⟨s, l, rem⟩ ⟨hs0, hsT, hrem⟩
 simp only at hs0 hsT hrem
 simp [go_sem, keyAV]
 refine ⟨fun hr => ?_, fun l1 k0 k1 k2 x l2 hr => ?_⟩
 ·subst hr
  have : s = T := by simpa [rest] using hsT
  subst this
  refine CallVC.of (num_c _ (by omega) (by omega)) (by decide) ?_
  simp [go_sem]
 ·subst hr
  have hek := hrem ((k0, k1, k2), x) (by simp)
  have hx : isN x := hek.1
  have hg : ∀ i : Nat, 0 ≤ ([k0, k1, k2] : List Int)[i]?.getD 0 ∧ ([k0, k1, k2] : List Int)[i]?.getD 0 ≤ 1000 := by
   intro i
   obtain ⟨_, a1, a2, a3, a4, a5, a6⟩ := hek
   match i with
   | 0 => exact ⟨a1, a2⟩
   | 1 => exact ⟨a3, a4⟩
   | 2 => exact ⟨a5, a6⟩
   | i + 3 => simp
  refine loop_inv (7 :: 8 :: 9 :: List.range' 19 14) (fun i : Nat => [(7, .int (tmF y [k0, k1, k2] x i)), (19, .int i)]) (fun i => i ≤ y.length) (fun i => y.length - i) 0 (by simp) (by simp [go_sem, tmF]) (by simp [go_sem]) ?_
  intro i hi
  simp [go_sem]
  refine ⟨fun h => ?_, fun h => ?_⟩ <;> simp at h
  ·have h3 : i < ([k0, k1, k2] : List Int).length := by simp; omega
   have e3 : ([.val (.int .i64 k0), .val (.int .i64 k1), .val (.int .i64 k2)] : List AV)[i]? = some (.val (.int .i64 (([k0, k1, k2] : List Int)[i]?.getD 0))) := avs_at' (xs := [k0, k1, k2]) h3
   have g := hg i
   have m1 := mul_fits (tmF_N (y := y) (e := [k0, k1, k2]) hx i) (isN_mod ((y[i]?.getD 0) ^ (([k0, k1, k2] : List Int)[i]?.getD 0).toNat))
   have m2 : fits (tmF y [k0, k1, k2] x i * pw (y[i]?.getD 0) (([k0, k1, k2] : List Int)[i]?.getD 0)) := m1
   have hs : tmF y [k0, k1, k2] x (i + 1) = tmF y [k0, k1, k2] x i * pw (y[i]?.getD 0) (([k0, k1, k2] : List Int)[i]?.getD 0) % 10007 := rfl
   simp [go_sem, avs_drop h, e3]
   generalize ([k0, k1, k2] : List Int)[i]?.getD 0 = ki at *
   refine ⟨⟨h, by rintro rfl; simp at h⟩, by omega, ?_⟩
   refine CallVC.of (pow_c _ _ (hy.get i) g.1 (by omega)) (by decide) ?_
   simp [go_sem]
   refine ⟨m2, ?_⟩
   refine CallVC.of (num_c _ m2.1 m2.2) (by decide) ?_
   simp [go_sem]
   refine ⟨by omega, i + 1, by omega, by omega, Off_reset _ _ _ (by simp), hs.symm, by omega⟩
  ·have e : i = y.length := by omega
   subst e
   have hr0 : 0 ≤ rest y (l1 ++ l2) := rest_pos y (fun e he => (hrem e (by
    rcases List.mem_append.1 he with he | he <;> simp [he])).1)
   have ht := tmF_N (y := y) (e := [k0, k1, k2]) hx y.length
   have hsT2 : s + tmF y [k0, k1, k2] x y.length + rest y (l1 ++ l2) = T := by
    rw [← hsT, rest_app, rest_app, rest]
    show _ = s + (rest y l1 + (tmF y [k0, k1, k2] x y.length + rest y l2))
    omega
   have ht1 := ht.1
   simp [go_sem]
   refine ⟨⟨by omega, by omega⟩, _, _, _, ⟨?_, hsT2, fun a b c d he => hrem _ ?_⟩, ?_, (Off.reset (by intro x hx; simp at hx ⊢; omega) (by simp) (by simp [go_sem, Off_reset])), rfl, rfl, rfl⟩
   ·omega
   ·rcases List.mem_append.1 he with he | he <;> simp [he]
   ·simp
end Go.Proofs.YtiikdbomhkbdlaaGreat


namespace Go.Proofs.YtiikdbomhkbdlaaGreat
open Go.Abs
theorem ltL_irr : ∀ a : List Int, ltL a a = false
 | [] => rfl
 | x :: a => by simp [ltL, ltL_irr a]
theorem ltL_trans : ∀ {a b c : List Int}, ltL a b = true → ltL b c = true → ltL a c = true
 | _, [], _, h, _ => by simp [ltL] at h
 | _, _ :: _, [], _, h => by simp [ltL] at h
 | [], _ :: _, _ :: _, _, _ => rfl
 | x :: a, y :: b, z :: c, h1, h2 => by
  simp only [ltL] at h1 h2 ⊢
  split at h1
  ·rename_i e; subst e
   split at h2
   ·rename_i e; subst e; rw [if_pos rfl]; exact ltL_trans h1 h2
   ·rename_i e; rw [if_neg e]; exact h2
  ·rename_i e1
   simp only [decide_eq_true_eq] at h1
   split at h2
   ·rename_i e; subst e; rw [if_neg e1]; simpa using h1
   ·rename_i e
    simp only [decide_eq_true_eq] at h2
    rw [if_neg (by omega)]; simp; omega
theorem chain_lt {z : Int} {p : List Mon} (h : partB z p = true) {i : Nat} : ∀ {j : Nat}, i < j → j < p.length → ltL (p[i]?.getD (0, [])).2 (p[j]?.getD (0, [])).2 = true
 | 0, h1, _ => by omega
 | j + 1, h1, h2 => by
  have hs := (partB_at h h2).2 (by omega)
  rw [Nat.add_sub_cancel] at hs
  rcases Nat.lt_or_ge i j with hl | hg
  ·exact ltL_trans (chain_lt h hl (by omega)) hs
  ·have : i = j := by omega
   subst this; exact hs
theorem keyOf_inj {a b : List Int} (hl : a.length = b.length) (h3 : a.length ≤ 3) (h : keyOf a = keyOf b) : a = b := by
 match a, b, hl, h3 with
 | [], [], _, _ => rfl
 | [x], [y], _, _ => simp [keyOf] at h; rw [h]
 | [x, x'], [y, y'], _, _ => simp [keyOf] at h; rw [h.1, h.2]
 | [x, x', x''], [y, y', y''], _, _ => simp [keyOf] at h; rw [h.1, h.2.1, h.2.2]
def keyM (m : Mon) : Key × Int := (keyOf m.2, m.1)
theorem keys_nd {z : Int} {p : List Mon} (hz : z ≤ 3) (h : partB z p = true) : p.Pairwise (fun a b => keyOf a.2 ≠ keyOf b.2) := by
 rw [List.pairwise_iff_getElem]
 intro i j hi hj hij he
 have hl := chain_lt h hij hj
 have m1 := (partB_at h hi).1.len
 have m2 := (partB_at h hj).1.len
 simp only [List.getElem?_eq_getElem hi, List.getElem?_eq_getElem hj, Option.getD_some] at hl m1 m2
 have := keyOf_inj (by omega) (by omega) he
 rw [this, ltL_irr] at hl
 simp at hl
theorem polG_out : ∀ (p : List Mon) (c : Key → Option Int) (k : Key), (∀ m ∈ p, keyOf m.2 ≠ k) → polG c p k = c k
 | [], c, k, _ => rfl
 | m :: p, c, k, h => by
  rw [polG, polG_out p _ k (fun a ha => h a (by simp [ha]))]
  have := h m (by simp)
  simp [mset, Ne.symm this]
theorem polG_in : ∀ (p : List Mon) (c : Key → Option Int), p.Pairwise (fun a b => keyOf a.2 ≠ keyOf b.2) → ∀ m ∈ p, polG c p (keyOf m.2) = some m.1
 | [], _, _, m, hm => by simp at hm
 | a :: p, c, h, m, hm => by
  obtain ⟨h1, h2⟩ := List.pairwise_cons.1 h
  rw [polG]
  rcases List.mem_cons.1 hm with rfl | hm
  ·rw [polG_out p _ _ (fun b hb => Ne.symm (h1 b hb))]; simp [mset]
  ·exact polG_in p _ h2 m hm
theorem polF_some {p : List Mon} (h : p.Pairwise (fun a b => keyOf a.2 ≠ keyOf b.2)) {k : Key} {x : Int} : polF p k = some x ↔ (k, x) ∈ p.map keyM := by
 constructor
 ·intro hk
  by_cases hin : ∃ m ∈ p, keyOf m.2 = k
  ·obtain ⟨m, hm, rfl⟩ := hin
   rw [polF, polG_in p _ h m hm] at hk
   injection hk with hk; subst hk
   exact List.mem_map.2 ⟨m, hm, rfl⟩
  ·rw [polF, polG_out p _ k (fun m hm he => hin ⟨m, hm, he⟩)] at hk
   simp [mzero] at hk
 ·intro hm
  obtain ⟨m, hm, he⟩ := List.mem_map.1 hm
  simp only [keyM, Prod.mk.injEq] at he
  rw [← he.1, ← he.2]
  exact polG_in p _ h m hm
theorem rest_perm (y : List Int) {a b : List (Key × Int)} (h : a.Perm b) : rest y a = rest y b := by
 induction h with
 | nil => rfl
 | cons x _ ih => simp [rest, ih]
 | swap x z l => simp [rest]; omega
 | trans _ _ i1 i2 => rw [i1, i2]
theorem nodup_of_key {α β : Type} {f : α → β} {l : List α} (h : l.Pairwise (fun a b => f a ≠ f b)) : l.Nodup := h.imp (fun hn e => hn (by rw [e]))
theorem enum_perm {p : List Mon} (h : p.Pairwise (fun a b => keyOf a.2 ≠ keyOf b.2)) {es : List (Key × Int)} (he : Enum (polF p) es) : es.Perm (p.map keyM) := by
 refine (List.perm_ext_iff_of_nodup (nodup_of_key (f := Prod.fst) he.nd) ?_).2 (fun e => ?_)
 ·rw [List.Nodup, List.pairwise_map]
  exact h.imp (fun hn e => hn (congrArg Prod.fst e))
 ·obtain ⟨k, x⟩ := e
  rw [← polF_some h]
  constructor
  ·intro hm; exact he.val _ hm
  ·intro hk
   by_cases hin : ∃ q ∈ es, q.1 = k
   ·obtain ⟨⟨k', x'⟩, hq, hqk⟩ := hin
    simp only at hqk; subst hqk
    have := he.val _ hq
    simp only at this
    rw [hk] at this
    injection this with this; subst this
    exact hq
   ·have := he.out k (fun q hq e => hin ⟨q, hq, e⟩)
    rw [hk] at this; simp at this
theorem tmF_congr {y e e' : List Int} {x : Int} : ∀ {n : Nat}, (∀ i, i < n → e[i]?.getD 0 = e'[i]?.getD 0) → tmF y e x n = tmF y e' x n
 | 0, _ => rfl
 | n + 1, h => by rw [tmF, tmF, tmF_congr (fun i hi => h i (by omega)), h n (by omega)]
theorem tmK_of {y : List Int} (hl : y.length ≤ 3) (m : Mon) : tmK y (keyOf m.2) m.1 = tmF y m.2 m.1 y.length := by
 refine tmF_congr (fun i hi => ?_)
 have : i = 0 ∨ i = 1 ∨ i = 2 := by omega
 rcases this with rfl | rfl | rfl <;> simp [keyOf]
theorem part_entries {z : Int} {p : List Mon} (hz : z ≤ 3) (h : partB z p = true) {k : Key} {x : Int} (hk : polF p k = some x) : EOk (k, x) := by
 obtain ⟨m, hm, he⟩ := List.mem_map.1 ((polF_some (keys_nd hz h)).1 hk)
 simp only [keyM, Prod.mk.injEq] at he
 obtain ⟨rfl, rfl⟩ := he
 have ho := partB_mem h hm
 have g0 := ho.get 0
 have g1 := ho.get 1
 have g2 := ho.get 2
 have l1 := ho.lo
 have l2 := ho.hi
 unfold EOk isN keyOf
 simp only
 refine ⟨⟨by omega, by omega⟩, by omega, by omega, by omega, by omega, by omega, by omega⟩
end Go.Proofs.YtiikdbomhkbdlaaGreat


namespace Go.Proofs.YtiikdbomhkbdlaaGreat
open Go.Abs
theorem enum_mem {c : Key → Option Int} {es : List (Key × Int)} (he : Enum c es) {k : Key} {x : Int} : (k, x) ∈ es ↔ c k = some x := by
 constructor
 ·intro hm; exact he.val _ hm
 ·intro hk
  by_cases hin : ∃ q ∈ es, q.1 = k
  ·obtain ⟨⟨k', x'⟩, hq, hqk⟩ := hin
   simp only at hqk; subst hqk
   have := he.val _ hq
   simp only at this
   rw [hk] at this
   injection this with this; subst this
   exact hq
  ·have := he.out k (fun q hq e => hin ⟨q, hq, e⟩)
   rw [hk] at this; simp at this
theorem enum_unique {c : Key → Option Int} {a b : List (Key × Int)} (ha : Enum c a) (hb : Enum c b) : a.Perm b :=
 (List.perm_ext_iff_of_nodup (nodup_of_key (f := Prod.fst) ha.nd) (nodup_of_key (f := Prod.fst) hb.nd)).2 (fun e => by
  obtain ⟨k, x⟩ := e
  rw [enum_mem ha, enum_mem hb])
def yat (y : List Int) (i : Nat) : Int := y[i]?.getD 0
def KOk (n : Nat) (k : Key) : Prop := k ∈ box ∧ ∀ i, n ≤ i → i < 3 → at3 i k = 0
theorem tmK_trm {y : List Int} {k : Key} {x : Int} (hl : y.length ≤ 3) (hk : KOk y.length k) : tmK y k x % 10007 = x * trm (yat y) k % 10007 := by
 obtain ⟨a, b, c⟩ := k
 obtain ⟨h1, h2⟩ := hk
 unfold tmK trm
 match y, hl with
 | [], _ =>
  have e0 := h2 0 (by simp) (by omega)
  have e1 := h2 1 (by simp) (by omega)
  have e2 := h2 2 (by simp) (by omega)
  simp [at3] at e0 e1 e2
  subst e0; subst e1; subst e2
  simp [tmF]
 | [u], _ =>
  have e1 := h2 1 (by simp) (by omega)
  have e2 := h2 2 (by simp) (by omega)
  simp [at3] at e1 e2
  subst e1; subst e2
  simp [tmF, yat, pw, mod_mul_l, mod_mul_r]
 | [u, v], _ =>
  have e2 := h2 2 (by simp) (by omega)
  simp [at3] at e2
  subst e2
  simp [tmF, yat, pw, mod_mul_l, mod_mul_r, Int.mul_assoc]
 | [u, v, w], _ =>
  simp [tmF, yat, pw, mod_mul_l, mod_mul_r, Int.mul_assoc]
theorem rest_mod {y : List Int} (hl : y.length ≤ 3) : ∀ {es : List (Key × Int)}, (∀ e ∈ es, KOk y.length e.1) → rest y es % 10007 = sumI (fun e => e.2 * trm (yat y) e.1) es % 10007
 | [], _ => rfl
 | e :: es, h => by
  simp only [rest, sumI]
  rw [Int.add_emod, tmK_trm hl (h e (by simp)), rest_mod hl (es := es) (fun a ha => h a (by simp [ha])), ← Int.add_emod]
theorem coef_enum {c : Key → Option Int} {es : List (Key × Int)} (he : Enum c es) (k : Key) : coef Prod.fst Prod.snd es k = (c k).getD 0 := by
 have gen : ∀ (l : List (Key × Int)), l.Pairwise (fun a b => a.1 ≠ b.1) → ∀ x, (k, x) ∈ l → coef Prod.fst Prod.snd l k = x := by
  intro l
  induction l with
  | nil => intro _ x hx; simp at hx
  | cons a l ih =>
   intro hp x hx
   obtain ⟨h1, h2⟩ := List.pairwise_cons.1 hp
   unfold coef at ih ⊢
   simp only [sumI]
   rcases List.mem_cons.1 hx with rfl | hx
   ·rw [if_pos rfl, sumI_zero (fun b hb => if_neg (h1 b hb))]; simp
   ·rw [if_neg (fun e => h1 _ hx e.symm), ih h2 x hx]; simp
 cases hc : c k with
 | some x => exact gen es he.nd x ((enum_mem he).2 hc)
 | none =>
  unfold coef
  refine sumI_zero (fun e hm => if_neg (fun e1 => ?_))
  have := he.val e hm
  rw [← e1, hc] at this
  simp at this
def gv (c : Key → Option Int) (k : Key) : Int := (c k).getD 0
theorem rest_Val {y : List Int} (hl : y.length ≤ 3) {c : Key → Option Int} (hc : ∀ k x, c k = some x → KOk y.length k) {es : List (Key × Int)} (he : Enum c es) : rest y es % 10007 = Val (yat y) (gv c) % 10007 := by
 rw [rest_mod hl (fun e hm => hc e.1 e.2 (he.val e hm)), ← Val_coef (yat y) Prod.fst Prod.snd es (fun e hm => (hc e.1 e.2 (he.val e hm)).1)]
 have : coef Prod.fst Prod.snd es = gv c := funext (fun k => coef_enum he k)
 rw [this]
end Go.Proofs.YtiikdbomhkbdlaaGreat


namespace Go.Proofs.YtiikdbomhkbdlaaGreat
open Go.Abs
theorem len_sub {α : Type} [DecidableEq α] : ∀ {l b : List α}, l.Nodup → (∀ a ∈ l, a ∈ b) → l.length ≤ b.length
 | [], b, _, _ => by simp
 | a :: l, b, hn, hs => by
  obtain ⟨h1, h2⟩ := List.nodup_cons.1 hn
  have ha := hs a (by simp)
  have := len_sub (l := l) (b := b.erase a) h2 (fun x hx => (List.mem_erase_of_ne (fun e => h1 (by rw [← e]; exact hx))).2 (hs x (by simp [hx])))
  rw [List.length_erase_of_mem ha] at this
  have := List.length_pos_of_mem ha
  simp only [List.length_cons]; omega
theorem rest_le (y : List Int) : ∀ {es : List (Key × Int)}, (∀ e ∈ es, isN e.2) → rest y es ≤ 10006 * es.length
 | [], _ => by simp [rest]
 | e :: es, h => by
  have h1 := rest_le y (es := es) (fun a ha => h a (by simp [ha]))
  have h2 := (tmF_N (y := y) (e := [e.1.1, e.1.2.1, e.1.2.2]) (h e (by simp)) y.length).2
  simp only [rest, tmK, List.length_cons]; omega
theorem KOk.eok {n : Nat} {k : Key} {x : Int} (h : KOk n k) (hx : isN x) : EOk (k, x) := by
 have := mem_box.1 h.1
 show isN x ∧ 0 ≤ k.1 ∧ k.1 ≤ 1000 ∧ 0 ≤ k.2.1 ∧ k.2.1 ≤ 1000 ∧ 0 ≤ k.2.2 ∧ k.2.2 ≤ 1000
 exact ⟨hx, by omega, by omega, by omega, by omega, by omega, by omega⟩
theorem value_c2 (c : Key → Option Int) (y : List Int) (hy : Ns y) (hl : y.length ≤ 3) (hc : ∀ k x, c k = some x → isN x ∧ KOk y.length k) :
  Con Tryz.prog 292 [.fmp c, .sl y.length (avs y)] (.int (Val (yat y) (gv c) % 10007)) := by
 have hok : ∀ k x, c k = some x → EOk (k, x) := fun k x hk => (hc k x hk).2.eok (hc k x hk).1
 by_cases hx : ∃ es, Enum c es
 ·obtain ⟨es, he⟩ := hx
  rw [← rest_Val hl (fun k x hk => (hc k x hk).2) he]
  have hb : rest y es ≤ 10006 * es.length := rest_le y (fun e hm => (hc e.1 e.2 (he.val e hm)).1)
  have hlen : es.length ≤ 64 := by
   have := len_sub (l := es.map Prod.fst) (b := box) (by rw [List.Nodup, List.pairwise_map]; exact he.nd) (fun k hk => by
    obtain ⟨e, hm, rfl⟩ := List.mem_map.1 hk
    exact (hc e.1 e.2 (he.val e hm)).2.1)
   simpa [box, r4] using this
  exact value_c c y (rest y es) hy hl hok (by omega) (fun es' he' => rest_perm y (enum_unique he' he))
 ·have := value_c c y (Val (yat y) (gv c) % 10007) hy hl hok (by omega) (fun es he => (hx ⟨es, he⟩).elim)
  rwa [Int.emod_emod_of_dvd _ (Int.dvd_refl _)] at this
structure VOk (n : Nat) (m : Mon) : Prop where
 num : isN m.1
 len : m.2.length = n
 pw : ∀ x ∈ m.2, 0 ≤ x ∧ x ≤ 3
theorem MonOk.vok {n : Nat} {m : Mon} (h : MonOk (n : Int) m) : VOk n m := ⟨⟨by have := h.lo; omega, by have := h.hi; omega⟩, by have := h.len; omega, h.pw⟩
theorem VOk.kok {n : Nat} {m : Mon} (hn : n ≤ 3) (h : VOk n m) : KOk n (keyOf m.2) := by
 have g : ∀ k : Nat, 0 ≤ m.2[k]?.getD 0 ∧ m.2[k]?.getD 0 ≤ 3 := fun k => by
  rcases Nat.lt_or_ge k m.2.length with hk | hk
  ·simp [hk]; exact h.pw _ (List.getElem_mem hk)
  ·simp [hk]
 refine ⟨mem_box.2 ⟨(g 0).1, (g 0).2, (g 1).1, (g 1).2, (g 2).1, (g 2).2⟩, fun i h1 h2 => ?_⟩
 have hz : m.2[i]?.getD 0 = 0 := by rw [List.getElem?_eq_none (by rw [h.len]; exact h1)]; rfl
 have : i = 0 ∨ i = 1 ∨ i = 2 := by omega
 rcases this with rfl | rfl | rfl <;> simpa [at3, keyOf] using hz
def cfL (L : List Mon) : Key → Int := coef (fun m : Mon => keyOf m.2) (fun m => m.1) L
theorem vsum_Val {y : List Int} (hl : y.length ≤ 3) {L : List Mon} (h : ∀ m ∈ L, VOk y.length m) : vsum y L % 10007 = Val (yat y) (cfL L) % 10007 := by
 unfold cfL
 rw [Val_coef (yat y) _ _ L (fun m hm => ((h m hm).kok hl).1)]
 have h' := h
 clear h
 induction L with
 | nil => rfl
 | cons m L ih =>
  simp only [vsum, sumI]
  rw [Int.add_emod, ← tmK_of hl m, tmK_trm hl ((h' m (by simp)).kok hl), ih (fun a ha => h' a (by simp [ha])), ← Int.add_emod]
def putGo (c : Int) (e : List Int) : List Mon → Bool → List Mon
 | [], done => if done then [] else [(c, e)]
 | m :: l, done =>
  if done = false ∧ m.2 = e then (if (m.1 + c) % 10007 = 0 then [] else [((m.1 + c) % 10007, m.2)]) ++ putGo c e l true
  else if done = false ∧ ltL e m.2 = true then (c, e) :: ((if m.1 = 0 then [] else [m]) ++ putGo c e l true)
  else (if m.1 = 0 then [] else [m]) ++ putGo c e l done
def putL (L : List Mon) (c : Int) (e : List Int) : List Mon := putGo c e L (decide (c = 0))
theorem cfL_app (a b : List Mon) (k : Key) : cfL (a ++ b) k = cfL a k + cfL b k := sumI_app _ a b
theorem cfL_cons (m : Mon) (b : List Mon) (k : Key) : cfL (m :: b) k = (if k = keyOf m.2 then m.1 else 0) + cfL b k := rfl
theorem cfL_if (m : Mon) (k : Key) : cfL (if m.1 = 0 then [] else [m]) k = if k = keyOf m.2 then m.1 else 0 := by
 split
 ·rename_i h; simp [cfL, coef, sumI, h]
 ·simp [cfL, coef, sumI]
theorem putGo_cf (c : Int) (e : List Int) (k : Key) : ∀ (l : List Mon) (done : Bool), cfL (putGo c e l done) k % 10007 = (cfL l k + if done = true then 0 else if k = keyOf e then c else 0) % 10007
 | [], true => by simp [putGo, cfL, coef, sumI]
 | [], false => by simp [putGo, cfL, coef, sumI]
 | m :: l, done => by
  rw [putGo, cfL_cons]
  by_cases h1 : done = false ∧ m.2 = e
  ·rw [if_pos h1, cfL_app, h1.1, ← h1.2]
   have := cfL_if ((m.1 + c) % 10007, m.2) k
   simp only at this
   rw [this, Int.add_emod, putGo_cf c m.2 k l true]
   by_cases hk : k = keyOf m.2
   ·simp [hk]; omega
   ·simp [hk]
  ·rw [if_neg h1]
   by_cases h2 : done = false ∧ ltL e m.2 = true
   ·rw [if_pos h2, cfL_cons, cfL_app, cfL_if, h2.1]
    have := putGo_cf c e k l true
    simp only [if_true, Int.add_zero] at this
    simp only [Bool.false_eq_true, if_false]
    generalize (if k = keyOf e then c else 0) = B
    generalize (if k = keyOf m.2 then m.1 else 0) = A
    omega
   ·rw [if_neg h2, cfL_app, cfL_if]
    have := putGo_cf c e k l done
    omega
theorem putL_cf (L : List Mon) (c : Int) (e : List Int) (k : Key) : cfL (putL L c e) k % 10007 = (cfL L k + if k = keyOf e then c else 0) % 10007 := by
 unfold putL
 rw [putGo_cf]
 by_cases h : c = 0 <;> simp [h]
end Go.Proofs.YtiikdbomhkbdlaaGreat


namespace Go.Proofs.YtiikdbomhkbdlaaGreat
open Go.Abs
def derM (i : Nat) (c : Key → Option Int) (k : Key) : Option Int := match c (inc i k) with
 | some a => if 0 < at3 i k + 1 then some ((at3 i k + 1) * a % 10007) else none
 | none => none
def addM (o q : Key → Option Int) (x : Int) (k : Key) : Option Int := match q k with
 | some a => some (((o k).getD 0 + x % 10007 * a) % 10007)
 | none => o k
theorem derM_gv (i : Nat) (c : Key → Option Int) {k : Key} (hk : 0 ≤ at3 i k) : gv (derM i c) k % 10007 = der i (gv c) k % 10007 := by
 show (derM i c k).getD 0 % 10007 = (at3 i k + 1) * (c (inc i k)).getD 0 % 10007
 unfold derM
 cases c (inc i k) with
 | none => simp
 | some a =>
  simp only
  rw [if_pos (by omega)]
  simp
theorem addM_gv (o q : Key → Option Int) (x : Int) (k : Key) : gv (addM o q x) k % 10007 = (gv o k + x * gv q k) % 10007 := by
 unfold gv addM
 cases q k with
 | none => simp
 | some a =>
  simp only [Option.getD_some]
  rw [Int.emod_emod_of_dvd _ (Int.dvd_refl _), Int.add_emod, mod_mul_l, ← Int.add_emod]
def dec (i : Nat) (k : Key) : Key := if i = 0 then (k.1 - 1, k.2.1, k.2.2) else if i = 1 then (k.1, k.2.1 - 1, k.2.2) else (k.1, k.2.1, k.2.2 - 1)
theorem inc_dec {i : Nat} {k q : Key} : inc i k = q ↔ k = dec i q := by
 obtain ⟨a, b, c⟩ := k
 obtain ⟨x, y, z⟩ := q
 unfold inc dec
 split
 ·simp; omega
 ·split <;> (simp; omega)
theorem at3_dec (i : Nat) (k : Key) : at3 i (dec i k) = at3 i k - 1 := by
 unfold at3 dec
 split
 ·rfl
 ·split <;> rfl
theorem keyOf_set {e : List Int} {i : Nat} (h3 : i < 3) (hi : i < e.length) : keyOf (e.set i (e[i]?.getD 0 - 1)) = dec i (keyOf e) := by
 have : i = 0 ∨ i = 1 ∨ i = 2 := by omega
 match e, hi with
 | [a], hi =>
  simp at hi; subst hi; simp [keyOf, dec]
 | [a, b], hi =>
  rcases this with rfl | rfl | rfl
  ·simp [keyOf, dec]
  ·simp [keyOf, dec]
  ·simp at hi
 | a :: b :: c :: e, hi => rcases this with rfl | rfl | rfl <;> simp [keyOf, dec]
theorem at3_keyOf {e : List Int} {i : Nat} (h3 : i < 3) : at3 i (keyOf e) = e[i]?.getD 0 := by
 have : i = 0 ∨ i = 1 ∨ i = 2 := by omega
 rcases this with rfl | rfl | rfl <;> rfl
def derGo (i : Nat) : List Mon → List Mon → List Mon
 | acc, [] => acc
 | acc, m :: p => derGo i (if 0 < m.2[i]?.getD 0 then putL acc (m.1 * m.2[i]?.getD 0 % 10007) (m.2.set i (m.2[i]?.getD 0 - 1)) else acc) p
def derL (i : Nat) (p : List Mon) : List Mon := derGo i [] p
theorem derGo_app (i : Nat) (acc p q : List Mon) : derGo i acc (p ++ q) = derGo i (derGo i acc p) q := by
 induction p generalizing acc with
 | nil => rfl
 | cons m p ih => exact ih _
theorem derGo_cf {n i : Nat} (hi : i < n) (hn : n ≤ 3) {k : Key} (hk : 0 ≤ at3 i k) : ∀ (p acc : List Mon), (∀ m ∈ p, VOk n m) → cfL (derGo i acc p) k % 10007 = (cfL acc k + der i (cfL p) k) % 10007
 | [], acc, _ => by simp [derGo, der, cfL, coef, sumI]
 | m :: p, acc, h => by
  have hm := h m (by simp)
  have hlen := hm.len
  have hd : der i (cfL (m :: p)) k = (at3 i k + 1) * (if inc i k = keyOf m.2 then m.1 else 0) + der i (cfL p) k := by
   unfold der; rw [cfL_cons, Int.mul_add]
  rw [derGo, derGo_cf hi hn hk p _ (fun a ha => h a (by simp [ha])), hd]
  by_cases hpos : 0 < m.2[i]?.getD 0
  ·rw [if_pos hpos, Int.add_emod, putL_cf, keyOf_set (by omega) (by omega)]
   have e : (if k = dec i (keyOf m.2) then m.1 * m.2[i]?.getD 0 % 10007 else 0) % 10007 = (at3 i k + 1) * (if inc i k = keyOf m.2 then m.1 else 0) % 10007 := by
    by_cases hkk : k = dec i (keyOf m.2)
    ·rw [if_pos hkk, if_pos (inc_dec.2 hkk)]
     have := at3_dec i (keyOf m.2)
     rw [← hkk, at3_keyOf (by omega)] at this
     rw [this, Int.emod_emod_of_dvd _ (Int.dvd_refl _), Int.mul_comm]
     congr 2; omega
    ·rw [if_neg hkk, if_neg (fun e => hkk (inc_dec.1 e))]; simp
   generalize (if k = dec i (keyOf m.2) then m.1 * m.2[i]?.getD 0 % 10007 else 0) = A at *
   generalize (at3 i k + 1) * (if inc i k = keyOf m.2 then m.1 else 0) = B at *
   omega
  ·rw [if_neg hpos]
   have e : (at3 i k + 1) * (if inc i k = keyOf m.2 then m.1 else 0) = 0 := by
    by_cases hkk : inc i k = keyOf m.2
    ·have h0 : 0 ≤ m.2[i]?.getD 0 := by
      rw [List.getElem?_eq_getElem (by omega), Option.getD_some]; exact (hm.pw _ (List.getElem_mem _)).1
     have := at3_dec i (keyOf m.2)
     rw [← inc_dec.1 hkk, at3_keyOf (by omega)] at this
     rw [show at3 i k + 1 = 0 by omega, Int.zero_mul]
    ·rw [if_neg hkk, Int.mul_zero]
   rw [e]; simp
end Go.Proofs.YtiikdbomhkbdlaaGreat


namespace Go.Proofs.YtiikdbomhkbdlaaGreat
open Go.Abs
def hasK (rem : List (Key × Int)) (k : Key) : Bool := rem.any fun e => decide (e.1 = k)
theorem hasK_iff {rem : List (Key × Int)} {k : Key} : hasK rem k = true ↔ ∃ e ∈ rem, e.1 = k := by simp [hasK]
theorem hasK_mid (l1 l2 : List (Key × Int)) (k0 : Key) (x : Int) (k : Key) : hasK (l1 ++ (k0, x) :: l2) k = (decide (k0 = k) || hasK (l1 ++ l2) k) := by
 simp only [hasK, List.any_append, List.any_cons]
 cases List.any l1 (fun e => decide (e.1 = k)) <;> cases decide (k0 = k) <;> simp
theorem hasK_not {l1 l2 : List (Key × Int)} {k0 : Key} {x : Int} (h : (l1 ++ (k0, x) :: l2).Pairwise (fun a b => a.1 ≠ b.1)) : hasK (l1 ++ l2) k0 = false := by
 cases hb : hasK (l1 ++ l2) k0 with
 | false => rfl
 | true =>
  obtain ⟨e, he, hk⟩ := hasK_iff.1 hb
  obtain ⟨h1, h2, h3⟩ := List.pairwise_append.1 h
  rcases List.mem_append.1 he with he | he
  ·exact (h3 e he (k0, x) (by simp) hk).elim
  ·exact ((List.pairwise_cons.1 h2).1 e he hk.symm).elim
def remD (i : Nat) (c : Key → Option Int) (rem : List (Key × Int)) (k : Key) : Option Int := if hasK rem (inc i k) = true then none else derM i c k
theorem remD_start {i : Nat} {c : Key → Option Int} {es : List (Key × Int)} (he : Enum c es) : remD i c es = mzero := by
 funext k
 unfold remD mzero
 split
 ·rfl
 ·rename_i h
  have : c (inc i k) = none := he.out _ (fun p hp e => h (hasK_iff.2 ⟨p, hp, e⟩))
  simp [derM, this]
theorem remD_end (i : Nat) (c : Key → Option Int) : remD i c [] = derM i c := by
 funext k; simp [remD, hasK]
theorem remD_at {i : Nat} {c : Key → Option Int} {l1 l2 : List (Key × Int)} {k0 : Key} {x : Int} : remD i c (l1 ++ (k0, x) :: l2) (dec i k0) = none := by
 unfold remD
 rw [inc_dec.2 rfl, hasK_mid]
 simp
theorem remD_skip {i : Nat} {c : Key → Option Int} {l1 l2 : List (Key × Int)} {k0 : Key} {x : Int} (h : (l1 ++ (k0, x) :: l2).Pairwise (fun a b => a.1 ≠ b.1)) (hc : c k0 = some x) (h0 : ¬ 0 < at3 i k0) :
  remD i c (l1 ++ (k0, x) :: l2) = remD i c (l1 ++ l2) := by
 funext k
 unfold remD
 rw [hasK_mid]
 by_cases hk : k0 = inc i k
 ·have hd : k = dec i k0 := inc_dec.1 hk.symm
  have ha := at3_dec i k0
  rw [← hd] at ha
  have : derM i c k = none := by
   unfold derM
   rw [← hk, hc]
   simp only
   rw [if_neg (by omega)]
  rw [this]; simp
 ·simp [hk]
theorem remD_step {i : Nat} {c : Key → Option Int} {l1 l2 : List (Key × Int)} {k0 : Key} {x : Int} (h : (l1 ++ (k0, x) :: l2).Pairwise (fun a b => a.1 ≠ b.1)) (hc : c k0 = some x) (h0 : 0 < at3 i k0) :
  mset (remD i c (l1 ++ (k0, x) :: l2)) (dec i k0) (at3 i k0 * x % 10007) = remD i c (l1 ++ l2) := by
 funext k
 unfold mset
 by_cases hk : k = dec i k0
 ·have hi : inc i k = k0 := inc_dec.2 hk
  rw [if_pos hk]
  unfold remD
  rw [hi, hasK_not h]
  have ha := at3_dec i k0
  rw [← hk] at ha
  simp only [Bool.false_eq_true, if_false]
  unfold derM
  rw [hi, hc]
  simp only
  rw [if_pos (by omega), show at3 i k + 1 = at3 i k0 by omega]
 ·rw [if_neg hk]
  unfold remD
  rw [hasK_mid]
  have : ¬ k0 = inc i k := fun e => hk (inc_dec.1 e.symm)
  simp [this]
def remA (o q : Key → Option Int) (x : Int) (rem : List (Key × Int)) (k : Key) : Option Int := if hasK rem k = true then o k else addM o q x k
theorem remA_start {o q : Key → Option Int} {x : Int} {es : List (Key × Int)} (he : Enum q es) : remA o q x es = o := by
 funext k
 unfold remA
 split
 ·rfl
 ·rename_i h
  have : q k = none := he.out _ (fun p hp e => h (hasK_iff.2 ⟨p, hp, e⟩))
  simp [addM, this]
theorem remA_end (o q : Key → Option Int) (x : Int) : remA o q x [] = addM o q x := by
 funext k; simp [remA, hasK]
theorem remA_at {o q : Key → Option Int} {x : Int} {l1 l2 : List (Key × Int)} {k0 : Key} {a : Int} : remA o q x (l1 ++ (k0, a) :: l2) k0 = o k0 := by
 unfold remA
 rw [hasK_mid]
 simp
theorem remA_step {o q : Key → Option Int} {x : Int} {l1 l2 : List (Key × Int)} {k0 : Key} {a : Int} (h : (l1 ++ (k0, a) :: l2).Pairwise (fun a b => a.1 ≠ b.1)) (hc : q k0 = some a) :
  mset (remA o q x (l1 ++ (k0, a) :: l2)) k0 (((o k0).getD 0 + x % 10007 * a) % 10007) = remA o q x (l1 ++ l2) := by
 funext k
 unfold mset
 by_cases hk : k = k0
 ·subst hk
  rw [if_pos rfl]
  unfold remA
  rw [hasK_not h]
  simp [addM, hc]
 ·rw [if_neg hk]
  unfold remA
  rw [hasK_mid]
  have : ¬ k0 = k := fun e => hk e.symm
  simp [this]
end Go.Proofs.YtiikdbomhkbdlaaGreat


namespace Go.Proofs.YtiikdbomhkbdlaaGreat
open Go.Abs
theorem putGo_ok {n : Nat} {c : Int} {e : List Int} (h : VOk n (c, e)) : ∀ (l : List Mon) (done : Bool), (∀ m ∈ l, VOk n m) → ∀ m ∈ putGo c e l done, VOk n m
 | [], true, _, m, hm => by simp [putGo] at hm
 | [], false, _, m, hm => by simp [putGo] at hm; rw [hm]; exact h
 | a :: l, done, hl, m, hm => by
  have ha := hl a (by simp)
  have ih := fun d => putGo_ok h l d (fun b hb => hl b (by simp [hb]))
  have one : ∀ b : Mon, VOk n b → m ∈ (if b.1 = 0 then [] else [b]) → VOk n m := fun b hb hmm => by
   split at hmm
   ·simp at hmm
   ·simp at hmm; rw [hmm]; exact hb
  rw [putGo] at hm
  split at hm
  ·rcases List.mem_append.1 hm with hm | hm
   ·exact one ((a.1 + c) % 10007, a.2) ⟨isN_mod _, ha.len, ha.pw⟩ hm
   ·exact ih _ m hm
  ·split at hm
   ·rcases List.mem_cons.1 hm with hm | hm
    ·rw [hm]; exact h
    ·rcases List.mem_append.1 hm with hm | hm
     ·exact one a ha hm
     ·exact ih _ m hm
   ·rcases List.mem_append.1 hm with hm | hm
    ·exact one a ha hm
    ·exact ih _ m hm
theorem VOk.low {n i : Nat} {m : Mon} (h : VOk n m) (hi : i < n) (hp : 0 < m.2[i]?.getD 0) : VOk n (m.1 * m.2[i]?.getD 0 % 10007, m.2.set i (m.2[i]?.getD 0 - 1)) := by
 have hl := h.len
 refine ⟨isN_mod _, by simpa using hl, fun x hx => ?_⟩
 rcases List.mem_or_eq_of_mem_set hx with hx | rfl
 ·exact h.pw x hx
 ·have hm : m.2[i]?.getD 0 ∈ m.2 := by
   rw [List.getElem?_eq_getElem (by omega), Option.getD_some]; exact List.getElem_mem _
  have := h.pw _ hm
  omega
theorem derGo_ok {n i : Nat} (hi : i < n) : ∀ (p acc : List Mon), (∀ m ∈ p, VOk n m) → (∀ m ∈ acc, VOk n m) → ∀ m ∈ derGo i acc p, VOk n m
 | [], acc, _, ha, m, hm => ha m hm
 | a :: p, acc, hp, ha, m, hm => by
  rw [derGo] at hm
  have hav := hp a (by simp)
  refine derGo_ok hi p _ (fun b hb => hp b (by simp [hb])) ?_ m hm
  split
  ·rename_i hpos
   exact fun b hb => putGo_ok (hav.low hi hpos) acc _ ha b hb
  ·exact ha
theorem derL_ok {n i : Nat} (hi : i < n) {p : List Mon} (hp : ∀ m ∈ p, VOk n m) : ∀ m ∈ derL i p, VOk n m := derGo_ok hi p [] hp (by simp)
theorem derL_cf {n i : Nat} (hi : i < n) (hn : n ≤ 3) {k : Key} (hk : 0 ≤ at3 i k) {p : List Mon} (hp : ∀ m ∈ p, VOk n m) : cfL (derL i p) k % 10007 = der i (cfL p) k % 10007 := by
 unfold derL
 rw [derGo_cf hi hn hk p [] hp]
 simp [cfL, coef, sumI]
theorem sumI_map {α β : Type} (g : α → β) (f : β → Int) : ∀ l : List α, sumI f (l.map g) = sumI (fun a => f (g a)) l
 | [] => rfl
 | a :: l => by rw [List.map_cons, sumI, sumI, sumI_map g f l]
theorem polF_enum {p : List Mon} (h : p.Pairwise (fun a b => keyOf a.2 ≠ keyOf b.2)) : Enum (polF p) (p.map keyM) := by
 refine ⟨?_, fun e he => ?_, fun k hk => ?_⟩
 ·rw [List.pairwise_map]; exact h
 ·obtain ⟨k, x⟩ := e
  exact (polF_some h).2 he
 ·cases hc : polF p k with
  | none => rfl
  | some x => exact (hk _ ((polF_some h).1 hc) rfl).elim
theorem polF_gv {p : List Mon} (h : p.Pairwise (fun a b => keyOf a.2 ≠ keyOf b.2)) (k : Key) : gv (polF p) k = cfL p k := by
 unfold gv
 rw [← coef_enum (polF_enum h) k]
 unfold coef cfL coef
 rw [sumI_map]
 rfl
theorem derM_ok {n i : Nat} {c : Key → Option Int} (hi : i < n) (hn : n ≤ 3) (hc : ∀ k x, c k = some x → isN x ∧ KOk n k) : ∀ k x, derM i c k = some x → isN x ∧ KOk n k := by
 intro k x hx
 unfold derM at hx
 cases hcc : c (inc i k) with
 | none => rw [hcc] at hx; simp at hx
 | some a =>
  rw [hcc] at hx
  simp only at hx
  split at hx
  ·rename_i hpos
   injection hx with hx
   obtain ⟨_, hb, hz⟩ := hc _ _ hcc
   refine ⟨by rw [← hx]; exact isN_mod _, ?_, fun j h1 h2 => ?_⟩
   ·have hb := mem_box.1 hb
    refine mem_box.2 ?_
    clear hz hcc hc
    obtain ⟨a, b, c⟩ := k
    have hi3 : i = 0 ∨ i = 1 ∨ i = 2 := by omega
    rcases hi3 with rfl | rfl | rfl <;> simp [at3, inc] at hb hpos ⊢ <;> omega
   ·have := hz j h1 h2
    have hne : j ≠ i := by omega
    have : j = 0 ∨ j = 1 ∨ j = 2 := by omega
    have hi3 : i = 0 ∨ i = 1 ∨ i = 2 := by omega
    rcases this with rfl | rfl | rfl <;> rcases hi3 with rfl | rfl | rfl <;> simp [at3, inc] at * <;> omega
  ·simp at hx
end Go.Proofs.YtiikdbomhkbdlaaGreat


namespace Go.Proofs.YtiikdbomhkbdlaaGreat
open Go.Abs
def NN (k : Key) : Prop := 0 ≤ k.1 ∧ 0 ≤ k.2.1 ∧ 0 ≤ k.2.2
def Eqv (C D : Key → Int) : Prop := ∀ k, NN k → C k % 10007 = D k % 10007
theorem NN.box {k : Key} (h : k ∈ box) : NN k := by have := mem_box.1 h; exact ⟨by omega, by omega, by omega⟩
theorem NN.at3 {k : Key} (h : NN k) (i : Nat) : 0 ≤ at3 i k := by
 obtain ⟨a, b, c⟩ := h
 unfold Go.Proofs.YtiikdbomhkbdlaaGreat.at3
 split
 ·omega
 ·split <;> omega
theorem NN.inc {k : Key} (h : NN k) (i : Nat) : NN (inc i k) := by
 obtain ⟨a, b, c⟩ := h
 unfold Go.Proofs.YtiikdbomhkbdlaaGreat.inc NN
 split
 ·exact ⟨by simp; omega, b, c⟩
 ·split
  ·exact ⟨a, by simp; omega, c⟩
  ·exact ⟨a, b, by simp; omega⟩
theorem Eqv.refl (C : Key → Int) : Eqv C C := fun _ _ => rfl
theorem Eqv.symm {C D : Key → Int} (h : Eqv C D) : Eqv D C := fun k hk => (h k hk).symm
theorem Eqv.trans {C D E : Key → Int} (h : Eqv C D) (h2 : Eqv D E) : Eqv C E := fun k hk => (h k hk).trans (h2 k hk)
theorem mod_mul {a b : Int} (c : Int) (h : a % 10007 = b % 10007) : c * a % 10007 = c * b % 10007 := by rw [Int.mul_emod, h, ← Int.mul_emod]
theorem mod_add {a b c d : Int} (h : a % 10007 = b % 10007) (h2 : c % 10007 = d % 10007) : (a + c) % 10007 = (b + d) % 10007 := by omega
theorem der_eqv {C D : Key → Int} (h : Eqv C D) (i : Nat) : Eqv (der i C) (der i D) := fun k hk => mod_mul _ (h _ (hk.inc i))
theorem alo_eqv {C D : Key → Int} (h : Eqv C D) (v : Nat → Int) : ∀ n, Eqv (alo v C n) (alo v D n)
 | 0, k, hk => rfl
 | n + 1, k, hk => mod_add (alo_eqv h v n k hk) (mod_mul _ (der_eqv h n k hk))
theorem alo_add (v : Nat → Int) (C D : Key → Int) (k : Key) : ∀ n, alo v (fun k => C k + D k) n k = alo v C n k + alo v D n k
 | 0 => rfl
 | n + 1 => by simp only [alo, alo_add v C D k n, der_add, Int.mul_add]; omega
theorem alo_mul (v : Nat → Int) (c : Int) (C : Key → Int) (k : Key) : ∀ n, alo v (fun k => c * C k) n k = c * alo v C n k
 | 0 => by simp [alo]
 | n + 1 => by simp only [alo, alo_mul v c C k n, der_mul, Int.mul_add]; rw [Int.mul_left_comm]
def Dv (n : Nat) : List (List Int) → (Key → Int) → Key → Int
 | [], C => C
 | v :: vs, C => Dv n vs (alo (yat v) C n)
theorem Dv_eqv (n : Nat) : ∀ (vs : List (List Int)) {C D : Key → Int}, Eqv C D → Eqv (Dv n vs C) (Dv n vs D)
 | [], _, _, h => h
 | v :: vs, _, _, h => Dv_eqv n vs (alo_eqv h (yat v) n)
theorem Dv_add (n : Nat) : ∀ (vs : List (List Int)) (C D : Key → Int), Dv n vs (fun k => C k + D k) = fun k => Dv n vs C k + Dv n vs D k
 | [], _, _ => rfl
 | v :: vs, C, D => by
  have : alo (yat v) (fun k => C k + D k) n = fun k => alo (yat v) C n k + alo (yat v) D n k := funext (fun k => alo_add (yat v) C D k n)
  rw [Dv, this, Dv_add n vs]; rfl
theorem Dv_mul (n : Nat) : ∀ (vs : List (List Int)) (c : Int) (C : Key → Int), Dv n vs (fun k => c * C k) = fun k => c * Dv n vs C k
 | [], _, _ => rfl
 | v :: vs, c, C => by
  have : alo (yat v) (fun k => c * C k) n = fun k => c * alo (yat v) C n k := funext (fun k => alo_mul (yat v) c C k n)
  rw [Dv, this, Dv_mul n vs]; rfl
theorem Dv_zero (n : Nat) : ∀ (vs : List (List Int)), Dv n vs (fun _ => 0) = fun _ => 0
 | [] => rfl
 | v :: vs => by
  have h0 : ∀ m (k : Key), alo (yat v) (fun _ => 0) m k = 0 := by
   intro m
   induction m with
   | zero => intro k; rfl
   | succ m ih => intro k; simp [alo, ih, der]
  have : alo (yat v) (fun _ => 0) n = fun _ => 0 := funext (h0 n)
  rw [Dv, this, Dv_zero n vs]
theorem Val_eqv (y : Nat → Int) {C D : Key → Int} (h : Eqv C D) : Val y C % 10007 = Val y D % 10007 := Val_mod y (fun k hk => h k (NN.box hk))
def sumTo (f : Nat → Int) : Nat → Int
 | 0 => 0
 | m + 1 => sumTo f m + f m
def alongS (y : List Int) (n : Nat) : List (List Int) → List Mon → Int
 | [], p => vsum y p
 | v :: vs, p => sumTo (fun k => yat v k * alongS y n vs (derL k p)) n
theorem derL_eqv {n i : Nat} (hi : i < n) (hn : n ≤ 3) {p : List Mon} (hp : ∀ m ∈ p, VOk n m) : Eqv (cfL (derL i p)) (der i (cfL p)) := fun k hk => derL_cf hi hn (hk.at3 i) hp
theorem alongS_eq {y : List Int} {n : Nat} (hn : n ≤ 3) (hl : y.length = n) : ∀ (vs : List (List Int)) (p : List Mon), (∀ m ∈ p, VOk n m) → alongS y n vs p % 10007 = Val (yat y) (Dv n vs (cfL p)) % 10007
 | [], p, hp => vsum_Val (by omega) (by rw [hl]; exact hp)
 | v :: vs, p, hp => by
  have gen : ∀ m, m ≤ n → sumTo (fun k => yat v k * alongS y n vs (derL k p)) m % 10007 = Val (yat y) (Dv n vs (alo (yat v) (cfL p) m)) % 10007 := by
   intro m
   induction m with
   | zero =>
    intro _
    have : alo (yat v) (cfL p) 0 = fun _ => 0 := rfl
    rw [this, Dv_zero]
    have : Val (yat y) (fun _ => 0) = 0 := sumI_zero (fun _ _ => by simp)
    rw [this]; rfl
   | succ m ih =>
    intro hm
    have e : alo (yat v) (cfL p) (m + 1) = fun k => alo (yat v) (cfL p) m k + yat v m * der m (cfL p) k := rfl
    rw [e, Dv_add n vs (alo (yat v) (cfL p) m) (fun k => yat v m * der m (cfL p) k), Dv_mul n vs (yat v m) (der m (cfL p)), Val_add, Val_mul]
    refine mod_add (ih (by omega)) (mod_mul _ ?_)
    rw [alongS_eq hn hl vs (derL m p) (derL_ok (by omega) hp)]
    exact Val_eqv _ (Dv_eqv n vs (derL_eqv (by omega) hn hp))
  exact gen n (Nat.le_refl n)
def aloM (v : List Int) (c : Key → Option Int) : Nat → Key → Option Int
 | 0 => mzero
 | n + 1 => addM (aloM v c n) (derM n c) (yat v n)
theorem aloM_gv (v : List Int) (c : Key → Option Int) : ∀ n, Eqv (gv (aloM v c n)) (alo (yat v) (gv c) n)
 | 0, k, hk => rfl
 | n + 1, k, hk => by
  rw [aloM, addM_gv]
  exact mod_add (aloM_gv v c n k hk) (mod_mul _ (derM_gv n c (hk.at3 n)))
def DvM (n : Nat) : List (List Int) → (Key → Option Int) → Key → Option Int
 | [], c => c
 | v :: vs, c => DvM n vs (aloM v c n)
theorem DvM_gv (n : Nat) : ∀ (vs : List (List Int)) (c : Key → Option Int), Eqv (gv (DvM n vs c)) (Dv n vs (gv c))
 | [], c => Eqv.refl _
 | v :: vs, c => (DvM_gv n vs (aloM v c n)).trans (Dv_eqv n vs (aloM_gv v c n))
theorem along_eq {n : Nat} {p : List Mon} {y : List Int} (hn : n ≤ 3) (hl : y.length = n) (hp : partB (n : Int) p = true) (vs : List (List Int)) :
  alongS y n vs p % 10007 = Val (yat y) (gv (DvM n vs (polF p))) % 10007 := by
 have hv : ∀ m ∈ p, VOk n m := fun m hm => (partB_mem hp hm).vok
 have : gv (polF p) = cfL p := funext (polF_gv (keys_nd (by omega) hp))
 rw [alongS_eq hn hl vs p hv, Val_eqv _ (DvM_gv n vs (polF p)), this]
end Go.Proofs.YtiikdbomhkbdlaaGreat


namespace Go.Proofs.YtiikdbomhkbdlaaGreat
open Go.Abs
def tb (f : Nat → Int) (k : Nat) : List Int := (List.range k).map f
@[simp] theorem tb_len (f : Nat → Int) (k : Nat) : (tb f k).length = k := by simp [tb]
@[simp] theorem tb_zero (f : Nat → Int) : tb f 0 = [] := rfl
theorem tb_succ (f : Nat → Int) (k : Nat) : tb f (k + 1) = tb f k ++ [f k] := by simp [tb, List.range_succ]
theorem tb_get (f : Nat → Int) {k i : Nat} (h : i < k) : (tb f k)[i]?.getD 0 = f i := by simp [tb, h]
theorem tb_N {f : Nat → Int} {k : Nat} (h : ∀ i, i < k → isN (f i)) : Ns (tb f k) := by
 intro x hx
 simp [tb] at hx
 obtain ⟨i, hi, rfl⟩ := hx
 exact h i hi
theorem avs_at {xs : List Int} {k : Nat} (h : k < xs.length) : (avs xs)[k]? = some (AV.val (.int .i64 (xs[k]?.getD 0))) := by simp [avs, h]
theorem l02Times_c (a : List Int) (k : Int) (ha : Ns a) (hk : isN k) (hl : a.length ≤ 1048576) :
  Con Tryz.prog 312 [.sl a.length (avs a), .int k] (.own 2 a.length (avs (tb (fun i => a[i]?.getD 0 * k % 10007) a.length))) := by
 refine con_of_vc Tryz.mixed ⟨7, [], [], []⟩ Tryz.func312 (by decide) rfl (by simp) (by decide) (by simp [freshOK, freshL, go_sem]) ?_
 rw [Tryz.ntmps312]
 simp [go_sem]
 refine loop_inv (5 :: 6 :: List.range' 8 15) (fun i : Nat => [(5, .own 2 i (avs (tb (fun i => a[i]?.getD 0 * k % 10007) i))), (6, .int i)]) (fun i => i ≤ a.length) (fun i => a.length - i) 0 (by simp) (by simp [go_sem]) (by simp [go_sem]) ?_
 intro i hi
 simp [go_sem]
 refine ⟨fun h => ?_, fun h => ?_⟩ <;> simp at h
 ·simp [go_sem, avs_drop h]
  refine ⟨⟨h, by rintro rfl; simp at h⟩, ?_⟩
  refine CallVC.of (l01Mul_c _ _ (mul_fits (ha.get i) hk)) (by decide) ?_
  simp [go_sem]
  refine ⟨⟨by omega, by omega⟩, by omega, i + 1, by omega, by omega, Off_reset _ _ _ (by simp), ?_, by omega⟩
  simp [tb_succ, avs_snoc]
 ·have e : i = a.length := by omega
  subst e
  simp [go_sem]
theorem l02Add_c (a b : List Int) (ha : Ns a) (hb : Ns b) (hl : a.length ≤ 1048576) (hab : a.length ≤ b.length) :
  Con Tryz.prog 252 [.sl a.length (avs a), .sl b.length (avs b)] (.own 2 a.length (avs (tb (fun i => (a[i]?.getD 0 + b[i]?.getD 0) % 10007) a.length))) := by
 refine con_of_vc Tryz.mixed ⟨7, [], [], []⟩ Tryz.func252 (by decide) rfl (by simp) (by decide) (by simp [freshOK, freshL, go_sem]) ?_
 rw [Tryz.ntmps252]
 simp [go_sem]
 refine loop_inv (5 :: 6 :: List.range' 8 18) (fun i : Nat => [(5, .own 2 i (avs (tb (fun i => (a[i]?.getD 0 + b[i]?.getD 0) % 10007) i))), (6, .int i)]) (fun i => i ≤ a.length) (fun i => a.length - i) 0 (by simp) (by simp [go_sem]) (by simp [go_sem]) ?_
 intro i hi
 simp [go_sem]
 refine ⟨fun h => ?_, fun h => ?_⟩ <;> simp at h
 ·have h2 : i < b.length := by omega
  simp [go_sem, avs_drop h, avs_drop h2]
  refine ⟨by kernel_rfl, ⟨h, by rintro rfl; simp at h⟩, ⟨h2, by rintro rfl; simp at h2⟩, ?_⟩
  refine CallD.of (l01Add_c _ _ (add_fits (ha.get i) (hb.get i))) (by simp [roots, rootsL]) (by decide) ?_
  simp [go_sem]
  refine ⟨by omega, ?_⟩
  refine ⟨by kernel_rfl, ?_⟩
  simp [go_sem]
  refine ⟨by omega, i + 1, by omega, by omega, Off_reset _ _ _ (by simp), ?_, by omega⟩
  simp [tb_succ, avs_snoc]
 ·have e : i = a.length := by omega
  subst e
  simp [go_sem]
def cv (a b : List Int) (n : Nat) : Nat → Int
 | 0 => 0
 | m + 1 => cv a b n m + a[m]?.getD 0 * b[n - m]?.getD 0
def mulS (a b : List Int) : List Int := tb (fun n => cv a b n (n + 1) % 10007) a.length
@[simp] theorem mulS_len (a b : List Int) : (mulS a b).length = a.length := by simp [mulS]
theorem mulS_N (a b : List Int) : Ns (mulS a b) := tb_N fun i _ => isN_mod _
theorem l02Mul_c (a b : List Int) (ha : Ns a) (hb : Ns b) (hl : a.length ≤ 1048576) (hab : a.length ≤ b.length) :
  Con Tryz.prog 314 [.sl a.length (avs a), .sl b.length (avs b)] (.own 2 a.length (avs (mulS a b))) := by
 refine con_of_vc Tryz.mixed ⟨9, [], [], []⟩ Tryz.func314 (by decide) rfl (by simp) (by decide) (by simp [freshOK, freshL, go_sem]) ?_
 rw [Tryz.ntmps314]
 simp [go_sem]
 refine loop_inv (5 :: 6 :: 7 :: 8 :: List.range' 10 28) (fun i : Nat => [(5, .own 2 i (avs (tb (fun n => cv a b n (n + 1) % 10007) i))), (6, .int i)]) (fun i => i ≤ a.length) (fun i => a.length - i) 0 (by simp) (by simp [go_sem]) (by simp [go_sem]) ?_
 intro i hi
 simp [go_sem]
 refine ⟨fun h => ?_, fun h => ?_⟩ <;> simp at h
 ·simp [go_sem]
  refine loop_inv (7 :: 8 :: List.range' 16 18) (fun k : Nat => [(7, .int (cv a b i k % 10007)), (8, .int k)]) (fun k => k ≤ i + 1) (fun k => i + 1 - k) 0 (by simp) (by simp [go_sem, cv]) (by simp [go_sem]) ?_
  intro k hk
  simp [go_sem]
  refine ⟨fun h => ?_, fun h => ?_⟩ <;> simp at h
  ·have k1 : k < a.length := by omega
   have k2 : i - k < b.length := by omega
   have k3 : ((i : Int) - k) = ((i - k : Nat) : Int) := by omega
   simp [go_sem, avs_drop k1, avs_drop k2, k3]
   refine ⟨by kernel_rfl, ⟨k1, by rintro rfl; simp at k1⟩, by omega, ⟨k2, by rintro rfl; simp at k2⟩, ?_⟩
   refine CallD.of (l01Mul_c _ _ (mul_fits (ha.get k) (hb.get (i - k)))) (by simp [roots, rootsL]) (by decide) ?_
   simp [go_sem]
   refine CallD.of (l01Add_c _ _ (add_fits (isN_mod _) (isN_mod _))) (by simp [roots, rootsL]) (by decide) ?_
   simp [go_sem]
   refine ⟨by kernel_rfl, ?_⟩
   simp [go_sem]
   refine ⟨by omega, k + 1, by omega, by omega, Off_reset _ _ _ (by simp), ?_, by omega⟩
   simp [cv]
  ·have e : k = i + 1 := by omega
   subst e
   simp [go_sem]
   refine ⟨by omega, by omega, i + 1, by omega, by omega, (Off.reset (by intro x hx; simp at hx ⊢; omega) (by simp) (by simp [go_sem, Off_reset])), ⟨rfl, ?_⟩, by omega⟩
   simp [tb_succ, avs_snoc]
 ·have e : i = a.length := by omega
  subst e
  simp [go_sem]
  rfl
theorem l02Unit_c (n j : Nat) (hn : n ≤ 1048576) (hj : j ≤ 1048576) : Con Tryz.prog 313 [.int n, .int j] (.own 2 n (avs (tb (fun i => if i = j then 1 else 0) n))) := by
 refine con_of_vc Tryz.mixed ⟨6, [], [], []⟩ Tryz.func313 (by decide) rfl (by simp) (by decide) (by simp [freshOK, freshL, go_sem]) ?_
 rw [Tryz.ntmps313]
 simp [go_sem]
 refine ⟨⟨by omega, by omega⟩, ?_⟩
 refine ⟨fun h => ?_, fun h => ?_⟩ <;> simp at h
 ·simp [go_sem]
  refine ⟨h, List.ext_getElem (by simp) fun k h1 h2 => ?_⟩
  simp [avs, tb, List.getElem_set]
  by_cases e : j = k
  ·simp [e]
  ·have e2 : ¬ k = j := fun h => e h.symm
   simp [e, e2]
 ·simp [go_sem]
  refine List.ext_getElem (by simp) fun k h1 h2 => ?_
  simp at h1
  have e2 : ¬ k = j := by omega
  simp [avs, tb, e2]
def es (b o : List Int) (n : Nat) : Nat → Int
 | 0 => 0
 | m + 1 => es b o n m + (m + 1) * (b[m + 1]?.getD 0 * o[n - (m + 1)]?.getD 0 % 10007)
end Go.Proofs.YtiikdbomhkbdlaaGreat


namespace Go.Proofs.YtiikdbomhkbdlaaGreat
open Go.Abs
end Go.Proofs.YtiikdbomhkbdlaaGreat


namespace Go.Proofs.YtiikdbomhkbdlaaGreat
open Go.Abs
theorem l01Own_c (xs : List Int) (hl : xs.length ≤ 17592186044416) : Con Tryz.prog 200 [.sl xs.length (avs xs)] (.own 2 xs.length (avs xs)) := by
 refine con_of_vc Tryz.mixed ⟨3, [], [], []⟩ Tryz.func200 (by decide) rfl (by simp) (by decide) (by simp [freshOK, freshL, go_sem]) ?_
 rw [Tryz.ntmps200]
 simp [go_sem]
 try omega
theorem l01Same_c (a b : List Int) (ha : a.length ≤ 9223372036854775807) : Con Tryz.prog 168 [.sl a.length (avs a), .sl b.length (avs b)] (.bool (decide (a = b))) := by
 refine con_of_vc Tryz.mixed ⟨6, [], [], []⟩ Tryz.func168 (by decide) rfl (by simp) (by decide) (by simp [freshOK, freshL, go_sem]) ?_
 rw [Tryz.ntmps168]
 simp [go_sem]
 refine ⟨fun h => ?_, fun h => ?_⟩ <;> simp at h <;> simp [go_sem]
 ·rintro rfl; omega
 have hl : a.length = b.length := by omega
 refine loop_inv (4 :: 5 :: List.range' 11 16) (fun i : Nat => [(5, .int i)]) (fun i => i ≤ a.length ∧ a.take i = b.take i) (fun i => a.length - i) 0 (by simp) (by simp [go_sem]) (by simp [go_sem]) ?_
 intro i hi
 simp [go_sem]
 refine ⟨fun h => ?_, fun h => ?_⟩ <;> simp at h
 ·have h2 : i < b.length := by omega
  simp [go_sem, avs_drop h, avs_drop h2]
  refine ⟨by kernel_rfl, ⟨h, by rintro rfl; simp at h⟩, ⟨h2, by rintro rfl; simp at h2⟩, ?_⟩
  refine ⟨by kernel_rfl, ?_⟩
  simp [go_sem]
  refine ⟨fun h3 => ?_, fun h3 => ?_⟩ <;> simp at h3 <;> simp [go_sem]
  ·rintro rfl; exact h3 rfl
  ·refine ⟨by omega, i + 1, ⟨by omega, ?_⟩, by omega, Off_reset _ _ _ (by simp), by omega⟩
   rw [List.take_add_one, List.take_add_one, hi.2]
   rw [List.getElem?_eq_getElem h, List.getElem?_eq_getElem h2] at h3 ⊢
   simp only [Option.getD_some] at h3
   rw [h3]
 ·simp [go_sem]
  have e : i = a.length := by omega
  subst e
  have := hi.2
  rw [List.take_length, hl, List.take_length] at this
  exact this
theorem omons_one (m : Mon) : omons [m] = [.int m.1, .own 2 m.2.length (avs m.2)] := rfl
theorem putGo_t (c : Int) (e : List Int) (m : Mon) (l : List Mon) : putGo c e (m :: l) true = (if m.1 = 0 then [] else [m]) ++ putGo c e l true := by
 rw [putGo, if_neg (by simp), if_neg (by simp)]
theorem putGo_e (c : Int) (m : Mon) (l : List Mon) : putGo c m.2 (m :: l) false = (if (m.1 + c) % 10007 = 0 then [] else [((m.1 + c) % 10007, m.2)]) ++ putGo c m.2 l true := by
 rw [putGo, if_pos (by simp)]
theorem putGo_l {c : Int} {e : List Int} {m : Mon} (l : List Mon) (h : ¬ m.2 = e) (h2 : ltL e m.2 = true) : putGo c e (m :: l) false = (c, e) :: ((if m.1 = 0 then [] else [m]) ++ putGo c e l true) := by
 rw [putGo, if_neg (by simp [h]), if_pos (by simp [h2])]
theorem putGo_g {c : Int} {e : List Int} {m : Mon} (l : List Mon) (h : ¬ m.2 = e) (h2 : ltL e m.2 = false) : putGo c e (m :: l) false = (if m.1 = 0 then [] else [m]) ++ putGo c e l false := by
 rw [putGo, if_neg (by simp [h]), if_neg (by simp [h2])]
theorem l13Put_c (L : List Mon) (c : Int) (e : List Int) (hc : isN c) (hL : ∀ m ∈ L, isN m.1 ∧ m.2.length ≤ 1048576) (hl : L.length ≤ 1000000000000) (he : e.length ≤ 1048576) :
  Con Tryz.prog 357 [.sl L.length (mons L), .int c, .sl e.length (avs e)] (.own 62 (putL L c e).length (omons (putL L c e))) := by
 refine con_of_vc Tryz.mixed ⟨11, [], [], []⟩ Tryz.func357 (by decide) rfl (by simp) (by decide) (by simp [freshOK, freshL, go_sem]) ?_
 rw [Tryz.ntmps357]
 simp [go_sem]
 refine loop_inv (List.range' 7 61) (fun x : Nat × Bool × List Mon => [(7, .own 62 x.2.2.length (omons x.2.2)), (8, .bool x.2.1), (9, .int x.1)]) (fun x => x.1 ≤ L.length ∧ x.2.2.length ≤ x.1 + (if x.2.1 = true then 1 else 0) ∧ x.2.2 ++ putGo c e (L.drop x.1) x.2.1 = putL L c e) (fun x => L.length - x.1) (0, decide (c = 0), []) ⟨by simp, by simp, by simp [putL]⟩ (by simp [go_sem]) (by simp [go_sem]) ?_
 rintro ⟨i, done, O⟩ ⟨hi, hO, he2⟩
 simp only at hi hO he2
 simp [go_sem]
 refine ⟨fun h => ?_, fun h => ?_⟩ <;> simp at h
 ·have hif := h
  have hx : L[i]?.getD (0, []) ∈ L := by simp [h]
  have hd : L.drop i = L[i]?.getD (0, []) :: L.drop (i + 1) := by rw [List.drop_eq_getElem_cons h]; simp [h]
  obtain ⟨hm1, hm2⟩ := hL _ hx
  simp [go_sem, mons_drop hif]
  generalize hM : L[i]?.getD (0, []) = m at *
  refine ⟨by kernel_rfl, ⟨hif, by rintro rfl; simp at hif⟩, ?_⟩
  refine CallD.of (l01Own_c m.2 (by omega)) (by simp [roots, rootsL]) (by decide) ?_
  simp [go_sem]
  refine ⟨by kernel_rfl, ?_⟩
  simp [go_sem]
  rw [hd] at he2
  cases done with
  | true =>
   rw [putGo_t] at he2
   simp only [if_true] at hO
   simp [go_sem]
   by_cases h0 : m.1 = 0
   ·simp [go_sem, h0]
    rw [if_pos h0] at he2
    exact ⟨by omega, i + 1, O, ⟨by omega, by omega, he2⟩, by omega, Off_reset _ _ _ (by simp), ⟨rfl, rfl⟩, by omega⟩
   ·simp [go_sem, h0]
    rw [if_neg h0] at he2
    exact ⟨⟨by omega, by omega⟩, by omega, i + 1, O ++ [m], ⟨by omega, by simp; omega, by simpa using he2⟩, by omega, Off_reset _ _ _ (by simp), ⟨by simp, by simp [omons_app, omons_one]⟩, by omega⟩
  | false =>
   simp only [Bool.false_eq_true, if_false] at hO
   by_cases hme : m.2 = e
   ·subst hme
    rw [putGo_e] at he2
    simp [go_sem]
    refine CallVC.of (l01Same_c m.2 m.2 (by omega)) (by decide) ?_
    simp [go_sem]
    refine CallVC.of (l01Add_c _ _ (add_fits hm1 hc)) (by decide) ?_
    simp [go_sem]
    by_cases h0 : (m.1 + c) % 10007 = 0
    ·simp [go_sem, h0]
     rw [if_pos h0] at he2
     exact ⟨by omega, i + 1, O, ⟨by omega, by omega, he2⟩, by omega, Off_reset _ _ _ (by simp), ⟨rfl, rfl⟩, by omega⟩
    ·simp [go_sem, h0]
     rw [if_neg h0] at he2
     exact ⟨⟨by omega, by omega⟩, by omega, i + 1, O ++ [((m.1 + c) % 10007, m.2)], ⟨by omega, by simp; omega, by simpa using he2⟩, by omega, Off_reset _ _ _ (by simp), ⟨by simp, by simp [omons_app, omons_one]⟩, by omega⟩
   ·simp [go_sem]
    refine CallVC.of (l01Same_c m.2 e (by omega)) (by decide) ?_
    simp [go_sem]
    simp [go_sem, hme]
    refine CallVC.of (l01Less_c e m.2 (by omega) (by omega)) (by decide) ?_
    simp [go_sem]
    cases hlt : ltL e m.2 with
    | true =>
     rw [putGo_l _ hme hlt] at he2
     simp [go_sem]
     refine CallVC.of (l01Own_c e (by omega)) (by decide) ?_
     simp [go_sem]
     by_cases h0 : m.1 = 0
     ·simp [go_sem, h0]
      rw [if_pos h0] at he2
      exact ⟨⟨by omega, by omega⟩, by omega, i + 1, O ++ [(c, e)], ⟨by omega, by simp; omega, by simpa using he2⟩, by omega, Off_reset _ _ _ (by simp), ⟨by simp, by simp [omons_app, omons_one]⟩, by omega⟩
     ·simp [go_sem, h0]
      rw [if_neg h0] at he2
      exact ⟨⟨by omega, by omega⟩, ⟨by omega, by omega, by omega⟩, by omega, i + 1, O ++ [(c, e), m], ⟨by omega, by simp; omega, by simpa using he2⟩, by omega, Off_reset _ _ _ (by simp), ⟨by simp, by simp [omons]⟩, by omega⟩
    | false =>
     rw [putGo_g _ hme hlt] at he2
     simp [go_sem]
     by_cases h0 : m.1 = 0
     ·simp [go_sem, h0]
      rw [if_pos h0] at he2
      exact ⟨by omega, i + 1, O, ⟨by omega, by omega, he2⟩, by omega, Off_reset _ _ _ (by simp), ⟨rfl, rfl⟩, by omega⟩
     ·simp [go_sem, h0]
      rw [if_neg h0] at he2
      exact ⟨⟨by omega, by omega⟩, by omega, i + 1, O ++ [m], ⟨by omega, by simp; omega, by simpa using he2⟩, by omega, Off_reset _ _ _ (by simp), ⟨by simp, by simp [omons_app, omons_one]⟩, by omega⟩
 ·simp [go_sem]
  rw [List.drop_eq_nil_of_le h] at he2
  cases done with
  | true =>
   simp [go_sem]
   rw [← he2]; simp [putGo]
  | false =>
   simp only [Bool.false_eq_true, if_false] at hO
   simp [go_sem]
   refine CallVC.of (l01Own_c e (by omega)) (by decide) ?_
   simp [go_sem]
   rw [← he2]
   exact ⟨⟨by omega, by omega⟩, by simp [putGo], by simp [putGo, omons_app, omons_one]⟩
end Go.Proofs.YtiikdbomhkbdlaaGreat


namespace Go.Proofs.YtiikdbomhkbdlaaGreat
class CR (α : Type) extends Add α, Mul α where
 ofI : Int → α
 addC : ∀ a b : α, a + b = b + a
 addA : ∀ a b c : α, a + b + c = a + (b + c)
 add0 : ∀ a : α, a + ofI 0 = a
 mulC : ∀ a b : α, a * b = b * a
 mulA : ∀ a b c : α, a * b * c = a * (b * c)
 mul1 : ∀ a : α, a * ofI 1 = a
 mulD : ∀ a b c : α, a * (b + c) = a * b + a * c
 mul0 : ∀ a : α, a * ofI 0 = ofI 0
 ofAdd : ∀ a b : Int, ofI (a + b) = ofI a + ofI b
 ofMul : ∀ a b : Int, ofI (a * b) = ofI a * ofI b
namespace CR
section
variable {α : Type} [CR α]
instance : Std.Associative (α := α) (· + ·) := ⟨addA⟩
instance : Std.Commutative (α := α) (· + ·) := ⟨addC⟩
instance : Std.Associative (α := α) (· * ·) := ⟨mulA⟩
instance : Std.Commutative (α := α) (· * ·) := ⟨mulC⟩
theorem zadd (a : α) : ofI 0 + a = a := by rw [addC, add0]
theorem omul (a : α) : ofI 1 * a = a := by rw [mulC, mul1]
theorem zmul (a : α) : ofI 0 * a = ofI 0 := by rw [mulC, mul0]
theorem Dmul (a b c : α) : (a + b) * c = a * c + b * c := by rw [mulC, mulD, mulC c, mulC c]
end
end CR
open CR
instance : CR Int where
 ofI := id
 addC := Int.add_comm
 addA := Int.add_assoc
 add0 := Int.add_zero
 mulC := Int.mul_comm
 mulA := Int.mul_assoc
 mul1 := Int.mul_one
 mulD := Int.mul_add
 mul0 := Int.mul_zero
 ofAdd := fun _ _ => rfl
 ofMul := fun _ _ => rfl
abbrev Ser (α : Type) := Nat → α
def sh {α : Type} (a : Ser α) : Ser α := fun n => a (n + 1)
def cmul {α : Type} [CR α] : Nat → Ser α → Ser α → α
 | 0, a, b => a 0 * b 0
 | n + 1, a, b => a 0 * b (n + 1) + cmul n (sh a) b
section
variable {α : Type} [CR α]
theorem cmul_add (n : Nat) : ∀ (a b c : Ser α), cmul n a (fun i => b i + c i) = cmul n a b + cmul n a c := by
 induction n with
 | zero => intro a b c; exact mulD _ _ _
 | succ n ih => intro a b c; simp only [cmul, ih, mulD]; ac_rfl
theorem cmul_last (n : Nat) : ∀ (a b : Ser α), cmul (n + 1) a b = cmul n a (sh b) + a (n + 1) * b 0 := by
 induction n with
 | zero => intro a b; rfl
 | succ n ih =>
  intro a b
  rw [cmul, ih, cmul]
  show a 0 * b (n + 1 + 1) + (cmul n (sh a) (sh b) + a (n + 1 + 1) * b 0) = a 0 * b (n + 1 + 1) + cmul n (sh a) (sh b) + a (n + 1 + 1) * b 0
  ac_rfl
theorem cmul_comm (n : Nat) : ∀ (a b : Ser α), cmul n a b = cmul n b a := by
 induction n with
 | zero => intro a b; exact mulC _ _
 | succ n ih => intro a b; rw [cmul, cmul_last, ih, mulC, addC]
theorem cmul_smul (c : α) (n : Nat) : ∀ (a b : Ser α), cmul n (fun i => c * a i) b = c * cmul n a b := by
 induction n with
 | zero => intro a b; exact mulA _ _ _
 | succ n ih =>
  intro a b
  have := ih (sh a) b
  simp only [cmul, mulD]
  rw [← this, mulA]; rfl
theorem cmul_addl (n : Nat) (a b c : Ser α) : cmul n (fun i => a i + b i) c = cmul n a c + cmul n b c := by
 rw [cmul_comm n (fun i => a i + b i) c, cmul_add, cmul_comm n c a, cmul_comm n c b]
theorem cmul_assoc (n : Nat) : ∀ (a b c : Ser α), cmul n (fun i => cmul i a b) c = cmul n a (fun i => cmul i b c) := by
 induction n with
 | zero => intro a b c; exact mulA _ _ _
 | succ n ih =>
  intro a b c
  have e : sh (fun i => cmul i a b) = fun i => a 0 * sh b i + cmul i (sh a) b := rfl
  simp only [cmul]
  rw [e, cmul_addl, cmul_smul, ih, mulD]
  show a 0 * b 0 * c (n + 1) + _ = _
  rw [mulA]; ac_rfl
def sOf (k : Int) : Ser α := fun n => if n = 0 then ofI k else ofI 0
theorem cmul_of (k : Int) : ∀ (n : Nat) (a : Ser α), cmul n a (sOf k) = a n * ofI k := by
 intro n
 induction n with
 | zero => intro a; rfl
 | succ n ih =>
  intro a
  rw [cmul, ih]
  show a 0 * ofI 0 + a (n + 1) * ofI k = _
  rw [mul0, zadd]
instance : CR (Ser α) where
 add := fun a b n => a n + b n
 mul := fun a b n => cmul n a b
 ofI := sOf
 addC := fun a b => funext fun n => addC _ _
 addA := fun a b c => funext fun n => addA _ _ _
 add0 := fun a => funext fun n => by show a n + (if n = 0 then ofI 0 else ofI 0) = a n; rw [ite_self, add0]
 mulC := fun a b => funext fun n => cmul_comm n a b
 mulA := fun a b c => funext fun n => cmul_assoc n a b c
 mul1 := fun a => funext fun n => by show cmul n a (sOf 1) = a n; rw [cmul_of, mul1]
 mulD := fun a b c => funext fun n => cmul_add n a b c
 mul0 := fun a => funext fun n => by show cmul n a (sOf 0) = if n = 0 then ofI 0 else ofI 0; rw [cmul_of, mul0, ite_self]
 ofAdd := fun a b => funext fun n => by
  show (if n = 0 then (ofI (a + b) : α) else ofI 0) = (if n = 0 then ofI a else ofI 0) + (if n = 0 then ofI b else ofI 0)
  split
  ·exact ofAdd _ _
  ·rw [add0]
 ofMul := fun a b => funext fun n => by
  show (if n = 0 then (ofI (a * b) : α) else ofI 0) = cmul n (sOf a) (sOf b)
  rw [cmul_of]
  show (if n = 0 then (ofI (a * b) : α) else ofI 0) = (if n = 0 then ofI a else ofI 0) * ofI b
  split
  ·exact ofMul _ _
  ·rw [zmul]
theorem ser_add (a b : Ser α) (n : Nat) : (a + b) n = a n + b n := rfl
theorem ser_of0 (k : Int) : (ofI k : Ser α) 0 = ofI k := rfl
theorem ser_ofS (k : Int) (n : Nat) : (ofI k : Ser α) (n + 1) = ofI 0 := rfl
theorem mul_at0 (a b : Ser α) : (a * b : Ser α) 0 = a 0 * b 0 := rfl
def th (a : Ser α) : Ser α := fun n => ofI (n : Int) * a n
theorem th_mul (a b : Ser α) : th (a * b) = th a * b + a * th b := by
 have gen : ∀ (n : Nat) (a b : Ser α), ofI (n : Int) * cmul n a b = cmul n (th a) b + cmul n a (th b) := by
  intro n
  induction n with
  | zero => intro a b; simp [cmul, th, zmul, mul0, add0]
  | succ n ih =>
   intro a b
   have e1 : sh (th a) = fun i => th (sh a) i + sh a i := funext fun i => by
    show ofI ((i + 1 : Nat) : Int) * a (i + 1) = ofI (i : Int) * a (i + 1) + a (i + 1)
    rw [show ((i + 1 : Nat) : Int) = (i : Int) + 1 by omega, ofAdd, Dmul, omul]
   have e2 : th a 0 = ofI 0 := by show ofI ((0 : Nat) : Int) * a 0 = _; exact zmul _
   have e3 : th b (n + 1) = ofI ((n + 1 : Nat) : Int) * b (n + 1) := rfl
   simp only [cmul]
   rw [e1, e2, e3, zmul, zadd, cmul_addl, mulD, show ((n + 1 : Nat) : Int) = (n : Int) + 1 by omega, ofAdd, Dmul (ofI (n : Int)) (ofI 1) (cmul n (sh a) b), ih, omul]
   have : (ofI (n : Int) + ofI 1) * (a 0 * b (n + 1)) = a 0 * ((ofI (n : Int) + ofI 1) * b (n + 1)) := by ac_rfl
   rw [this]; ac_rfl
 exact funext fun n => gen n a b
theorem th_add (a b : Ser α) : th (a + b) = th a + th b := funext fun n => mulD _ _ _
theorem th_of (k : Int) : th (ofI k : Ser α) = ofI 0 := funext fun n => by
 cases n with
 | zero => exact zmul _
 | succ n => show ofI _ * ofI 0 = ofI 0; exact mul0 _
def pwr (a : α) : Nat → α
 | 0 => ofI 1
 | n + 1 => pwr a n * a
theorem th_pwr (a : Ser α) : ∀ n : Nat, th (pwr a n) = ofI (n : Int) * (pwr a (n - 1) * th a)
 | 0 => by rw [pwr, th_of]; exact (zmul _).symm
 | n + 1 => by
  rw [pwr, th_mul, th_pwr a n, show ((n + 1 : Nat) : Int) = (n : Int) + 1 by omega, ofAdd, Dmul, omul, Nat.add_sub_cancel]
  cases n with
  | zero =>
   have z : (ofI ((0 : Nat) : Int) : Ser α) = ofI 0 := rfl
   rw [z, zmul, zmul, zadd]
  | succ n =>
   rw [Nat.add_sub_cancel, pwr]; ac_rfl
def sL {β : Type} (f : β → α) : List β → α
 | [] => ofI 0
 | b :: l => f b + sL f l
def sT (f : Nat → α) : Nat → α
 | 0 => ofI 0
 | n + 1 => sT f n + f n
def dx (k : Nat) (e : Nat → Nat) : Nat → Nat := fun j => if j = k then e j - 1 else e j
def mon (U : Nat → α) (e : Nat → Nat) : Nat → α
 | 0 => ofI 1
 | d + 1 => mon U e d * pwr (U d) (e d)
theorem mon_congr (U : Nat → α) {e e' : Nat → Nat} : ∀ {d : Nat}, (∀ j, j < d → e j = e' j) → mon U e d = mon U e' d
 | 0, _ => rfl
 | d + 1, h => by rw [mon, mon, mon_congr U (fun j hj => h j (by omega)), h d (by omega)]
theorem sT_congr {f g : Nat → α} : ∀ {n : Nat}, (∀ j, j < n → f j = g j) → sT f n = sT g n
 | 0, _ => rfl
 | n + 1, h => by rw [sT, sT, sT_congr (fun j hj => h j (by omega)), h n (by omega)]
theorem sT_mul (c : α) (f : Nat → α) : ∀ n, sT (fun k => c * f k) n = c * sT f n
 | 0 => (mul0 _).symm
 | n + 1 => by rw [sT, sT, sT_mul c f n, mulD]
theorem sT_add (f g : Nat → α) : ∀ n, sT (fun k => f k + g k) n = sT f n + sT g n
 | 0 => (add0 _).symm
 | n + 1 => by simp only [sT, sT_add f g n]; ac_rfl
theorem sT_zero : ∀ n, sT (fun _ => (ofI 0 : α)) n = ofI 0
 | 0 => rfl
 | n + 1 => by rw [sT, sT_zero n, add0]
theorem sL_app {β : Type} (f : β → α) (l r : List β) : sL f (l ++ r) = sL f l + sL f r := by
 induction l with
 | nil => exact (zadd _).symm
 | cons a l ih => simp only [List.cons_append, sL, ih]; ac_rfl
theorem sL_mul {β : Type} (c : α) (f : β → α) : ∀ l : List β, sL (fun b => c * f b) l = c * sL f l
 | [] => (mul0 _).symm
 | b :: l => by rw [sL, sL, sL_mul c f l, mulD]
theorem sL_congr {β : Type} {f g : β → α} : ∀ {l : List β}, (∀ b ∈ l, f b = g b) → sL f l = sL g l
 | [], _ => rfl
 | b :: l, h => by rw [sL, sL, h b (by simp), sL_congr (fun c hc => h c (by simp [hc]))]
theorem sL_sT {β : Type} (f : β → Nat → α) (n : Nat) : ∀ l : List β, sL (fun b => sT (f b) n) l = sT (fun k => sL (fun b => f b k) l) n
 | [] => (sT_zero n).symm
 | b :: l => by
  simp only [sL]
  rw [sL_sT f n l, ← sT_add]
theorem th_mon (U : Nat → Ser α) (e : Nat → Nat) : ∀ d, th (mon U e d) = sT (fun k => ofI (e k : Int) * (mon U (dx k e) d * th (U k))) d
 | 0 => th_of 1
 | d + 1 => by
  rw [mon, th_mul, th_mon U e d, th_pwr, sT]
  have e1 : sT (fun k => ofI (e k : Int) * (mon U (dx k e) (d + 1) * th (U k))) d = sT (fun k => pwr (U d) (e d) * (ofI (e k : Int) * (mon U (dx k e) d * th (U k)))) d := by
   refine sT_congr (fun k hk => ?_)
   rw [mon]
   have : dx k e d = e d := by unfold dx; rw [if_neg (by omega)]
   rw [this]; ac_rfl
  have e2 : mon U (dx d e) (d + 1) = mon U e d * pwr (U d) (e d - 1) := by
   rw [mon, mon_congr U (e := dx d e) (e' := e) (fun j hj => by unfold dx; rw [if_neg (by omega)])]
   have : dx d e d = e d - 1 := by unfold dx; rw [if_pos rfl]
   rw [this]
  rw [e1, e2, sT_mul]
  ac_rfl
abbrev Trm := Int × (Nat → Nat)
def ev (d : Nat) (U : Nat → α) (L : List Trm) : α := sL (fun m => ofI m.1 * mon U m.2 d) L
def ev1 (d k : Nat) (U : Nat → α) (L : List Trm) : α := sL (fun m => ofI (m.1 * (m.2 k : Int)) * mon U (dx k m.2) d) L
theorem th_ev (d : Nat) (U : Nat → Ser α) : ∀ L : List Trm, th (ev d U L) = sT (fun k => ev1 d k U L * th (U k)) d := by
 intro L
 have h1 : ∀ L : List Trm, th (ev d U L) = sL (fun m => sT (fun k => ofI (m.1 * (m.2 k : Int)) * mon U (dx k m.2) d * th (U k)) d) L := by
  intro L
  induction L with
  | nil => exact th_of 0
  | cons m L ih =>
   have : ev d U (m :: L) = ofI m.1 * mon U m.2 d + ev d U L := rfl
   rw [this, th_add, ih, sL, th_mul, th_of, zmul, zadd, th_mon, ← sT_mul]
   congr 1
   refine sT_congr (fun k hk => ?_)
   rw [ofMul]; ac_rfl
 rw [h1, sL_sT]
 refine sT_congr (fun k hk => ?_)
 unfold ev1
 rw [mulC, ← sL_mul]
 exact sL_congr (fun m hm => mulC _ _)
theorem pwr_at0 (a : Ser α) : ∀ n, (pwr a n) 0 = pwr (a 0) n
 | 0 => rfl
 | n + 1 => by rw [pwr, mul_at0, pwr_at0 a n]; rfl
theorem mon_at0 (U : Nat → Ser α) (e : Nat → Nat) : ∀ d, (mon U e d) 0 = mon (fun k => U k 0) e d
 | 0 => rfl
 | d + 1 => by rw [mon, mul_at0, mon_at0 U e d, pwr_at0]; rfl
theorem ev_at0 (d : Nat) (U : Nat → Ser α) : ∀ L : List Trm, (ev d U L) 0 = ev d (fun k => U k 0) L
 | [] => rfl
 | m :: L => by
  have : ev d U (m :: L) = ofI m.1 * mon U m.2 d + ev d U L := rfl
  rw [this, ser_add, mul_at0, ser_of0, mon_at0, ev_at0 d U L]; rfl
theorem sh_mul (a b : Ser α) (h : b 0 = ofI 0) : sh (a * b) = a * sh b := funext fun n => by
 show cmul (n + 1) a b = cmul n a (sh b)
 rw [cmul_last, h, mul0, add0]
theorem sh_add (a b : Ser α) : sh (a + b) = sh a + sh b := rfl
theorem th_0 (a : Ser α) : th a 0 = ofI 0 := zmul _
theorem sh_sT (f : Nat → Ser α) : ∀ n, sh (sT f n) = sT (fun k => sh (f k)) n
 | 0 => funext fun n => by cases n <;> rfl
 | n + 1 => by rw [sT, sh_add, sh_sT f n, sT]
theorem sh_th_ev (d : Nat) (U : Nat → Ser α) (L : List Trm) : sh (th (ev d U L)) = sT (fun k => ev1 d k U L * sh (th (U k))) d := by
 rw [th_ev, sh_sT]
 exact sT_congr (fun k _ => sh_mul _ _ (th_0 _))
end
structure Cg (α : Type) [CR α] where
 r : α → α → Prop
 refl : ∀ a, r a a
 symm : ∀ {a b}, r a b → r b a
 trans : ∀ {a b c}, r a b → r b c → r a c
 add : ∀ {a b c d}, r a b → r c d → r (a + c) (b + d)
 mul : ∀ {a b c d}, r a b → r c d → r (a * c) (b * d)
 of : ∀ {a b : Int}, a % 10007 = b % 10007 → r (ofI a) (ofI b)
def cgI : Cg Int where
 r := fun a b => a % 10007 = b % 10007
 refl := fun _ => rfl
 symm := fun h => h.symm
 trans := fun h k => h.trans k
 add := fun h k => by omega
 mul := fun {a b c d} h k => by rw [Int.mul_emod, h, k, ← Int.mul_emod]
 of := fun h => h
section
variable {α : Type} [CR α]
theorem cmul_cg (c : Cg α) {N : Nat} : ∀ {n : Nat} {a b a' b' : Ser α}, n < N → (∀ i, i < N → c.r (a i) (a' i)) → (∀ i, i < N → c.r (b i) (b' i)) → c.r (cmul n a b) (cmul n a' b')
 | n, a, b, a', b', hn, ha, hb => by
  have gen : ∀ (n : Nat) (a b a' b' : Ser α), (∀ i, i ≤ n → c.r (a i) (a' i)) → (∀ i, i ≤ n → c.r (b i) (b' i)) → c.r (cmul n a b) (cmul n a' b') := by
   intro n
   induction n with
   | zero => intro a b a' b' ha hb; exact c.mul (ha 0 (by omega)) (hb 0 (by omega))
   | succ n ih =>
    intro a b a' b' ha hb
    exact c.add (c.mul (ha 0 (by omega)) (hb (n + 1) (by omega))) (ih _ _ _ _ (fun i hi => ha (i + 1) (by omega)) (fun i hi => hb i (by omega)))
  exact gen n a b a' b' (fun i hi => ha i (by omega)) (fun i hi => hb i (by omega))
def cgS (c : Cg α) (N : Nat) : Cg (Ser α) where
 r := fun a b => ∀ n, n < N → c.r (a n) (b n)
 refl := fun a n _ => c.refl _
 symm := fun h n hn => c.symm (h n hn)
 trans := fun h k n hn => c.trans (h n hn) (k n hn)
 add := fun h k n hn => c.add (h n hn) (k n hn)
 mul := fun h k n hn => cmul_cg c hn h k
 of := fun {a b} h n hn => by
  show c.r (if n = 0 then ofI a else ofI 0) (if n = 0 then ofI b else ofI 0)
  split
  ·exact c.of h
  ·exact c.refl _
theorem Cg.sT (c : Cg α) {f g : Nat → α} : ∀ {n : Nat}, (∀ k, k < n → c.r (f k) (g k)) → c.r (sT f n) (sT g n)
 | 0, _ => c.refl _
 | n + 1, h => c.add (Cg.sT c (fun k hk => h k (by omega))) (h n (by omega))
theorem Cg.sL (c : Cg α) {β : Type} {f g : β → α} : ∀ {l : List β}, (∀ b ∈ l, c.r (f b) (g b)) → c.r (sL f l) (sL g l)
 | [], _ => c.refl _
 | b :: l, h => c.add (h b (by simp)) (Cg.sL c (fun x hx => h x (by simp [hx])))
theorem Cg.pwr (c : Cg α) {a b : α} (h : c.r a b) : ∀ n, c.r (pwr a n) (pwr b n)
 | 0 => c.refl _
 | n + 1 => c.mul (Cg.pwr c h n) h
theorem Cg.mon (c : Cg α) {U V : Nat → α} (e : Nat → Nat) : ∀ {d : Nat}, (∀ k, k < d → c.r (U k) (V k)) → c.r (mon U e d) (mon V e d)
 | 0, _ => c.refl _
 | d + 1, h => c.mul (Cg.mon c e (fun k hk => h k (by omega))) (Cg.pwr c (h d (by omega)) _)
theorem Cg.ev (c : Cg α) {d : Nat} {U V : Nat → α} (h : ∀ k, k < d → c.r (U k) (V k)) (L : List Trm) : c.r (ev d U L) (ev d V L) :=
 c.sL (fun m _ => c.mul (c.refl _) (c.mon m.2 h))
def fct : Nat → Int
 | 0 => 1
 | n + 1 => fct n * ((n : Int) + 1)
theorem flow_at (c : Cg α) {π : Type} (T : π → List Trm) {d N : Nat} {U : Nat → Ser α} {F : Nat → π} {A : π → π} {Ok : π → Prop}
  (hA : ∀ L, Ok L → Ok (A L) ∧ (cgS c N).r (ev d U (T (A L))) (sT (fun k => ev1 d k U (T L) * ev d U (T (F k))) d))
  (hU : ∀ k, k < d → ∀ n, n < N → c.r (ofI ((n + 1 : Nat) : Int) * U k (n + 1)) (ev d U (T (F k)) n)) :
  ∀ (n : Nat) (L : π), n ≤ N → Ok L → c.r (ofI (fct n) * ev d U (T L) n) (ev d (fun k => U k 0) (T (Nat.repeat A n L))) := by
 have step : ∀ L, Ok L → ∀ n, n < N → c.r (ofI ((n + 1 : Nat) : Int) * ev d U (T L) (n + 1)) (ev d U (T (A L)) n) := by
  intro L hL n hn
  refine c.trans ?_ (c.symm ((hA L hL).2 n hn))
  have : ofI ((n + 1 : Nat) : Int) * ev d U (T L) (n + 1) = sh (th (ev d U (T L))) n := rfl
  rw [this, sh_th_ev]
  exact (cgS c N).sT (fun k hk => (cgS c N).mul ((cgS c N).refl _) (fun n hn => hU k hk n hn)) n hn
 have rep : ∀ (n : Nat) (L : π), Nat.repeat A (n + 1) L = Nat.repeat A n (A L) := by
  intro n
  induction n with
  | zero => intro L; rfl
  | succ n ih => intro L; rw [Nat.repeat, ih]; rfl
 intro n
 induction n with
 | zero =>
  intro L _ _
  show c.r (ofI 1 * ev d U (T L) 0) (ev d (fun k => U k 0) (T L))
  rw [omul, ev_at0]; exact c.refl _
 | succ n ih =>
  intro L hn hL
  have h1 := ih (A L) (by omega) (hA L hL).1
  rw [rep]
  refine c.trans ?_ h1
  have : ofI (fct (n + 1)) * ev d U (T L) (n + 1) = ofI (fct n) * (ofI ((n + 1 : Nat) : Int) * ev d U (T L) (n + 1)) := by
   rw [fct, ofMul, mulA]; rfl
  rw [this]
  exact c.mul (c.refl _) (step L hL n (by omega))
end
end Go.Proofs.YtiikdbomhkbdlaaGreat


namespace Go.Proofs.YtiikdbomhkbdlaaGreat
open CR
def ex (e : List Int) : Nat → Nat := fun k => (e[k]?.getD 0).toNat
def tr (m : Mon) : Trm := (m.1, ex m.2)
structure WOk (n : Nat) (B : Int) (m : Mon) : Prop where
 num : isN m.1
 len : m.2.length = n
 pw : ∀ x ∈ m.2, 0 ≤ x ∧ x ≤ B
theorem VOk.wok {n : Nat} {m : Mon} (h : VOk n m) : WOk n 3 m := ⟨h.num, h.len, h.pw⟩
theorem WOk.le {n : Nat} {B C : Int} {m : Mon} (h : WOk n B m) (hBC : B ≤ C) : WOk n C m := ⟨h.num, h.len, fun x hx => ⟨(h.pw x hx).1, Int.le_trans (h.pw x hx).2 hBC⟩⟩
theorem WOk.get {n : Nat} {B : Int} {m : Mon} (h : WOk n B m) (hB : 0 ≤ B) (k : Nat) : 0 ≤ m.2[k]?.getD 0 ∧ m.2[k]?.getD 0 ≤ B := by
 rcases Nat.lt_or_ge k m.2.length with hk | hk
 ·simp [hk]; exact h.pw _ (List.getElem_mem hk)
 ·simp [hk]; exact hB
section
variable {α : Type} [CR α]
def evM (d : Nat) (U : Nat → α) (L : List Mon) : α := ev d U (L.map tr)
def evM1 (d k : Nat) (U : Nat → α) (L : List Mon) : α := ev1 d k U (L.map tr)
theorem evM_nil (d : Nat) (U : Nat → α) : evM d U [] = ofI 0 := rfl
theorem evM_cons (d : Nat) (U : Nat → α) (m : Mon) (L : List Mon) : evM d U (m :: L) = ofI m.1 * mon U (ex m.2) d + evM d U L := rfl
theorem evM_app (d : Nat) (U : Nat → α) (L R : List Mon) : evM d U (L ++ R) = evM d U L + evM d U R := by
 unfold evM ev; rw [List.map_append, sL_app]
theorem evM1_cons (d k : Nat) (U : Nat → α) (m : Mon) (L : List Mon) : evM1 d k U (m :: L) = ofI (m.1 * (ex m.2 k : Int)) * mon U (dx k (ex m.2)) d + evM1 d k U L := rfl
theorem evM_if (d : Nat) (U : Nat → α) (m : Mon) : evM d U (if m.1 = 0 then [] else [m]) = ofI m.1 * mon U (ex m.2) d := by
 split
 ·rename_i h; rw [h, zmul]; rfl
 ·rw [evM_cons, evM_nil, add0]
theorem Cg.eq (c : Cg α) {a b : α} (h : a = b) : c.r a b := by rw [h]; exact c.refl _
theorem putGo_ev (c : Cg α) (d : Nat) (U : Nat → α) (k : Int) (e : List Int) : ∀ (l : List Mon) (done : Bool),
  c.r (evM d U (putGo k e l done)) (evM d U l + if done = true then ofI 0 else ofI k * mon U (ex e) d)
 | [], true => c.eq (by simp [putGo]; rw [add0])
 | [], false => c.eq (by simp [putGo]; rw [evM_cons, evM_nil, addC])
 | m :: l, done => by
  rw [putGo]
  by_cases h1 : done = false ∧ m.2 = e
  ·rw [if_pos h1, evM_app, h1.1, ← h1.2]
   have e1 := evM_if d U ((m.1 + k) % 10007, m.2)
   simp only at e1
   rw [e1]
   refine c.trans (c.add (c.mul (c.of (a := (m.1 + k) % 10007) (b := m.1 + k) (by omega)) (c.refl _)) (putGo_ev c d U k m.2 l true)) (c.eq ?_)
   simp only [if_true, Bool.false_eq_true, if_false]
   rw [evM_cons, ofAdd, Dmul, add0]; ac_rfl
  ·rw [if_neg h1]
   by_cases h2 : done = false ∧ ltL e m.2 = true
   ·rw [if_pos h2, evM_cons, evM_app, evM_if, h2.1]
    refine c.trans (c.add (c.refl _) (c.add (c.refl _) (putGo_ev c d U k e l true))) (c.eq ?_)
    simp only [if_true, Bool.false_eq_true, if_false]
    rw [evM_cons, add0]; ac_rfl
   ·rw [if_neg h2, evM_app, evM_if]
    refine c.trans (c.add (c.refl _) (putGo_ev c d U k e l done)) (c.eq ?_)
    rw [evM_cons, addA]
theorem putL_ev (c : Cg α) (d : Nat) (U : Nat → α) (L : List Mon) (k : Int) (e : List Int) : c.r (evM d U (putL L k e)) (evM d U L + ofI k * mon U (ex e) d) := by
 unfold putL
 refine c.trans (putGo_ev c d U k e L _) (c.eq ?_)
 by_cases h : k = 0
 ·simp [h]; rw [zmul]
 ·simp [h]
def plusL (p : List Mon) (k : Int) : List Mon → List Mon
 | [] => p
 | m :: q => plusL (putL p (k * m.1 % 10007) m.2) k q
theorem plusL_app (p : List Mon) (k : Int) (q r : List Mon) : plusL p k (q ++ r) = plusL (plusL p k q) k r := by
 induction q generalizing p with
 | nil => rfl
 | cons m q ih => exact ih _
theorem plusL_ev (c : Cg α) (d : Nat) (U : Nat → α) (k : Int) : ∀ (q p : List Mon), c.r (evM d U (plusL p k q)) (evM d U p + ofI k * evM d U q)
 | [], p => c.eq (by rw [evM_nil, mul0, add0]; rfl)
 | m :: q, p => by
  rw [plusL]
  refine c.trans (plusL_ev c d U k q _) ?_
  refine c.trans (c.add (putL_ev c d U p _ m.2) (c.refl _)) ?_
  refine c.trans (c.add (c.add (c.refl _) (c.mul (c.of (a := k * m.1 % 10007) (b := k * m.1) (by omega)) (c.refl _))) (c.refl _)) (c.eq ?_)
  rw [evM_cons, mulD, ofMul]; ac_rfl
def addE (a b : List Int) : List Int := List.zipWith (· + ·) a b
def prodRow (a : Mon) (acc : List Mon) : List Mon → List Mon
 | [] => acc
 | b :: q => prodRow a (putL acc (a.1 * b.1 % 10007) (addE a.2 b.2)) q
def prodGo (acc : List Mon) (q : List Mon) : List Mon → List Mon
 | [] => acc
 | a :: p => prodGo (prodRow a acc q) q p
def prodL (p q : List Mon) : List Mon := prodGo [] q p
theorem prodRow_app (a : Mon) (acc p q : List Mon) : prodRow a acc (p ++ q) = prodRow a (prodRow a acc p) q := by
 induction p generalizing acc with
 | nil => rfl
 | cons m p ih => exact ih _
theorem prodGo_app (acc q p r : List Mon) : prodGo acc q (p ++ r) = prodGo (prodGo acc q p) q r := by
 induction p generalizing acc with
 | nil => rfl
 | cons m p ih => exact ih _
theorem pwr_add (a : α) (n : Nat) : ∀ m : Nat, pwr a (n + m) = pwr a n * pwr a m
 | 0 => (mul1 _).symm
 | m + 1 => by rw [← Nat.add_assoc, pwr, pwr, pwr_add a n m, mulA]
theorem mon_add (U : Nat → α) (e f : Nat → Nat) : ∀ d, mon U (fun k => e k + f k) d = mon U e d * mon U f d
 | 0 => (mul1 _).symm
 | d + 1 => by rw [mon, mon, mon, mon_add U e f d, pwr_add]; ac_rfl
theorem ex_add {a b : List Int} {n : Nat} (ha : a.length = n) (hb : b.length = n) (h1 : ∀ x ∈ a, 0 ≤ x) (h2 : ∀ x ∈ b, 0 ≤ x) (k : Nat) : ex (addE a b) k = ex a k + ex b k := by
 unfold ex addE
 rcases Nat.lt_or_ge k n with hk | hk
 ·rw [List.getElem?_eq_getElem (by simp; omega), List.getElem?_eq_getElem (by omega), List.getElem?_eq_getElem (by omega)]
  have := h1 _ (List.getElem_mem (show k < a.length by omega))
  have := h2 _ (List.getElem_mem (show k < b.length by omega))
  simp; omega
 ·rw [List.getElem?_eq_none (by simp; omega), List.getElem?_eq_none (by omega), List.getElem?_eq_none (by omega)]; rfl
def LOk (n : Nat) (L : List Mon) : Prop := ∀ m ∈ L, m.2.length = n ∧ ∀ x ∈ m.2, 0 ≤ x
theorem LOk.tl {n : Nat} {m : Mon} {L : List Mon} (h : LOk n (m :: L)) : LOk n L := fun a ha => h a (by simp [ha])
theorem LOk.hd {n : Nat} {m : Mon} {L : List Mon} (h : LOk n (m :: L)) : m.2.length = n ∧ ∀ x ∈ m.2, 0 ≤ x := h m (by simp)
theorem prodRow_ev (c : Cg α) (d : Nat) (U : Nat → α) {n : Nat} {a : Mon} (ha : a.2.length = n ∧ ∀ x ∈ a.2, 0 ≤ x) : ∀ (q acc : List Mon), LOk n q → c.r (evM d U (prodRow a acc q)) (evM d U acc + ofI a.1 * mon U (ex a.2) d * evM d U q)
 | [], acc, _ => c.eq (by rw [evM_nil, mul0, add0]; rfl)
 | b :: q, acc, hq => by
  have hb := hq.hd
  rw [prodRow]
  refine c.trans (prodRow_ev c d U ha q _ hq.tl) ?_
  refine c.trans (c.add (putL_ev c d U acc _ _) (c.refl _)) ?_
  refine c.trans (c.add (c.add (c.refl _) (c.mul (c.of (a := a.1 * b.1 % 10007) (b := a.1 * b.1) (by omega)) (c.refl _))) (c.refl _)) (c.eq ?_)
  have : mon U (ex (addE a.2 b.2)) d = mon U (ex a.2) d * mon U (ex b.2) d := by
   rw [← mon_add]; exact mon_congr U (fun k _ => ex_add ha.1 hb.1 ha.2 hb.2 k)
  rw [this, evM_cons, mulD, ofMul]; ac_rfl
theorem prodGo_ev (c : Cg α) (d : Nat) (U : Nat → α) {n : Nat} {q : List Mon} (hq : LOk n q) : ∀ (p acc : List Mon), LOk n p → c.r (evM d U (prodGo acc q p)) (evM d U acc + evM d U p * evM d U q)
 | [], acc, _ => c.eq (by rw [evM_nil, zmul, add0]; rfl)
 | a :: p, acc, hp => by
  rw [prodGo]
  refine c.trans (prodGo_ev c d U hq p _ hp.tl) ?_
  refine c.trans (c.add (prodRow_ev c d U hp.hd q acc hq) (c.refl _)) (c.eq ?_)
  rw [evM_cons, Dmul]; ac_rfl
theorem prodL_ev (c : Cg α) (d : Nat) (U : Nat → α) {n : Nat} {p q : List Mon} (hp : LOk n p) (hq : LOk n q) : c.r (evM d U (prodL p q)) (evM d U p * evM d U q) :=
 c.trans (prodGo_ev c d U hq p [] hp) (c.eq (zadd _))
theorem ex_low {e : List Int} {i n : Nat} (hi : i < n) (hl : e.length = n) (k : Nat) : ex (e.set i (e[i]?.getD 0 - 1)) k = dx i (ex e) k := by
 unfold ex dx
 rw [List.getElem?_set]
 by_cases h : i = k
 ·subst h
  rw [if_pos rfl, if_pos (by omega), if_pos rfl]
  simp
 ·rw [if_neg h, if_neg (Ne.symm h)]
theorem derGo_ev (c : Cg α) (d : Nat) (U : Nat → α) {n i : Nat} (hi : i < n) : ∀ (p acc : List Mon), LOk n p → c.r (evM d U (derGo i acc p)) (evM d U acc + evM1 d i U p)
 | [], acc, _ => c.eq (add0 _).symm
 | m :: p, acc, h => by
  have hm := h.hd
  rw [derGo, evM1_cons]
  refine c.trans (derGo_ev c d U hi p _ h.tl) ?_
  have h0 : 0 ≤ m.2[i]?.getD 0 := by
   rw [List.getElem?_eq_getElem (by omega), Option.getD_some]; exact hm.2 _ (List.getElem_mem _)
  by_cases hpos : 0 < m.2[i]?.getD 0
  ·rw [if_pos hpos]
   refine c.trans (c.add (putL_ev c d U acc _ _) (c.refl _)) ?_
   refine c.trans (c.add (c.add (c.refl _) (c.mul (c.of (a := m.1 * m.2[i]?.getD 0 % 10007) (b := m.1 * (ex m.2 i : Int)) ?_) (c.refl _))) (c.refl _)) (c.eq ?_)
   ·unfold ex; rw [Int.toNat_of_nonneg h0, Int.emod_emod_of_dvd _ (Int.dvd_refl _)]
   ·rw [mon_congr U (fun k _ => ex_low hi hm.1 k), addA]
  ·rw [if_neg hpos]
   have : ex m.2 i = 0 := by unfold ex; omega
   rw [this]
   have z : ofI (m.1 * ((0 : Nat) : Int)) = (ofI 0 : α) := by simp
   rw [z, zmul, zadd]
   exact c.refl _
theorem derL_ev (c : Cg α) (d : Nat) (U : Nat → α) {n i : Nat} (hi : i < n) {p : List Mon} (hp : LOk n p) : c.r (evM d U (derL i p)) (evM1 d i U p) :=
 c.trans (derGo_ev c d U hi p [] hp) (c.eq (zadd _))
def alongGo (acc p : List Mon) (k : Nat) : List (List Mon) → List Mon
 | [] => acc
 | F :: f => alongGo (plusL acc 1 (prodL F (derL k p))) p (k + 1) f
def alongL (f : List (List Mon)) (p : List Mon) : List Mon := alongGo [] p 0 f
theorem alongGo_app (acc p : List Mon) (k : Nat) (f g : List (List Mon)) : alongGo acc p k (f ++ g) = alongGo (alongGo acc p k f) p (k + f.length) g := by
 induction f generalizing acc k with
 | nil => rfl
 | cons F f ih => simp only [List.cons_append, alongGo, ih, List.length_cons]; congr 1; omega
theorem putGo_lok {n : Nat} {k : Int} {e : List Int} (h : e.length = n ∧ ∀ x ∈ e, 0 ≤ x) : ∀ (l : List Mon) (done : Bool), LOk n l → LOk n (putGo k e l done)
 | [], true, _, m, hm => by simp [putGo] at hm
 | [], false, _, m, hm => by simp [putGo] at hm; rw [hm]; exact h
 | a :: l, done, hl, m, hm => by
  have ha := hl.hd
  have ih := fun d => putGo_lok (k := k) h l d hl.tl
  have one : ∀ b : Mon, (b.2.length = n ∧ ∀ x ∈ b.2, 0 ≤ x) → m ∈ (if b.1 = 0 then [] else [b]) → (m.2.length = n ∧ ∀ x ∈ m.2, 0 ≤ x) := fun b hb hmm => by
   split at hmm
   ·simp at hmm
   ·simp at hmm; rw [hmm]; exact hb
  rw [putGo] at hm
  split at hm
  ·rcases List.mem_append.1 hm with hm | hm
   ·exact one ((a.1 + k) % 10007, a.2) ha hm
   ·exact ih _ m hm
  ·split at hm
   ·rcases List.mem_cons.1 hm with hm | hm
    ·rw [hm]; exact h
    ·rcases List.mem_append.1 hm with hm | hm
     ·exact one a ha hm
     ·exact ih _ m hm
   ·rcases List.mem_append.1 hm with hm | hm
    ·exact one a ha hm
    ·exact ih _ m hm
theorem plusL_lok {n : Nat} {k : Int} : ∀ (q p : List Mon), LOk n q → LOk n p → LOk n (plusL p k q)
 | [], p, _, hp => hp
 | m :: q, p, hq, hp => plusL_lok q _ hq.tl (putGo_lok hq.hd p _ hp)
theorem addE_ok {n : Nat} {a b : List Int} (ha : a.length = n ∧ ∀ x ∈ a, 0 ≤ x) (hb : b.length = n ∧ ∀ x ∈ b, 0 ≤ x) : (addE a b).length = n ∧ ∀ x ∈ addE a b, 0 ≤ x := by
 refine ⟨by unfold addE; simp; omega, fun x hx => ?_⟩
 obtain ⟨i, hi, rfl⟩ := List.getElem_of_mem hx
 unfold addE at hi ⊢
 simp at hi ⊢
 have h1 := ha.2 _ (List.getElem_mem (show i < a.length by omega))
 have h2 := hb.2 _ (List.getElem_mem (show i < b.length by omega))
 omega
theorem prodRow_lok {n : Nat} {a : Mon} (ha : a.2.length = n ∧ ∀ x ∈ a.2, 0 ≤ x) : ∀ (q acc : List Mon), LOk n q → LOk n acc → LOk n (prodRow a acc q)
 | [], _, _, h => h
 | b :: q, acc, hq, h => prodRow_lok ha q _ hq.tl (putGo_lok (addE_ok ha hq.hd) acc _ h)
theorem prodGo_lok {n : Nat} {q : List Mon} (hq : LOk n q) : ∀ (p acc : List Mon), LOk n p → LOk n acc → LOk n (prodGo acc q p)
 | [], _, _, h => h
 | a :: p, acc, hp, h => prodGo_lok hq p _ hp.tl (prodRow_lok hp.hd q acc hq h)
theorem derGo_lok {n i : Nat} (hi : i < n) : ∀ (p acc : List Mon), LOk n p → LOk n acc → LOk n (derGo i acc p)
 | [], acc, _, ha => ha
 | a :: p, acc, hp, ha => by
  rw [derGo]
  have hav := hp.hd
  refine derGo_lok hi p _ hp.tl ?_
  split
  ·rename_i hpos
   refine putGo_lok ⟨by simpa using hav.1, fun x hx => ?_⟩ acc _ ha
   rcases List.mem_or_eq_of_mem_set hx with hx | rfl
   ·exact hav.2 x hx
   ·omega
  ·exact ha
theorem alongGo_lok {n : Nat} {p : List Mon} (hp : LOk n p) : ∀ (f : List (List Mon)) (k : Nat) (acc : List Mon), k + f.length ≤ n → (∀ F ∈ f, LOk n F) → LOk n acc → LOk n (alongGo acc p k f)
 | [], _, _, _, _, h => h
 | F :: f, k, acc, hk, hf, h => by
  rw [List.length_cons] at hk
  exact alongGo_lok hp f (k + 1) _ (by omega) (fun G hG => hf G (by simp [hG])) (plusL_lok _ _ (prodGo_lok (derGo_lok (by omega) p [] hp (by intro m hm; simp at hm)) F [] (hf F (by simp)) (by intro m hm; simp at hm)) h)
theorem alongL_lok {n : Nat} {f : List (List Mon)} {p : List Mon} (hp : LOk n p) (hf : ∀ F ∈ f, LOk n F) (hl : f.length ≤ n) : LOk n (alongL f p) := alongGo_lok hp f 0 [] (by omega) hf (by intro m hm; simp at hm)
theorem sT_shift (f : Nat → α) : ∀ n, sT f (n + 1) = f 0 + sT (fun k => f (k + 1)) n
 | 0 => by simp only [sT]; rw [addC]
 | n + 1 => by rw [sT, sT_shift f n, sT, addA]
theorem alongGo_ev (c : Cg α) (d : Nat) (U : Nat → α) {n : Nat} {p : List Mon} (hp : LOk n p) : ∀ (f : List (List Mon)) (k : Nat) (acc : List Mon), k + f.length ≤ n → (∀ F ∈ f, LOk n F) →
  c.r (evM d U (alongGo acc p k f)) (evM d U acc + sT (fun j => evM1 d (k + j) U p * evM d U (f[j]?.getD [])) f.length)
 | [], k, acc, _, _ => c.eq (add0 _).symm
 | F :: f, k, acc, hk, hf => by
  rw [List.length_cons] at hk
  rw [alongGo, List.length_cons, sT_shift]
  have hD : LOk n (derL k p) := derGo_lok (by omega) p [] hp (by intro m hm; simp at hm)
  refine c.trans (alongGo_ev c d U hp f (k + 1) _ (by omega) (fun G hG => hf G (by simp [hG]))) ?_
  refine c.trans (c.add (c.trans (plusL_ev c d U 1 _ acc) (c.add (c.refl _) (c.mul (c.refl _) (c.trans (prodL_ev c d U (hf F (by simp)) hD) (c.mul (c.refl _) (derL_ev c d U (by omega) hp)))))) (c.refl _)) (c.eq ?_)
  have e1 : sT (fun j => evM1 d (k + 1 + j) U p * evM d U (f[j]?.getD [])) f.length = sT (fun j => evM1 d (k + (j + 1)) U p * evM d U ((F :: f)[j + 1]?.getD [])) f.length :=
   sT_congr (fun j _ => by simp [Nat.add_assoc, Nat.add_comm 1 j])
  rw [e1, omul, addA]
  simp only [Nat.add_zero, List.getElem?_cons_zero, Option.getD_some]
  rw [mulC (evM d U F)]
theorem alongL_ev (c : Cg α) (d : Nat) (U : Nat → α) {n : Nat} {p : List Mon} (hp : LOk n p) {f : List (List Mon)} (hl : f.length ≤ n) (hf : ∀ F ∈ f, LOk n F) :
  c.r (evM d U (alongL f p)) (sT (fun j => evM1 d j U p * evM d U (f[j]?.getD [])) f.length) := by
 refine c.trans (alongGo_ev c d U hp f 0 [] (by omega) hf) (c.eq ?_)
 rw [evM_nil, zadd]
 exact sT_congr (fun j _ => by rw [Nat.zero_add])
theorem flow_is (c : Cg α) {d N : Nat} {U : Nat → Ser α} {f : List (List Mon)} (hl : f.length = d) (hf : ∀ F ∈ f, LOk d F)
  (hU : ∀ k, k < d → ∀ n, n < N → c.r (ofI ((n + 1 : Nat) : Int) * U k (n + 1)) (evM d U (f[k]?.getD []) n)) :
  ∀ (n : Nat) (L : List Mon), n ≤ N → LOk d L → c.r (ofI (fct n) * evM d U L n) (evM d (fun k => U k 0) (Nat.repeat (alongL f) n L)) := by
 refine flow_at c (π := List Mon) (fun L => L.map tr) (F := fun k => f[k]?.getD []) (A := alongL f) (Ok := LOk d) (fun L hL => ⟨alongL_lok hL hf (by omega), ?_⟩) hU
 have := alongL_ev (cgS c N) d U hL (f := f) (by omega) hf
 rw [hl] at this
 exact this
end
end Go.Proofs.YtiikdbomhkbdlaaGreat


namespace Go.Proofs.YtiikdbomhkbdlaaGreat
open Go.Abs
theorem putGo_len (c : Int) (e : List Int) : ∀ (l : List Mon) (done : Bool), (putGo c e l done).length ≤ l.length + 1
 | [], true => by simp [putGo]
 | [], false => by simp [putGo]
 | m :: l, done => by
  have one : ∀ b : Mon, (if b.1 = 0 then [] else [b]).length ≤ 1 := fun b => by split <;> simp
  have ht : ∀ l : List Mon, (putGo c e l true).length ≤ l.length := by
   intro l
   induction l with
   | nil => simp [putGo]
   | cons m l ih => rw [putGo_t]; have := one m; simp; omega
  have h1 := putGo_len c e l done
  have h2 := ht l
  have h3 := one m
  have h4 := one ((m.1 + c) % 10007, m.2)
  simp only at h4
  rw [putGo]
  split
  ·simp only [List.length_append, List.length_cons]; omega
  ·split
   ·simp only [List.length_append, List.length_cons]; omega
   ·simp only [List.length_append, List.length_cons]; omega
theorem putL_len (L : List Mon) (c : Int) (e : List Int) : (putL L c e).length ≤ L.length + 1 := putGo_len c e L _
theorem derGo_len (i : Nat) : ∀ (p acc : List Mon), (derGo i acc p).length ≤ acc.length + p.length
 | [], acc => by simp [derGo]
 | m :: p, acc => by
  rw [derGo]
  have := derGo_len i p (if 0 < m.2[i]?.getD 0 then putL acc (m.1 * m.2[i]?.getD 0 % 10007) (m.2.set i (m.2[i]?.getD 0 - 1)) else acc)
  have h : (if 0 < m.2[i]?.getD 0 then putL acc (m.1 * m.2[i]?.getD 0 % 10007) (m.2.set i (m.2[i]?.getD 0 - 1)) else acc).length ≤ acc.length + 1 := by
   split
   ·exact putL_len _ _ _
   ·omega
  simp; omega
theorem putGo_wok {n : Nat} {B c : Int} {e : List Int} (h : WOk n B (c, e)) : ∀ (l : List Mon) (done : Bool), (∀ m ∈ l, WOk n B m) → ∀ m ∈ putGo c e l done, WOk n B m
 | [], true, _, m, hm => by simp [putGo] at hm
 | [], false, _, m, hm => by simp [putGo] at hm; rw [hm]; exact h
 | a :: l, done, hl, m, hm => by
  have ha := hl a (by simp)
  have ih := fun d => putGo_wok h l d (fun b hb => hl b (by simp [hb]))
  have one : ∀ b : Mon, WOk n B b → m ∈ (if b.1 = 0 then [] else [b]) → WOk n B m := fun b hb hmm => by
   split at hmm
   ·simp at hmm
   ·simp at hmm; rw [hmm]; exact hb
  rw [putGo] at hm
  split at hm
  ·rcases List.mem_append.1 hm with hm | hm
   ·exact one ((a.1 + c) % 10007, a.2) ⟨isN_mod _, ha.len, ha.pw⟩ hm
   ·exact ih _ m hm
  ·split at hm
   ·rcases List.mem_cons.1 hm with hm | hm
    ·rw [hm]; exact h
    ·rcases List.mem_append.1 hm with hm | hm
     ·exact one a ha hm
     ·exact ih _ m hm
   ·rcases List.mem_append.1 hm with hm | hm
    ·exact one a ha hm
    ·exact ih _ m hm
theorem WOk.low {n i : Nat} {B : Int} {m : Mon} (h : WOk n B m) (hi : i < n) (hp : 0 < m.2[i]?.getD 0) : WOk n B (m.1 * m.2[i]?.getD 0 % 10007, m.2.set i (m.2[i]?.getD 0 - 1)) := by
 have hl := h.len
 refine ⟨isN_mod _, by simpa using hl, fun x hx => ?_⟩
 rcases List.mem_or_eq_of_mem_set hx with hx | rfl
 ·exact h.pw x hx
 ·have hm : m.2[i]?.getD 0 ∈ m.2 := by
   rw [List.getElem?_eq_getElem (by omega), Option.getD_some]; exact List.getElem_mem _
  have := h.pw _ hm
  omega
theorem derGo_wok {n i : Nat} {B : Int} (hi : i < n) : ∀ (p acc : List Mon), (∀ m ∈ p, WOk n B m) → (∀ m ∈ acc, WOk n B m) → ∀ m ∈ derGo i acc p, WOk n B m
 | [], acc, _, ha, m, hm => ha m hm
 | a :: p, acc, hp, ha, m, hm => by
  rw [derGo] at hm
  have hav := hp a (by simp)
  refine derGo_wok hi p _ (fun b hb => hp b (by simp [hb])) ?_ m hm
  split
  ·rename_i hpos
   exact fun b hb => putGo_wok (hav.low hi hpos) acc _ ha b hb
  ·exact ha
theorem small_mul {a b : Int} (ha : isN a) (h0 : 0 ≤ b) (h1 : b ≤ 1000000) : fits (a * b) := by
 obtain ⟨a0, a1⟩ := ha
 have := Int.mul_nonneg a0 h0
 have : a * b ≤ 10006 * 1000000 := Int.mul_le_mul (by omega) h1 h0 (by omega)
 exact ⟨by omega, by omega⟩
theorem l13Derive_c {n : Nat} {B : Int} (p : List Mon) (k : Nat) (hk : k < n) (hn : n ≤ 1000) (hB : 0 ≤ B) (hB2 : B ≤ 1000000) (hp : ∀ m ∈ p, WOk n B m) (hl : p.length ≤ 100000000000) :
  Con Tryz.prog 311 [.sl p.length (mons p), .int k] (.own 62 (derL k p).length (omons (derL k p))) := by
 refine con_of_vc Tryz.mixed ⟨9, [], [], []⟩ Tryz.func311 (by decide) rfl (by simp) (by decide) (by simp [freshOK, freshL, go_sem]) ?_
 rw [Tryz.ntmps311]
 simp [go_sem]
 refine loop_inv (List.range' 5 45) (fun i : Nat => [(5, .own 62 (derL k (p.take i)).length (omons (derL k (p.take i)))), (6, .int i)]) (fun i => i ≤ p.length) (fun i => p.length - i) 0 (by simp) (by simp [go_sem, derL, derGo]) (by simp [go_sem]) ?_
 intro i hi
 simp [go_sem]
 refine ⟨fun h => ?_, fun h => ?_⟩ <;> simp at h
 ·have hif := h
  have hx : p[i]?.getD (0, []) ∈ p := by simp [h]
  have hm := hp _ hx
  have hd : derL k (p.take (i + 1)) = (if 0 < (p[i]?.getD (0, [])).2[k]?.getD 0 then putL (derL k (p.take i)) ((p[i]?.getD (0, [])).1 * (p[i]?.getD (0, [])).2[k]?.getD 0 % 10007) ((p[i]?.getD (0, [])).2.set k ((p[i]?.getD (0, [])).2[k]?.getD 0 - 1)) else derL k (p.take i)) := by
   unfold derL
   rw [List.take_add_one, derGo_app]; simp [hif, derGo]
  have hw : ∀ m ∈ derL k (p.take i), WOk n B m := derGo_wok hk _ [] (fun m hm => hp m (List.mem_of_mem_take hm)) (by simp)
  have hdl := derGo_len k (p.take i) []
  have hdl2 : (derL k (p.take i)).length ≤ i := by unfold derL; simp at hdl; omega
  simp [go_sem, mons_drop hif]
  generalize hM : p[i]?.getD (0, []) = m at *
  have hml := hm.len
  have g := hm.get hB k
  have hkl : k < m.2.length := by omega
  have cO := l01Own_c m.2 (by omega)
  refine ⟨⟨hif, by rintro rfl; simp at hif⟩, ?_⟩
  refine CallVC.of (cO) (by decide) ?_
  simp [go_sem]
  simp [go_sem, mons_drop hif, hM, avs_at hkl]
  refine ⟨by kernel_rfl, ⟨hif, by rintro rfl; simp at hif⟩, hkl, ?_⟩
  refine CallD.of (l01Mul_c _ _ (small_mul hm.num g.1 (by omega))) (by simp [roots, rootsL]) (by decide) ?_
  simp [go_sem]
  refine ⟨by kernel_rfl, ?_⟩
  simp [go_sem]
  simp [go_sem, avs_at hkl]
  refine ⟨hkl, ?_⟩
  by_cases hpos : 0 < m.2[k]?.getD 0
  ·rw [if_pos hpos] at hd
   have hv := hm.low (by omega) hpos
   have cP := l13Put_c (derL k (p.take i)) (m.1 * m.2[k]?.getD 0 % 10007) (m.2.set k (m.2[k]?.getD 0 - 1)) (isN_mod _) (fun q hq => ⟨(hw q hq).num, by have := (hw q hq).len; omega⟩) (by omega) (by simp; omega)
   rw [List.length_set] at cP
   simp [go_sem, hpos, avs_at hkl]
   refine ⟨hkl, ⟨by omega, by omega⟩, hkl, ?_⟩
   rw [avs_set, avs_frz]
   refine CallVC.of (cP) (by decide) ?_
   simp [go_sem]
   exact ⟨by omega, i + 1, by omega, by omega, Off_reset _ _ _ (by simp), by rw [hd]; exact ⟨rfl, rfl⟩, by omega⟩
  ·rw [if_neg hpos] at hd
   simp [go_sem, hpos]
   exact ⟨by omega, i + 1, by omega, by omega, Off_reset _ _ _ (by simp), by rw [hd]; exact ⟨rfl, rfl⟩, by omega⟩
 ·simp [go_sem]
  rw [List.take_of_length_le h]
  simp
theorem derivative_c {n : Nat} (c : Key → Option Int) (i : Nat) (hi : i < n) (hn : n ≤ 3) (hc : ∀ k x, c k = some x → isN x ∧ KOk n k) :
  Con Tryz.prog 341 [.fmp c, .int i] (.mp (derM i c)) := by
 refine con_of_vc Tryz.mixed ⟨9, [], [], []⟩ Tryz.func341 (by decide) rfl (by simp) (by decide) (by simp [freshOK, freshL, go_sem]) ?_
 rw [Tryz.ntmps341]
 simp [go_sem]
 intro es hes
 have hok : ∀ e ∈ es, c e.1 = some e.2 := fun e he => hes.val e he
 refine loop_inv (List.range' 5 34) (fun x : Option (Key × Int) × List (Key × Int) => [(5, .mp (remD i c x.2)), (11, .it x.1 x.2)]) (fun x => x.2.Pairwise (fun a b => a.1 ≠ b.1) ∧ ∀ e ∈ x.2, c e.1 = some e.2) (fun x => x.2.length) (none, es) ⟨hes.nd, hok⟩ (by simp [go_sem, remD_start hes]) (by simp [go_sem]) ?_
 rintro ⟨l, rem⟩ ⟨hnd, hrem⟩
 simp only at hnd hrem
 simp [go_sem, keyAV]
 refine ⟨fun hr => ?_, fun l1 k0 k1 k2 x l2 hr => ?_⟩
 ·subst hr
  exact remD_end i c
 ·subst hr
  have h3 : i = 0 ∨ i = 1 ∨ i = 2 := by omega
  have hcx := hrem ((k0, k1, k2), x) (by simp)
  have hx := hc _ _ hcx
  have hbx := mem_box.1 hx.2.1
  simp only at hcx hbx
  have hnum := hx.1
  have hnd2 : (l1 ++ l2).Pairwise (fun a b => a.1 ≠ b.1) := hnd.sublist (List.Sublist.append (List.Sublist.refl _) (List.sublist_cons_self _ _))
  have hrem2 : ∀ a b c' y, ((a, b, c'), y) ∈ l1 ++ l2 → c (a, b, c') = some y := fun a b c' y hm => hrem ((a, b, c'), y) (by
   rcases List.mem_append.1 hm with hm | hm <;> simp [hm])
  rcases h3 with rfl | rfl | rfl
  ·have hz : remD 0 c (l1 ++ ((k0, k1, k2), x) :: l2) (k0 - 1, k1, k2) = none := remD_at (i := 0) (c := c) (l1 := l1) (l2 := l2) (k0 := (k0, k1, k2)) (x := x)
   simp [go_sem]
   by_cases hp : 0 < k0
   ·have hs : mset (remD 0 c (l1 ++ ((k0, k1, k2), x) :: l2)) (k0 - 1, k1, k2) (k0 * x % 10007) = remD 0 c (l1 ++ l2) := remD_step (i := 0) hnd hcx hp
    have hf : fits (k0 * x) := by rw [Int.mul_comm]; exact small_mul hnum (by omega) (by omega)
    simp [go_sem, hp, hz]
    refine ⟨⟨by omega, by omega⟩, by kernel_rfl, hf, ?_⟩
    refine CallD.of (num_c _ hf.1 hf.2) (by simp [roots, rootsL]) (by decide) ?_
    simp [go_sem]
    refine ⟨by kernel_rfl, ?_⟩
    simp [go_sem]
    exact ⟨_, _, ⟨hnd2, hrem2⟩, by simp; try omega, Off_reset _ _ _ (by simp), hs, rfl, rfl⟩
   ·have hs : remD 0 c (l1 ++ ((k0, k1, k2), x) :: l2) = remD 0 c (l1 ++ l2) := remD_skip (i := 0) hnd hcx hp
    simp [go_sem, hp]
    exact ⟨_, _, ⟨hnd2, hrem2⟩, by simp; try omega, Off_reset _ _ _ (by simp), hs, rfl, rfl⟩
  ·have hz : remD 1 c (l1 ++ ((k0, k1, k2), x) :: l2) (k0, k1 - 1, k2) = none := remD_at (i := 1) (c := c) (l1 := l1) (l2 := l2) (k0 := (k0, k1, k2)) (x := x)
   simp [go_sem]
   by_cases hp : 0 < k1
   ·have hs : mset (remD 1 c (l1 ++ ((k0, k1, k2), x) :: l2)) (k0, k1 - 1, k2) (k1 * x % 10007) = remD 1 c (l1 ++ l2) := remD_step (i := 1) hnd hcx hp
    have hf : fits (k1 * x) := by rw [Int.mul_comm]; exact small_mul hnum (by omega) (by omega)
    simp [go_sem, hp, hz]
    refine ⟨⟨by omega, by omega⟩, by kernel_rfl, hf, ?_⟩
    refine CallD.of (num_c _ hf.1 hf.2) (by simp [roots, rootsL]) (by decide) ?_
    simp [go_sem]
    refine ⟨by kernel_rfl, ?_⟩
    simp [go_sem]
    exact ⟨_, _, ⟨hnd2, hrem2⟩, by simp; try omega, Off_reset _ _ _ (by simp), hs, rfl, rfl⟩
   ·have hs : remD 1 c (l1 ++ ((k0, k1, k2), x) :: l2) = remD 1 c (l1 ++ l2) := remD_skip (i := 1) hnd hcx hp
    simp [go_sem, hp]
    exact ⟨_, _, ⟨hnd2, hrem2⟩, by simp; try omega, Off_reset _ _ _ (by simp), hs, rfl, rfl⟩
  ·have hz : remD 2 c (l1 ++ ((k0, k1, k2), x) :: l2) (k0, k1, k2 - 1) = none := remD_at (i := 2) (c := c) (l1 := l1) (l2 := l2) (k0 := (k0, k1, k2)) (x := x)
   simp [go_sem]
   by_cases hp : 0 < k2
   ·have hs : mset (remD 2 c (l1 ++ ((k0, k1, k2), x) :: l2)) (k0, k1, k2 - 1) (k2 * x % 10007) = remD 2 c (l1 ++ l2) := remD_step (i := 2) hnd hcx hp
    have hf : fits (k2 * x) := by rw [Int.mul_comm]; exact small_mul hnum (by omega) (by omega)
    simp [go_sem, hp, hz]
    refine ⟨⟨by omega, by omega⟩, by kernel_rfl, hf, ?_⟩
    refine CallD.of (num_c _ hf.1 hf.2) (by simp [roots, rootsL]) (by decide) ?_
    simp [go_sem]
    refine ⟨by kernel_rfl, ?_⟩
    simp [go_sem]
    exact ⟨_, _, ⟨hnd2, hrem2⟩, by simp; try omega, Off_reset _ _ _ (by simp), hs, rfl, rfl⟩
   ·have hs : remD 2 c (l1 ++ ((k0, k1, k2), x) :: l2) = remD 2 c (l1 ++ l2) := remD_skip (i := 2) hnd hcx hp
    simp [go_sem, hp]
    exact ⟨_, _, ⟨hnd2, hrem2⟩, by simp; try omega, Off_reset _ _ _ (by simp), hs, rfl, rfl⟩
end Go.Proofs.YtiikdbomhkbdlaaGreat


namespace Go.Proofs.YtiikdbomhkbdlaaGreat
open Go.Abs
theorem omat_app (A C : List (List Int)) : omat (A ++ C) = omat A ++ omat C := by simp [omat]
theorem omat_one (r : List Int) : omat [r] = [.own 2 r.length (avs r)] := rfl
theorem omat_nil : omat [] = [] := rfl
theorem polF_kok {n : Nat} {p : List Mon} (hn : n ≤ 3) (hp : partB (n : Int) p = true) {k : Key} {x : Int} (hk : polF p k = some x) : isN x ∧ KOk n k := by
 obtain ⟨m, hm, he⟩ := List.mem_map.1 ((polF_some (keys_nd (by omega) hp)).1 hk)
 simp only [keyM, Prod.mk.injEq] at he
 obtain ⟨rfl, rfl⟩ := he
 have := (partB_mem hp hm).vok
 exact ⟨this.num, this.kok hn⟩
end Go.Proofs.YtiikdbomhkbdlaaGreat


namespace Go.Proofs.YtiikdbomhkbdlaaGreat
open Go.Abs
theorem memD {α : Type} {l : List α} {i : Nat} (d : α) (h : i < l.length) : l[i]?.getD d ∈ l := by simp [h]
theorem mons_drop1 {p : List Mon} {k : Nat} (h : k < p.length) : (mons p).drop (k * 2 + 1) = .sl (p[k]?.getD (0, [])).2.length (avs (p[k]?.getD (0, [])).2) :: mons (p.drop (k + 1)) := by
 rw [← List.drop_drop, mons_drop h]; rfl
def adE (a b : List Int) (j : Nat) : List Int := (List.range a.length).map fun t => if t < j then a[t]?.getD 0 + b[t]?.getD 0 else a[t]?.getD 0
@[simp] theorem adE_len (a b : List Int) (j : Nat) : (adE a b j).length = a.length := by simp [adE]
theorem adE_zero (a b : List Int) : adE a b 0 = a := by
 refine List.ext_getElem (by simp) fun i h1 h2 => ?_
 simp [adE, h2]
theorem adE_all {a b : List Int} (h : b.length = a.length) : adE a b a.length = addE a b := by
 refine List.ext_getElem (by simp [addE, h]) fun i h1 h2 => ?_
 simp at h1
 simp [adE, addE, h1, show i < b.length by omega]
theorem adE_get {a b : List Int} {j : Nat} (h : j < a.length) : (adE a b j)[j]?.getD 0 = a[j]?.getD 0 := by simp [adE, h]
theorem adE_set {a b : List Int} {j : Nat} (h : j < a.length) : (adE a b j).set j (a[j]?.getD 0 + b[j]?.getD 0) = adE a b (j + 1) := by
 refine List.ext_getElem (by simp) fun i h1 h2 => ?_
 simp at h1
 rw [List.getElem_set]
 by_cases e : j = i
 ·subst e; simp [adE]
 ·simp only [e, if_false, adE, List.getElem_map, List.getElem_range]
  by_cases h3 : i < j
  ·simp [h3, show i < j + 1 by omega]
  ·simp [h3, show ¬ i < j + 1 by omega]
theorem WOk.prod {n : Nat} {B C : Int} {a b : Mon} (ha : WOk n B a) (hb : WOk n C b) : WOk n (B + C) (a.1 * b.1 % 10007, addE a.2 b.2) := by
 have h1 := ha.len
 have h2 := hb.len
 refine ⟨isN_mod _, by simp [addE]; omega, fun x hx => ?_⟩
 obtain ⟨i, hi, rfl⟩ := List.getElem_of_mem hx
 unfold addE at hi ⊢
 simp at hi ⊢
 have p1 := ha.pw _ (List.getElem_mem (show i < a.2.length by omega))
 have p2 := hb.pw _ (List.getElem_mem (show i < b.2.length by omega))
 omega
theorem prodRow_wok {n : Nat} {B C : Int} {a : Mon} (ha : WOk n B a) : ∀ (q acc : List Mon), (∀ m ∈ q, WOk n C m) → (∀ m ∈ acc, WOk n (B + C) m) → ∀ m ∈ prodRow a acc q, WOk n (B + C) m
 | [], _, _, h => h
 | b :: q, acc, hq, h => prodRow_wok ha q _ (fun m hm => hq m (by simp [hm])) (putGo_wok (ha.prod (hq b (by simp))) acc _ h)
theorem prodGo_wok {n : Nat} {B C : Int} {q : List Mon} (hq : ∀ m ∈ q, WOk n C m) : ∀ (p acc : List Mon), (∀ m ∈ p, WOk n B m) → (∀ m ∈ acc, WOk n (B + C) m) → ∀ m ∈ prodGo acc q p, WOk n (B + C) m
 | [], _, _, h => h
 | a :: p, acc, hp, h => prodGo_wok hq p _ (fun m hm => hp m (by simp [hm])) (prodRow_wok (hp a (by simp)) q acc hq h)
theorem prodRow_len (a : Mon) : ∀ (q acc : List Mon), (prodRow a acc q).length ≤ acc.length + q.length
 | [], _ => by simp [prodRow]
 | b :: q, acc => by
  rw [prodRow]
  have h1 := prodRow_len a q (putL acc (a.1 * b.1 % 10007) (addE a.2 b.2))
  have h2 := putL_len acc (a.1 * b.1 % 10007) (addE a.2 b.2)
  simp only [List.length_cons]; omega
theorem prodGo_len (q : List Mon) : ∀ (p acc : List Mon), (prodGo acc q p).length ≤ acc.length + p.length * q.length
 | [], _ => by simp [prodGo]
 | a :: p, acc => by
  rw [prodGo]
  have h1 := prodGo_len q p (prodRow a acc q)
  have h2 := prodRow_len a q acc
  simp only [List.length_cons, Nat.add_mul, Nat.one_mul]; omega
theorem l13Product_c {n : Nat} {B C : Int} (p q : List Mon) (hn : n ≤ 1000) (hB : 0 ≤ B) (hB2 : B ≤ 1000000) (hC : 0 ≤ C) (hC2 : C ≤ 1000000) (hp : ∀ m ∈ p, WOk n B m) (hq : ∀ m ∈ q, WOk n C m) (hpl : p.length ≤ 1000000000000) (hql : q.length ≤ 1000000000000) (hl : p.length * q.length ≤ 1000000000000) :
  Con Tryz.prog 310 [.sl p.length (mons p), .sl q.length (mons q)] (.own 62 (prodL p q).length (omons (prodL p q))) := by
 refine con_of_vc Tryz.mixed ⟨10, [], [], []⟩ Tryz.func310 (by decide) rfl (by simp) (by decide) (by simp [freshOK, freshL, go_sem]) ?_
 rw [Tryz.ntmps310]
 simp [go_sem]
 refine loop_inv (List.range' 5 5 ++ List.range' 11 54) (fun i : Nat => [(5, .own 62 (prodGo [] q (p.take i)).length (omons (prodGo [] q (p.take i)))), (6, .int i)]) (fun i => i ≤ p.length) (fun i => p.length - i) 0 (by simp) (by simp [go_sem, prodGo]) (by simp [go_sem]) ?_
 intro i hi
 simp [go_sem]
 refine ⟨fun h => ?_, fun h => ?_⟩ <;> simp at h
 ·have hif := h
  have ha := hp _ (memD (0, []) hif)
  have hd : prodGo [] q (p.take (i + 1)) = prodRow (p[i]?.getD (0, [])) (prodGo [] q (p.take i)) q := by
   rw [List.take_add_one, prodGo_app]; simp [hif, prodGo]
  have hw : ∀ m ∈ prodGo [] q (p.take i), WOk n (B + C) m := prodGo_wok hq _ [] (fun m hm => hp m (List.mem_of_mem_take hm)) (by simp)
  have hdl := prodGo_len q (p.take i) []
  have hil : (i + 1) * q.length ≤ p.length * q.length := Nat.mul_le_mul_right _ hif
  rw [Nat.add_mul, Nat.one_mul] at hil
  have hml : (p.take i).length * q.length ≤ i * q.length := Nat.mul_le_mul_right _ (by simp; omega)
  simp only [List.length_nil, Nat.zero_add] at hdl
  generalize prodGo [] q (p.take i) = acc at *
  simp [go_sem]
  generalize hM : p[i]?.getD (0, []) = a at *
  refine loop_inv (5 :: 7 :: 8 :: 9 :: List.range' 17 48) (fun k : Nat => [(5, .own 62 (prodRow a acc (q.take k)).length (omons (prodRow a acc (q.take k)))), (7, .int k)]) (fun k => k ≤ q.length) (fun k => q.length - k) 0 (by simp) (by simp [go_sem, prodRow]) (by simp [go_sem]) ?_
  intro k hk
  simp [go_sem]
  refine ⟨fun h => ?_, fun h => ?_⟩ <;> simp at h
  ·have hkf := h
   have hb := hq _ (memD (0, []) hkf)
   have hd2 : prodRow a acc (q.take (k + 1)) = putL (prodRow a acc (q.take k)) (a.1 * (q[k]?.getD (0, [])).1 % 10007) (addE a.2 (q[k]?.getD (0, [])).2) := by
    rw [List.take_add_one, prodRow_app]; simp [hkf, prodRow]
   have hw2 : ∀ m ∈ prodRow a acc (q.take k), WOk n (B + C) m := prodRow_wok ha _ _ (fun m hm => hq m (List.mem_of_mem_take hm)) hw
   have hdl2 := prodRow_len a (q.take k) acc
   have hkl : (q.take k).length ≤ k := by simp; omega
   generalize prodRow a acc (q.take k) = acc2 at *
   have al := ha.len
   have bl := hb.len
   have cO := l01Own_c a.2 (by omega)
   have wp := ha.prod hb
   simp [go_sem, mons_drop hif, hM]
   generalize hM2 : q[k]?.getD (0, []) = b at *
   refine ⟨⟨hif, by rintro rfl; simp at hif⟩, ?_⟩
   refine CallVC.of (cO) (by decide) ?_
   simp [go_sem]
   refine loop_inv (8 :: 9 :: List.range' 29 22) (fun j : Nat => [(8, .own 2 a.2.length (avs (adE a.2 b.2 j))), (9, .int j)]) (fun j => j ≤ a.2.length) (fun j => a.2.length - j) 0 (by simp) (by simp [go_sem, adE_zero]) (by simp [go_sem]) ?_
   intro j hj
   simp [go_sem]
   refine ⟨fun h => ?_, fun h => ?_⟩ <;> simp at h
   ·have hja := h
    have hjb : j < b.2.length := by omega
    have hjs : j < (adE a.2 b.2 j).length := by simpa using hja
    have g1 := ha.get hB j
    have g2 := hb.get hC j
    have hset := adE_set (b := b.2) hja
    have hget := adE_get (b := b.2) hja
    simp [go_sem, mons_drop hkf, hM2, avs_drop hjb, avs_at hjs, hget]
    refine ⟨by kernel_rfl, hja, ⟨hkf, by rintro rfl; simp at hkf⟩, ⟨hjb, by intro e; simp [e] at hjb⟩, ⟨by omega, by omega⟩, hja, ?_⟩
    refine ⟨by kernel_rfl, ?_⟩
    simp [go_sem]
    exact ⟨by omega, j + 1, by omega, by omega, Off_reset _ _ _ (by simp), by rw [avs_set, hset], by omega⟩
   ·have e : j = a.2.length := by omega
    subst e
    have hall := adE_all (a := a.2) (b := b.2) (by omega)
    have m1 := mul_fits ha.num hb.num
    have cP := l13Put_c acc2 (a.1 * b.1 % 10007) (addE a.2 b.2) (isN_mod _) (fun q hq => ⟨(hw2 q hq).num, by have := (hw2 q hq).len; omega⟩) (by omega) (by have := wp.len; simp at this; omega)
    have el : (addE a.2 b.2).length = a.2.length := by have := wp.len; simp at this; omega
    rw [el, ← hd2] at cP
    rw [hall]
    simp [go_sem, mons_drop hif, hM, mons_drop hkf, hM2]
    refine ⟨by kernel_rfl, ⟨hif, by rintro rfl; simp at hif⟩, ⟨hkf, by rintro rfl; simp at hkf⟩, ?_⟩
    refine CallD.of (l01Mul_c _ _ m1) (by simp [roots, rootsL]) (by decide) ?_
    simp [go_sem]
    refine CallD.of (cP) (by simp [roots, rootsL]) (by decide) ?_
    simp [go_sem]
    refine ⟨by kernel_rfl, ?_⟩
    simp [go_sem]
    exact ⟨by omega, k + 1, by omega, by omega, (Off.reset (by intro x hx; simp at hx ⊢; omega) (by simp) (by simp [go_sem, Off_reset])), ⟨rfl, rfl⟩, by omega⟩
  ·have e : k = q.length := by omega
   subst e
   rw [List.take_length, ← hd]
   simp [go_sem]
   exact ⟨by omega, i + 1, by omega, by omega, (Off.reset (by intro x hx; simp at hx ⊢; omega) (by simp) (by simp [go_sem, Off_reset])), ⟨rfl, rfl⟩, by omega⟩
 ·simp [go_sem]
  rw [List.take_of_length_le h]
  simp [prodL]
theorem l13Copy_c (p : List Mon) (hp : ∀ m ∈ p, m.2.length ≤ 1048576) (hl : p.length ≤ 1000000000000) :
  Con Tryz.prog 358 [.sl p.length (mons p)] (.own 62 p.length (omons p)) := by
 refine con_of_vc Tryz.mixed ⟨5, [], [], []⟩ Tryz.func358 (by decide) rfl (by simp) (by decide) (by simp [freshOK, freshL, go_sem]) ?_
 rw [Tryz.ntmps358]
 simp [go_sem]
 refine loop_inv (3 :: 4 :: List.range' 6 21) (fun i : Nat => [(3, .own 62 i (omons (p.take i))), (4, .int i)]) (fun i => i ≤ p.length) (fun i => p.length - i) 0 (by simp) (by simp [go_sem, omons]) (by simp [go_sem]) ?_
 intro i hi
 simp [go_sem]
 refine ⟨fun h => ?_, fun h => ?_⟩ <;> simp at h
 ·have hif := h
  have hx := hp _ (memD (0, []) hif)
  have ht : omons (p.take (i + 1)) = omons (p.take i) ++ [.int (p[i]?.getD (0, [])).1, .own 2 (p[i]?.getD (0, [])).2.length (avs (p[i]?.getD (0, [])).2)] := by
   rw [List.take_add_one, omons_app]; simp [hif, omons]
  simp [go_sem, mons_drop hif]
  generalize hM : p[i]?.getD (0, []) = a at *
  refine ⟨by kernel_rfl, ⟨hif, by rintro rfl; simp at hif⟩, ?_⟩
  refine CallD.of (l01Own_c a.2 (by omega)) (by simp [roots, rootsL]) (by decide) ?_
  simp [go_sem]
  refine ⟨⟨by omega, by omega⟩, ?_⟩
  refine ⟨by kernel_rfl, ?_⟩
  simp [go_sem]
  exact ⟨by omega, i + 1, by omega, by omega, Off_reset _ _ _ (by simp), by rw [ht]; exact ⟨rfl, rfl⟩, by omega⟩
 ·have e : i = p.length := by omega
  subst e
  simp [go_sem]
theorem plusL_wok {n : Nat} {B k : Int} : ∀ (q p : List Mon), (∀ m ∈ q, WOk n B m) → (∀ m ∈ p, WOk n B m) → ∀ m ∈ plusL p k q, WOk n B m
 | [], p, _, hp => hp
 | m :: q, p, hq, hp => plusL_wok q _ (fun a ha => hq a (by simp [ha])) (putGo_wok ⟨isN_mod _, (hq m (by simp)).len, (hq m (by simp)).pw⟩ p _ hp)
theorem plusL_len (k : Int) : ∀ (q p : List Mon), (plusL p k q).length ≤ p.length + q.length
 | [], _ => by simp [plusL]
 | m :: q, p => by
  rw [plusL]
  have h1 := plusL_len k q (putL p (k * m.1 % 10007) m.2)
  have h2 := putL_len p (k * m.1 % 10007) m.2
  simp only [List.length_cons]; omega
theorem l13Plus_c {n : Nat} {B k : Int} (p q : List Mon) (hn : n ≤ 1000) (hk : isN k) (hp : ∀ m ∈ p, WOk n B m) (hq : ∀ m ∈ q, WOk n B m) (hl : p.length + q.length ≤ 1000000000000) :
  Con Tryz.prog 309 [.sl p.length (mons p), .sl q.length (mons q), .int k] (.own 62 (plusL p k q).length (omons (plusL p k q))) := by
 refine con_of_vc Tryz.mixed ⟨9, [29], [], []⟩ Tryz.func309 (by decide) rfl (by simp) (by decide) (by simp [freshOK, freshL, go_sem]) ?_
 rw [Tryz.ntmps309]
 simp [go_sem]
 refine loop_inv (7 :: 8 :: List.range' 10 20) (fun i : Nat => [(7, .sl (plusL p k (q.take i)).length (mons (plusL p k (q.take i)))), (8, .int i)]) (fun i => i ≤ q.length) (fun i => q.length - i) 0 (by simp) (by simp [go_sem, plusL]) (by simp [go_sem]) ?_
 intro i hi
 simp [go_sem]
 refine ⟨fun h => ?_, fun h => ?_⟩ <;> simp at h
 ·have hif := h
  have hb := hq _ (memD (0, []) hif)
  have hd : plusL p k (q.take (i + 1)) = putL (plusL p k (q.take i)) (k * (q[i]?.getD (0, [])).1 % 10007) (q[i]?.getD (0, [])).2 := by
   rw [List.take_add_one, plusL_app]; simp [hif, plusL]
  have hw : ∀ m ∈ plusL p k (q.take i), WOk n B m := plusL_wok _ p (fun m hm => hq m (List.mem_of_mem_take hm)) hp
  have hll := plusL_len k (q.take i) p
  have hkl : (q.take i).length ≤ i := by simp; omega
  generalize plusL p k (q.take i) = acc at *
  have bl := hb.len
  have m1 := mul_fits hk hb.num
  have cP := l13Put_c acc (k * (q[i]?.getD (0, [])).1 % 10007) (q[i]?.getD (0, [])).2 (isN_mod _) (fun q hq => ⟨(hw q hq).num, by have := (hw q hq).len; omega⟩) (by omega) (by omega)
  rw [← hd] at cP
  generalize hN : plusL p k (q.take (i + 1)) = nxt at *
  simp [go_sem, mons_drop hif]
  generalize hM : q[i]?.getD (0, []) = a at *
  refine ⟨by kernel_rfl, ⟨hif, by rintro rfl; simp at hif⟩, ?_⟩
  refine CallD.of (l01Mul_c _ _ m1) (by simp [roots, rootsL]) (by decide) ?_
  simp [go_sem]
  simp [go_sem, mons_drop hif, mons_drop1 hif, hM]
  refine ⟨⟨hif, by rintro rfl; simp at hif⟩, ?_⟩
  refine CallD.of (cP) (by simp [go_sem, roots, rootsL]) (by decide) ?_
  simp [go_sem]
  refine ⟨by kernel_rfl, ?_⟩
  simp [go_sem]
  exact ⟨by omega, i + 1, by omega, by omega, Off_reset _ _ _ (by simp), by rw [hN]; exact ⟨rfl, rfl⟩, by omega⟩
 ·have e : i = q.length := by omega
  subst e
  have hw : ∀ m ∈ plusL p k q, WOk n B m := plusL_wok _ p hq hp
  have hll := plusL_len k q p
  simp [go_sem]
  refine CallVC.of (l13Copy_c (plusL p k q) (fun m hm => by have := (hw m hm).len; omega) (by omega)) (by decide) ?_
  simp [go_sem]
def oneE (n k : Nat) : List Int := (List.replicate n 0).set k 1
@[simp] theorem oneE_len (n k : Nat) : (oneE n k).length = n := by simp [oneE]
theorem oneE_wok {n k : Nat} : WOk n 1 (1, oneE n k) := by
 refine ⟨⟨by omega, by omega⟩, by simp, fun x hx => ?_⟩
 rcases List.mem_or_eq_of_mem_set hx with hx | rfl
 ·obtain ⟨_, rfl⟩ := List.mem_replicate.1 hx
  omega
 ·omega
theorem l13One_c (n k : Nat) (hn : n ≤ 1048576) (hk : k < n) : Con Tryz.prog 247 [.int n, .int k] (.own 2 n (avs (oneE n k))) := by
 refine con_of_vc Tryz.mixed ⟨6, [], [], []⟩ Tryz.func247 (by decide) rfl (by simp) (by decide) (by simp [freshOK, freshL, go_sem]) ?_
 rw [Tryz.ntmps247]
 simp [go_sem]
 refine ⟨⟨by omega, by omega⟩, hk, ?_⟩
 rw [avs_repl, avs_set]; rfl
theorem derL_wok {n i : Nat} {B : Int} (hi : i < n) {p : List Mon} (hp : ∀ m ∈ p, WOk n B m) : ∀ m ∈ derL i p, WOk n B m := derGo_wok hi p [] hp (by simp)
theorem derL_len (i : Nat) (p : List Mon) : (derL i p).length ≤ p.length := by have := derGo_len i p []; unfold derL; simpa using this
theorem prodL_wok {n : Nat} {B C : Int} {p q : List Mon} (hp : ∀ m ∈ p, WOk n B m) (hq : ∀ m ∈ q, WOk n C m) : ∀ m ∈ prodL p q, WOk n (B + C) m := prodGo_wok hq p [] hp (by simp)
theorem prodL_len (p q : List Mon) : (prodL p q).length ≤ p.length * q.length := by have := prodGo_len q p []; unfold prodL; simpa using this
theorem alongGo_wok {n : Nat} {B : Int} {p : List Mon} (hp : ∀ m ∈ p, WOk n B m) : ∀ (f : List (List Mon)) (k : Nat) (acc : List Mon), k + f.length ≤ n → (∀ F ∈ f, ∀ m ∈ F, WOk n 3 m) → (∀ m ∈ acc, WOk n (3 + B) m) → ∀ m ∈ alongGo acc p k f, WOk n (3 + B) m
 | [], _, _, _, _, h => h
 | F :: f, k, acc, hk, hf, h => by
  rw [List.length_cons] at hk
  exact alongGo_wok hp f (k + 1) _ (by omega) (fun G hG => hf G (by simp [hG])) (plusL_wok _ _ (prodL_wok (hf F (by simp)) (derL_wok (by omega) hp)) h)
theorem alongGo_len {N : Nat} {p : List Mon} : ∀ (f : List (List Mon)) (k : Nat) (acc : List Mon), (∀ F ∈ f, F.length ≤ N) → (alongGo acc p k f).length ≤ acc.length + f.length * (N * p.length)
 | [], _, acc, _ => by simp [alongGo]
 | F :: f, k, acc, hf => by
  have h1 := alongGo_len (p := p) f (k + 1) (plusL acc 1 (prodL F (derL k p))) (fun G hG => hf G (by simp [hG]))
  have h2 := plusL_len 1 (prodL F (derL k p)) acc
  have h3 := prodL_len F (derL k p)
  have h4 := Nat.mul_le_mul (hf F (by simp)) (derL_len k p)
  rw [alongGo]
  simp only [List.length_cons, Nat.add_mul, Nat.one_mul]; omega
theorem l13Along2_c {z B : Int} (f : List (List Mon)) (p : List Mon) (hf : FieldOk z f) (hs : Small f) (h20 : ∀ F ∈ f, F.length ≤ 20) (hB : 0 ≤ B) (hB2 : B ≤ 1000) (hp : ∀ m ∈ p, WOk f.length B m) (hpl : p.length ≤ 10000000000) :
  Con Tryz.prog 249 [.agg [.int z, .sl f.length (prt f)], .sl p.length (mons p)] (.own 62 (alongL f p).length (omons (alongL f p))) := by
 have z3 := hf.hi
 have zl := hf.len
 have fl : f.length ≤ 3 := by omega
 have hfw : ∀ F ∈ f, ∀ m ∈ F, WOk f.length 3 m := fun F hF m hm => by
  have h := partB_mem (hf.part F hF) hm
  have h1 := h.lo
  have h2 := h.hi
  have h3 := h.len
  exact ⟨⟨by omega, by omega⟩, by omega, h.pw⟩
 refine con_of_vc Tryz.mixed ⟨7, [], [], []⟩ Tryz.func249 (by decide) rfl (by simp) (by decide) (by simp [freshOK, freshL, go_sem]) ?_
 rw [Tryz.ntmps249]
 simp [go_sem]
 refine loop_inv (5 :: 6 :: List.range' 8 18) (fun i : Nat => [(5, .own 62 (alongGo [] p 0 (f.take i)).length (omons (alongGo [] p 0 (f.take i)))), (6, .int i)]) (fun i => i ≤ f.length) (fun i => f.length - i) 0 (by simp) (by simp [go_sem, alongGo, omons]) (by simp [go_sem]) ?_
 intro i hi
 simp [go_sem]
 refine ⟨fun h => ?_, fun h => ?_⟩ <;> simp at h
 ·have hif := h
  have hx := memD [] hif
  have hF := hfw _ hx
  have hF2 := h20 _ hx
  have hd : alongGo [] p 0 (f.take (i + 1)) = plusL (alongGo [] p 0 (f.take i)) 1 (prodL (f[i]?.getD []) (derL i p)) := by
   rw [List.take_add_one, alongGo_app]; simp [hif, alongGo, Nat.min_eq_left hi]
  have hw : ∀ m ∈ alongGo [] p 0 (f.take i), WOk f.length (3 + B) m := alongGo_wok hp _ 0 [] (by simp; omega) (fun F hF => hfw F (List.mem_of_mem_take hF)) (by simp)
  have hll := alongGo_len (p := p) (N := 20) (f.take i) 0 [] (fun F hF => h20 F (List.mem_of_mem_take hF))
  have hkl : (f.take i).length ≤ 3 := by simp; omega
  have hk2 := Nat.mul_le_mul_right (20 * p.length) hkl
  simp only [List.length_nil, Nat.zero_add] at hll
  generalize alongGo [] p 0 (f.take i) = acc at *
  generalize hN : alongGo [] p 0 (f.take (i + 1)) = nxt at *
  have cD := l13Derive_c p i hif (by omega) hB (by omega) hp (by omega)
  have dw := derL_wok hif hp
  have dl := derL_len i p
  have pl := prodL_len (f[i]?.getD []) (derL i p)
  have pm := Nat.mul_le_mul hF2 dl
  have cP := l13Product_c (f[i]?.getD []) (derL i p) (by omega) (by omega) (by omega) hB (by omega) hF dw (by omega) (by omega) (by omega)
  have cA := l13Plus_c (k := 1) acc (prodL (f[i]?.getD []) (derL i p)) (by omega) ⟨by omega, by omega⟩ hw (prodL_wok hF dw) (by omega)
  rw [← hd] at cA
  generalize prodL (f[i]?.getD []) (derL i p) = Q at *
  generalize derL i p = D at *
  simp [go_sem, prt_drop hif]
  refine ⟨by kernel_rfl, ⟨hif, by rintro rfl; simp at hif⟩, ?_⟩
  refine CallD.of (cD) (by simp [roots, rootsL]) (by decide) ?_
  simp [go_sem]
  refine CallD.of (cP) (by simp [roots, rootsL]) (by decide) ?_
  simp [go_sem]
  refine CallD.of (cA) (by simp [roots, rootsL]) (by decide) ?_
  simp [go_sem]
  refine ⟨by kernel_rfl, ?_⟩
  simp [go_sem]
  exact ⟨by omega, i + 1, by omega, by omega, Off_reset _ _ _ (by simp), by rw [hN]; exact ⟨rfl, rfl⟩, by omega⟩
 ·have e : i = f.length := by omega
  subst e
  simp [go_sem]
  simp [alongL]
def keys20 : List Key := [(0,0,0),(0,0,1),(0,0,2),(0,0,3),(0,1,0),(0,1,1),(0,1,2),(0,2,0),(0,2,1),(0,3,0),(1,0,0),(1,0,1),(1,0,2),(1,1,0),(1,1,1),(1,2,0),(2,0,0),(2,0,1),(2,1,0),(3,0,0)]
theorem pigeon {α : Type} [DecidableEq α] : ∀ (l E : List α), l.Pairwise (fun a b => a ≠ b) → (∀ x ∈ l, x ∈ E) → l.length ≤ E.length
 | [], _, _, _ => by simp
 | a :: l, E, hn, hs => by
  obtain ⟨h1, h2⟩ := List.pairwise_cons.1 hn
  have ha := hs a (by simp)
  have := pigeon l (E.erase a) h2 (fun x hx => (List.mem_erase_of_ne (Ne.symm (h1 x hx))).2 (hs x (by simp [hx])))
  rw [List.length_erase_of_mem ha] at this
  have hp := List.length_pos_of_mem ha
  simp only [List.length_cons]; omega
theorem in20 {a b c : Int} (ha : 0 ≤ a) (hb : 0 ≤ b) (hc : 0 ≤ c) (h : a + b + c ≤ 3) : ((a, b, c) : Key) ∈ keys20 := by
 have h1 : a = 0 ∨ a = 1 ∨ a = 2 ∨ a = 3 := by omega
 have h2 : b = 0 ∨ b = 1 ∨ b = 2 ∨ b = 3 := by omega
 have h3 : c = 0 ∨ c = 1 ∨ c = 2 ∨ c = 3 := by omega
 rcases h1 with rfl | rfl | rfl | rfl <;> rcases h2 with rfl | rfl | rfl | rfl <;> rcases h3 with rfl | rfl | rfl | rfl <;> first | (exfalso; omega) | decide
theorem part20 {z : Int} {p : List Mon} (hz : z ≤ 3) (h : partB z p = true) : p.length ≤ 20 := by
 have hn := keys_nd hz h
 have := pigeon (p.map fun m => keyOf m.2) keys20 (List.pairwise_map.2 hn) (fun k hk => by
  obtain ⟨m, hm, rfl⟩ := List.mem_map.1 hk
  have ho := partB_mem h hm
  have hl := ho.len
  have hp := ho.pw
  have hd := ho.deg
  obtain ⟨x, e⟩ := m
  simp only at hl hp hd ⊢
  match e, hl, hp, hd with
  | [], _, _, _ => exact in20 (by decide) (by decide) (by decide) (by decide)
  | [a], _, hp, hd => have := hp a (by simp); simp at hd; exact in20 (by simpa [keyOf] using this.1) (by simp) (by simp) (by simp [keyOf]; omega)
  | [a, b], _, hp, hd => have h1 := hp a (by simp); have h2 := hp b (by simp); simp at hd; exact in20 (by simpa [keyOf] using h1.1) (by simpa [keyOf] using h2.1) (by simp) (by simp [keyOf]; omega)
  | [a, b, c], _, hp, hd => have h1 := hp a (by simp); have h2 := hp b (by simp); have h3 := hp c (by simp); simp at hd; exact in20 (by simpa [keyOf] using h1.1) (by simpa [keyOf] using h2.1) (by simpa [keyOf] using h3.1) (by simp [keyOf]; omega)
  | _ :: _ :: _ :: _ :: _, hl, _, _ => simp at hl; omega)
 simpa [keys20] using this
end Go.Proofs.YtiikdbomhkbdlaaGreat


namespace Go.Proofs.YtiikdbomhkbdlaaGreat
open Go.Abs
end Go.Proofs.YtiikdbomhkbdlaaGreat


namespace Go.Proofs.YtiikdbomhkbdlaaGreat
open Go.Abs
def plusS (a b : List Int) (k : Int) : List Int := tb (fun i => (a[i]?.getD 0 + k % 10007 * b[i]?.getD 0) % 10007) a.length
@[simp] theorem plusS_len (a b : List Int) (k : Int) : (plusS a b k).length = a.length := by simp [plusS]
theorem plusS_N (a b : List Int) (k : Int) : Ns (plusS a b k) := tb_N fun i _ => isN_mod _
def scalS (a : List Int) (k : Int) : List Int := tb (fun i => a[i]?.getD 0 * (k % 10007) % 10007) a.length
@[simp] theorem scalS_len (a : List Int) (k : Int) : (scalS a k).length = a.length := by simp [scalS]
theorem scalS_N (a : List Int) (k : Int) : Ns (scalS a k) := tb_N fun i _ => isN_mod _
theorem plus_c (a b : List Int) (k : Int) (ha : Ns a) (hb : Ns b) (hk : fits k) (hl : a.length ≤ 1048576) (hab : a.length ≤ b.length) :
  Con Tryz.prog 111 [.sl a.length (avs a), .sl b.length (avs b), .int k] (.own 2 a.length (avs (plusS a b k))) := by
 refine con_of_vc Tryz.mixed ⟨10, [], [], []⟩ Tryz.func111 (by decide) rfl (by simp) (by decide) (by simp [freshOK, freshL, go_sem]) ?_
 rw [Tryz.ntmps111]
 simp [go_sem]
 refine loop_inv (7 :: 8 :: 9 :: List.range' 13 19) (fun i : Nat => [(7, .own 2 i (avs (tb (fun i => (a[i]?.getD 0 + k % 10007 * b[i]?.getD 0) % 10007) i))), (13, .int i)]) (fun i => i ≤ a.length) (fun i => a.length - i) 0 (by simp) (by simp [go_sem]) (by simp [go_sem]) ?_
 intro i hi
 simp [go_sem]
 refine ⟨fun h => ?_, fun h => ?_⟩ <;> simp at h
 ·have h2 : i < b.length := by omega
  have m1 := mul_bound (isN_mod k) (hb.get i)
  have m2 := ha.get i
  have f1 : fits (k % 10007 * b[i]?.getD 0) := ⟨by omega, by omega⟩
  have f2 : fits (a[i]?.getD 0 + k % 10007 * b[i]?.getD 0) := by obtain ⟨x0, x1⟩ := m2; exact ⟨by omega, by omega⟩
  simp [go_sem, avs_drop h, avs_drop h2]
  refine ⟨⟨h, by rintro rfl; simp at h⟩, by kernel_rfl, ?_⟩
  refine CallD.of (num_c _ hk.1 hk.2) (by simp [roots, rootsL]) (by decide) ?_
  simp [go_sem]
  simp [go_sem, avs_drop h, avs_drop h2]
  refine ⟨⟨h2, by rintro rfl; simp at h2⟩, f1, f2, ?_⟩
  refine CallD.of (num_c _ f2.1 f2.2) (by simp [roots, rootsL]) (by decide) ?_
  simp [go_sem]
  refine ⟨by omega, ?_⟩
  refine ⟨by kernel_rfl, ?_⟩
  simp [go_sem]
  exact ⟨by omega, i + 1, by omega, by omega, Off_reset _ _ _ (by simp), by simp [tb_succ, avs_snoc], by omega⟩
 ·have e : i = a.length := by omega
  subst e
  simp [go_sem]
  rfl
theorem scaled_c (a : List Int) (k : Int) (ha : Ns a) (hk : fits k) (hl : a.length ≤ 1048576) :
  Con Tryz.prog 106 [.sl a.length (avs a), .int k] (.own 2 a.length (avs (scalS a k))) := by
 refine con_of_vc Tryz.mixed ⟨8, [], [], []⟩ Tryz.func106 (by decide) rfl (by simp) (by decide) (by simp [freshOK, freshL, go_sem]) ?_
 rw [Tryz.ntmps106]
 simp [go_sem]
 refine loop_inv (5 :: 7 :: List.range' 11 13) (fun i : Nat => [(5, .own 2 i (avs (tb (fun i => a[i]?.getD 0 * (k % 10007) % 10007) i))), (11, .int i)]) (fun i => i ≤ a.length) (fun i => a.length - i) 0 (by simp) (by simp [go_sem]) (by simp [go_sem]) ?_
 intro i hi
 simp [go_sem]
 refine ⟨fun h => ?_, fun h => ?_⟩ <;> simp at h
 ·have f1 := mul_fits (ha.get i) (isN_mod k)
  simp [go_sem, avs_drop h]
  refine ⟨⟨h, by rintro rfl; simp at h⟩, ?_⟩
  refine CallVC.of (num_c _ hk.1 hk.2) (by decide) ?_
  simp [go_sem]
  refine ⟨f1, ?_⟩
  refine CallVC.of (num_c _ f1.1 f1.2) (by decide) ?_
  simp [go_sem]
  exact ⟨by omega, by omega, i + 1, by omega, by omega, Off_reset _ _ _ (by simp), by simp [tb_succ, avs_snoc], by omega⟩
 ·have e : i = a.length := by omega
  subst e
  simp [go_sem]
  rfl
theorem Clone_c (xs : List Int) (hl : xs.length ≤ 1048576) : Con Tryz.prog 253 [.sl xs.length (avs xs)] (.own 2 xs.length (avs xs)) := by
 refine con_of_vcN Tryz.mixed ⟨3, [], [], []⟩ Tryz.func253 (by decide) rfl (by simp) (by decide) (by simp [freshOK, freshL, go_sem]) ?_
 rw [Tryz.ntmps253]
 simp [go_sem]
 exact ⟨by omega, by omega⟩
end Go.Proofs.YtiikdbomhkbdlaaGreat


namespace Go.Proofs.YtiikdbomhkbdlaaGreat
open Go.Abs
@[go_sem] theorem klW_bor (W : List Nat) (s : Nat) (p : List Nat) : kl W (.bor s p) = if W.contains s then .any else .bor s p := by rw [kl]
@[go_sem] theorem klW_ptr (W : List Nat) (s : Nat) (p : List Nat) (o : Nat) : kl W (.ptr s p o) = if W.contains s then .any else .ptr s p o := by rw [kl]
theorem omat_get {A : List (List Int)} {k : Nat} (h : k < A.length) : (omat A)[k]? = some (.own 2 (A[k]?.getD []).length (avs (A[k]?.getD []))) := by simp [omat, h]
end Go.Proofs.YtiikdbomhkbdlaaGreat


namespace Go.Proofs.YtiikdbomhkbdlaaGreat
open Go.Abs
end Go.Proofs.YtiikdbomhkbdlaaGreat


namespace Go.Proofs.YtiikdbomhkbdlaaGreat
open Go.Abs
end Go.Proofs.YtiikdbomhkbdlaaGreat


namespace Go.Proofs.YtiikdbomhkbdlaaGreat
open Go.Abs
end Go.Proofs.YtiikdbomhkbdlaaGreat


namespace Go.Proofs.YtiikdbomhkbdlaaGreat
open Go.Abs
def MapN (c : Key → Option Int) : Prop := ∀ k x, c k = some x → isN x
theorem add_c (o q : Key → Option Int) (x : Int) (ho : MapN o) (hq : MapN q) (hx : fits x) :
  MCon Tryz.prog 340 [.mp o, .fmp q, .int x] (.tup []) [.mp (addM o q x), .any, .any] := by
 refine mcon_of_vc Tryz.mixed ⟨8, [], [], []⟩ [] [0] Tryz.func340 (by decide) rfl rfl (by simp) (by simp) (by simp) (by decide) ?_
 rw [Tryz.ntmps340]
 simp [go_sem]
 intro es hes
 have hval : ∀ e ∈ es, q e.1 = some e.2 := fun e he => hes.val e he
 refine loop_inv (0 :: 6 :: 7 :: List.range' 9 17) (fun y : Option (Key × Int) × List (Key × Int) => [(0, .mp (remA o q x y.2)), (9, .it y.1 y.2)]) (fun y => y.2.Pairwise (fun a b => a.1 ≠ b.1) ∧ ∀ e ∈ y.2, q e.1 = some e.2) (fun y => y.2.length) (none, es) ⟨hes.nd, hval⟩ (by simp [go_sem, remA_start hes]) (by simp [go_sem]) ?_
 rintro ⟨l, rem⟩ ⟨hnd, hrem⟩
 simp only at hnd hrem
 simp [go_sem, keyAV]
 refine ⟨fun hr => ?_, fun l1 k0 k1 k2 b l2 hr => ?_⟩
 ·subst hr
  exact remA_end o q x
 ·subst hr
  have hcx := hrem ((k0, k1, k2), b) (by simp)
  have hb : isN b := hq _ _ hcx
  have hnd2 : (l1 ++ l2).Pairwise (fun a b => a.1 ≠ b.1) := hnd.sublist (List.Sublist.append (List.Sublist.refl _) (List.sublist_cons_self _ _))
  have hrem2 : ∀ a b c' y, ((a, b, c'), y) ∈ l1 ++ l2 → q (a, b, c') = some y := fun a b c' y hm => hrem ((a, b, c'), y) (by
   rcases List.mem_append.1 hm with hm | hm <;> simp [hm])
  have hz : remA o q x (l1 ++ ((k0, k1, k2), b) :: l2) (k0, k1, k2) = o (k0, k1, k2) := remA_at
  have hs : mset (remA o q x (l1 ++ ((k0, k1, k2), b) :: l2)) (k0, k1, k2) (((o (k0, k1, k2)).getD 0 + x % 10007 * b) % 10007) = remA o q x (l1 ++ l2) := remA_step hnd hcx
  have ho0 : isN ((o (k0, k1, k2)).getD 0) := by
   cases hh : o (k0, k1, k2) with
   | none => simp [isN]
   | some v => exact ho _ _ hh
  simp [go_sem, hz]
  refine ⟨by kernel_rfl, ?_⟩
  refine CallD.of (num_c _ hx.1 hx.2) (by simp [roots, rootsL]) (by decide) ?_
  simp [go_sem]
  generalize (o (k0, k1, k2)).getD 0 = w at *
  have hm := mul_bound (isN_mod x) hb
  have hf1 : fits (x % 10007 * b) := ⟨by omega, by omega⟩
  have hf2 : fits (w + x % 10007 * b) := by obtain ⟨w0, w1⟩ := ho0; exact ⟨by omega, by omega⟩
  refine ⟨hf1, hf2, ?_⟩
  refine CallD.of (num_c _ hf2.1 hf2.2) (by simp [roots, rootsL]) (by decide) ?_
  simp [go_sem]
  refine ⟨by kernel_rfl, ?_⟩
  simp [go_sem]
  exact ⟨_, _, ⟨hnd2, hrem2⟩, by simp; try omega, Off_reset _ _ _ (by simp), hs, rfl, rfl⟩
theorem derM_N {i : Nat} {c : Key → Option Int} : MapN (derM i c) := by
 intro k x hx
 unfold derM at hx
 split at hx
 ·split at hx
  ·injection hx with hx; rw [← hx]; exact isN_mod _
  ·simp at hx
 ·simp at hx
theorem addM_N {o q : Key → Option Int} {x : Int} (ho : MapN o) : MapN (addM o q x) := by
 intro k a ha
 unfold addM at ha
 split at ha
 ·injection ha with ha; rw [← ha]; exact isN_mod _
 ·exact ho k a ha
theorem aloM_N (v : List Int) (c : Key → Option Int) : ∀ n, MapN (aloM v c n)
 | 0 => by intro k a ha; simp [aloM, mzero] at ha
 | n + 1 => addM_N (aloM_N v c n)
theorem addM_kok {n : Nat} {o q : Key → Option Int} {x : Int} (ho : ∀ k a, o k = some a → isN a ∧ KOk n k) (hq : ∀ k a, q k = some a → isN a ∧ KOk n k) : ∀ k a, addM o q x k = some a → isN a ∧ KOk n k := by
 intro k a ha
 unfold addM at ha
 split at ha
 ·rename_i b hb
  injection ha with ha; rw [← ha]; exact ⟨isN_mod _, (hq k b hb).2⟩
 ·exact ho k a ha
theorem aloM_kok {n : Nat} {v : List Int} {c : Key → Option Int} (hn : n ≤ 3) (hc : ∀ k x, c k = some x → isN x ∧ KOk n k) : ∀ m, m ≤ n → ∀ k x, aloM v c m k = some x → isN x ∧ KOk n k
 | 0, _ => by intro k x hx; simp [aloM, mzero] at hx
 | m + 1, hm => addM_kok (aloM_kok hn hc m (by omega)) (derM_ok (by omega) hn hc)
theorem along_c {n : Nat} (c : Key → Option Int) (v : List Int) (hv : Ns v) (hl : v.length = n) (hn : n ≤ 3) (hc : ∀ k x, c k = some x → isN x ∧ KOk n k) :
  Con Tryz.prog 291 [.fmp c, .sl v.length (avs v)] (.mp (aloM v c n)) := by
 refine con_of_vc Tryz.mixed ⟨8, [19], [340], []⟩ Tryz.func291 (by decide) rfl (by simp) (by decide) (by simp [freshOK, freshL, go_sem]) ?_
 rw [Tryz.ntmps291]
 simp [go_sem]
 refine loop_inv (5 :: 6 :: 7 :: List.range' 11 12) (fun i : Nat => [(5, .mp (aloM v c i)), (11, .int i)]) (fun i => i ≤ n) (fun i => n - i) 0 (by simp) (by simp [go_sem, aloM]) (by simp [go_sem]) ?_
 intro i hi
 simp [go_sem]
 refine ⟨fun h => ?_, fun h => ?_⟩ <;> simp at h
 ·have hy : yat v i = v[i]?.getD 0 := rfl
  have cD := derivative_c (n := n) c i (by omega) hn hc
  have cA := add_c (aloM v c i) (derM i c) (v[i]?.getD 0) (aloM_N v c i) derM_N (by have := hv.get i; exact ⟨by obtain ⟨a, b⟩ := this; omega, by obtain ⟨a, b⟩ := this; omega⟩)
  simp [go_sem, avs_drop h]
  refine ⟨⟨h, by rintro rfl; simp at h⟩, ?_⟩
  refine CallVC.of (cD) (by decide) ?_
  simp [go_sem]
  refine ⟨_, _, cA, ?_⟩
  simp [go_sem]
  exact ⟨by omega, i + 1, by omega, by omega, Off_reset _ _ _ (by simp), rfl, by omega⟩
 ·simp [go_sem]
  have e : i = n := by omega
  subst e; rfl
end Go.Proofs.YtiikdbomhkbdlaaGreat


namespace Go.Proofs.YtiikdbomhkbdlaaGreat
open Go.Abs
def sum3 (k : Key) : Int := k.1 + k.2.1 + k.2.2
def DegLe (C : Key → Int) (D : Int) : Prop := ∀ k, NN k → D < sum3 k → C k = 0
theorem sum3_inc (i : Nat) (k : Key) : sum3 (inc i k) = sum3 k + 1 := by
 obtain ⟨a, b, c⟩ := k
 unfold inc sum3
 split
 ·simp; omega
 ·split <;> (simp; omega)
theorem DegLe.der {C : Key → Int} {D : Int} (h : DegLe C D) (i : Nat) : DegLe (der i C) (D - 1) := by
 intro k hk hd
 unfold Go.Proofs.YtiikdbomhkbdlaaGreat.der
 rw [h (inc i k) (hk.inc i) (by rw [sum3_inc]; omega), Int.mul_zero]
theorem DegLe.alo {C : Key → Int} {D : Int} (h : DegLe C D) (v : Nat → Int) : ∀ n, DegLe (alo v C n) (D - 1)
 | 0 => fun _ _ _ => rfl
 | n + 1 => fun k hk hd => by
  show Go.Proofs.YtiikdbomhkbdlaaGreat.alo v C n k + v n * Go.Proofs.YtiikdbomhkbdlaaGreat.der n C k = 0
  rw [DegLe.alo h v n k hk hd, h.der n k hk hd]; simp
theorem DegLe.dv {n : Nat} : ∀ (vs : List (List Int)) {C : Key → Int} {D : Int}, DegLe C D → DegLe (Dv n vs C) (D - vs.length)
 | [], C, D, h => by simpa [Dv] using h
 | v :: vs, C, D, h => by
  have := DegLe.dv (n := n) vs (h.alo (yat v) n)
  rw [Dv]
  intro k hk hd
  exact this k hk (by simp at hd; omega)
theorem sum3_key {e : List Int} (h : e.length ≤ 3) : sum3 (keyOf e) = e.sum := by
 match e, h with
 | [], _ => rfl
 | [a], _ => simp [sum3, keyOf]
 | [a, b], _ => simp [sum3, keyOf]
 | [a, b, c], _ => simp [sum3, keyOf]; omega
theorem part_deg {n : Nat} {p : List Mon} (hn : n ≤ 3) (hp : partB (n : Int) p = true) : DegLe (cfL p) 3 := by
 intro k hk hd
 unfold cfL coef
 refine sumI_zero (fun m hm => if_neg (fun e => ?_))
 have ho := partB_mem hp hm
 have := ho.deg
 rw [e, sum3_key (by have := ho.len; omega)] at hd
 omega
theorem along_zero {n : Nat} {p : List Mon} {y : List Int} (hn : n ≤ 3) (hp : partB (n : Int) p = true) (vs : List (List Int)) (hv : 3 < vs.length) :
  Val (yat y) (gv (DvM n vs (polF p))) % 10007 = 0 := by
 rw [Val_eqv _ (DvM_gv n vs (polF p))]
 have e : gv (polF p) = cfL p := funext (polF_gv (keys_nd (by omega) hp))
 rw [e]
 have hd := (part_deg hn hp).dv (n := n) vs
 have : Val (yat y) (Dv n vs (cfL p)) = 0 := by
  unfold Val
  refine sumI_zero (fun k hk => ?_)
  have hN := NN.box hk
  obtain ⟨a, b, c⟩ := hN
  rw [hd k (NN.box hk) (by unfold sum3; omega), Int.zero_mul]
 rw [this]; rfl
theorem DvM_snoc (n : Nat) (v : List Int) : ∀ (vs : List (List Int)) (c : Key → Option Int), DvM n (vs ++ [v]) c = aloM v (DvM n vs c) n
 | [], c => rfl
 | u :: vs, c => by rw [List.cons_append, DvM, DvM_snoc n v vs, DvM]
theorem DvM_take {n : Nat} {vs : List (List Int)} {i : Nat} (h : i < vs.length) (c : Key → Option Int) : DvM n (vs.take (i + 1)) c = aloM (vs[i]?.getD []) (DvM n (vs.take i) c) n := by
 rw [List.take_add_one, List.getElem?_eq_getElem h, Option.toList_some, DvM_snoc]; rfl
theorem DvM_kok {n : Nat} (hn : n ≤ 3) : ∀ (vs : List (List Int)) {c : Key → Option Int}, (∀ k x, c k = some x → isN x ∧ KOk n k) → ∀ k x, DvM n vs c k = some x → isN x ∧ KOk n k
 | [], c, h => h
 | v :: vs, c, h => DvM_kok hn vs (aloM_kok hn h n (Nat.le_refl n))
def drvP (y : List Int) (n : Nat) (vs : List (List Int)) (p : List Mon) : Int := if 3 < vs.length then 0 else alongS y n vs p % 10007
def drvL (y : List Int) (n : Nat) (vs : List (List Int)) (f : List (List Mon)) : List Int := f.map (drvP y n vs)
@[simp] theorem drvL_len (y : List Int) (n : Nat) (vs : List (List Int)) (f : List (List Mon)) : (drvL y n vs f).length = f.length := by simp [drvL]
theorem drvL_take {y : List Int} {n : Nat} {vs : List (List Int)} {f : List (List Mon)} {i : Nat} (h : i < f.length) : drvL y n vs (f.take (i + 1)) = drvL y n vs (f.take i) ++ [drvP y n vs (f[i]?.getD [])] := by
 rw [drvL, drvL, List.take_add_one, List.map_append, List.getElem?_eq_getElem h]; rfl
theorem drvP_eq {n : Nat} {p : List Mon} {y : List Int} (hn : n ≤ 3) (hl : y.length = n) (hp : partB (n : Int) p = true) (vs : List (List Int)) :
  Val (yat y) (gv (DvM n vs (polF p))) % 10007 = drvP y n vs p := by
 unfold drvP
 by_cases h : 3 < vs.length
 ·rw [if_pos h, along_zero hn hp vs h]
 ·rw [if_neg h, along_eq hn hl hp vs]
@[simp] theorem mat_frz (A : List (List Int)) : frzL (mat A) = mat A := by
 induction A with
 | nil => rfl
 | cons r A ih => simp only [mat, List.map_cons, frzL] at ih ⊢; rw [ih]; rfl
def Vecs (n : Nat) (vs : List (List Int)) : Prop := ∀ v ∈ vs, v.length = n ∧ Ns v
theorem derivativeAt_c (z : Int) (f : List (List Mon)) (y : List Int) (vs : List (List Int)) (hf : FieldOk z f) (hs : Small f) (hy : Ns y) (hl : (y.length : Int) = z) (hv : Vecs y.length vs) (hvl : vs.length ≤ 1048576) :
  Con Tryz.prog 214 [.sl f.length (fpols f), .sl y.length (avs y), .sl vs.length (mat vs)] (.own 2 f.length (avs (drvL y y.length vs f))) := by
 have fl := hs.1
 have z3 := hf.hi
 refine con_of_vc Tryz.mixed ⟨12, [27], [], []⟩ Tryz.func214 (by decide) rfl (by simp) (by decide) (by simp [freshOK, freshL, go_sem]) ?_
 rw [Tryz.ntmps214]
 simp [go_sem]
 refine loop_inv (7 :: 9 :: 11 :: List.range' 15 21) (fun i : Nat => [(7, .own 2 i (avs (drvL y y.length vs (f.take i)))), (15, .int i)]) (fun i => i ≤ f.length) (fun i => f.length - i) 0 (by simp) (by simp [go_sem, drvL]) (by simp [go_sem]) ?_
 intro i hi
 simp [go_sem]
 refine ⟨fun h => ?_, fun h => ?_⟩ <;> simp at h
 ·have hif := h
  have hx : f[i]?.getD [] ∈ f := by simp [h]
  have hdl := drvL_take (y := y) (n := y.length) (vs := vs) h
  have hpp : partB (y.length : Int) (f[i]?.getD []) = true := by rw [hl]; exact hf.part _ hx
  have hq : ∀ kk x, polF (f[i]?.getD []) kk = some x → isN x ∧ KOk y.length kk := fun kk x hkx => polF_kok (by omega) hpp hkx
  simp [go_sem, fpols_drop hif]
  refine ⟨⟨hif, by rintro rfl; simp at hif⟩, ?_⟩
  refine loop_inv (9 :: 11 :: List.range' 21 8) (fun j : Nat => [(9, .fmp (DvM y.length (vs.take j) (polF (f[i]?.getD [])))), (21, .int j)]) (fun j => j ≤ vs.length) (fun j => vs.length - j) 0 (by simp) (by simp [go_sem, DvM]) (by simp [go_sem]) ?_
  intro j hj
  simp [go_sem]
  refine ⟨fun h => ?_, fun h => ?_⟩ <;> simp at h
  ·have hvm : vs[j]?.getD [] ∈ vs := by simp [h]
   have hvj := hv _ hvm
   have cA := along_c (n := y.length) (DvM y.length (vs.take j) (polF (f[i]?.getD []))) (vs[j]?.getD []) hvj.2 hvj.1 (by omega) (DvM_kok (by omega) _ hq)
   have ht := DvM_take (n := y.length) h (polF (f[i]?.getD []))
   simp [go_sem, mat_drop h]
   refine ⟨⟨h, by rintro rfl; simp at h⟩, ?_⟩
   refine CallVC.of (cA) (by decide) ?_
   simp [go_sem]
   exact ⟨by omega, j + 1, by omega, by omega, Off_reset _ _ _ (by simp), ht.symm, by omega⟩
  ·have e : j = vs.length := by omega
   subst e
   have cV := value_c2 (DvM y.length vs (polF (f[i]?.getD []))) y hy (by omega) (DvM_kok (by omega) _ hq)
   rw [drvP_eq (by omega) rfl hpp] at cV
   rw [List.take_length]
   simp [go_sem]
   refine CallVC.of (cV) (by decide) ?_
   simp [go_sem]
   exact ⟨by omega, by omega, i + 1, by omega, by omega, (Off.reset (by intro x hx; simp at hx ⊢; omega) (by simp) (by simp [go_sem, Off_reset])), by rw [hdl]; simp [avs_snoc], by omega⟩
 ·simp [go_sem]
  have e : i = f.length := by omega
  subst e; simp
theorem vecB_iff {z : Int} {y : List Int} : vecB z y = true ↔ (y.length : Int) = z ∧ Ns y := by
 unfold vecB; simp [numsB_N]
end Go.Proofs.YtiikdbomhkbdlaaGreat


namespace Go.Proofs.YtiikdbomhkbdlaaGreat
open Go.Abs
end Go.Proofs.YtiikdbomhkbdlaaGreat


namespace Go.Proofs.YtiikdbomhkbdlaaGreat
def okB (t : List Int) (j : Nat) : Bool := decide (1 ≤ t[j]?.getD 0) && decide (t[j]?.getD 0 ≤ t[j - 1]?.getD 0 + 1)
def lv0 (t : List Int) : Bool := decide (0 < t.length) && decide (t[0]?.getD 0 = 0) && (List.range t.length).all (fun j => decide (j = 0) || okB t j)
def lvB (t : List Int) : Bool := lv0 t && decide (t.length ≤ 8)
theorem lv0_no {t : List Int} {j : Nat} (hj : j < t.length) (h0 : 0 < j) (h : okB t j = false) : lv0 t = false := by
 unfold lv0
 have : (List.range t.length).all (fun j => decide (j = 0) || okB t j) = false := by
  rw [List.all_eq_false]; exact ⟨j, by simpa using hj, by simp [h]; omega⟩
 rw [this]; simp
theorem lv0_t0 {t : List Int} (h : t[0]?.getD 0 ≠ 0) : lv0 t = false := by
 unfold lv0; rw [decide_eq_false h]; simp
theorem lv0_yes {t : List Int} (h1 : 0 < t.length) (h2 : t[0]?.getD 0 = 0) (h : ∀ j, 0 < j → j < t.length → okB t j = true) : lv0 t = true := by
 unfold lv0
 have : (List.range t.length).all (fun j => decide (j = 0) || okB t j) = true := by
  rw [List.all_eq_true]; intro j hj
  by_cases e : j = 0
  ·simp [e]
  ·simp [h j (by omega) (by simpa using hj)]
 rw [this, decide_eq_true h1, decide_eq_true h2]; rfl
theorem ok_le {t : List Int} {i : Nat} (h0 : t[0]?.getD 0 = 0) (h : ∀ j, 0 < j → j < i → okB t j = true) : ∀ j, j < i → 0 ≤ t[j]?.getD 0 ∧ t[j]?.getD 0 ≤ j
 | 0, _ => by omega
 | j + 1, hj => by
  have := ok_le h0 h j (by omega)
  have h2 := h (j + 1) (by omega) hj
  unfold okB at h2
  simp only [Nat.add_sub_cancel, Bool.and_eq_true, decide_eq_true_eq] at h2
  omega
def brStep (out : List (List Int)) (x : Int) : List (List Int) :=
 let o := if x = 1 then out ++ [[]] else out
 o.set (o.length - 1) (o[o.length - 1]?.getD [] ++ [x - 1])
def brGo (out : List (List Int)) : List Int → List (List Int)
 | [] => out
 | x :: l => brGo (brStep out x) l
def brs (t : List Int) : List (List Int) := brGo [] (t.drop 1)
theorem brGo_app (out : List (List Int)) (l r : List Int) : brGo out (l ++ r) = brGo (brGo out l) r := by
 induction l generalizing out with
 | nil => rfl
 | cons x l ih => exact ih _
theorem brs_take {t : List Int} {i : Nat} (h1 : 1 ≤ i) (h : i < t.length) : brs (t.take (i + 1)) = brStep (brs (t.take i)) (t[i]?.getD 0) := by
 unfold brs
 have e : (t.take (i + 1)).drop 1 = (t.take i).drop 1 ++ [t[i]?.getD 0] := by
  rw [List.take_add_one, List.getElem?_eq_getElem h, Option.toList_some, List.drop_append_of_le_length (by simp; omega)]; rfl
 rw [e, brGo_app]; rfl
def Lv (t : List Int) : Prop := 0 < t.length ∧ t[0]?.getD 0 = 0 ∧ ∀ j, 0 < j → j < t.length → 1 ≤ t[j]?.getD 0 ∧ t[j]?.getD 0 ≤ t[j - 1]?.getD 0 + 1
theorem lv0_Lv {t : List Int} (h : lv0 t = true) : Lv t := by
 unfold lv0 at h
 simp only [Bool.and_eq_true, decide_eq_true_eq, List.all_eq_true] at h
 refine ⟨h.1.1, h.1.2, fun j h1 h2 => ?_⟩
 have := h.2 j (by simpa using h2)
 rw [decide_eq_false (by omega)] at this
 unfold okB at this
 simpa using this
theorem Lv.le {t : List Int} (h : Lv t) : ∀ j, j < t.length → 0 ≤ t[j]?.getD 0 ∧ t[j]?.getD 0 ≤ j
 | 0, _ => by rw [h.2.1]; omega
 | j + 1, hj => by
  have h1 := h.le j (by omega)
  have h2 := h.2.2 (j + 1) (by omega) hj
  rw [Nat.add_sub_cancel] at h2
  omega
theorem Lv.snoc {t : List Int} {x : Int} (h : Lv t) (h1 : 1 ≤ x) (h2 : x ≤ t[t.length - 1]?.getD 0 + 1) : Lv (t ++ [x]) := by
 obtain ⟨k1, k2, k3⟩ := h
 refine ⟨by simp, by rw [List.getElem?_append_left k1]; exact k2, fun j hj hl => ?_⟩
 simp at hl
 by_cases e : j = t.length
 ·subst e
  rw [List.getElem?_append_right (by omega), List.getElem?_append_left (by omega)]
  simp; exact ⟨h1, h2⟩
 ·rw [List.getElem?_append_left (by omega), List.getElem?_append_left (by omega)]
  exact k3 j hj (by omega)
theorem Lv_zero : Lv [0] := ⟨by simp, rfl, fun j h1 h2 => by simp at h2; omega⟩
def sumN : List (List Int) → Nat
 | [] => 0
 | b :: l => b.length + sumN l
theorem sumN_app (a b : List (List Int)) : sumN (a ++ b) = sumN a + sumN b := by
 induction a with
 | nil => simp [sumN]
 | cons x a ih => simp [sumN, ih]; omega
theorem sumN_mem {l : List (List Int)} {b : List Int} (h : b ∈ l) : b.length ≤ sumN l := by
 induction l with
 | nil => simp at h
 | cons x l ih =>
  rw [sumN]
  rcases List.mem_cons.1 h with rfl | h
  ·omega
  ·have := ih h; omega
theorem len_sumN {l : List (List Int)} (h : ∀ b ∈ l, 0 < b.length) : l.length ≤ sumN l := by
 induction l with
 | nil => simp
 | cons x l ih =>
  have h1 := h x (by simp)
  have h2 := ih (fun b hb => h b (by simp [hb]))
  rw [sumN]; simp; omega
def BrI (out : List (List Int)) (p : Int) (n : Nat) : Prop :=
 (∀ b ∈ out, Lv b) ∧ sumN out = n ∧ ((out = [] ∧ p = 0) ∨ ∃ i l, out = i ++ [l] ∧ l[l.length - 1]?.getD 0 = p - 1)
theorem brStep_i {out : List (List Int)} {p x : Int} {n : Nat} (h : BrI out p n) (h1 : 1 ≤ x) (h2 : x ≤ p + 1) : BrI (brStep out x) x (n + 1) ∧ (x ≠ 1 → out ≠ []) := by
 obtain ⟨k1, k2, k3⟩ := h
 by_cases hx : x = 1
 ·subst hx
  have e : brStep out 1 = out ++ [[0]] := by
   unfold brStep
   simp only [if_true]
   rw [List.set_append_right _ _ (by simp), List.getElem?_append_right (by simp)]
   simp
  rw [e]
  refine ⟨⟨fun b hb => ?_, by rw [sumN_app, k2]; rfl, .inr ⟨out, [0], rfl, rfl⟩⟩, by simp⟩
  rcases List.mem_append.1 hb with hb | hb
  ·exact k1 b hb
  ·simp at hb; subst hb; exact Lv_zero
 ·rcases k3 with ⟨rfl, rfl⟩ | ⟨i, l, rfl, hl⟩
  ·omega
  ·have e : brStep (i ++ [l]) x = i ++ [l ++ [x - 1]] := by
    unfold brStep
    simp only [if_neg hx]
    rw [List.set_append_right _ _ (by simp), List.getElem?_append_right (by simp)]
    simp
   rw [e]
   have hLl := k1 l (by simp)
   refine ⟨⟨fun b hb => ?_, ?_, .inr ⟨i, _, rfl, by simp⟩⟩, by simp⟩
   ·rcases List.mem_append.1 hb with hb | hb
    ·exact k1 b (by simp [hb])
    ·simp at hb; subst hb
     exact hLl.snoc (by omega) (by rw [hl]; omega)
   ·rw [sumN_app] at k2 ⊢
    simp [sumN] at k2 ⊢; omega
theorem brs_i {t : List Int} (h : Lv t) : ∀ i, 1 ≤ i → i ≤ t.length → BrI (brs (t.take i)) (t[i - 1]?.getD 0) (i - 1)
 | 1, _, _ => by
  have e : brs (t.take 1) = [] := by
   unfold brs
   cases t with
   | nil => rfl
   | cons a t => rfl
  rw [e]
  refine ⟨by simp, rfl, .inl ⟨rfl, ?_⟩⟩
  simpa using h.2.1
 | i + 2, _, hl => by
  have ih := brs_i h (i + 1) (by omega) (by omega)
  have hb := h.2.2 (i + 1) (by omega) (by omega)
  rw [brs_take (by omega) (by omega)]
  exact (brStep_i ih hb.1 hb.2).1
theorem brs_ne {t : List Int} (h : Lv t) {i : Nat} (h1 : 1 ≤ i) (hl : i < t.length) (hx : t[i]?.getD 0 ≠ 1) : brs (t.take i) ≠ [] := by
 have ih := brs_i h i h1 (by omega)
 have hb := h.2.2 i (by omega) hl
 exact (brStep_i ih hb.1 hb.2).2 hx
theorem brs_ok {t : List Int} (h : Lv t) {b : List Int} (hb : b ∈ brs t) : Lv b ∧ b.length < t.length := by
 have hl := h.1
 have := brs_i h t.length (by omega) (by omega)
 rw [List.take_length] at this
 obtain ⟨k1, k2, _⟩ := this
 have := sumN_mem hb
 exact ⟨k1 b hb, by omega⟩
theorem brs_many {t : List Int} (h : Lv t) {i : Nat} (h1 : 1 ≤ i) (hl : i ≤ t.length) : (brs (t.take i)).length < i := by
 obtain ⟨k1, k2, _⟩ := brs_i h i h1 hl
 have := len_sumN (fun b hb => (k1 b hb).1)
 omega
end Go.Proofs.YtiikdbomhkbdlaaGreat


namespace Go.Proofs.YtiikdbomhkbdlaaGreat
open Go.Abs
theorem isLevelList_c (t : List Int) (hl : t.length ≤ 1048576) : Con Tryz.prog 232 [.sl t.length (avs t)] (.bool (lv0 t)) := by
 refine con_of_vc Tryz.mixed ⟨5, [], [], []⟩ Tryz.func232 (by decide) rfl (by simp) (by decide) (by simp [freshOK, freshL, go_sem]) ?_
 rw [Tryz.ntmps232]
 simp [go_sem]
 refine loop_inv (2 :: 3 :: 4 :: List.range' 7 27) (fun i : Nat => [(7, .int i)]) (fun i => i ≤ t.length ∧ (0 < i → t[0]?.getD 0 = 0) ∧ ∀ j, 0 < j → j < i → okB t j = true) (fun i => t.length - i) 0 (by simp) (by simp [go_sem]) (by simp [go_sem]) ?_
 rintro i ⟨hi, h0, hp⟩
 simp [go_sem]
 refine ⟨fun h => ?_, fun h => ?_⟩ <;> simp at h
 ·have hif := h
  by_cases hz : i = 0
  ·have q1 : (i = 0) = True := eq_true hz
   have q2 : ((i : Int) = 0) = True := eq_true (by omega)
   have q3 : (0 < i) = False := eq_false (by omega)
   have q4 : ((0 : Int) < i) = False := eq_false (by omega)
   have h0t : t[0]?.getD 0 = t[i]?.getD 0 := by rw [hz]
   by_cases h00 : t[i]?.getD 0 = 0
   ·simp -implicitDefEqProofs [go_sem, q1, q2, q3, q4, avs_drop hif, h00]
    refine ⟨⟨hif, by rintro rfl; simp at hif⟩, ?_⟩
    exact ⟨by omega, i + 1, ⟨by omega, fun _ => by rw [h0t]; exact h00, fun j h1 h2 => by omega⟩, by omega, Off_reset _ _ _ (by simp), by omega⟩
   ·simp -implicitDefEqProofs [go_sem, q1, q2, q3, q4, avs_drop hif, h00]
    refine ⟨⟨hif, by rintro rfl; simp at hif⟩, ?_⟩
    rw [lv0_t0 (by rw [h0t]; exact h00)]
  ·have hz' : (0 : Int) < i := by omega
   have hz2 : ¬ (i : Int) = 0 := by omega
   have hzp : 0 < i := by omega
   have ek : (i : Int) - 1 = ((i - 1 : Nat) : Int) := by omega
   have hk : i - 1 < t.length := by omega
   have hle := ok_le (h0 hzp) hp (i - 1) (by omega)
   have cI := inRange_c (t[i]?.getD 0) 1 (t[i - 1]?.getD 0 + 1)
   have hok : okB t i = (decide (1 ≤ t[i]?.getD 0) && decide (t[i]?.getD 0 ≤ t[i - 1]?.getD 0 + 1)) := rfl
   rw [← hok] at cI
   simp [go_sem, avs_drop hif, hz, hz2, hzp, hz', ek, avs_drop hk]
   refine ⟨⟨hif, by rintro rfl; simp at hif⟩, by omega, ⟨hk, by rintro rfl; simp at hif⟩, ⟨by omega, by omega⟩, ?_⟩
   cases hb : okB t i with
   | true =>
    rw [hb] at cI
    refine CallVC.of (cI) (by decide) ?_
    simp [go_sem]
    refine ⟨by omega, i + 1, ⟨by omega, fun _ => h0 hzp, fun j h1 h2 => ?_⟩, by omega, Off_reset _ _ _ (by simp), by omega⟩
    by_cases e : j = i
    ·rw [e]; exact hb
    ·exact hp j h1 (by omega)
   | false =>
    rw [hb] at cI
    refine CallVC.of (cI) (by decide) ?_
    simp [go_sem]
    rw [lv0_no hif hzp hb]
 ·simp [go_sem]
  by_cases hz : 0 < t.length
  ·rw [lv0_yes hz (h0 (by omega)) (fun j h1 h2 => hp j h1 (by omega)), decide_eq_true hz]
  ·unfold lv0; rw [decide_eq_false hz]; rfl
theorem IsLevels_c (t : List Int) (hl : t.length ≤ 1048576) : Con Tryz.prog 131 [.sl t.length (avs t)] (.bool (lvB t)) := by
 unfold lvB
 have cI := isLevelList_c t hl
 refine con_of_vc Tryz.mixed ⟨3, [], [], []⟩ Tryz.func131 (by decide) rfl (by simp) (by decide) (by simp [freshOK, freshL, go_sem]) ?_
 rw [Tryz.ntmps131]
 simp [go_sem]
 by_cases h8 : t.length ≤ 8
 ·have h8' : (t.length : Int) ≤ 8 := by omega
  simp [go_sem, h8, h8']
  refine CallVC.of (cI) (by decide) ?_
  simp [go_sem]
 ·have h8' : ¬ (t.length : Int) ≤ 8 := by omega
  simp [go_sem, h8, h8']
end Go.Proofs.YtiikdbomhkbdlaaGreat


namespace Go.Proofs.YtiikdbomhkbdlaaGreat
open Go.Abs
theorem omat_set (A : List (List Int)) (k : Nat) (l : List Int) : (omat A).set k (.own 2 l.length (avs l)) = omat (A.set k l) := by
 simp [omat, List.map_set]
theorem omat_last {A : List (List Int)} (h : A ≠ []) : (omat A)[A.length - 1]? = some (.own 2 (A[A.length - 1]?.getD []).length (avs (A[A.length - 1]?.getD []))) := by
 have hl : A.length - 1 < A.length := by have := List.length_pos_iff.2 h; omega
 simp [omat, hl]
theorem brStep_one (A : List (List Int)) : brStep A 1 = A ++ [[0]] := by
 unfold brStep
 simp only [if_true]
 rw [List.set_append_right _ _ (by simp), List.getElem?_append_right (by simp)]
 simp
theorem brStep_more {A : List (List Int)} {x : Int} (h : x ≠ 1) : brStep A x = A.set (A.length - 1) (A[A.length - 1]?.getD [] ++ [x - 1]) := by
 unfold brStep; simp only [if_neg h]
theorem branchesOf_c (t : List Int) (hl : t.length ≤ 1048576) (ht : Lv t) : Con Tryz.prog 213 [.sl t.length (avs t)] (.own 25 (brs t).length (omat (brs t))) := by
 have ht1 := ht.1
 have ed : List.take (t.length - 1) (List.drop 1 (avs t)) = avs (t.drop 1) := by
  rw [List.take_of_length_le (by simp)]; simp [avs]
 refine con_of_vc Tryz.mixed ⟨6, [], [], []⟩ Tryz.func213 (by decide) rfl (by simp) (by decide) (by simp [freshOK, freshL, go_sem]) ?_
 rw [Tryz.ntmps213]
 simp [go_sem]
 refine ⟨by omega, ?_⟩
 refine loop_inv (3 :: 5 :: List.range' 10 25) (fun i : Nat => [(3, .own 25 (brs (t.take (i + 1))).length (omat (brs (t.take (i + 1))))), (10, .int i)]) (fun i => i + 1 ≤ t.length) (fun i => t.length - i) 0 (by omega) (by simp [go_sem]; cases t <;> simp [brs, brGo, omat_nil]) (by simp [go_sem]) ?_
 rintro i hi
 simp [go_sem]
 refine ⟨fun h => ?_, fun h => ?_⟩ <;> simp at h
 ·have hif : i + 1 < t.length := by omega
  have hda : List.drop i (List.take (t.length - 1) (avs t).tail) = .val (.int .i64 (t[i + 1]?.getD 0)) :: avs (t.drop (i + 2)) := by
   rw [List.take_of_length_le (by simp), ← List.drop_one, List.drop_drop, Nat.add_comm 1 i, avs_drop hif]; simp
  have hnn : ¬ (avs t).tail = [] := fun e => by have := congrArg List.length e; simp at this; omega
  have hn1 : ¬ t.length - 1 = 0 := by omega
  have hn2 : i < t.length - 1 := by omega
  have hb := brs_take (i := i + 1) (by omega) hif
  have hm := brs_many ht (i := i + 1) (by omega) (by omega)
  have hi2 := brs_i ht (i + 1) (by omega) (by omega)
  have hok := ht.2.2 (i + 1) (by omega) hif
  have hle := ht.le (i + 1) hif
  by_cases hx : t[i + 1]?.getD 0 = 1
  ·rw [hx, brStep_one] at hb
   have e1 : (brs (t.take (i + 1))).length + 1 = (brs (t.take (i + 1 + 1))).length := by rw [hb]; simp
   have e2 : omat (brs (t.take (i + 1))) ++ [AV.own 2 1 [AV.val (Value.int IntKind.i64 0)]] = omat (brs (t.take (i + 1 + 1))) := by rw [hb, omat_app, omat_one]; rfl
   simp [go_sem, hda, hnn, hn1, hn2, hx]
   exact ⟨⟨by omega, by omega⟩, by omega, by omega, by omega, i + 1, by omega, by omega, Off_reset _ _ _ (by simp), ⟨e1, e2⟩, by omega⟩
  ·have hne := brs_ne ht (i := i + 1) (by omega) hif hx
   have hla := omat_last hne
   rw [brStep_more hx] at hb
   generalize hO : brs (t.take (i + 1)) = O at *
   have hOl : 1 ≤ O.length := List.length_pos_iff.2 hne
   have hlen : (O[O.length - 1]?.getD []).length ≤ 1048576 := by
    have := sumN_mem (l := O) (b := O[O.length - 1]?.getD []) (by simp [show O.length - 1 < O.length by omega])
    have := hi2.2.1
    omega
   have hsn := omat_set O (O.length - 1) (O[O.length - 1]?.getD [] ++ [t[i + 1]?.getD 0 - 1])
   rw [← hb] at hsn
   generalize O[O.length - 1]?.getD [] = l at *
   have e1 : O.length = (brs (t.take (i + 1 + 1))).length := by rw [hb]; simp
   rw [avs_snoc, List.length_append, List.length_singleton] at hsn
   simp [go_sem, hda, hnn, hn1, hn2, hx, hla]
   repeat' apply And.intro
   all_goals first
    | omega
    | exact ⟨i + 1, by omega, by omega, Off_reset _ _ _ (by simp), ⟨e1, hsn⟩, by omega⟩
 ·simp [go_sem]
  have e : t.take (i + 1) = t := List.take_of_length_le (by omega)
  rw [e]
  simp
end Go.Proofs.YtiikdbomhkbdlaaGreat


namespace Go.Proofs.YtiikdbomhkbdlaaGreat
open Go.Abs
def edF (f : List (List Mon)) (y : List Int) : Nat → List Int → List Int
 | 0, _ => []
 | n + 1, t => drvL y y.length ((brs t).map (edF f y n)) f
theorem edF_len {f : List (List Mon)} {y : List Int} {n : Nat} (h : 0 < n) (t : List Int) : (edF f y n t).length = f.length := by
 cases n with
 | zero => omega
 | succ n => simp [edF]
theorem drvL_N (y : List Int) (n : Nat) (vs : List (List Int)) (f : List (List Mon)) : Ns (drvL y n vs f) := by
 intro x hx
 obtain ⟨p, _, rfl⟩ := List.mem_map.1 hx
 unfold drvP
 split
 ·exact ⟨by omega, by omega⟩
 ·exact isN_mod _
theorem edF_N {f : List (List Mon)} {y : List Int} {n : Nat} (t : List Int) : Ns (edF f y n t) := by
 cases n with
 | zero => intro x hx; simp [edF] at hx
 | succ n => exact drvL_N _ _ _ _
theorem edF_vecs {f : List (List Mon)} {y : List Int} {m : Nat} {t : List Int} (ht : Lv t) (hm : t.length ≤ m + 1) (hl : f.length = y.length) : Vecs y.length ((brs t).map (edF f y m)) := by
 intro v hv
 obtain ⟨b, hb, rfl⟩ := List.mem_map.1 hv
 obtain ⟨h1, h2⟩ := brs_ok ht hb
 have h3 := h1.1
 exact ⟨by rw [edF_len (by omega), hl], edF_N b⟩
theorem brs_cnt {t : List Int} (h : Lv t) : (brs t).length < t.length := by
 have h1 := h.1
 have := brs_many h (i := t.length) (by omega) (by omega)
 rwa [List.take_length] at this
theorem omat_take (A : List (List Int)) (i : Nat) (h : i < A.length) : omat (A.take (i + 1)) = omat (A.take i) ++ [.own 2 (A[i]?.getD []).length (avs (A[i]?.getD []))] := by
 rw [List.take_add_one, omat_app]; simp [h, omat]
theorem differential_c (z : Int) (f : List (List Mon)) (y : List Int) (hf : FieldOk z f) (hs : Small f) (hy : Ns y) (hl : (y.length : Int) = z) :
  ∀ (n : Nat) (t : List Int), Lv t → t.length ≤ n → t.length ≤ 1048576 → Con Tryz.prog 112 [.sl f.length (fpols f), .sl t.length (avs t), .sl y.length (avs y)] (.own 2 f.length (avs (edF f y n t))) := by
 intro n
 induction n with
 | zero => intro t ht hn; have := ht.1; omega
 | succ m ih =>
  intro t ht hn ht2
  have fl := hs.1
  have z3 := hf.hi
  have hfl := hf.len
  have hcnt := brs_cnt ht
  have hV := edF_vecs (f := f) (y := y) ht hn (by omega)
  have cD := derivativeAt_c z f y ((brs t).map (edF f y m)) hf hs hy hl hV (by simp; omega)
  rw [List.length_map] at cD
  refine con_of_vc Tryz.mixed ⟨10, [12], [], []⟩ Tryz.func112 (by decide) rfl (by simp) (by decide) (by simp [freshOK, freshL, go_sem]) ?_
  rw [Tryz.ntmps112]
  simp [go_sem]
  refine CallVC.of (branchesOf_c t ht2 ht) (by decide) ?_
  simp [go_sem]
  refine loop_inv (7 :: 9 :: List.range' 14 12) (fun i : Nat => [(7, .own 25 i (omat (((brs t).map (edF f y m)).take i))), (14, .int i)]) (fun i => i ≤ (brs t).length) (fun i => (brs t).length - i) 0 (by simp) (by simp [go_sem, omat_nil]) (by simp [go_sem]) ?_
  intro i hi
  simp [go_sem]
  refine ⟨fun h => ?_, fun h => ?_⟩ <;> simp at h
  ·have hb : (brs t)[i]?.getD [] ∈ brs t := by simp [h]
   obtain ⟨h1, h2⟩ := brs_ok ht hb
   have h3 := h1.1
   have cI := ih ((brs t)[i]?.getD []) h1 (by omega) (by omega)
   have hlen := edF_len (f := f) (y := y) (n := m) (by omega) ((brs t)[i]?.getD [])
   have ho := omat_take ((brs t).map (edF f y m)) i (by simpa using h)
   have he : ((brs t).map (edF f y m))[i]?.getD [] = edF f y m ((brs t)[i]?.getD []) := by simp [h]
   rw [he, hlen] at ho
   simp [go_sem, mat_drop h]
   refine ⟨⟨h, fun e => by rw [e] at h; simp at h⟩, ?_⟩
   refine CallVC.of (cI) (by decide) ?_
   simp [go_sem]
   exact ⟨⟨by omega, by omega⟩, by omega, i + 1, by omega, by omega, Off_reset _ _ _ (by simp), ⟨rfl, ho.symm⟩, by omega⟩
  ·have e : i = (brs t).length := by omega
   subst e
   rw [List.take_of_length_le (by simp)]
   simp [go_sem]
   refine CallVC.of (cD) (by decide) ?_
   simp [go_sem]
   rfl
end Go.Proofs.YtiikdbomhkbdlaaGreat


namespace Go.Proofs.YtiikdbomhkbdlaaGreat
open Go.Abs
def colS (a : List (List Int)) (k : Nat) : List Int := tb (fun i => (a[i]?.getD [])[k]?.getD 0) a.length
@[simp] theorem colS_len (a : List (List Int)) (k : Nat) : (colS a k).length = a.length := by simp [colS]
def turnS (a : List (List Int)) : List (List Int) := (List.range (a[0]?.getD []).length).map (colS a)
@[simp] theorem turnS_len (a : List (List Int)) : (turnS a).length = (a[0]?.getD []).length := by simp [turnS]
theorem l01Column_c (a : List (List Int)) (k : Nat) (hl : a.length ≤ 1048576) (hr : ∀ r ∈ a, k < r.length) (hk : k ≤ 1048576) :
  Con Tryz.prog 280 [.sl a.length (mat a), .int k] (.own 2 a.length (avs (colS a k))) := by
 refine con_of_vc Tryz.mixed ⟨7, [], [], []⟩ Tryz.func280 (by decide) rfl (by simp) (by decide) (by simp [freshOK, freshL, go_sem]) ?_
 rw [Tryz.ntmps280]
 simp [go_sem]
 refine loop_inv (5 :: 6 :: List.range' 8 16) (fun i : Nat => [(5, .own 2 i (avs (tb (fun i => (a[i]?.getD [])[k]?.getD 0) i))), (6, .int i)]) (fun i => i ≤ a.length) (fun i => a.length - i) 0 (by simp) (by simp [go_sem]) (by simp [go_sem]) ?_
 intro i hi
 simp [go_sem]
 refine ⟨fun h => ?_, fun h => ?_⟩ <;> simp at h
 ·have hx : k < (a[i]?.getD []).length := hr _ (by simp [h])
  simp [go_sem, mat_drop h, avs_drop hx]
  refine ⟨⟨h, by rintro rfl; simp at h⟩, ⟨hx, by intro e; simp [e] at hx⟩, ?_⟩
  exact ⟨⟨by omega, by omega⟩, by omega, i + 1, by omega, by omega, Off_reset _ _ _ (by simp), by simp [tb_succ, avs_snoc], by omega⟩
 ·have e : i = a.length := by omega
  subst e
  simp [go_sem]
  rfl
theorem column_c (a : List (List Int)) (k : Nat) (hl : a.length ≤ 1048576) (hr : ∀ r ∈ a, k < r.length) (hk : k ≤ 1048576) :
  Con Tryz.prog 192 [.sl a.length (mat a), .int k] (.own 2 a.length (avs (colS a k))) := by
 refine con_of_vc Tryz.mixed ⟨8, [], [], []⟩ Tryz.func192 (by decide) rfl (by simp) (by decide) (by simp [freshOK, freshL, go_sem]) ?_
 rw [Tryz.ntmps192]
 simp [go_sem]
 refine loop_inv (5 :: 7 :: List.range' 11 12) (fun i : Nat => [(5, .own 2 i (avs (tb (fun i => (a[i]?.getD [])[k]?.getD 0) i))), (11, .int i)]) (fun i => i ≤ a.length) (fun i => a.length - i) 0 (by simp) (by simp [go_sem]) (by simp [go_sem]) ?_
 intro i hi
 simp [go_sem]
 refine ⟨fun h => ?_, fun h => ?_⟩ <;> simp at h
 ·have hx : k < (a[i]?.getD []).length := hr _ (by simp [h])
  simp [go_sem, mat_drop h, avs_drop hx]
  refine ⟨⟨h, by rintro rfl; simp at h⟩, ⟨hx, by intro e; simp [e] at hx⟩, ?_⟩
  exact ⟨⟨by omega, by omega⟩, by omega, i + 1, by omega, by omega, Off_reset _ _ _ (by simp), by simp [tb_succ, avs_snoc], by omega⟩
 ·have e : i = a.length := by omega
  subst e
  simp [go_sem]
  rfl
theorem omat_range_succ (g : Nat → List Int) (i : Nat) : omat ((List.range (i + 1)).map g) = omat ((List.range i).map g) ++ [.own 2 (g i).length (avs (g i))] := by
 rw [List.range_succ, List.map_append, omat_app]; rfl
theorem l14Turn_c (a : List (List Int)) (hl : a.length ≤ 1048576) (h0 : 0 < a.length) (hr : ∀ r ∈ a, r.length = (a[0]?.getD []).length) (hn : (a[0]?.getD []).length ≤ 1048576) :
  Con Tryz.prog 197 [.sl a.length (mat a)] (.own 25 (turnS a).length (omat (turnS a))) := by
 rw [turnS_len]
 refine con_of_vc Tryz.mixed ⟨5, [], [], []⟩ Tryz.func197 (by decide) rfl (by simp) (by decide) (by simp [freshOK, freshL, go_sem]) ?_
 rw [Tryz.ntmps197]
 simp [go_sem]
 refine loop_inv (3 :: 4 :: List.range' 6 14) (fun i : Nat => [(3, .own 25 i (omat ((List.range i).map (colS a)))), (4, .int i)]) (fun i => i ≤ (a[0]?.getD []).length) (fun i => (a[0]?.getD []).length - i) 0 (by simp) (by simp [go_sem, omat_nil]) (by simp [go_sem]) ?_
 intro i hi
 have m0 := mat_drop h0
 simp only [List.drop_zero] at m0
 simp [go_sem, m0]
 have m1 : AV.sl (a[0]?.getD []).length (avs (a[0]?.getD [])) :: mat a.tail = mat a := by cases a with | nil => simp at h0 | cons x l => simp [mat]
 simp only [m1]
 refine ⟨h0, ?_⟩
 refine ⟨fun h => ?_, fun h => ?_⟩ <;> simp at h
 ·simp [go_sem]
  refine CallVC.of (l01Column_c a i hl (fun r h2 => by rw [hr r h2]; exact h) (by omega)) (by decide) ?_
  simp [go_sem]
  have ho := omat_range_succ (colS a) i
  rw [colS_len] at ho
  exact ⟨⟨by omega, by omega⟩, by omega, i + 1, by omega, by omega, Off_reset _ _ _ (by simp), by rw [ho]; exact ⟨rfl, rfl⟩, by omega⟩
 ·have e : i = (a[0]?.getD []).length := by omega
  subst e
  simp [go_sem]
  rfl
theorem turned_c (a : List (List Int)) (hl : a.length ≤ 1048576) (h0 : 0 < a.length) (hr : ∀ r ∈ a, r.length = (a[0]?.getD []).length) (hn : (a[0]?.getD []).length ≤ 1048576) :
  Con Tryz.prog 87 [.sl a.length (mat a)] (.own 25 (turnS a).length (omat (turnS a))) := by
 rw [turnS_len]
 have m0 := mat_drop h0
 simp only [List.drop_zero] at m0
 refine con_of_vc Tryz.mixed ⟨5, [], [], []⟩ Tryz.func87 (by decide) rfl (by simp) (by decide) (by simp [freshOK, freshL, go_sem]) ?_
 rw [Tryz.ntmps87]
 simp [go_sem]
 simp [go_sem, m0]
 have m1 : AV.sl (a[0]?.getD []).length (avs (a[0]?.getD [])) :: mat a.tail = mat a := by cases a with | nil => simp at h0 | cons x l => simp [mat]
 simp only [m1]
 refine ⟨⟨h0, by rintro rfl; simp at h0⟩, ?_⟩
 refine loop_inv (3 :: 4 :: List.range' 10 10) (fun i : Nat => [(3, .own 25 i (omat ((List.range i).map (colS a)))), (10, .int i)]) (fun i => i ≤ (a[0]?.getD []).length) (fun i => (a[0]?.getD []).length - i) 0 (by simp) (by simp [go_sem, omat_nil]) (by simp [go_sem]) ?_
 intro i hi
 simp [go_sem]
 refine ⟨fun h => ?_, fun h => ?_⟩ <;> simp at h
 ·simp [go_sem]
  refine CallVC.of (column_c a i hl (fun r h2 => by rw [hr r h2]; exact h) (by omega)) (by decide) ?_
  simp [go_sem]
  have ho := omat_range_succ (colS a) i
  rw [colS_len] at ho
  exact ⟨⟨by omega, by omega⟩, by omega, i + 1, by omega, by omega, Off_reset _ _ _ (by simp), by rw [ho]; exact ⟨rfl, rfl⟩, by omega⟩
 ·have e : i = (a[0]?.getD []).length := by omega
  subst e
  simp [go_sem]
  rfl
theorem cloneRows_c (a : List (List Int)) (hl : a.length ≤ 1048576) (hr : ∀ r ∈ a, r.length ≤ 1048576) :
  Con Tryz.prog 278 [.sl a.length (mat a)] (.own 25 a.length (omat a)) := by
 refine con_of_vc Tryz.mixed ⟨6, [], [], []⟩ Tryz.func278 (by decide) rfl (by simp) (by decide) (by simp [freshOK, freshL, go_sem]) ?_
 rw [Tryz.ntmps278]
 simp [go_sem]
 refine loop_inv (3 :: 5 :: List.range' 9 10) (fun i : Nat => [(3, .own 25 i (omat (a.take i))), (9, .int i)]) (fun i => i ≤ a.length) (fun i => a.length - i) 0 (by simp) (by simp [go_sem, omat_nil]) (by simp [go_sem]) ?_
 intro i hi
 simp [go_sem]
 refine ⟨fun h => ?_, fun h => ?_⟩ <;> simp at h
 ·simp [go_sem, mat_drop h]
  refine ⟨⟨h, by rintro rfl; simp at h⟩, ?_⟩
  refine CallVC.of (Clone_c (a[i]?.getD []) (hr _ (by simp [h]))) (by decide) ?_
  simp [go_sem]
  have ht := omat_take a i h
  refine ⟨⟨by omega, by omega, by omega⟩, by omega, i + 1, by omega, by omega, Off_reset _ _ _ (by simp), by rw [ht]; exact ⟨rfl, rfl⟩, by omega⟩
 ·have e : i = a.length := by omega
  subst e
  simp [go_sem]
theorem l01Own2_c (a : List (List Int)) (hl : a.length ≤ 1048576) (hr : ∀ r ∈ a, r.length ≤ 1048576) :
  Con Tryz.prog 248 [.sl a.length (mat a)] (.own 25 a.length (omat a)) := by
 refine con_of_vc Tryz.mixed ⟨5, [], [], []⟩ Tryz.func248 (by decide) rfl (by simp) (by decide) (by simp [freshOK, freshL, go_sem]) ?_
 rw [Tryz.ntmps248]
 simp [go_sem]
 refine loop_inv (3 :: 4 :: List.range' 6 14) (fun i : Nat => [(3, .own 25 i (omat (a.take i))), (4, .int i)]) (fun i => i ≤ a.length) (fun i => a.length - i) 0 (by simp) (by simp [go_sem, omat_nil]) (by simp [go_sem]) ?_
 intro i hi
 simp [go_sem]
 refine ⟨fun h => ?_, fun h => ?_⟩ <;> simp at h
 ·simp [go_sem, mat_drop h]
  refine ⟨⟨h, by rintro rfl; simp at h⟩, ?_⟩
  refine CallVC.of (l01Own_c (a[i]?.getD []) (by have := hr _ (show a[i]?.getD [] ∈ a by simp [h]); omega)) (by decide) ?_
  simp [go_sem]
  have ht := omat_take a i h
  refine ⟨⟨by omega, by omega, by omega⟩, by omega, i + 1, by omega, by omega, Off_reset _ _ _ (by simp), by rw [ht]; exact ⟨rfl, rfl⟩, by omega⟩
 ·have e : i = a.length := by omega
  subst e
  simp [go_sem]
end Go.Proofs.YtiikdbomhkbdlaaGreat


namespace Go.Proofs.YtiikdbomhkbdlaaGreat
open Go.Abs
def raiS (a : List Int) : List Int := tb (fun i => if i = 0 then 0 else a[i - 1]?.getD 0) a.length
@[simp] theorem raiS_len (a : List Int) : (raiS a).length = a.length := by simp [raiS]
def rakS (a : List Int) (k : Int) : List Int := tb (fun i => if i = 0 then 0 else a[i - 1]?.getD 0 * k % 10007) a.length
@[simp] theorem rakS_len (a : List Int) (k : Int) : (rakS a k).length = a.length := by simp [rakS]
theorem rakS_N (a : List Int) (k : Int) : Ns (rakS a k) := tb_N fun i _ => by split; exact ⟨by omega, by omega⟩; exact isN_mod _
theorem l14Raise_c (a : List Int) (k : Int) (ha : Ns a) (hk : isN k) (hl : a.length ≤ 1048576) (h0 : 0 < a.length) :
  Con Tryz.prog 251 [.sl a.length (avs a), .int k] (.own 2 a.length (avs (rakS a k))) := by
 refine con_of_vc Tryz.mixed ⟨7, [], [], []⟩ Tryz.func251 (by decide) rfl (by simp) (by decide) (by simp [freshOK, freshL, go_sem]) ?_
 rw [Tryz.ntmps251]
 simp [go_sem]
 refine loop_inv (5 :: 6 :: List.range' 8 16) (fun i : Nat => [(5, .own 2 (i + 1) (avs (tb (fun i => if i = 0 then 0 else a[i - 1]?.getD 0 * k % 10007) (i + 1)))), (6, .int i)]) (fun i => i + 1 ≤ a.length) (fun i => a.length - i) 0 (by simp; omega) (by simp [go_sem, tb, avs]) (by simp [go_sem]) ?_
 intro i hi
 simp [go_sem]
 refine ⟨by omega, ?_⟩
 refine ⟨fun h => ?_, fun h => ?_⟩ <;> simp at h
 ·have hi2 : i < a.length := by omega
  simp [go_sem, avs_drop hi2]
  refine ⟨⟨hi2, by rintro rfl; simp at hi2⟩, ?_⟩
  refine CallVC.of (l01Mul_c _ _ (mul_fits (ha.get i) hk)) (by decide) ?_
  simp [go_sem]
  refine ⟨⟨by omega, by omega⟩, by omega, i + 1, by omega, by omega, Off_reset _ _ _ (by simp), ?_, by omega⟩
  simp [tb_succ, avs]
 ·have e : i + 1 = a.length := by omega
  simp [go_sem]
  exact ⟨e, by rw [e]; rfl⟩
end Go.Proofs.YtiikdbomhkbdlaaGreat

